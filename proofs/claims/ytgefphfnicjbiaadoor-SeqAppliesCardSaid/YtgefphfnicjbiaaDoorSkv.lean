/- Layer 25 (seq): tabellionref25.Apply. -/
import Derived.Test.YtgefphfnicjbiaaDoorSkva
set_option linter.unusedSimpArgs false
set_option linter.unusedVariables false
namespace Go.Proofs.YtgefphfnicjbiaaDoor
open Go Go.RowKit

set_option maxRecDepth 100000 in
set_option maxHeartbeats 8000000 in
theorem rapply_c (v dv mv : Value) (b : Bk) (tm k cl sq : Int) (d : List Int) (w : World) (h : BookV w v b) (hok : BkOk b)
    (hd : Rd w dv (u8s d)) (hdl : d.length ≤ 140737488355328) (hmv : ∃ a n c, mv = .slice a n c) :
    Calls Tryd.prog 8 #[v, .agg #[.int .u64 tm, .int .i64 k, .int .u64 cl, .int .u64 sq, dv, mv]] w fun e w' => ∃ v', e = .returned (.tuple #[v', .int .u64 (applyP b k cl sq d).2.1, .int .i64 (applyP b k cl sq d).2.2]) ∧ NewBk w.heap.size w' v' (applyP b k cl sq d).1 ∧ Ext w w' := by
  obtain ⟨ma, mn, mc, rfl⟩ := hmv
  have hb := hok.rise; have hbd := hok.bd
  have hc := hok.clients; have hs := hok.slots
  have HOK := Lib.hid hok
  clear hok
  obtain ⟨⟨xb, xn, xf⟩, hX⟩ : ∃ X, X = applyP b k cl sq d := ⟨_, rfl⟩
  rw [← hX]
  have HX := Lib.hid hX
  have HBR := Lib.hid hb; have HBD := Lib.hid hbd; have HCL := Lib.hid hc; have HS := Lib.hid hs; have HD := Lib.hid hd; have HV := Lib.hid h
  obtain ⟨lv0, cv0, L0, C0, rfl, -, -, h3, h4, -, -⟩ := h
  obtain ⟨la0, lc0, rfl, -, -⟩ := h3.shape
  obtain ⟨ca0, cc0, rfl, -, -⟩ := h4.shape
  obtain ⟨da, dc, rfl, -, -, -⟩ := hd
  rw [u8s_len] at HD ⊢
  generalize (L0.map lfR).length = l0 at *
  generalize (C0.map clR).length = n0 at *
  generalize hdn : d.length = dn at *
  have HDN := Lib.hid hdn
  clear hdn
  obtain ⟨bs, hbs⟩ : ∃ bs, bs = w.heap.size := ⟨_, rfl⟩
  obtain ⟨T2, hT2⟩ : ∃ T, T = w.heap.size := ⟨_, rfl⟩
  obtain ⟨T3, hT3⟩ : ∃ T, T = w.heap.size + 1 := ⟨_, rfl⟩
  obtain ⟨T4, hT4⟩ : ∃ T, T = w.heap.size + 1 + 1 := ⟨_, rfl⟩
  obtain ⟨w0, hw0⟩ : ∃ w0, w0 = ((w.alloc (.cells #[.slice la0 l0 lc0, .slice ca0 n0 cc0] 25)).alloc (.cells #[.int .u64 tm, .int .i64 k, .int .u64 cl, .int .u64 sq, .slice da dn dc, .slice ma mn mc] 30)).alloc (.cells #[.slice none 0 0, .slice none 0 0] 25) := ⟨_, rfl⟩
  have hE0 : Ext w w0 := by rw [hw0]; exact ((Ext.alloc _ _).trans (Ext.alloc _ _)).trans (Ext.alloc _ _)
  have hB2 : Blk w0 T2 #[.slice la0 l0 lc0, .slice ca0 n0 cc0] 25 := by rw [hw0, hT2]; exact ((Blk.new _ _ _).alloc _).alloc _
  have hB3 : Blk w0 T3 #[.int .u64 tm, .int .i64 k, .int .u64 cl, .int .u64 sq, .slice da dn dc, .slice ma mn mc] 30 := by
    rw [hw0, hT3]; have := (Blk.new (w.alloc (.cells #[.slice la0 l0 lc0, .slice ca0 n0 cc0] 25)) #[.int .u64 tm, .int .i64 k, .int .u64 cl, .int .u64 sq, .slice da dn dc, .slice ma mn mc] 30).alloc (.cells #[.slice none 0 0, .slice none 0 0] 25); simpa using this
  have hB4 : Blk w0 T4 #[.slice none 0 0, .slice none 0 0] 25 := by
    rw [hw0, hT4]; have := Blk.new ((w.alloc (.cells #[.slice la0 l0 lc0, .slice ca0 n0 cc0] 25)).alloc (.cells #[.int .u64 tm, .int .i64 k, .int .u64 cl, .int .u64 sq, .slice da dn dc, .slice ma mn mc] 30)) #[.slice none 0 0, .slice none 0 0] 25; simpa using this
  have HE0 := Lib.hid hE0; have HB2 := Lib.hid hB2; have HB3 := Lib.hid hB3; have HB4 := Lib.hid hB4; have HT2 := Lib.hid hT2; have HT3 := Lib.hid hT3; have HT4 := Lib.hid hT4; have HW := Lib.hid hw0; have HBS := Lib.hid hbs
  clear h3 h4 hX hb hbd hc hs hw0 hE0 hB2 hB3 hB4
  go_enter Tryd.func8, Tryd.ntmps8
  go_upto_region 1 with fail
  rw [← HW.out]
  rw [← hT2, show T2 + 1 = T3 by omega, show T3 + 1 = T4 by omega]
  clear hT2 hT3 hT4 hbs
  go_wp2_with (refine wpList_load_row rfl 25 (.tmp 2) rfl T2 rfl 25 _ (0, 0) _ HB2.out Tryd.underlying25 rfl (by kernel_rfl) ?_)
  refine (rcopy_c _ b _ (HV.out.ext HE0.out) HBD.out).mono ?_
  rintro e w1 ⟨lv, cv, L, C, rfl, ho1, hE1⟩
  have HO1 := Lib.hid (show OwnBk w.heap.size w1 lv cv L C b from ⟨ho1.leaves, ho1.clients, own_low ho1.lo HE0.out.size, own_low ho1.co HE0.out.size, fun q hq => own_low (ho1.ls q hq) HE0.out.size, fun q hq => own_low (ho1.cs q hq) HE0.out.size, ho1.ap⟩)
  obtain ⟨la, lc, rfl, hl1, hl2, -⟩ := own_slice ho1.lo
  obtain ⟨ca, cc, rfl, hc1, hc2, hcg⟩ := own_slice ho1.co
  have HE1 := Lib.hid (HE0.out.trans hE1)
  have h2n := (HB2.out.ext hE1)
  have HB21 := Lib.hid h2n; have HB31 := Lib.hid (HB3.out.ext hE1); have HB41 := Lib.hid (HB4.out.ext hE1)
  obtain ⟨nl, hnl⟩ : ∃ n, n = L.length := ⟨_, rfl⟩
  obtain ⟨nc, hnc⟩ : ∃ n, n = C.length := ⟨_, rfl⟩
  rw [← hnl] at HO1 hl1 ⊢
  rw [← hnc] at HO1 hc1 hcg ⊢
  have HCG := Lib.hid hcg
  clear hcg
  have HNL := Lib.hid hnl; have HNC := Lib.hid hnc
  have HCH := Lib.hid (fun (W : World) (c : Array Value) (h : Blk W T2 c 25) => h)
  clear ho1 hE1 h2n hnl hnc HB2 HB3 HB4 HE0 HW HCH
  go_upto_region 2 with (refine wpList_store_row rfl 25 (.tmp 2) (.tmp 15) rfl T2 #[.slice la nl lc, .slice ca nc cc] rfl rfl 25 _ HB21.out (book_size _ _) rfl (by simp [Value.oneCell']) ?_)
  have hB22 : Blk (w1.setRow T2 #[.slice la nl lc, .slice ca nc cc]) T2 #[.slice la nl lc, .slice ca nc cc] 25 := setRow_heap w1 T2 _ _ _ (0, 0) HB21.out
  have hC2 : Chg [T2] w1 (w1.setRow T2 #[.slice la nl lc, .slice ca nc cc]) := Chg.some (grown_rowS w1 T2 _) (.inl (by simp))
  have hE2 : Ext w (w1.setRow T2 #[.slice la nl lc, .slice ca nc cc]) := ((Chg.ext HE1.out : Chg [T2] w w1).trans hC2).toExt (fun t ht => by simp at ht; rw [ht, HT2.out]; exact Nat.le_refl _)
  have hB32 := HB31.out.chg hC2 (by simp; have := HT2.out; have := HT3.out; omega)
  have hB42 := HB41.out.chg hC2 (by simp; have := HT2.out; have := HT4.out; omega)
  have hO2 := HO1.out.off hC2 HB21.out
  generalize w1.setRow T2 #[.slice la nl lc, .slice ca nc cc] = W2 at *
  have HB2 := Lib.hid hB22; have HB3 := Lib.hid hB32; have HB4 := Lib.hid hB42; have HO2 := Lib.hid hO2; have HE2 := Lib.hid hE2
  have e1 := hB32.cell 1 rfl; have e2 := hB32.cell 2 rfl; have e3 := hB32.cell 3 rfl; have e4 := hB32.cell 4 rfl
  have b0 := hB22.cell 0 rfl; have b1 := hB22.cell 1 rfl
  simp only [List.getElem_toArray, List.getElem_cons_zero, List.getElem_cons_succ] at e1 e2 e3 e4 b0 b1
  clear hB22 hC2 hE2 hB32 hB42 hO2 HB21 HB31 HB41 HO1 HE1
  by_cases hk : k = 2
  · subst hk
    obtain ⟨⟨fi, fe⟩, hF⟩ : ∃ F, F = findP b cl sq := ⟨_, rfl⟩
    have hfc := fun W h => rfind_c (.agg #[.slice la nl lc, .slice ca nc cc]) b cl sq W h HBR.out
    rw [← hF] at hfc
    have HFC := Lib.hid hfc; have HF := Lib.hid hF
    clear hfc hF
    go_wp2_with (refine wpList_load_row rfl 25 (.tmp 2) rfl T2 rfl 25 _ (0, 0) _ HB2.out Tryd.underlying25 rfl (by kernel_rfl) ?_)
    refine (HFC.out _ HO2.out.book).mono ?_
    rintro e W3 ⟨rfl, hEn⟩
    have HO2 := Lib.hid (HO2.out.ext hEn); have HB2 := Lib.hid (HB2.out.ext hEn); have HB3 := Lib.hid (HB3.out.ext hEn); have HB4 := Lib.hid (HB4.out.ext hEn); have HE2 := Lib.hid (HE2.out.trans hEn)
    have e2 := HB3.out.cell 2 rfl; have e4 := HB3.out.cell 4 rfl; have e3 := HB3.out.cell 3 rfl
    have b0 := HB2.out.cell 0 rfl; have b1 := HB2.out.cell 1 rfl
    simp only [List.getElem_toArray, List.getElem_cons_zero, List.getElem_cons_succ] at e2 e3 e4 b0 b1
    clear hEn HFC e1
    by_cases hfe : fe = 8
    · subst hfe
      obtain ⟨P, hP⟩ : ∃ P, P = posL (idsB b) cl := ⟨_, rfl⟩
      have hcut := posL_cut (idsB b) cl HBR.out.ids
      rw [← hP] at hcut
      obtain ⟨z, hz⟩ : ∃ z, z = hitAt (idsB b) cl P := ⟨_, rfl⟩
      obtain ⟨i0, hi0⟩ : ∃ i0, i0 = clientI b cl := ⟨_, rfl⟩
      have hpl := fun w h => client_c (.agg #[.slice la nl lc, .slice ca nc cc]) b cl w h HBR.out
      rw [← hi0] at hpl
      have hi1 : i0 = if z then (P : Int) else -1 := by rw [hi0]; unfold clientI; rw [← hP, ← hz]
      have HPL := Lib.hid hpl; have HP := Lib.hid hP; have HZ := Lib.hid hz; have HI := Lib.hid hi1; have HIC := Lib.hid hi0
      have HPle : Hid (P ≤ nc) := Lib.hid (by have h1 := hcut.le; have h2 := HO2.out.clients; have h3 := congrArg List.length h2; rw [List.length_map, ← HNC.out] at h3; unfold idsB at h1; rw [List.length_map] at h1; omega)
      clear hcut hpl hP hz hi0 hi1
      go_wp2_with (refine wpList_load_row rfl 25 (.tmp 2) rfl T2 rfl 25 _ (0, 0) _ HB2.out Tryd.underlying25 rfl (by kernel_rfl) ?_)
      refine (HPL.out _ HO2.out.book).mono ?_
      rintro e W4 ⟨rfl, hEn⟩
      have HO2 := Lib.hid (HO2.out.ext hEn); have HB2 := Lib.hid (HB2.out.ext hEn); have HB3 := Lib.hid (HB3.out.ext hEn); have HB4 := Lib.hid (HB4.out.ext hEn); have HE2 := Lib.hid (HE2.out.trans hEn)
      have e2 := HB3.out.cell 2 rfl; have e4 := HB3.out.cell 4 rfl; have e3 := HB3.out.cell 3 rfl
      have b0 := HB2.out.cell 0 rfl; have b1 := HB2.out.cell 1 rfl
      simp only [List.getElem_toArray, List.getElem_cons_zero, List.getElem_cons_succ] at e2 e3 e4 b0 b1
      clear hEn HPL
      go_upto_region 8 with fail
      go_cut [57] (fun v57 wc => v57 = .bool (decide ((z = false ∧ 8 ≤ nc) ∨ 64 ≤ nl ∨ 64 < dn)) ∧ wc = W4)
      case first =>
        cases z with
        | true =>
          have hi : i0 = (P : Int) := HI.out
          subst hi
          have hp0 : (0 : Int) ≤ (P : Int) := by omega
          by_cases h1 : 64 ≤ nl
          · have h1' : (64 : Int) ≤ (nl : Int) := by omega
            go_wp2_with fail
            go_meet
            exact ⟨by simp [h1], rfl⟩
          · have h1' : (nl : Int) < 64 := by omega
            by_cases h2 : 64 < dn
            · have h2' : (64 : Int) < (dn : Int) := by omega
              go_wp2_with fail
              go_meet
              exact ⟨by simp [h2], rfl⟩
            · have h2' : (dn : Int) ≤ 64 := by omega
              go_wp2_with fail
              go_meet
              exact ⟨by simp [h1, h2]; omega, rfl⟩
        | false =>
          have hi : i0 = -1 := HI.out
          subst hi
          by_cases h0 : 8 ≤ nc
          · have h0' : (8 : Int) ≤ (nc : Int) := by omega
            go_wp2_with fail
            go_meet
            exact ⟨by simp [h0], rfl⟩
          · have h0' : (nc : Int) < 8 := by omega
            by_cases h1 : 64 ≤ nl
            · have h1' : (64 : Int) ≤ (nl : Int) := by omega
              go_wp2_with fail
              go_meet
              exact ⟨by simp [h1], rfl⟩
            · have h1' : (nl : Int) < 64 := by omega
              by_cases h2 : 64 < dn
              · have h2' : (64 : Int) < (dn : Int) := by omega
                go_wp2_with fail
                go_meet
                exact ⟨by simp [h1, h2], rfl⟩
              · have h2' : (dn : Int) ≤ 64 := by omega
                go_wp2_with fail
                go_meet
                exact ⟨by simp [h0, h1, h2]; omega, rfl⟩
      case rest =>
        obtain ⟨rfl, rfl⟩ := hcut
        by_cases hfull : (z = false ∧ 8 ≤ nc) ∨ 64 ≤ nl ∨ 64 < dn
        · have hXr : (xb, xn, xf) = (b, 0, 7) := by
            rw [HX.out]; unfold applyP; rw [if_pos rfl, ← HF.out]; dsimp only; rw [if_pos rfl, if_pos]
            have h2 := congrArg List.length HO2.out.clients; have h3 := congrArg List.length HO2.out.leaves
            rw [List.length_map, ← HNC.out] at h2; rw [List.length_map, ← HNL.out] at h3
            rw [← HP.out, ← HZ.out, ← h2, ← h3, HDN.out]; exact hfull
          cases hXr
          rw [decide_eq_true hfull]
          clear hfull
          go_wp2_with (first | (refine wpList_load_row rfl 25 (.tmp 2) rfl T2 rfl 25 _ (0, 0) _ HB2.out Tryd.underlying25 rfl (by kernel_rfl) ?_) | (refine wpList_store_row rfl 25 (.tmp 4) (.tmp 58) rfl T4 #[.slice la nl lc, .slice ca nc cc] rfl rfl 25 _ HB4.out (book_size _ _) rfl (by simp [Value.oneCell']) ?_))
          have hC4 : Chg [T4] wc (wc.setRow T4 #[.slice la nl lc, .slice ca nc cc]) := Chg.some (grown_rowS wc T4 _) (.inl (by simp))
          refine rapply_ret T4 _ _ _ _ _ _ _ (setRow_heap wc T4 _ _ _ (0, 0) HB4.out) rfl rfl rfl ⟨_, rfl, (HO2.out.off hC4 HB4.out).toNew, ?_⟩
          exact ((Chg.ext HE2.out : Chg [T4] w wc).trans hC4).toExt (fun t ht => by simp at ht; have := HT4.out; omega)
        · rw [decide_eq_false hfull]
          obtain ⟨hf1, hf2, hf3⟩ : (z = false → nc < 8) ∧ nl < 64 ∧ dn ≤ 64 := ⟨fun h => Nat.lt_of_not_le fun h8 => hfull (.inl ⟨h, h8⟩), Nat.lt_of_not_le fun h => hfull (.inr (.inl h)), Nat.le_of_not_lt fun h => hfull (.inr (.inr h))⟩
          have HNF := Lib.hid hf1; have HNL64 := Lib.hid hf2
          have hx2 := congrArg List.length HO2.out.clients; have hx3 := congrArg List.length HO2.out.leaves
          rw [List.length_map, ← HNC.out] at hx2; rw [List.length_map, ← HNL.out] at hx3
          have HXA : Hid ((xb, xn, xf) = (addB b cl sq d, (nl : Int), 0)) := Lib.hid (by
            rw [HX.out]; unfold applyP; rw [if_pos rfl, ← HF.out]; dsimp only; rw [if_pos rfl, if_neg, hx3]
            rw [← HP.out, ← HZ.out, ← hx2, ← hx3, HDN.out]; exact hfull)
          have HNCB := Lib.hid hx2; have HNLB := Lib.hid hx3
          have hwsp := withC_spec HOK.out cl (fun h => by rw [← HP.out, ← HZ.out] at h; have := hf1 h; omega)
          obtain ⟨hw1, hw2, c00, hw3, hw4, hw5, hw6, -⟩ := hwsp
          rw [← HP.out] at hw3
          have HWR : Hid (Rise ⟨b.leaves, withC b cl⟩) := Lib.hid ⟨hw1, fun c hc => by
            rcases hw6 c hc with rfl | h
            · rcases hw5 with h | ⟨h, -⟩
              · exact HBR.out.keys _ h
              · simp [keysC, h]
            · exact HBR.out.keys _ h, Nat.le_trans hw2 (by omega), fun c hc => by
            rcases hw6 c hc with rfl | h
            · rcases hw5 with h | ⟨h, -⟩
              · exact HBR.out.lenS _ h
              · simp [h]
            · exact HBR.out.lenS _ h⟩
          have HWC0 := Lib.hid (And.intro hw3 hw4)
          clear hfull hx2 hx3 hf1 HX hw1 hw2 hw3 hw4 hw5 hw6
          go_upto_if 60 with fail
          go_cut [9] (fun v9 wd => v9 = .int .i64 (P : Int) ∧ ∃ ca' cc' nc' C', Blk wd T2 #[.slice la nl lc, .slice ca' nc' cc'] 25 ∧ Blk wd T3 #[.int .u64 tm, .int .i64 2, .int .u64 cl, .int .u64 sq, .slice da dn dc, .slice ma mn mc] 30 ∧ Blk wd T4 #[.slice none 0 0, .slice none 0 0] 25 ∧
            OwnBk w.heap.size wd (.slice la nl lc) (.slice ca' nc' cc') L C' ⟨b.leaves, withC b cl⟩ ∧ nc' = C'.length ∧ P < nc' ∧ (∃ c, C'[P]? = some c ∧ c.1.id = cl) ∧ Ext w wd)
          case first =>
            cases z with
            | true =>
              have hi : i0 = (P : Int) := HI.out
              subst hi
              have hp0 : (0 : Int) ≤ (P : Int) := by omega
              go_wp2_with fail
              go_meet
              have hwC : withC b cl = b.clients := by unfold withC; rw [if_pos]; rw [← HP.out, ← HZ.out]
              have hzt := hitAt_true HZ.out.symm
              rw [← ids_map HO2.out.clients, List.getElem?_map] at hzt
              obtain ⟨q, hq⟩ : ∃ q, C[P]? = some q := by
                cases hq : C[P]? with
                | none => rw [hq] at hzt; cases hzt
                | some q => exact ⟨q, rfl⟩
              rw [hq] at hzt
              exact ⟨rfl, _, _, nc, C, HB2.out, HB3.out, HB4.out, by rw [hwC]; exact HO2.out, HNC.out, by rw [HNC.out]; exact (List.getElem?_eq_some_iff.1 hq).1, ⟨q, hq, Option.some.inj hzt⟩, HE2.out⟩
            | false =>
              have hi : i0 = -1 := HI.out
              subst hi
              have hwC : withC b cl = b.clients.take P ++ [⟨cl, []⟩] ++ b.clients.drop P := by unfold withC; rw [if_neg]; rw [← HP.out]; rw [← HP.out, ← HZ.out]; decide
              have hn8 : nc < 8 := HNF.out rfl
              have HI0 := Lib.hid (show clientI b cl = -1 from HIC.out.symm)
              have HWC := Lib.hid hwC
              clear hwC
              obtain ⟨T5, hT5⟩ : ∃ T, T = wc.heap.size := ⟨_, rfl⟩
              have hBn := Blk.new wc #[.int .u64 0, .slice none 0 0] 47
              have hEn := Ext.alloc wc (.cells #[.int .u64 0, .slice none 0 0] 47)
              go_upto_region 14 with (refine wpList_store_row rfl 47 (.tmp 12) (.tmp 63) rfl wc.heap.size #[.int .u64 cl, .slice none 0 0] rfl rfl 47 _ hBn (client_size _ _) rfl (by simp [Value.oneCell']) ?_)
              have hB5 : Blk ((wc.alloc (.cells #[.int .u64 0, .slice none 0 0] 47)).setRow wc.heap.size #[.int .u64 cl, .slice none 0 0]) wc.heap.size #[.int .u64 cl, .slice none 0 0] 47 := setRow_heap _ _ _ _ _ (0, 0) hBn
              have hE5 : Ext wc ((wc.alloc (.cells #[.int .u64 0, .slice none 0 0] 47)).setRow wc.heap.size #[.int .u64 cl, .slice none 0 0]) := ((Chg.ext hEn : Chg [wc.heap.size] wc _).trans (Chg.some (grown_rowS _ wc.heap.size _) (.inl (by simp)))).toExt (fun t ht => by simp at ht; omega)
              have hsz : T5 + 1 = ((wc.alloc (.cells #[.int .u64 0, .slice none 0 0] 47)).setRow wc.heap.size #[.int .u64 cl, .slice none 0 0]).heap.size := by rw [hT5]; simp [World.setRow]
              generalize (wc.alloc (.cells #[.int .u64 0, .slice none 0 0] 47)).setRow wc.heap.size #[.int .u64 cl, .slice none 0 0] = W5 at *
              rw [← hT5] at hB5 ⊢
              have HB5 := Lib.hid hB5; have HE5 := Lib.hid hE5; have HSZ := Lib.hid hsz; have HT5 := Lib.hid hT5
              have hgl : (C.map (fun q : CQ => q.1.id)).Pairwise (· < ·) := by rw [ids_map HO2.out.clients]; exact HBR.out.ids
              have HGL := Lib.hid hgl
              clear hBn hEn hB5 hE5 hsz hT5 hgl e2 e3 e4 b0 b1
              have b1 := (HB2.out.ext HE5.out).cell 1 rfl
              simp only [List.getElem_toArray, List.getElem_cons_zero, List.getElem_cons_succ] at b1
              go_wp2_with fail
              go_loopg [10, 11, 13] nc (fun g v10 v11 v13 wr => ∃ (i : Nat) (zz : Bool) (out : List CQ), v13 = .int .i64 (i : Int) ∧ v11 = .bool zz ∧ i + g = nc ∧ Ext W5 wr ∧ wr.ownsRow (T5 + 1) 47 2 v10 out.length (out.map clR).flatten ∧ gSt (fun q : CQ => q.1.id) C (⟨cl, []⟩, .slice none 0 0) i zz out)
              case atStart => exact ⟨0, false, [], rfl, rfl, by omega, Ext.refl _, ⟨rfl, .inl ⟨rfl, rfl⟩⟩, ⟨Nat.zero_le _, rfl⟩⟩
              case round =>
                obtain ⟨i, zz, out, rfl, rfl, hiN, hE6, hOu, hst⟩ := hrel
                have hol := gSt_len hst
                have HE6 := Lib.hid hE6; have HOu := Lib.hid hOu; have HST := Lib.hid hst
                clear b1
                have b1 := (HB2.out.ext (HE5.out.trans hE6)).cell 1 rfl
                have e2 := (HB3.out.ext (HE5.out.trans hE6)).cell 2 rfl
                simp only [List.getElem_toArray, List.getElem_cons_zero, List.getElem_cons_succ] at b1 e2
                clear hE6 hOu hst
                by_cases hi : i < nc
                · have hi' : (i : Int) < (nc : Int) := by omega
                  obtain ⟨q, hq⟩ : ∃ q, C[i]? = some q := ⟨_, List.getElem?_eq_getElem (by have := HNC.out; omega)⟩
                  have hne : q.1.id ≠ cl := fun e => by
                    have h1 := clientI_hit HBR.out (i := i) (c := q.1) (by rw [← HO2.out.clients, List.getElem?_map, hq]; rfl)
                    rw [e] at h1
                    have := HI0.out; omega
                  obtain ⟨g1, rfl⟩ := HCG.out (by omega)
                  have hco := HO2.out.co
                  rw [← HNC.out] at hco
                  have d0 := (HE5.out.trans HE6.out).cell (own_cell hco (i * 2) (cl_get C i q hq).1)
                  have d1 := (HE5.out.trans HE6.out).cell (own_cell hco (i * 2 + 1) (cl_get C i q hq).2)
                  obtain ⟨qa, qc, hqv, -, -, -⟩ := own_slice (HO2.out.cs q (List.mem_of_getElem? hq))
                  rw [hqv] at d1
                  obtain ⟨qn, hqn⟩ : ∃ n, n = q.1.slots.length := ⟨_, rfl⟩
                  rw [← hqn] at d1 hqv
                  have hqR : clR q = [.int .u64 q.1.id, .slice qa qn qc] := by unfold clR; rw [hqv]
                  obtain ⟨cid, hcid⟩ : ∃ x, x = q.1.id := ⟨_, rfl⟩
                  rw [← hcid] at d0 hne hqR
                  have HQ := Lib.hid hq; have HNE := Lib.hid hne; have HQR := Lib.hid hqR; have HCID := Lib.hid hcid
                  have HOE := Lib.hid (And.intro HE6.out HOu.out)
                  have HCO := Lib.hid hco
                  clear hq hne hco hqv hqn hqR hi hcid
                  cases zz with
                  | true =>
                    have hgo := gSt_go HGL.out HST.out HQ.out
                    have HGO := Lib.hid hgo
                    clear hgo
                    go_wp2_with fail
                    go_big_quiet (fail)
                    generalize hwq : wr.drewN _ = wq
                    have hEq : Ext wr wq := by rw [← hwq]; exact Ext.drewN _ _
                    have HOE := Lib.hid (And.intro (HE6.out.trans hEq) (own_ext HOu.out hEq))
                    have d0 := hEq.cell d0; have d1 := hEq.cell d1; have b1 := hEq.cell b1
                    clear hEq hwq e2
                    go_wp2_with (at_builtin; refine wpList_push_row rfl (.tmp 88) (.tmp 94) _ rfl 2 32 Tryd.underlying23 infoCl rfl (by omega) (T5 + 1) _ out.length (out.map clR).flatten [.int .u64 cid, .slice qa qn qc] rfl HOE.out.2 rfl rfl (by simp [Value.oneCell']) (by first | omega | (simp only [List.length_append, List.length_cons, List.length_nil]; omega)) (by unfold maxLen; first | omega | (simp only [List.length_append, List.length_cons, List.length_nil]; omega)) (by rw [HSZ.out]; exact HOE.out.1.size) rfl ?_; intro v' w' ho' hg'; have HN' := Lib.hid (And.intro ho' (own_extG HOE.out.2 hg' HOE.out.1 (by rw [← HSZ.out]; omega))); clear ho' hg')
                    go_roundg (nc - (i + 1))
                    case measure => omega
                    case rel => exact ⟨i + 1, true, out ++ [q], by go_num, rfl, by omega, HN'.out.2, by have h1 := HN'.out.1; rw [← HQR.out] at h1; simpa using h1, HGO.out⟩
                  | false =>
                    by_cases hlt : cl < cid
                    · have HGO := Lib.hid (gSt_put HGL.out HST.out HQ.out (show cl < q.1.id by rw [← HCID.out]; exact hlt))
                      go_wp2_with fail
                      go_big_quiet (fail)
                      generalize hwq : wr.drewN _ = wq
                      have hEq : Ext wr wq := by rw [← hwq]; exact Ext.drewN _ _
                      have HOE := Lib.hid (And.intro (HE6.out.trans hEq) (own_ext HOu.out hEq))
                      clear hEq hwq e2 d0 d1 b1
                      have HB3 := Lib.hid (HB5.out.ext HOE.out.1)
                      go_upto_region 20 with (first | (refine wpList_load_row rfl 47 (.tmp 12) rfl T5 rfl 47 _ (0, 0) _ HB3.out Tryd.underlying47 rfl (by kernel_rfl) ?_) | (at_builtin; refine wpList_push_row rfl (.tmp 84) (.tmp 86) _ rfl 2 32 Tryd.underlying23 infoCl rfl (by omega) (T5 + 1) _ out.length (out.map clR).flatten [.int .u64 cl, .slice none 0 0] rfl HOE.out.2 rfl rfl (by simp [Value.oneCell']) (by first | omega | (simp only [List.length_append, List.length_cons, List.length_nil]; omega)) (by unfold maxLen; first | omega | (simp only [List.length_append, List.length_cons, List.length_nil]; omega)) (by rw [HSZ.out]; exact HOE.out.1.size) rfl ?_; intro v' w' ho' hg'; have HN' := Lib.hid (And.intro ho' (own_extG HOE.out.2 hg' HOE.out.1 (by rw [← HSZ.out]; omega))); clear ho' hg'))
                      have HO3 := Lib.hid (And.intro HN'.out.2 (show w'.ownsRow (T5 + 1) 47 2 v' (out ++ [((⟨cl, []⟩, .slice none 0 0) : CQ)]).length ((out ++ [((⟨cl, []⟩, .slice none 0 0) : CQ)]).map clR).flatten by simpa [clR] using HN'.out.1))
                      have b1 := (HB2.out.ext (HE5.out.trans HO3.out.1)).cell 1 rfl
                      simp only [List.getElem_toArray, List.getElem_cons_zero, List.getElem_cons_succ] at b1
                      have d0 := (HE5.out.trans HO3.out.1).cell (own_cell HCO.out (i * 2) (cl_get C i q HQ.out).1)
                      have d1 := (HE5.out.trans HO3.out.1).cell (own_cell HCO.out (i * 2 + 1) (cl_get C i q HQ.out).2)
                      have hqv : q.2 = .slice qa qn qc := by have := HQR.out; unfold clR at this; simp at this; exact this.2
                      rw [← HCID.out] at d0
                      rw [hqv] at d1
                      obtain ⟨va, vc, rfl, -, -, -⟩ := own_slice HO3.out.2
                      have hol' : out.length ≤ i := by
                        have := HST.out
                        unfold gSt at this
                        simp at this
                        rw [this.2, List.length_take]; omega
                      clear HN' hqv
                      go_wp2_with (at_builtin; refine wpList_push_row rfl (.tmp 88) (.tmp 94) _ rfl 2 32 Tryd.underlying23 infoCl rfl (by omega) (T5 + 1) _ (out ++ [((⟨cl, []⟩, .slice none 0 0) : CQ)]).length ((out ++ [((⟨cl, []⟩, .slice none 0 0) : CQ)]).map clR).flatten [.int .u64 cid, .slice qa qn qc] rfl HO3.out.2 rfl rfl (by simp [Value.oneCell']) (by first | omega | (simp only [List.length_append, List.length_cons, List.length_nil]; omega)) (by unfold maxLen; first | omega | (simp only [List.length_append, List.length_cons, List.length_nil]; omega)) (by rw [HSZ.out]; exact HO3.out.1.size) rfl ?_; intro v' w' ho' hg'; have HN' := Lib.hid (And.intro ho' (own_extG HO3.out.2 hg' HO3.out.1 (by rw [← HSZ.out]; omega))); clear ho' hg')
                      go_roundg (nc - (i + 1))
                      case measure => omega
                      case rel => exact ⟨i + 1, true, out ++ [((⟨cl, []⟩, .slice none 0 0) : CQ)] ++ [q], by go_num, rfl, by omega, HN'.out.2, by have h1 := HN'.out.1; rw [← HQR.out] at h1; simpa using h1, HGO.out⟩
                    · have HGO := Lib.hid (gSt_skip HGL.out HST.out HQ.out (show ¬ cl < q.1.id by rw [← HCID.out]; exact hlt) (show q.1.id ≠ cl by rw [← HCID.out]; exact HNE.out))
                      have hle : cid ≤ cl := by omega
                      clear hlt
                      go_wp2_with fail
                      go_big_quiet (fail)
                      generalize hwq : wr.drewN _ = wq
                      have hEq : Ext wr wq := by rw [← hwq]; exact Ext.drewN _ _
                      have HOE := Lib.hid (And.intro (HE6.out.trans hEq) (own_ext HOu.out hEq))
                      have d0 := hEq.cell d0; have d1 := hEq.cell d1; have b1 := hEq.cell b1
                      clear hEq hwq e2
                      go_wp2_with (at_builtin; refine wpList_push_row rfl (.tmp 88) (.tmp 94) _ rfl 2 32 Tryd.underlying23 infoCl rfl (by omega) (T5 + 1) _ out.length (out.map clR).flatten [.int .u64 cid, .slice qa qn qc] rfl HOE.out.2 rfl rfl (by simp [Value.oneCell']) (by first | omega | (simp only [List.length_append, List.length_cons, List.length_nil]; omega)) (by unfold maxLen; first | omega | (simp only [List.length_append, List.length_cons, List.length_nil]; omega)) (by rw [HSZ.out]; exact HOE.out.1.size) rfl ?_; intro v' w' ho' hg'; have HN' := Lib.hid (And.intro ho' (own_extG HOE.out.2 hg' HOE.out.1 (by rw [← HSZ.out]; omega))); clear ho' hg')
                      go_roundg (nc - (i + 1))
                      case measure => omega
                      case rel => exact ⟨i + 1, false, out ++ [q], by go_num, rfl, by omega, HN'.out.2, by have h1 := HN'.out.1; rw [← HQR.out] at h1; simpa using h1, HGO.out⟩
                · obtain rfl : i = nc := by omega
                  have hge : (i : Int) ≤ (i : Int) := by omega
                  have hend := gSt_end HGL.out (by have := HST.out; rw [HNC.out] at this; exact this)
                  have HEND := Lib.hid hend
                  clear hi hiN hend e2
                  go_upto_if 97 with fail
                  go_cut [10] (fun v10 wx => Ext W5 wx ∧ wx.ownsRow (T5 + 1) 47 2 v10 (i + 1) ((insG (fun q : CQ => q.1.id) C (⟨cl, []⟩, .slice none 0 0)).map clR).flatten)
                  case first =>
                    cases zz with
                    | true =>
                      have hm : out = insG (fun q : CQ => q.1.id) C (⟨cl, []⟩, .slice none 0 0) := by simpa using HEND.out
                      have hml : out.length = i + 1 := by rw [hm, insG_len HGL.out, HNC.out]
                      have HM := Lib.hid (And.intro hm hml)
                      clear hm hml
                      go_wp2_with fail
                      go_meet
                      refine ⟨HE6.out, ?_⟩
                      have := HOu.out
                      rwa [HM.out.2, HM.out.1] at this
                    | false =>
                      have hm : out ++ [((⟨cl, []⟩, .slice none 0 0) : CQ)] = insG (fun q : CQ => q.1.id) C (⟨cl, []⟩, .slice none 0 0) := by simpa using HEND.out
                      have hml : out.length + 1 = i + 1 := by have := congrArg List.length hm; rw [insG_len HGL.out, ← HNC.out] at this; simpa using this
                      have HM := Lib.hid (And.intro hm hml)
                      have HOE := Lib.hid (And.intro HE6.out HOu.out)
                      have HB3 := Lib.hid (HB5.out.ext HE6.out)
                      clear hm hml
                      go_wp2_with (first | (refine wpList_load_row rfl 47 (.tmp 12) rfl T5 rfl 47 _ (0, 0) _ HB3.out Tryd.underlying47 rfl (by kernel_rfl) ?_) | (at_builtin; refine wpList_push_row rfl (.tmp 98) (.tmp 100) _ rfl 2 32 Tryd.underlying23 infoCl rfl (by omega) (T5 + 1) _ out.length (out.map clR).flatten [.int .u64 cl, .slice none 0 0] rfl HOE.out.2 rfl rfl (by simp [Value.oneCell']) (by first | omega | (simp only [List.length_append, List.length_cons, List.length_nil]; omega)) (by unfold maxLen; first | omega | (simp only [List.length_append, List.length_cons, List.length_nil]; omega)) (by rw [HSZ.out]; exact HOE.out.1.size) rfl ?_; intro v' w' ho' hg'; have HN' := Lib.hid (And.intro ho' (own_extG HOE.out.2 hg' HOE.out.1 (by rw [← HSZ.out]; omega))); clear ho' hg'))
                      go_meet
                      refine ⟨HN'.out.2, ?_⟩
                      have := HN'.out.1
                      rw [HM.out.2] at this
                      rw [← HM.out.1]
                      simpa [clR] using this
                  case rest =>
                    obtain ⟨hEx, hOx⟩ := hcut
                    obtain ⟨xa, xc, rfl, -, -, -⟩ := own_slice hOx
                    have hEcx := HE5.out.trans hEx
                    have hP8 := HPle.out
                    have hOx2 : wc.ownsRow w.heap.size 47 2 (.slice xa (i + 1) xc) (C.length + 1) ((C.map clR).flatten.take (P * 2) ++ [.int .u64 cl, .slice none 0 0] ++ (C.map clR).flatten.drop (P * 2)) := by
                      have h1 := own_low hOx (show w.heap.size ≤ T5 + 1 by rw [HT5.out]; have := HE2.out.size; omega)
                      have h2 := cl_ins C P ⟨cl, []⟩ (by rw [← HNC.out]; exact hP8)
                      rw [← HNC.out, ← h2]
                      have h3 : posL (C.map (fun q : CQ => q.1.id)) cl = P := by rw [ids_map HO2.out.clients]; exact HP.out.symm
                      unfold insG at h1
                      dsimp only at h1
                      rw [h3] at h1
                      exact h1
                    have hO5 := HO2.out.ins (P := P) (x := cl) (by rw [← HNC.out]; exact hP8) (Chg.ext hEcx) hOx2
                    rw [← HWC.out] at hO5
                    have hB25 := HB2.out.ext hEcx
                    have hB35 := HB3.out.ext hEcx
                    have hB45 := HB4.out.ext hEcx
                    have hE5x : Ext w wc := HE2.out.trans hEcx
                    have hf5 := hB25.free 1
                    have k1 := hB25.cell 1 rfl
                    simp only [List.getElem_toArray, List.getElem_cons_zero, List.getElem_cons_succ] at k1
                    have HB25 := Lib.hid hB25; have HB35 := Lib.hid hB35; have HB45 := Lib.hid hB45; have HO5 := Lib.hid hO5; have HE5x := Lib.hid hE5x
                    have hCh : Chg [T2] wc (wc.setCell ⟨T2, 1, none⟩ (.slice xa (i + 1) xc)) := Chg.set T2 1 _ (by simp)
                    have hb26 : Blk (wc.setCell ⟨T2, 1, none⟩ (.slice xa (i + 1) xc)) T2 #[.slice la nl lc, .slice xa (i + 1) xc] 25 := by simpa using HB25.out.set 1 (.slice xa (i + 1) xc)
                    have hb36 := HB35.out.chg hCh (by simp; have := HT2.out; have := HT3.out; omega)
                    have hb46 := HB45.out.chg hCh (by simp; have := HT2.out; have := HT4.out; omega)
                    have ho6 := HO5.out.off hCh HB25.out
                    have he6 : Ext w (wc.setCell ⟨T2, 1, none⟩ (.slice xa (i + 1) xc)) := ((Chg.ext HE5x.out : Chg [T2] w wc).trans hCh).toExt (fun t ht => by simp at ht; have := HT2.out; omega)
                    clear hEx hOx hEcx hOx2 hO5 hB25 hB35 hB45 hE5x hCh b1
                    go_upto_region 24 with fail
                    generalize wc.setCell ⟨T2, 1, none⟩ (.slice xa (i + 1) xc) = W6 at *
                    have HB2 := Lib.hid hb26; have HB3 := Lib.hid hb36; have HB4 := Lib.hid hb46; have HO6 := Lib.hid ho6; have HE2 := Lib.hid he6
                    have e2 := hb36.cell 2 rfl
                    simp only [List.getElem_toArray, List.getElem_cons_zero, List.getElem_cons_succ] at e2
                    clear hb26 hb36 hb46 ho6 he6 hf5 k1
                    obtain ⟨N1, hN1⟩ : ∃ n, n = i + 1 := ⟨_, rfl⟩
                    rw [← hN1] at HB2 HO6 ⊢
                    have HN1 := Lib.hid hN1
                    clear hN1
                    go_wp2_with (refine wpList_load_row rfl 25 (.tmp 2) rfl T2 rfl 25 _ (0, 0) _ HB2.out Tryd.underlying25 rfl (by kernel_rfl) ?_)
                    refine (client_c (.agg #[.slice la nl lc, .slice xa N1 xc]) ⟨b.leaves, withC b cl⟩ cl _ HO6.out.book HWR.out).mono ?_
                    rintro e W7 ⟨rfl, hEn⟩
                    have hcI : clientI ⟨b.leaves, withC b cl⟩ cl = (P : Int) := by have := clientI_hit HWR.out HWC0.out.1; rwa [HWC0.out.2] at this
                    rw [hcI]
                    clear hcI
                    have HO7 := Lib.hid (HO6.out.ext hEn); have HB2 := Lib.hid (HB2.out.ext hEn); have HB3 := Lib.hid (HB3.out.ext hEn); have HB4 := Lib.hid (HB4.out.ext hEn); have HE2 := Lib.hid (HE2.out.trans hEn)
                    clear hEn
                    go_wp2_with fail
                    go_meet
                    refine ⟨rfl, xa, xc, N1, _, HB2.out, HB3.out, HB4.out, HO7.out, ?_, by have := HPle.out; have := HN1.out; omega, ?_, HE2.out⟩
                    · have := HNC.out; have := HPle.out; have := HN1.out; simp; omega
                    · refine ⟨(⟨cl, []⟩, .slice none 0 0), ?_, rfl⟩
                      have := HPle.out; have := HNC.out
                      rw [List.append_assoc, List.getElem?_append_right (by simp; omega)]
                      simp
                      rw [show P - min P C.length = 0 by omega]; rfl
          case rest =>
            obtain ⟨rfl, ca2, cc2, nc2, C2, hB2n, hB3n, hB4n, hO2n, hnc2, hP2, ⟨⟨⟨qid, sl⟩, sv⟩, hq, hid⟩, hE2n⟩ := hcut
            obtain rfl : cl = qid := hid.symm
            have HB2 := Lib.hid hB2n; have HB3 := Lib.hid hB3n; have HB4 := Lib.hid hB4n; have HO2 := Lib.hid hO2n; have HE2 := Lib.hid hE2n; have HNC2 := Lib.hid hnc2; have HQ := Lib.hid hq
            have hcq : (withC b cl)[posL (idsB b) cl]? = some ⟨cl, sl⟩ := by rw [← HP.out]; have h1 := hO2n.clients; dsimp only at h1; rw [← h1, List.getElem?_map, hq]; rfl
            have hfn := find_none b HBR.out cl sq (by rw [← HF.out]) _ hcq
            have hsl4 : sl.length ≤ 4 := by
              rcases hfn.2.2 with h1 | h1
              · exact HS.out _ h1
              · have h1 : sl = [] := h1
                rw [h1]; simp
            have HCQ := Lib.hid hcq; have HFN := Lib.hid hfn; have HSL4 := Lib.hid hsl4
            obtain ⟨ca3, cc3, he3, hcc3, hcc4, hg3⟩ := own_slice hO2n.co
            rw [← hnc2] at he3 hcc3 hg3
            cases he3
            obtain ⟨g, rfl⟩ := hg3 (by omega)
            have b0 := hB2n.cell 0 rfl; have e4 := hB3n.cell 4 rfl
            simp only [List.getElem_toArray, List.getElem_cons_zero, List.getElem_cons_succ] at b0 e4
            have hP2' : (P : Int) < (nc2 : Int) := by omega
            obtain ⟨da', dc', hde, hd1, hd2, hd3⟩ : ∃ a c, Value.slice da dn dc = .slice a d.length c ∧ d.length ≤ c ∧ c ≤ maxLen ∧ (d.length = 0 ∨ ∃ ad, a = some ad ∧ ∀ j u, (u8s d)[j]? = some u → wc.cell? (ad.add j) = some u) := by
              obtain ⟨a, c, h1, h2, h3, h4⟩ := HD.out.ext hE2n
              rw [u8s_len] at h1 h2
              refine ⟨a, c, h1, h2, h3, ?_⟩
              rcases h4 with h4 | ⟨b', o', h4, h5⟩
              · left; rw [← u8s_len d, h4]; rfl
              · exact .inr ⟨_, h4, fun j u hj => by rw [Addr.add_lit]; exact h5 j u hj⟩
            cases hde
            clear HDN
            have HRD := Lib.hid hd3; have HD2 := Lib.hid hd2; have HDL := Lib.hid hdl
            have hLe : L.length = nl := HNL.out.symm
            have HLE := Lib.hid hLe
            have HO26 := Lib.hid (show OwnBk w.heap.size wc (.slice la L.length lc) (.slice (some ⟨g, 0, none⟩) nc2 cc2) L C2 ⟨b.leaves, withC b cl⟩ by rw [hLe]; exact hO2n)
            have HB26 := Lib.hid (show Blk wc T2 #[.slice la L.length lc, .slice (some ⟨g, 0, none⟩) nc2 cc2] 25 by rw [hLe]; exact hB2n)
            clear hB2n hB3n hB4n hO2n hE2n hnc2 hq hcq hfn hg3 hid hd1 hd2 hd3 hsl4 hLe hdl
            go_upto_region 26 with fail
            clear b0
            have b0 := HB26.out.cell 0 rfl
            simp only [List.getElem_toArray, List.getElem_cons_zero] at b0
            apply Mono4.Chain.walkN (fun _ _ => False) 10 ⟨Ext, CpA 27 (.slice la L.length lc) T2, ApSt w wc T2 T3 T4 #[.int .u64 tm, .int .i64 2, .int .u64 cl, .int .u64 sq, .slice da d.length dc, .slice ma mn mc] #[.slice none 0 0, .slice none 0 0] (.slice la L.length lc) (.slice (some ⟨g, 0, none⟩) nc2 cc2) L C2 ⟨b.leaves, withC b cl⟩ ⟨b.leaves ++ [d], withC b cl⟩, [7, 9]⟩
              [.is _, .is _, .rel (fun v W => ∃ p, v = .slice (some ⟨p, 0, none⟩) 0 0 ∧ wc.heap.size ≤ p ∧ Blk W p #[] 5), .is _, .is _, .rel (fun v W => W.ownsRow wc.heap.size 5 1 v d.length (u8s d)),
                .rel (fun v W => ∃ g' q, v = .slice (some ⟨g', 0, none⟩) 1 1 ∧ Blk W g' #[q] 27 ∧ g' ∉ (Value.slice la L.length lc).ownBlock.toList ∧ W.ownsRow wc.heap.size 5 1 q d.length (u8s d)),
                .rel (fun v W => ∃ L', OwnBk w.heap.size W v (.slice (some ⟨g, 0, none⟩) nc2 cc2) L' C2 ⟨b.leaves ++ [d], withC b cl⟩), .is _, .rel (fun _ _ => True)] (by kernel_rfl)
              ApSt.ext (ApSt.ext (b1 := ⟨b.leaves ++ [d], withC b cl⟩) 0 _ _ ⟨HB26.out, HO26.out, Ext.refl _, HE2.out, HB3.out, HB4.out⟩ (Ext.drew _)) (by kernel_rfl) [9] rfl (by kernel_rfl) (fun i hi S hS => (by simp at hi; subst hi; cases hS; exact fun _ _ => trivial)) rfl
              ⟨⟨fun _ _ _ h hE => (by obtain ⟨p, h1, h2, h3⟩ := h; exact ⟨p, h1, h2, h3.ext hE⟩), fun _ _ _ _ _ _ h hA => (by obtain ⟨p, h1, h2, h3⟩ := h; exact ⟨p, h1, h2, blk_cpa' h3 hA (by decide) (by decide)⟩)⟩,
                ⟨fun _ _ _ h hE => own_ext h hE, fun _ _ _ _ _ _ h hA => own_cpa h hA (by decide) (by decide)⟩,
                ⟨fun _ _ _ h hE => (by obtain ⟨g', q, h1, h2, h3, h4⟩ := h; exact ⟨g', q, h1, h2.ext hE, h3, own_ext h4 hE⟩), fun _ _ _ _ _ _ h hA => (by obtain ⟨g', q, h1, h2, h3, h4⟩ := h; exact ⟨g', q, h1, blk_cpa h2 hA h3 (by decide), h3, own_cpa h4 hA (by decide) (by decide)⟩)⟩,
                ⟨fun _ _ _ h hE => (by obtain ⟨L', h⟩ := h; exact ⟨L', h.ext hE⟩), fun c hc _ _ _ _ h hA => (by
                  obtain ⟨L', h⟩ := h
                  have : 1 ≤ c := Nat.le_trans (Nat.le_of_eq (by kernel_rfl)) hc
                  obtain ⟨c', rfl⟩ : ∃ c', c = c' + 1 := ⟨c - 1, by omega⟩
                  exact ⟨L', h.abk hA⟩)⟩, ⟨fun _ _ _ _ _ => trivial, fun _ _ _ _ _ _ _ _ => trivial⟩, trivial⟩ (fun _ _ _ h => h.elim)
            focus
              iterate 2 (apply Mono4.Chain.step_is; (· refine Mono4.Chain.obl_at 0 (by kernel_rfl) (by kernel_rfl) (by kernel_rfl) fun w9 hst hkn K hK => ?_; have q0 := hst.2.2.1.cell b0; have q1 := hst.2.2.1.cell e4; clear hst hkn; go_wp2_with fail; simp only [Act.put, List.setIfInBounds_toArray, List.set_cons_succ, List.set_cons_zero] at hK; exact hK _ _ (Ext.refl _) (Mono4.is_rfl _ _)); simp only [Act.put, List.setIfInBounds_toArray, List.set_cons_succ, List.set_cons_zero])
              refine Mono4.Chain.step_rel (Mono4.Chain.obl_at 0 (by kernel_rfl) (by kernel_rfl) (by kernel_rfl) fun w9 hst hkn K hK => ?_) fun v15 => ?_
              · have HSZ := Lib.hid hst.2.2.1.size
                clear hst hkn
                go_wp2_with fail
                simp only [Act.put, List.setIfInBounds_toArray, List.set_cons_succ, List.set_cons_zero] at hK
                exact hK _ _ (Ext.alloc _ _) (Mono4.rel_mk ⟨_, rfl, HSZ.out, Blk.new _ _ _⟩)
              simp only [Act.put, List.setIfInBounds_toArray, List.set_cons_succ, List.set_cons_zero]
              iterate 2 (apply Mono4.Chain.step_is; (· refine Mono4.Chain.obl_at 0 (by kernel_rfl) (by kernel_rfl) (by kernel_rfl) fun w9 hst hkn K hK => ?_; have q0 := hst.2.2.1.cell b0; have q1 := hst.2.2.1.cell e4; clear hst hkn; go_wp2_with fail; simp only [Act.put, List.setIfInBounds_toArray, List.set_cons_succ, List.set_cons_zero] at hK; exact hK _ _ (Ext.refl _) (Mono4.is_rfl _ _)); simp only [Act.put, List.setIfInBounds_toArray, List.set_cons_succ, List.set_cons_zero])
              refine Mono4.Chain.step_rel (Mono4.Chain.obl_at 0 (by kernel_rfl) (by kernel_rfl) (by kernel_rfl) fun w9 hst hkn K hK => ?_) fun v21 => ?_
              · obtain ⟨p, rfl, hp, hbp⟩ := hkn.1 (by kernel_rfl)
                have HX9 := Lib.hid hst.2.2.1; have HPP := Lib.hid hp; have HBP := Lib.hid hbp
                have HNEW := Lib.hid (show d.length = 0 ∨ ∃ ad, da = some ad ∧ ∀ j u, (u8s d)[j]? = some u → w9.cell? (ad.add j) = some u from HRD.out.imp id fun ⟨ad, h1, h2⟩ => ⟨ad, h1, fun j u hj => HX9.out.cell (h2 j u hj)⟩)
                clear hst hkn hp hbp
                go_wp2_with (at_builtin; refine wpList_append_half rfl (.tmp 114) (.tmp 116) _ rfl 5 _ 1 1 Tryd.underlying27 infoU rfl (by omega) p rfl da d.length dc (u8s d) rfl (by rw [u8s_len]; omega) HNEW.out (by have := HD2.out; unfold maxLen at *; omega) (by have := HDL.out; omega) ?_; intro v' w8 hh hE8; have HH := Lib.hid (hh.own (base := wc.heap.size) hE8 HBP.out HPP.out HX9.out.size (by rw [u8s_len]; omega)); have HE8 := Lib.hid hE8; clear hh hE8)
                simp only [Act.put, List.setIfInBounds_toArray, List.set_cons_succ, List.set_cons_zero] at hK
                exact hK _ _ HE8.out (Mono4.rel_mk HH.out)
              simp only [Act.put, List.setIfInBounds_toArray, List.set_cons_succ, List.set_cons_zero]
              refine Mono4.Chain.step_rel (Mono4.Chain.obl_at 0 (by kernel_rfl) (by kernel_rfl) (by kernel_rfl) fun w9 hst hkn K hK => ?_) fun v22 => ?_
              · have ho := hkn.2.1 (by kernel_rfl)
                obtain ⟨za, zc, rfl, -, -, -⟩ := own_slice ho
                have HOW := Lib.hid ho; have HLT := Lib.hid (own_lt hst.2.1.lo)
                clear hst hkn ho
                go_wp2_with fail
                simp only [Act.put, List.setIfInBounds_toArray, List.set_cons_succ, List.set_cons_zero] at hK
                exact hK _ _ (Ext.alloc _ _) (Mono4.rel_mk ⟨_, _, rfl, Blk.new _ _ _, fun hm => by have := HLT.out _ hm; omega, own_ext HOW.out (Ext.alloc _ _)⟩)
              simp only [Act.put, List.setIfInBounds_toArray, List.set_cons_succ, List.set_cons_zero]
              refine Mono4.Chain.step_rel (Mono4.Chain.obl_loud 0 (by kernel_rfl) (by kernel_rfl) (by kernel_rfl) fun w9 hst hkn K hK => ?_) fun v23 => ?_
              · obtain ⟨g1, q, rfl, hbg, hgn, hoq⟩ := hkn.2.2.1 (by kernel_rfl)
                have HST := Lib.hid hst; have HBG := Lib.hid hbg; have HOQ := Lib.hid hoq
                obtain ⟨za, zc, rfl, -, -, -⟩ := own_slice hoq
                clear hst hkn hbg hgn hoq
                have hLi : L.length ≤ 64 := by have := HLE.out; omega
                refine wpList_push_blk rfl (.tmp 113) (.tmp 118) _ rfl 1 24 Tryd.underlying22 infoLf rfl (by omega) w.heap.size (.slice la L.length lc) L.length (L.map (·.2)) [.slice za d.length zc] rfl HST.out.2.1.lo rfl g1 rfl HBG.out (by simp [Value.oneCell']) (by omega) (by unfold maxLen; omega) HST.out.2.2.2.1.size fun v' w' ho' hg' => ?_
                have HO' := Lib.hid ho'; have HG' := Lib.hid hg'
                clear ho' hg' hLi
                go_wp2_with fail
                simp only [Act.put, List.setIfInBounds_toArray, List.set_cons_succ, List.set_cons_zero] at hK
                have hA : ARw 27 (.slice la L.length lc) w9 w' := ⟨Chg.grown HG'.out, fun t ht => (own_type HST.out.2.1.lo t ht).2.2⟩
                have hE' : Ext w w' := Chg.below HST.out.2.2.2.1 hA.1 HST.out.2.2.2.1.size (fun t ht => (own_type HST.out.2.1.lo t ht).1)
                refine hK _ _ hA ⟨blk_arw HST.out.1 hA (by decide), hE', blk_arw HST.out.2.2.2.2.1 hA (by decide), blk_arw HST.out.2.2.2.2.2 hA (by decide)⟩ (Mono4.rel_mk ⟨L ++ [(d, .slice za d.length zc)], ?_⟩)
                exact HST.out.2.1.leaf (d := d) (dv := .slice za d.length zc) (lv' := v') (Chg.grown HG'.out) (by simpa using HO'.out) (own_low (own_arw HOQ.out hA (by decide)) HE2.out.size)
              simp only [Act.put, List.setIfInBounds_toArray, List.set_cons_succ, List.set_cons_zero]
              apply Mono4.Chain.step_is
              · refine Mono4.Chain.obl_quiet (by kernel_rfl) fun w9 c hlo hhi hst hkn K hK => ?_
                clear hlo hhi hst hkn
                go_wp2_with fail
                simp only [Act.put, List.setIfInBounds_toArray, List.set_cons_succ, List.set_cons_zero] at hK
                exact hK _ _ (Ext.refl _) (Mono4.is_rfl _ _)
              simp only [Act.put, List.setIfInBounds_toArray, List.set_cons_succ, List.set_cons_zero]
              refine Mono4.Chain.step_rel (Mono4.Chain.obl_loud 1 (by kernel_rfl) (by kernel_rfl) (by kernel_rfl) fun w9 hst hkn K hK => ?_) fun v0 => ?_
              · obtain ⟨L', hob⟩ := hkn.2.2.2.1 (by kernel_rfl)
                have HST := Lib.hid hst; have HOB := Lib.hid hob
                obtain ⟨za, zc, rfl, -, -, -⟩ := own_slice hob.lo
                have f0 := hst.1.free 0
                have hb9 := hst.1.set 0 (.slice za L'.length zc)
                simp only [List.setIfInBounds_toArray, List.set_cons_zero] at hb9
                have HB9 := Lib.hid hb9
                have k0 := hst.1.cell 0 rfl
                simp only [List.getElem_toArray, List.getElem_cons_zero] at k0
                clear hst hkn hob hb9
                go_wp2_with fail
                simp only [Act.put, List.setIfInBounds_toArray, List.set_cons_succ, List.set_cons_zero] at hK
                have hA : ABk T2 w9 (w9.setCell ⟨T2, 0, none⟩ (.slice za L'.length zc)) := ⟨Chg.set T2 0 _ (by simp), _, HST.out.1⟩
                exact hK undef _ hA ⟨Chg.below HST.out.2.1 hA.1 HST.out.2.1.size (fun t ht => (by simp at ht; subst ht; rw [HT2.out]; omega)), ⟨_, L', HB9.out, HOB.out.abk hA⟩, HST.out.2.2.1.other ⟨T2, 0, none⟩ _ (by have := HT2.out; have := HT3.out; simp; omega), HST.out.2.2.2.other ⟨T2, 0, none⟩ _ (by have := HT2.out; have := HT4.out; simp; omega)⟩ trivial
              simp only [Act.put, List.setIfInBounds_toArray, List.set_cons_succ, List.set_cons_zero]
              refine Mono4.Chain.step_end fun w10 hst hkn => ?_
              simp only [List.drop_succ_cons, List.drop_zero]
              obtain ⟨hE10, ⟨lv6, L6, h2n, h6n⟩, h3n, h4n⟩ := hst
              obtain ⟨la6, lc6, rfl, -, -, -⟩ := own_slice h6n.lo
              obtain ⟨nl6, hnl6⟩ : ∃ n, n = L6.length := ⟨_, rfl⟩
              rw [← hnl6] at h2n h6n
              have c1 := own_cell (n := nc2) (by have := h6n.co; rwa [← HNC2.out] at this) (P * 2 + 1) (cl_get C2 P _ HQ.out).2
              have f1 := own_free (n := nc2) (g := g) (cap := cc2) (by have := h6n.co; rwa [← HNC2.out] at this) (P * 2 + 1)
              have e3 := h3n.cell 3 rfl
              have b1 := h2n.cell 1 rfl
              simp only [List.getElem_toArray, List.getElem_cons_zero, List.getElem_cons_succ] at e3 b1
              dsimp only at c1
              obtain ⟨sa, sc, hsve, -, -, -⟩ := own_slice (h6n.cs _ (List.mem_of_getElem? HQ.out))
              dsimp only at hsve
              subst hsve
              obtain ⟨m, hm⟩ : ∃ m, m = sl.length := ⟨_, rfl⟩
              have hrs : RowV w10 2 (.slice sa sl.length sc) (sl.map slR) := RowV.of_own (by rw [List.length_map]; exact h6n.cs _ (List.mem_of_getElem? HQ.out)) (sl_lens _)
              rw [← hm] at c1 hrs HQ
              have HRS := Lib.hid hrs; have HB2 := Lib.hid h2n; have HB3 := Lib.hid h3n; have HB4 := Lib.hid h4n; have HO6 := Lib.hid h6n; have HE2 := Lib.hid hE10; have HM := Lib.hid hm
              have HW10 := Lib.hid hE10.size
              clear hkn hE10 h2n h6n h3n h4n hnl6 hrs hm b0 e4
              go_upto_region 27 with fail
              apply Mono.region1 16 Ext [.is _, .is _, .is _, .is _, .is _, .is _, .is _, .is _, .is _, .is _, .is _, .is _, .is _, .rel (fun v W => RowV W 2 v ((lastF (insL sl (sq, (nl : Int)))).map slR) ∧ SlB w.heap.size W 49 v), .is _, .is _] (by kernel_rfl) Ext.refl (fun _ _ _ => Ext.trans) (by kernel_rfl) rfl rfl ⟨fun u w1 w2 h hE => ⟨RowV.ext h.1 hE, h.2.ext hE⟩, trivial⟩
              focus
                iterate 13 (apply Mono.step_is; (· refine Mono.obl_mk fun w11 hE11 _ K hK => ?_; (have q0 := hE11.cell (show w10.drew.cell? _ = _ from c1)); (have q1 := hE11.cell (show w10.drew.cell? _ = _ from e3)); (have q2 := hE11.cell (show w10.drew.cell? _ = _ from b1)); clear hE11; go_wp2_with fail; simp only [Act.put, List.setIfInBounds_toArray, List.set_cons_succ, List.set_cons_zero] at hK; exact hK _ _ (Ext.refl _) (Mono.is_rfl _ _)); simp only [Act.put, List.setIfInBounds_toArray, List.set_cons_succ, List.set_cons_zero])
                refine Mono.step_rel (Mono.obl_mk fun w11 hE11 _ K hK => ?_) fun v134 => ?_
                · have HE11 := Lib.hid ((Ext.drew w10).trans hE11)
                  clear hE11
                  go_wp2_with fail
                  refine (slotted_c (.slice sa m sc) sl (sq, (nl : Int)) _ (RowV.ext HRS.out HE11.out) HFN.out.1 HFN.out.2.1 HSL4.out).mono ?_
                  rintro e w12 ⟨v', rfl, hr, hs, hE⟩
                  have HR := Lib.hid hr; have HS12 := Lib.hid hs; have HE := Lib.hid hE
                  clear hr hs hE
                  go_wp2_with fail
                  simp only [Act.put, List.setIfInBounds_toArray, List.set_cons_succ, List.set_cons_zero] at hK
                  exact hK _ _ HE.out (Mono.rel_mk ⟨HR.out, fun a n c hv => by
                    obtain ⟨h1, h2⟩ := HS12.out a n c hv
                    exact ⟨Nat.le_trans (Nat.le_trans HW10.out HE11.out.size) h1, h2⟩⟩)
                simp only [Act.put, List.setIfInBounds_toArray, List.set_cons_succ, List.set_cons_zero]
                iterate 2 (apply Mono.step_is; (· refine Mono.obl_mk fun w11 hE11 _ K hK => ?_; clear hE11; go_wp2_with fail; simp only [Act.put, List.setIfInBounds_toArray, List.set_cons_succ, List.set_cons_zero] at hK; exact hK _ _ (Ext.refl _) (Mono.is_rfl _ _)); simp only [Act.put, List.setIfInBounds_toArray, List.set_cons_succ, List.set_cons_zero])
                refine Mono.step_end fun w11 hE11 hkn => ?_
                simp only [List.drop_succ_cons, List.drop_zero]
                replace hE11 : Ext w10 w11 := (Ext.drew w10).trans hE11
                obtain ⟨hrv, hsb⟩ := hkn.1
                obtain ⟨ya, yn, yc, rfl⟩ : ∃ a n c, v134 = .slice a n c := by obtain ⟨a, c, h, -⟩ := hrv; exact ⟨a, _, c, h⟩
                have q0 := hE11.cell c1
                have hO11 := HO6.out.ext hE11
                have hB2 := HB2.out.ext hE11
                have hB4 := HB4.out.ext hE11
                have hEw := HE2.out.trans hE11
                have f10 := own_free (n := nc2) (g := g) (cap := cc2) (by have := hO11.co; rwa [← HNC2.out] at this) (P * 2 + 1)
                have hCf : Chg [g] w11 (w11.setCell ⟨g, P * 2 + 1, none⟩ (.slice ya yn yc)) := Chg.set g (P * 2 + 1) _ (by simp)
                have hng : ∀ (t : Nat) (c : Array Value) (e : TypeId), Blk w11 t c e → e ≠ 47 → t ∉ [g] := fun t c e hb h2 hm => own_notin hO11.co hb (Ne.symm h2) (by simp at hm; subst hm; simp [Value.ownBlock])
                have hB2 := hB2.chg hCf (hng _ _ _ hB2 (by decide))
                have hB4 := hB4.chg hCf (hng _ _ _ hB4 (by decide))
                have hcut := hO11.cutV HQ.out hrv hsb
                have hEf : Ext w (w11.setCell ⟨g, P * 2 + 1, none⟩ (.slice ya yn yc)) := ((Chg.ext hEw : Chg [g] w w11).trans hCf).toExt (fun t ht => (own_type hO11.co t (by simp at ht; subst ht; simp [Value.ownBlock])).1)
                have HB2 := Lib.hid hB2; have HB4 := Lib.hid hB4; have HCUT := Lib.hid hcut; have HEF := Lib.hid hEf
                clear hkn hE11 hrv hsb c1 hO11 hB2 hB4 hEw hCf hng hcut hEf b1 e3 f1
                go_upto_region 28 with fail
                generalize w11.setCell ⟨g, P * 2 + 1, none⟩ (.slice ya yn yc) = WF at *
                clear q0 f10
                go_wp2_with (first | (refine wpList_load_row rfl 25 (.tmp 2) rfl T2 rfl 25 _ (0, 0) _ HB2.out Tryd.underlying25 rfl (by kernel_rfl) ?_) | (refine wpList_store_row rfl 25 (.tmp 4) (.tmp 137) rfl T4 #[.slice la6 nl6 lc6, .slice (some ⟨g, 0, none⟩) nc2 cc2] rfl rfl 25 _ HB4.out (book_size _ _) rfl (by simp [Value.oneCell']) ?_))
                have hC4 : Chg [T4] WF (WF.setRow T4 #[.slice la6 nl6 lc6, .slice (some ⟨g, 0, none⟩) nc2 cc2]) := Chg.some (grown_rowS WF T4 _) (.inl (by simp))
                have hXr := HXA.out
                cases hXr
                refine rapply_ret T4 _ _ _ _ _ _ _ (setRow_heap WF T4 _ _ _ (0, 0) HB4.out) rfl rfl rfl ⟨_, rfl, ?_, ?_⟩
                · have hfin := HCUT.out.off hC4 HB4.out
                  have e : addB b cl sq d = ⟨b.leaves ++ [d], (withC b cl).set P ⟨cl, lastF (insL sl (sq, (nl : Int)))⟩⟩ := by
                    unfold addB
                    rw [HCQ.out, ← HNLB.out, ← HP.out]
                    rfl
                  rw [e]
                  exact hfin
                · exact ((Chg.ext HEF.out : Chg [T4] w WF).trans hC4).toExt (fun t ht => by simp at ht; have := HT4.out; omega)
    · have hfe' : (fe == 8) = false := by simpa using hfe
      have hXr : (xb, xn, xf) = (b, fi, fe) := by rw [HX.out]; unfold applyP; rw [if_pos rfl, ← HF.out]; dsimp only; rw [if_neg hfe]
      cases hXr
      go_wp2_with (first | (refine wpList_load_row rfl 25 (.tmp 2) rfl T2 rfl 25 _ (0, 0) _ HB2.out Tryd.underlying25 rfl (by kernel_rfl) ?_) | (refine wpList_store_row rfl 25 (.tmp 4) (.tmp 31) rfl T4 #[.slice la nl lc, .slice ca nc cc] rfl rfl 25 _ HB4.out (book_size _ _) rfl (by simp [Value.oneCell']) ?_))
      have hC4 : Chg [T4] W3 (W3.setRow T4 #[.slice la nl lc, .slice ca nc cc]) := Chg.some (grown_rowS W3 T4 _) (.inl (by simp))
      refine rapply_ret T4 _ _ _ _ _ _ _ (setRow_heap W3 T4 _ _ _ (0, 0) HB4.out) rfl rfl rfl ⟨_, rfl, (HO2.out.off hC4 HB4.out).toNew, ?_⟩
      exact ((Chg.ext HE2.out : Chg [T4] w W3).trans hC4).toExt (fun t ht => by simp at ht; have := HT4.out; omega)
  · have hk' : (k == 2) = false := by simpa using hk
    have hXr : (xb, xn, xf) = (b, 0, 8) := by rw [HX.out]; unfold applyP; rw [if_neg hk]
    cases hXr
    go_wp2_with (first | (refine wpList_load_row rfl 25 (.tmp 2) rfl T2 rfl 25 _ (0, 0) _ HB2.out Tryd.underlying25 rfl (by kernel_rfl) ?_) | (refine wpList_store_row rfl 25 (.tmp 4) (.tmp 19) rfl T4 #[.slice la nl lc, .slice ca nc cc] rfl rfl 25 _ HB4.out (book_size _ _) rfl (by simp [Value.oneCell']) ?_))
    have hC4 : Chg [T4] W2 (W2.setRow T4 #[.slice la nl lc, .slice ca nc cc]) := Chg.some (grown_rowS W2 T4 _) (.inl (by simp))
    refine rapply_ret T4 _ _ _ _ _ _ _ (setRow_heap W2 T4 _ _ _ (0, 0) HB4.out) rfl rfl rfl ⟨_, rfl, (HO2.out.off hC4 HB4.out).toNew, ?_⟩
    exact ((Chg.ext HE2.out : Chg [T4] w W2).trans hC4).toExt (fun t ht => by simp at ht; have := HT4.out; omega)
end Go.Proofs.YtgefphfnicjbiaaDoor
