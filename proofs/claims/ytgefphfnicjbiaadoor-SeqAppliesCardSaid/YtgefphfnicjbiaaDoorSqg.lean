/- Layer 25 (seq): Apply. -/
import Derived.Test.YtgefphfnicjbiaaDoorSqf
import Derived.Test.YtgefphfnicjbiaaDoorMono3
set_option linter.unusedSimpArgs false
set_option linter.unusedVariables false
namespace Go.Proofs.YtgefphfnicjbiaaDoor
open Go Go.RowKit

theorem OwnBk.off {B t : Nat} {w w' : World} {lv cv : Value} {L : List LQ} {C : List CQ} {b : Bk} {c : Array Value} (h : OwnBk B w lv cv L C b) (hC : Chg [t] w w') (hb : Blk w t c 25) : OwnBk B w' lv cv L C b :=
  have key : ∀ {e : TypeId} {s n : Nat} {v : Value} {xs : List Value}, w.ownsRow B e s v n xs → e ≠ 25 → w'.ownsRow B e s v n xs := fun h he => own_off h hC (fun t ht hm => by simp at hm; subst hm; exact own_notin h hb he ht)
  ⟨h.leaves, h.clients, key h.lo (by decide), key h.co (by decide), fun q hq => key (h.ls q hq) (by decide), fun q hq => key (h.cs q hq) (by decide), h.ap⟩
/-- What is not found is not there. -/
theorem find_none (b : Bk) (hb : Rise b) (cl sq : Int) (h : (findP b cl sq).2 = 8) (c : Cl) (hc : (withC b cl)[posL (idsB b) cl]? = some c) : (keysC c).Pairwise (· < ·) ∧ sq ∉ keysC c ∧ (c ∈ b.clients ∨ c.slots = []) := by
  have hPl := (posL_cut (idsB b) cl hb.ids).le
  unfold withC at hc
  split at hc
  · rename_i hit
    have hmem := List.mem_of_getElem? hc
    have hk := hb.keys c hmem
    refine ⟨hk, ?_, .inl hmem⟩
    have hid := hitAt_true hit
    unfold idsB at hid
    rw [List.getElem?_map] at hid
    rw [show b.clients.map (·.id) = idsB b from rfl, hc] at hid
    have hid : c.id = cl := Option.some.inj hid
    unfold findP at h
    rw [hc] at h
    dsimp only at h
    rw [if_pos hid] at h
    have hcut := posL_cut (keysC c) sq hk
    intro hm
    obtain ⟨k, hk1, hk2⟩ := List.getElem_of_mem hm
    have hget := List.getElem?_eq_getElem hk1
    rw [hk2] at hget
    generalize posL (keysC c) sq = Q at *
    have hge : Q ≤ k := Nat.le_of_not_lt fun hlt => by have := hcut.lo k sq hlt hget; omega
    have hQl : Q < c.slots.length := by have : (keysC c).length = c.slots.length := by unfold keysC; simp
                                        omega
    obtain ⟨s, hs⟩ : ∃ s, c.slots[Q]? = some s := ⟨_, List.getElem?_eq_getElem hQl⟩
    rw [hs] at h
    dsimp only at h
    have hsk : (keysC c)[Q]? = some s.1 := by unfold keysC; rw [List.getElem?_map, hs]; rfl
    have hle := hcut.hi Q s.1 (Nat.le_refl _) hsk
    by_cases he : s.1 = sq
    · rw [if_pos he] at h; simp at h
    · rcases Nat.lt_or_ge Q k with h1 | h1
      · have h2 := List.pairwise_iff_getElem.1 hk Q k (by have := (List.getElem?_eq_some_iff.1 hsk).1; exact this) hk1 h1
        rw [hk2, (List.getElem?_eq_some_iff.1 hsk).2] at h2; omega
      · have : Q = k := by omega
        subst this
        rw [hget] at hsk; exact he (Option.some.inj hsk).symm
  · rw [List.append_assoc, List.getElem?_append_right (by rw [List.length_take]; omega)] at hc
    rw [List.length_take, Nat.min_eq_left (by unfold idsB at hPl; rw [List.length_map] at hPl; exact hPl), Nat.sub_self] at hc
    simp at hc
    subst hc
    exact ⟨by simp [keysC], by simp [keysC], .inr rfl⟩
theorem SlB.off {B t : Nat} {w w' : World} {e : TypeId} {v : Value} {c : Array Value} (h : SlB B w e v) (hC : Chg [t] w w') (hb : Blk w t c 25) (he : e ≠ 25) : SlB B w' e v := fun a n k hv => by
  obtain ⟨h1, cur, h2⟩ := h a n k hv
  exact ⟨h1, cur, h2.chg hC (fun hm => by simp at hm; rw [hm] at h2; exact he (blk_type h2 hb))⟩
theorem SlB.ne {B t : Nat} {w : World} {e : TypeId} {v : Value} {c : Array Value} (h : SlB B w e v) (hb : Blk w t c 25) (he : e ≠ 25) {a : Addr} {n k : Nat} (hv : v = .slice (some a) n k) : a.block ∉ [t] := fun hm => by
  obtain ⟨h1, cur, h2⟩ := h a n k hv
  simp at hm; rw [hm] at h2; exact he (blk_type h2 hb)
theorem NewBk.off {B t : Nat} {w w' : World} {v : Value} {b : Bk} {c : Array Value} (h : NewBk B w v b) (hC : Chg [t] w w') (hb : Blk w t c 25) : NewBk B w' v b := by
  obtain ⟨lv, cv, L, C, e, h1, h2, h3, h4, h5, h6, g1, g2, g3, g4⟩ := h
  exact ⟨lv, cv, L, C, e, h1, h2, h3.chg hC (fun a n c' hv _ => g1.ne hb (by decide) hv), h4.chg hC (fun a n c' hv _ => g2.ne hb (by decide) hv), fun q hq => (h5 q hq).chg hC (fun a n c' hv _ => (g3 q hq).ne hb (by decide) hv), fun q hq => (show RowV w 2 q.2 _ from h6 q hq).chg hC (fun a n c' hv _ => (g4 q hq).ne hb (by decide) hv),
    g1.off hC hb (by decide), g2.off hC hb (by decide), fun q hq => (g3 q hq).off hC hb (by decide), fun q hq => (g4 q hq).off hC hb (by decide)⟩
theorem apply_ret (b : Nat) (c0 c1 n f : Value) (F : World) (tmps : Array Value) (R : Ending → World → Prop) (hB : Blk F b #[c0, c1] 25)
    (hz : tmps[4]? = some (.pointer (some ⟨b, 0, none⟩))) (h5 : tmps[5]? = some n) (h6 : tmps[6]? = some f) (h : R (.returned (.tuple #[.agg #[c0, c1], n, f])) F) :
    bodyPost Tryd.prog Tryd.f7 R .ret { tmps := tmps, defers := [] } F := by
  have x0 := hB.cell 0 rfl; have x1 := hB.cell 1 rfl
  simp at x0 x1
  refine bodyPost_ret ?_ rfl h
  simp [results, Tryd.results7, go_sem, hz, h5, h6, x0, x1]
set_option maxRecDepth 100000 in
set_option maxHeartbeats 8000000 in
theorem apply_c (v dv mv : Value) (b : Bk) (tm k cl sq : Int) (d : List Int) (w : World) (h : BookV w v b) (hb : Rise b) (hbd : BkBd b) (hc : b.clients.length ≤ 999) (hs : ∀ c ∈ b.clients, c.slots.length ≤ 4)
    (hd : Rd w dv (u8s d)) (hdl : d.length ≤ 140737488355328) (hmv : ∃ a n c, mv = .slice a n c) :
    Calls Tryd.prog 7 #[v, .agg #[.int .u64 tm, .int .i64 k, .int .u64 cl, .int .u64 sq, dv, mv]] w fun e w' => ∃ v', e = .returned (.tuple #[v', .int .u64 (applyP b k cl sq d).2.1, .int .i64 (applyP b k cl sq d).2.2]) ∧ NewBk w.heap.size w' v' (applyP b k cl sq d).1 ∧ Ext w w' := by
  obtain ⟨ma, mn, mc, rfl⟩ := hmv
  obtain ⟨⟨xb, xn, xf⟩, hX⟩ : ∃ X, X = applyP b k cl sq d := ⟨_, rfl⟩
  rw [← hX]
  have HX := Lib.hid hX
  have HBR := Lib.hid hb; have HBD := Lib.hid hbd; have HCL := Lib.hid hc; have HS := Lib.hid hs; have HD := Lib.hid hd; have HV := Lib.hid h
  obtain ⟨lv0, cv0, L0, C0, rfl, -, -, h3, h4, -, -⟩ := h
  obtain ⟨la0, lc0, rfl, -, -⟩ := h3.shape
  obtain ⟨ca0, cc0, rfl, -, -⟩ := h4.shape
  obtain ⟨da, dc, rfl, -, -, -⟩ := hd
  rw [u8s_len] at HD ⊢
  generalize (L0.map lfR).length = l0 at *
  generalize (C0.map clR).length = n0 at *
  generalize hdn : d.length = dn at *
  have HDN := Lib.hid hdn
  clear hdn
  obtain ⟨bs, hbs⟩ : ∃ bs, bs = w.heap.size := ⟨_, rfl⟩
  obtain ⟨T2, hT2⟩ : ∃ T, T = w.heap.size := ⟨_, rfl⟩
  obtain ⟨T3, hT3⟩ : ∃ T, T = w.heap.size + 1 := ⟨_, rfl⟩
  obtain ⟨T4, hT4⟩ : ∃ T, T = w.heap.size + 1 + 1 := ⟨_, rfl⟩
  obtain ⟨w0, hw0⟩ : ∃ w0, w0 = ((w.alloc (.cells #[.slice la0 l0 lc0, .slice ca0 n0 cc0] 25)).alloc (.cells #[.int .u64 tm, .int .i64 k, .int .u64 cl, .int .u64 sq, .slice da dn dc, .slice ma mn mc] 30)).alloc (.cells #[.slice none 0 0, .slice none 0 0] 25) := ⟨_, rfl⟩
  have hE0 : Ext w w0 := by rw [hw0]; exact ((Ext.alloc _ _).trans (Ext.alloc _ _)).trans (Ext.alloc _ _)
  have hB2 : Blk w0 T2 #[.slice la0 l0 lc0, .slice ca0 n0 cc0] 25 := by rw [hw0, hT2]; exact ((Blk.new _ _ _).alloc _).alloc _
  have hB3 : Blk w0 T3 #[.int .u64 tm, .int .i64 k, .int .u64 cl, .int .u64 sq, .slice da dn dc, .slice ma mn mc] 30 := by
    rw [hw0, hT3]; have := (Blk.new (w.alloc (.cells #[.slice la0 l0 lc0, .slice ca0 n0 cc0] 25)) #[.int .u64 tm, .int .i64 k, .int .u64 cl, .int .u64 sq, .slice da dn dc, .slice ma mn mc] 30).alloc (.cells #[.slice none 0 0, .slice none 0 0] 25); simpa using this
  have hB4 : Blk w0 T4 #[.slice none 0 0, .slice none 0 0] 25 := by
    rw [hw0, hT4]; have := Blk.new ((w.alloc (.cells #[.slice la0 l0 lc0, .slice ca0 n0 cc0] 25)).alloc (.cells #[.int .u64 tm, .int .i64 k, .int .u64 cl, .int .u64 sq, .slice da dn dc, .slice ma mn mc] 30)) #[.slice none 0 0, .slice none 0 0] 25; simpa using this
  have HE0 := Lib.hid hE0; have HB2 := Lib.hid hB2; have HB3 := Lib.hid hB3; have HB4 := Lib.hid hB4; have HT2 := Lib.hid hT2; have HT3 := Lib.hid hT3; have HT4 := Lib.hid hT4; have HW := Lib.hid hw0; have HBS := Lib.hid hbs
  clear h3 h4 hX hb hbd hc hs hw0 hE0 hB2 hB3 hB4
  go_enter Tryd.func7, Tryd.ntmps7
  go_upto_region 1 with fail
  rw [← HW.out]
  rw [← hT2, show T2 + 1 = T3 by omega, show T3 + 1 = T4 by omega]
  clear hT2 hT3 hT4 hbs
  go_wp2_with (refine wpList_load_row rfl 25 (.tmp 2) rfl T2 rfl 25 _ (0, 0) _ HB2.out Tryd.underlying25 rfl (by kernel_rfl) ?_)
  refine (deep_c _ b _ (HV.out.ext HE0.out) HBD.out).mono ?_
  rintro e w1 ⟨lv, cv, L, C, rfl, ho1, hE1⟩
  have HO1 := Lib.hid (show OwnBk w.heap.size w1 lv cv L C b from ⟨ho1.leaves, ho1.clients, own_low ho1.lo HE0.out.size, own_low ho1.co HE0.out.size, fun q hq => own_low (ho1.ls q hq) HE0.out.size, fun q hq => own_low (ho1.cs q hq) HE0.out.size, ho1.ap⟩)
  obtain ⟨la, lc, rfl, hl1, hl2, -⟩ := own_slice ho1.lo
  obtain ⟨ca, cc, rfl, hc1, hc2, -⟩ := own_slice ho1.co
  have HE1 := Lib.hid (HE0.out.trans hE1)
  have h2n := (HB2.out.ext hE1)
  have HB21 := Lib.hid h2n; have HB31 := Lib.hid (HB3.out.ext hE1); have HB41 := Lib.hid (HB4.out.ext hE1)
  obtain ⟨nl, hnl⟩ : ∃ n, n = L.length := ⟨_, rfl⟩
  obtain ⟨nc, hnc⟩ : ∃ n, n = C.length := ⟨_, rfl⟩
  rw [← hnl] at HO1 hl1 ⊢
  rw [← hnc] at HO1 hc1 ⊢
  have HNL := Lib.hid hnl; have HNC := Lib.hid hnc
  have HCH := Lib.hid (fun (W : World) (c : Array Value) (h : Blk W T2 c 25) => h)
  clear ho1 hE1 h2n hnl hnc HB2 HB3 HB4 HE0 HW HCH
  go_upto_region 2 with (refine wpList_store_row rfl 25 (.tmp 2) (.tmp 14) rfl T2 #[.slice la nl lc, .slice ca nc cc] rfl rfl 25 _ HB21.out (book_size _ _) rfl (by simp [Value.oneCell']) ?_)
  have hB22 : Blk (w1.setRow T2 #[.slice la nl lc, .slice ca nc cc]) T2 #[.slice la nl lc, .slice ca nc cc] 25 := setRow_heap w1 T2 _ _ _ (0, 0) HB21.out
  have hC2 : Chg [T2] w1 (w1.setRow T2 #[.slice la nl lc, .slice ca nc cc]) := Chg.some (grown_rowS w1 T2 _) (.inl (by simp))
  have hE2 : Ext w (w1.setRow T2 #[.slice la nl lc, .slice ca nc cc]) := ((Chg.ext HE1.out : Chg [T2] w w1).trans hC2).toExt (fun t ht => by simp at ht; rw [ht, HT2.out]; exact Nat.le_refl _)
  have hB32 := HB31.out.chg hC2 (by simp; have := HT2.out; have := HT3.out; omega)
  have hB42 := HB41.out.chg hC2 (by simp; have := HT2.out; have := HT4.out; omega)
  have hO2 := HO1.out.off hC2 HB21.out
  generalize w1.setRow T2 #[.slice la nl lc, .slice ca nc cc] = W2 at *
  have HB2 := Lib.hid hB22; have HB3 := Lib.hid hB32; have HB4 := Lib.hid hB42; have HO2 := Lib.hid hO2; have HE2 := Lib.hid hE2
  have e1 := hB32.cell 1 rfl; have e2 := hB32.cell 2 rfl; have e3 := hB32.cell 3 rfl; have e4 := hB32.cell 4 rfl
  have b0 := hB22.cell 0 rfl; have b1 := hB22.cell 1 rfl
  simp only [List.getElem_toArray, List.getElem_cons_zero, List.getElem_cons_succ] at e1 e2 e3 e4 b0 b1
  clear hB22 hC2 hE2 hB32 hB42 hO2 HB21 HB31 HB41 HO1 HE1
  by_cases hk : k = 2
  · subst hk
    obtain ⟨⟨fi, fe⟩, hF⟩ : ∃ F, F = findP b cl sq := ⟨_, rfl⟩
    have hfc := fun W h => find_c (.agg #[.slice la nl lc, .slice ca nc cc]) b cl sq W h HBR.out
    rw [← hF] at hfc
    have HFC := Lib.hid hfc; have HF := Lib.hid hF
    clear hfc hF
    go_wp2_with (refine wpList_load_row rfl 25 (.tmp 2) rfl T2 rfl 25 _ (0, 0) _ HB2.out Tryd.underlying25 rfl (by kernel_rfl) ?_)
    refine (HFC.out _ HO2.out.book).mono ?_
    rintro e W3 ⟨rfl, hEn⟩
    have HO2 := Lib.hid (HO2.out.ext hEn); have HB2 := Lib.hid (HB2.out.ext hEn); have HB3 := Lib.hid (HB3.out.ext hEn); have HB4 := Lib.hid (HB4.out.ext hEn); have HE2 := Lib.hid (HE2.out.trans hEn)
    have e2 := HB3.out.cell 2 rfl; have e4 := HB3.out.cell 4 rfl; have e3 := HB3.out.cell 3 rfl
    have b0 := HB2.out.cell 0 rfl; have b1 := HB2.out.cell 1 rfl
    simp only [List.getElem_toArray, List.getElem_cons_zero, List.getElem_cons_succ] at e2 e3 e4 b0 b1
    clear hEn HFC e1
    by_cases hfe : fe = 8
    · subst hfe
      obtain ⟨P, hP⟩ : ∃ P, P = posL (idsB b) cl := ⟨_, rfl⟩
      have hcut := posL_cut (idsB b) cl HBR.out.ids
      rw [← hP] at hcut
      have hpl := fun w h => place_c (.agg #[.slice la nl lc, .slice ca nc cc]) b cl P w h HBR.out.lenC hcut
      obtain ⟨z, hz⟩ : ∃ z, z = hitAt (idsB b) cl P := ⟨_, rfl⟩
      rw [← hz] at hpl
      have HPL := Lib.hid hpl; have HP := Lib.hid hP; have HZ := Lib.hid hz
      have HPle : Hid (P ≤ nc) := Lib.hid (by have h1 := hcut.le; have h2 := HO2.out.clients; have h3 := congrArg List.length h2; rw [List.length_map, ← HNC.out] at h3; unfold idsB at h1; rw [List.length_map] at h1; omega)
      clear hcut hpl hP hz
      go_wp2_with (refine wpList_load_row rfl 25 (.tmp 2) rfl T2 rfl 25 _ (0, 0) _ HB2.out Tryd.underlying25 rfl (by kernel_rfl) ?_)
      refine (HPL.out _ HO2.out.book).mono ?_
      rintro e W4 ⟨rfl, hEn⟩
      have HO2 := Lib.hid (HO2.out.ext hEn); have HB2 := Lib.hid (HB2.out.ext hEn); have HB3 := Lib.hid (HB3.out.ext hEn); have HB4 := Lib.hid (HB4.out.ext hEn); have HE2 := Lib.hid (HE2.out.trans hEn)
      have e2 := HB3.out.cell 2 rfl; have e4 := HB3.out.cell 4 rfl; have e3 := HB3.out.cell 3 rfl
      have b0 := HB2.out.cell 0 rfl; have b1 := HB2.out.cell 1 rfl
      simp only [List.getElem_toArray, List.getElem_cons_zero, List.getElem_cons_succ] at e2 e3 e4 b0 b1
      clear hEn HPL
      go_upto_region 8 with fail
      go_cut [59] (fun v59 wc => v59 = .bool (decide ((z = false ∧ 8 ≤ nc) ∨ 64 ≤ nl ∨ 64 < dn)) ∧ wc = W4)
      case first =>
        cases z with
        | true =>
          by_cases h1 : 64 ≤ nl
          · have h1' : (64 : Int) ≤ (nl : Int) := by omega
            go_wp2_with fail
            go_meet
            exact ⟨by simp [h1], rfl⟩
          · have h1' : (nl : Int) < 64 := by omega
            by_cases h2 : 64 < dn
            · have h2' : (64 : Int) < (dn : Int) := by omega
              go_wp2_with fail
              go_meet
              exact ⟨by simp [h2], rfl⟩
            · have h2' : (dn : Int) ≤ 64 := by omega
              go_wp2_with fail
              go_meet
              exact ⟨by simp [h1, h2]; omega, rfl⟩
        | false =>
          by_cases h0 : 8 ≤ nc
          · have h0' : (8 : Int) ≤ (nc : Int) := by omega
            go_wp2_with fail
            go_meet
            exact ⟨by simp [h0], rfl⟩
          · have h0' : (nc : Int) < 8 := by omega
            by_cases h1 : 64 ≤ nl
            · have h1' : (64 : Int) ≤ (nl : Int) := by omega
              go_wp2_with fail
              go_meet
              exact ⟨by simp [h1], rfl⟩
            · have h1' : (nl : Int) < 64 := by omega
              by_cases h2 : 64 < dn
              · have h2' : (64 : Int) < (dn : Int) := by omega
                go_wp2_with fail
                go_meet
                exact ⟨by simp [h1, h2], rfl⟩
              · have h2' : (dn : Int) ≤ 64 := by omega
                go_wp2_with fail
                go_meet
                exact ⟨by simp [h0, h1, h2]; omega, rfl⟩
      case rest =>
        obtain ⟨rfl, rfl⟩ := hcut
        by_cases hfull : (z = false ∧ 8 ≤ nc) ∨ 64 ≤ nl ∨ 64 < dn
        · have hXr : (xb, xn, xf) = (b, 0, 7) := by
            rw [HX.out]; unfold applyP; rw [if_pos rfl, ← HF.out]; dsimp only; rw [if_pos rfl, if_pos]
            have h2 := congrArg List.length HO2.out.clients; have h3 := congrArg List.length HO2.out.leaves
            rw [List.length_map, ← HNC.out] at h2; rw [List.length_map, ← HNL.out] at h3
            rw [← HP.out, ← HZ.out, ← h2, ← h3, HDN.out]; exact hfull
          cases hXr
          rw [decide_eq_true hfull]
          clear hfull
          go_wp2_with (first | (refine wpList_load_row rfl 25 (.tmp 2) rfl T2 rfl 25 _ (0, 0) _ HB2.out Tryd.underlying25 rfl (by kernel_rfl) ?_) | (refine wpList_store_row rfl 25 (.tmp 4) (.tmp 60) rfl T4 #[.slice la nl lc, .slice ca nc cc] rfl rfl 25 _ HB4.out (book_size _ _) rfl (by simp [Value.oneCell']) ?_))
          have hC4 : Chg [T4] wc (wc.setRow T4 #[.slice la nl lc, .slice ca nc cc]) := Chg.some (grown_rowS wc T4 _) (.inl (by simp))
          refine apply_ret T4 _ _ _ _ _ _ _ (setRow_heap wc T4 _ _ _ (0, 0) HB4.out) rfl rfl rfl ⟨_, rfl, (HO2.out.off hC4 HB4.out).toNew, ?_⟩
          exact ((Chg.ext HE2.out : Chg [T4] w wc).trans hC4).toExt (fun t ht => by simp at ht; have := HT4.out; omega)
        · rw [decide_eq_false hfull]
          obtain ⟨hf1, hf2, hf3⟩ : (z = false → nc < 8) ∧ nl < 64 ∧ dn ≤ 64 := ⟨fun h => Nat.lt_of_not_le fun h8 => hfull (.inl ⟨h, h8⟩), Nat.lt_of_not_le fun h => hfull (.inr (.inl h)), Nat.le_of_not_lt fun h => hfull (.inr (.inr h))⟩
          have HNF := Lib.hid hf1; have HNL64 := Lib.hid hf2
          have hx2 := congrArg List.length HO2.out.clients; have hx3 := congrArg List.length HO2.out.leaves
          rw [List.length_map, ← HNC.out] at hx2; rw [List.length_map, ← HNL.out] at hx3
          have HXA : Hid ((xb, xn, xf) = (addB b cl sq d, (nl : Int), 0)) := Lib.hid (by
            rw [HX.out]; unfold applyP; rw [if_pos rfl, ← HF.out]; dsimp only; rw [if_pos rfl, if_neg, hx3]
            rw [← HP.out, ← HZ.out, ← hx2, ← hx3, HDN.out]; exact hfull)
          have HNCB := Lib.hid hx2; have HNLB := Lib.hid hx3
          clear hfull hx2 hx3 hf1 HX
          go_upto_if 62 with fail
          go_cut [] (fun wd => ∃ ca' cc' nc' C', Blk wd T2 #[.slice la nl lc, .slice ca' nc' cc'] 25 ∧ Blk wd T3 #[.int .u64 tm, .int .i64 2, .int .u64 cl, .int .u64 sq, .slice da dn dc, .slice ma mn mc] 30 ∧ Blk wd T4 #[.slice none 0 0, .slice none 0 0] 25 ∧
            OwnBk w.heap.size wd (.slice la nl lc) (.slice ca' nc' cc') L C' ⟨b.leaves, withC b cl⟩ ∧ nc' = C'.length ∧ P < nc' ∧ (∃ c, C'[P]? = some c ∧ c.1.id = cl) ∧ Ext w wd)
          case first =>
            cases z with
            | true =>
              go_wp2_with fail
              go_meet
              have hwC : withC b cl = b.clients := by unfold withC; rw [if_pos]; rw [← HP.out, ← HZ.out]
              have hzt := hitAt_true HZ.out.symm
              rw [← ids_map HO2.out.clients, List.getElem?_map] at hzt
              obtain ⟨q, hq⟩ : ∃ q, C[P]? = some q := by
                cases hq : C[P]? with
                | none => rw [hq] at hzt; cases hzt
                | some q => exact ⟨q, rfl⟩
              rw [hq] at hzt
              refine ⟨_, _, nc, C, HB2.out, HB3.out, HB4.out, by rw [hwC]; exact HO2.out, HNC.out, by rw [HNC.out]; exact (List.getElem?_eq_some_iff.1 hq).1, ⟨q, hq, Option.some.inj hzt⟩, HE2.out⟩
            | false =>
              have hwC : withC b cl = b.clients.take P ++ [⟨cl, []⟩] ++ b.clients.drop P := by unfold withC; rw [if_neg]; rw [← HP.out]; rw [← HP.out, ← HZ.out]; decide
              have hn8 : nc < 8 := HNF.out rfl
              have HWC := Lib.hid hwC
              clear hwC
              go_wp2_with fail
              have hvb := Blk.new wc #[.int .u64 cl, .slice none 0 0] 47
              have hEa := Ext.alloc wc (.cells #[.int .u64 cl, .slice none 0 0] 47)
              have hOa := HO2.out.ext hEa
              have hvbn : wc.heap.size ∉ (Value.slice ca nc cc).ownBlock.toList := fun hm => by have := own_lt HO2.out.co _ hm; omega
              have h1c : ∀ u ∈ (C.map clR).flatten, u.oneCell' = true := fun u hu => by
                rw [List.mem_flatten] at hu
                obtain ⟨r, hr, hu⟩ := hu
                obtain ⟨q, hq, rfl⟩ := List.mem_map.1 hr
                obtain ⟨a, c, hv, -⟩ := own_slice (HO2.out.cs q hq)
                simp only [clR, List.mem_cons, List.not_mem_nil, or_false] at hu
                rcases hu with rfl | rfl
                · rfl
                · rw [hv]; rfl
              have hco := hOa.co
              rw [← HNC.out] at hco
              refine (ins_c w.heap.size _ (.slice ca nc cc) nc P wc.heap.size (C.map clR).flatten cl hco h1c (by omega) HPle.out (Nat.le_trans HE2.out.size hEa.size) hvb hvbn).mono ?_
              rintro e w5 ⟨cv', rfl, ho5, hC5, hb5⟩
              have hO5 := hOa.ins (P := P) (x := cl) (by rw [← HNC.out]; exact HPle.out) hC5 (by rw [← HNC.out]; exact ho5)
              rw [← HWC.out] at hO5
              obtain ⟨ca', cc', rfl, hc1', hc2', -⟩ := own_slice ho5
              have hB25 := (HB2.out.ext hEa).chg hC5 (own_notin hOa.co (HB2.out.ext hEa) (by decide))
              have hB35 := (HB3.out.ext hEa).chg hC5 (own_notin hOa.co (HB3.out.ext hEa) (by decide))
              have hB45 := (HB4.out.ext hEa).chg hC5 (own_notin hOa.co (HB4.out.ext hEa) (by decide))
              have hE5 : Ext w w5 := ((Chg.ext (HE2.out.trans hEa) : Chg (Value.slice ca nc cc).ownBlock.toList w _).trans hC5).toExt (fun t ht => (own_type HO2.out.co t ht).1)
              have hf5 := hB25.free 1
              have HB25 := Lib.hid hB25; have HB35 := Lib.hid hB35; have HB45 := Lib.hid hB45; have HO5 := Lib.hid hO5; have HE5 := Lib.hid hE5
              have k1 := hB25.cell 1 rfl
              simp only [List.getElem_toArray, List.getElem_cons_zero, List.getElem_cons_succ] at k1
              clear hvb hEa hOa hvbn h1c hco ho5 hC5 hb5 hO5 hB25 hB35 hB45 hE5 e2 e3 e4 b0 b1
              go_wp2_with fail
              go_meet
              have hCh : Chg [T2] w5 (w5.setCell ⟨T2, 1, none⟩ (.slice ca' (nc + 1) cc')) := Chg.set T2 1 _ (by simp)
              refine ⟨ca', cc', nc + 1, _, by simpa using HB25.out.set 1 (.slice ca' (nc + 1) cc'), HB35.out.chg hCh (by simp; have := HT2.out; have := HT3.out; omega), HB45.out.chg hCh (by simp; have := HT2.out; have := HT4.out; omega), HO5.out.off hCh HB25.out, ?_, by have := HPle.out; omega, ?_, ?_⟩
              · simp; have := HNC.out; omega
              · refine ⟨(⟨cl, []⟩, .slice none 0 0), ?_, rfl⟩
                have := HPle.out; have := HNC.out
                rw [List.append_assoc, List.getElem?_append_right (by simp; omega)]
                simp
                rw [show P - min P C.length = 0 by omega]; rfl
              · exact ((Chg.ext HE5.out : Chg [T2] w w5).trans hCh).toExt (fun t ht => by simp at ht; have := HT2.out; omega)
          case rest =>
            obtain ⟨ca2, cc2, nc2, C2, hB2n, hB3n, hB4n, hO2n, hnc2, hP2, ⟨⟨⟨qid, sl⟩, sv⟩, hq, hid⟩, hE2n⟩ := hcut
            obtain rfl : cl = qid := hid.symm
            have HB2 := Lib.hid hB2n; have HB3 := Lib.hid hB3n; have HB4 := Lib.hid hB4n; have HO2 := Lib.hid hO2n; have HE2 := Lib.hid hE2n; have HNC2 := Lib.hid hnc2; have HQ := Lib.hid hq
            have hcq : (withC b cl)[posL (idsB b) cl]? = some ⟨cl, sl⟩ := by rw [← HP.out]; have h1 := hO2n.clients; dsimp only at h1; rw [← h1, List.getElem?_map, hq]; rfl
            have hfn := find_none b HBR.out cl sq (by rw [← HF.out]) _ hcq
            have hsl4 : sl.length ≤ 4 := by
              rcases hfn.2.2 with h1 | h1
              · exact HS.out _ h1
              · have h1 : sl = [] := h1
                rw [h1]; simp
            have HCQ := Lib.hid hcq; have HFN := Lib.hid hfn
            have hsv := hO2n.cs _ (List.mem_of_getElem? hq)
            obtain ⟨sa, sc, hsve, hs1, hs2, hs3⟩ := own_slice hsv
            dsimp only at hsve
            subst hsve
            dsimp only at hsv hs1 hs3
            obtain ⟨m, hm⟩ : ∃ m, m = sl.length := ⟨_, rfl⟩
            rw [← hm] at hsv hs1 hs3 HQ hsl4
            obtain ⟨ca3, cc3, he3, hcc3, hcc4, hg3⟩ := own_slice hO2n.co
            rw [← hnc2] at he3 hcc3 hg3
            cases he3
            obtain ⟨g, rfl⟩ := hg3 (by omega)
            have HSV := Lib.hid hsv; have HM := Lib.hid hm; have HS3 := Lib.hid hs3
            have b0 := hB2n.cell 0 rfl; have b1 := hB2n.cell 1 rfl
            simp only [List.getElem_toArray, List.getElem_cons_zero, List.getElem_cons_succ] at b0 b1
            have hP2' : (P : Int) < (nc2 : Int) := by omega
            clear hB2n hB3n hB4n hO2n hE2n hnc2 hq hcq hfn hsv hm hs3 hg3 hid
            go_upto_region 12 with fail
            apply Mono.region1 9 Ext [.is _, .is _, .is _, .is _, .is _, .is _, .is _, .is _, .is _] (by kernel_rfl) Ext.refl (fun _ _ _ => Ext.trans) (by kernel_rfl) rfl rfl trivial
            focus
              iterate 9 (apply Mono.step_is; (· refine Mono.obl_mk fun w9 hE9 _ K hK => ?_; (have q0 := hE9.cell (show wc.drew.cell? _ = _ from b0)); (have q1 := hE9.cell (show wc.drew.cell? _ = _ from b1)); clear hE9; go_wp2_with fail; simp only [Act.put, List.setIfInBounds_toArray, List.set_cons_succ, List.set_cons_zero] at hK; exact hK _ _ (Ext.refl _) (Mono.is_rfl _ _)); simp only [Act.put, List.setIfInBounds_toArray, List.set_cons_succ, List.set_cons_zero])
              refine Mono.step_end fun w5 hE5 hkn => ?_
              simp only [List.drop_succ_cons, List.drop_zero]
              clear hkn
              have hE5 : Ext wc w5 := (Ext.drew wc).trans hE5
              have HB2 := Lib.hid (HB2.out.ext hE5); have HB3 := Lib.hid (HB3.out.ext hE5); have HB4 := Lib.hid (HB4.out.ext hE5); have HO2 := Lib.hid (HO2.out.ext hE5); have HE2 := Lib.hid (HE2.out.trans hE5); have HSV := Lib.hid (own_ext HSV.out hE5)
              have b0 := HB2.out.cell 0 rfl; have e4 := HB3.out.cell 4 rfl
              simp only [List.getElem_toArray, List.getElem_cons_zero, List.getElem_cons_succ] at b0 e4
              obtain ⟨N, hN⟩ : ∃ N, N = w5.heap.size := ⟨_, rfl⟩
              obtain ⟨rowb, hrowb⟩ : ∃ o, o = (Value.slice la nl lc).ownBlock.toList := ⟨_, rfl⟩
              have hrl : ∀ t ∈ rowb, t < N := fun t ht => by rw [hrowb] at ht; rw [hN]; exact own_lt HO2.out.lo t ht
              have hlo := HO2.out.lo
              rw [← HNL.out] at hlo
              have HLO := Lib.hid hlo; have HN := Lib.hid hN; have HRL := Lib.hid hrl; have HROW := Lib.hid hrowb
              obtain ⟨i9, hi9, hz9, hs9, hy9⟩ := info_parts infoLf
              have HNEW : Hid (∀ (v : Value) (W W' : World), W.ownsRow N 5 1 v dn (u8s d) → Chg rowb W W' → W'.ownsRow N 5 1 v dn (u8s d)) := Lib.hid (fun v W W' h hC => own_off h hC (fun t ht hm => by have := (own_type h t ht).1; have := HRL.out t hm; omega))
              have hNB : w.heap.size ≤ N := by rw [hN]; exact HE2.out.size
              clear hE5 b1 hlo hN hrl hrowb
              go_upto_region 13 with fail
              apply Mono3.region2 8 6 Ext (Chg rowb) [.is _, .is _, .is _, .is _, .rel (fun v W => W.ownsRow N 5 1 v dn (u8s d)), .rel (fun u W => ∃ q v, u = .slice (some ⟨q, 0, none⟩) 1 1 ∧ N ≤ q ∧ Blk W q #[v] 27 ∧ W.ownsRow N 5 1 v dn (u8s d)), .rel (fun u W => ∃ v, W.ownsRow w.heap.size 27 1 u (nl + 1) (L.map (·.2) ++ [v]) ∧ W.ownsRow N 5 1 v dn (u8s d)), .is _] (by kernel_rfl) ⟨fun _ _ h => Chg.ext h, fun _ _ _ => Ext.trans, fun _ _ _ => Chg.trans⟩ (Ext.refl _) (by kernel_rfl) rfl rfl
                ⟨fun u w w' h hE => HNEW.out _ _ _ h hE, fun u w w' h hE => (by obtain ⟨q, v, h1, h2, h3, h4⟩ := h; exact ⟨q, v, h1, h2, h3.chg (show Chg rowb w w' from hE) (fun hm => by have := HRL.out q hm; omega), HNEW.out _ _ _ h4 hE⟩), fun u w w' h hE => (by obtain ⟨v, h1, h2⟩ := h; exact ⟨v, own_ext h1 (show Ext w w' from hE), own_ext h2 (show Ext w w' from hE)⟩), trivial⟩
              focus
                iterate 4 (apply Mono3.step_is; (· refine Mono3.obl_early (by decide) (by kernel_rfl) fun w9 hE9 _ K hK => ?_; (have q0 := hE9.cell (show w5.drew.cell? _ = _ from b0)); (have q4 := hE9.cell (show w5.drew.cell? _ = _ from e4)); clear hE9; go_wp2_with fail; simp only [Act.put, List.setIfInBounds_toArray, List.set_cons_succ, List.set_cons_zero] at hK; exact hK _ _ (Ext.refl _) (Mono3.is_rfl _ _)); simp only [Act.put, List.setIfInBounds_toArray, List.set_cons_succ, List.set_cons_zero])
                refine Mono3.step_rel (Mono3.obl_early (by decide) (by kernel_rfl) fun w9 hE9 _ K hK => ?_) fun v84 => ?_
                · have HE9 := Lib.hid (show Ext w5 w9 from (Ext.drew w5).trans hE9)
                  clear hE9
                  go_wp2_with fail
                  refine (clone8 _ d _ (HD.out.ext (HE2.out.trans HE9.out)) (by rw [HDN.out]; omega)).mono ?_
                  rintro e w10 ⟨v', rfl, ho, hE⟩
                  rw [u8s_len, HDN.out] at ho
                  have HO := Lib.hid (own_low ho (show N ≤ _ from by rw [HN.out]; exact HE9.out.size)); have HE := Lib.hid hE
                  clear ho hE
                  go_wp2_with fail
                  simp only [Act.put, List.setIfInBounds_toArray, List.set_cons_succ, List.set_cons_zero] at hK
                  exact hK _ _ HE.out (Mono3.rel_mk HO.out)
                simp only [Act.put, List.setIfInBounds_toArray, List.set_cons_succ, List.set_cons_zero]
                refine Mono3.step_rel (Mono3.obl_early (by decide) (by kernel_rfl) fun w9 hE9 hkk K hK => ?_) fun v85 => ?_
                · have h4 := hkk.1 (by kernel_rfl)
                  obtain ⟨a4, c4, rfl, -, -, -⟩ := own_slice h4
                  have H4 := Lib.hid h4; have HS9 := Lib.hid (show w5.heap.size ≤ w9.heap.size from hE9.size)
                  clear h4 hkk hE9
                  go_wp2_with fail
                  simp only [Act.put, List.setIfInBounds_toArray, List.set_cons_succ, List.set_cons_zero] at hK
                  exact hK _ _ (Ext.alloc _ _) (Mono3.rel_mk ⟨w9.heap.size, _, rfl, by rw [HN.out]; exact HS9.out, Blk.new _ _ _, own_ext H4.out (Ext.alloc _ _)⟩)
                simp only [Act.put, List.setIfInBounds_toArray, List.set_cons_succ, List.set_cons_zero]
                refine Mono3.step_rel (Mono3.obl_loud fun w9 hE9 hkk K hK => ?_) fun v86 => ?_
                · obtain ⟨q, v, rfl, hq1, hq2, hq3⟩ := hkk.2.1 (by kernel_rfl)
                  have HQ2 := Lib.hid hq2; have HQ3 := Lib.hid hq3
                  have HE9 := Lib.hid (show Ext w5 w9 from (Ext.drew w5).trans hE9)
                  clear hkk hE9 hq2 hq3
                  go_wp2_with (at_builtin; refine wpList_append_own_at w9 rfl (.tmp 81) (.tmp 85) _ rfl w.heap.size 27 i9 _ 1 24 Tryd.underlying22 hi9 hz9 hs9 hy9 rfl (by decide) (.slice la nl lc) nl (L.map (·.2)) rfl (own_ext HLO.out HE9.out) ⟨q, 0, none⟩ 1 1 [v] rfl rfl (fun j u hj => by rw [Addr.add_lit, Nat.zero_add]; exact HQ2.out.cell j (by simpa using hj)) (fun u hu => by simp at hu; subst hu; obtain ⟨a4, c4, h4, -⟩ := own_slice HQ3.out; rw [h4]; rfl) (by unfold maxLen; omega) (by omega) (Nat.le_trans HE2.out.size HE9.out.size) fun v' w' g1 g2 _ g4 => ?_; have G1 := Lib.hid g1; have G2 := Lib.hid g2; clear g1 g2 g4)
                  simp only [Act.put, List.setIfInBounds_toArray, List.set_cons_succ, List.set_cons_zero] at hK
                  exact hK _ _ (by rw [HROW.out]; exact Chg.grown G2.out) (Mono3.rel_mk ⟨v, G1.out, HNEW.out _ _ _ HQ3.out (by rw [HROW.out]; exact Chg.grown G2.out)⟩)
                simp only [Act.put, List.setIfInBounds_toArray, List.set_cons_succ, List.set_cons_zero]
                iterate 1 (apply Mono3.step_is; (· refine Mono3.obl_quiet (by decide) (by kernel_rfl) fun w9 hE9 _ K hK => ?_; clear hE9; go_wp2_with fail; simp only [Act.put, List.setIfInBounds_toArray, List.set_cons_succ, List.set_cons_zero] at hK; exact hK _ _ (Ext.refl _) (Mono3.is_rfl _ _)); simp only [Act.put, List.setIfInBounds_toArray, List.set_cons_succ, List.set_cons_zero])
                refine Mono3.step_end fun w9 hE9 hkn => ?_
                simp only [List.drop_succ_cons, List.drop_zero]
                obtain ⟨dv9, ho9, hd9⟩ := hkn.2.2.1
                replace hE9 : Chg rowb w5 w9 := Chg.drew.trans hE9
                obtain ⟨la6, lc6, rfl, hl61, hl62, -⟩ := own_slice ho9
                have hE9' := hE9
                rw [HROW.out] at hE9'
                have hB2 := HB2.out.chg hE9' (own_notin HO2.out.lo HB2.out (by decide))
                have hB3 := HB3.out.chg hE9' (own_notin HO2.out.lo HB3.out (by decide))
                have hB4 := HB4.out.chg hE9' (own_notin HO2.out.lo HB4.out (by decide))
                have hO9 := HO2.out.leaf hE9' (by rw [← HNL.out]; exact ho9) (by rw [HDN.out]; exact own_low hd9 hNB)
                have hSV := own_off HSV.out hE9' (own_apart HSV.out HO2.out.lo (by decide))
                have hE29 : Ext w w9 := ((Chg.ext HE2.out : Chg (Value.slice la nl lc).ownBlock.toList w _).trans hE9').toExt (fun t ht => (own_type HO2.out.lo t ht).1)
                have hf9 := hB2.free 0
                have b0 := hB2.cell 0 rfl
                simp only [List.getElem_toArray, List.getElem_cons_zero, List.getElem_cons_succ] at b0
                have HB2 := Lib.hid hB2; have HB3 := Lib.hid hB3; have HB4 := Lib.hid hB4; have HO2 := Lib.hid hO9; have HSV := Lib.hid hSV; have HE2 := Lib.hid hE29
                clear hkn hE9 hE9' hB2 hB3 hB4 hO9 hSV hE29 ho9 hd9 HNEW e4
                go_upto_region 14 with fail
                have hCh : Chg [T2] w9 (w9.setCell ⟨T2, 0, none⟩ (.slice la6 (nl + 1) lc6)) := Chg.set T2 0 _ (by simp)
                have hB2 := HB2.out.set 0 (.slice la6 (nl + 1) lc6)
                have hB3 := HB3.out.chg hCh (by simp; have := HT2.out; have := HT3.out; omega)
                have hB4 := HB4.out.chg hCh (by simp; have := HT2.out; have := HT4.out; omega)
                have hO2 := HO2.out.off hCh HB2.out
                have hSV := own_off HSV.out hCh (fun t ht hm => by simp at hm; subst hm; exact own_notin HSV.out HB2.out (by decide) ht)
                have hE2 : Ext w (w9.setCell ⟨T2, 0, none⟩ (.slice la6 (nl + 1) lc6)) := ((Chg.ext HE2.out : Chg [T2] w w9).trans hCh).toExt (fun t ht => by simp at ht; have := HT2.out; omega)
                simp only [List.setIfInBounds_toArray, List.set_cons_zero] at hB2
                generalize w9.setCell ⟨T2, 0, none⟩ (.slice la6 (nl + 1) lc6) = W6 at *
                have HB2 := Lib.hid hB2; have HB3 := Lib.hid hB3; have HB4 := Lib.hid hB4; have HO2 := Lib.hid hO2; have HSV := Lib.hid hSV; have HE2 := Lib.hid hE2
                clear hCh hB2 hB3 hB4 hO2 hSV hE2 hf9
                obtain ⟨N6, hN6⟩ : ∃ N, N = W6.heap.size := ⟨_, rfl⟩
                obtain ⟨srow, hsrow⟩ : ∃ o, o = (Value.slice sa m sc).ownBlock.toList := ⟨_, rfl⟩
                have hrl : ∀ t ∈ srow, t < N6 := fun t ht => by rw [hsrow] at ht; rw [hN6]; exact own_lt HSV.out t ht
                have HN6 := Lib.hid hN6; have HRL6 := Lib.hid hrl; have HSROW := Lib.hid hsrow
                obtain ⟨i9, hi9, hz9, hs9, hy9⟩ := info_parts infoSl
                have hNB6 : w.heap.size ≤ N6 := by rw [hN6]; exact HE2.out.size
                have c1 := own_cell (n := nc2) (by have := HO2.out.co; rwa [← HNC2.out] at this) (P * 2 + 1) (cl_get C2 P _ HQ.out).2
                have e3 := HB3.out.cell 3 rfl
                simp only [List.getElem_toArray, List.getElem_cons_zero, List.getElem_cons_succ] at e3
                dsimp only at c1
                clear hN6 hrl hsrow b0
                apply Mono3.region2 13 10 Ext (Chg srow) [.is _, .is _, .is _, .is _, .is _, .is _, .is _, .is _, .is _, .rel (fun u W => ∃ q, u = .slice (some ⟨q, 0, none⟩) 1 1 ∧ N6 ≤ q ∧ Blk W q #[.int .u64 sq, .int .u64 (nl : Int)] 49), .rel (fun u W => W.ownsRow w.heap.size 49 2 u (m + 1) ((sl.map slR).flatten ++ [.int .u64 sq, .int .u64 (nl : Int)]) ∧ (u.ownBlock = (Value.slice sa m sc).ownBlock ∨ ∃ q, u.ownBlock = some q ∧ N6 ≤ q)), .is _, .is _] (by kernel_rfl) ⟨fun _ _ h => Chg.ext h, fun _ _ _ => Ext.trans, fun _ _ _ => Chg.trans⟩ (Ext.refl _) (by kernel_rfl) rfl rfl
                  ⟨fun u w w' h hE => (by obtain ⟨q, h1, h2, h3⟩ := h; exact ⟨q, h1, h2, h3.chg (show Chg srow w w' from hE) (fun hm => by have := HRL6.out q hm; omega)⟩), fun u w w' h hE => ⟨own_ext h.1 (show Ext w w' from hE), h.2⟩, trivial⟩
                focus
                  iterate 1 (apply Mono3.step_is; (· refine Mono3.obl_quiet (by decide) (by kernel_rfl) fun w9 hE9 _ K hK => ?_; clear hE9; go_wp2_with fail; simp only [Act.put, List.setIfInBounds_toArray, List.set_cons_succ, List.set_cons_zero] at hK; exact hK _ _ (Ext.refl _) (Mono3.is_rfl _ _)); simp only [Act.put, List.setIfInBounds_toArray, List.set_cons_succ, List.set_cons_zero])
                  iterate 8 (apply Mono3.step_is; (· refine Mono3.obl_early (by decide) (by kernel_rfl) fun w9 hE9 _ K hK => ?_; (have q0 := hE9.cell (show W6.drew.cell? _ = _ from c1)); (have q4 := hE9.cell (show W6.drew.cell? _ = _ from e3)); clear hE9; go_wp2_with fail; simp only [Act.put, List.setIfInBounds_toArray, List.set_cons_succ, List.set_cons_zero] at hK; exact hK _ _ (Ext.refl _) (Mono3.is_rfl _ _)); simp only [Act.put, List.setIfInBounds_toArray, List.set_cons_succ, List.set_cons_zero])
                  refine Mono3.step_rel (Mono3.obl_early (by decide) (by kernel_rfl) fun w9 hE9 _ K hK => ?_) fun v97 => ?_
                  · have HS9 := Lib.hid (show W6.heap.size ≤ w9.heap.size from hE9.size)
                    clear hE9
                    go_wp2_with fail
                    simp only [Act.put, List.setIfInBounds_toArray, List.set_cons_succ, List.set_cons_zero] at hK
                    exact hK _ _ (Ext.alloc _ _) (Mono3.rel_mk ⟨w9.heap.size, rfl, by rw [HN6.out]; exact HS9.out, Blk.new _ _ _⟩)
                  simp only [Act.put, List.setIfInBounds_toArray, List.set_cons_succ, List.set_cons_zero]
                  refine Mono3.step_rel (Mono3.obl_loud fun w9 hE9 hkk K hK => ?_) fun v98 => ?_
                  · obtain ⟨q, rfl, hq1, hq2⟩ := hkk.1 (by kernel_rfl)
                    have HQ2 := Lib.hid hq2
                    have HE9 := Lib.hid (show Ext W6 w9 from (Ext.drew W6).trans hE9)
                    clear hkk hE9 hq2
                    go_wp2_with (at_builtin; refine wpList_append_own_at w9 rfl (.tmp 92) (.tmp 97) _ rfl w.heap.size 49 i9 _ 2 16 Tryd.underlying45 hi9 hz9 hs9 hy9 rfl (by decide) (.slice sa m sc) m (sl.map slR).flatten rfl (own_ext HSV.out HE9.out) ⟨q, 0, none⟩ 1 1 [.int .u64 sq, .int .u64 (nl : Int)] rfl rfl (fun j u hj => by rw [Addr.add_lit, Nat.zero_add]; exact HQ2.out.cell j (by simpa using hj)) (fun u hu => by simp at hu; rcases hu with rfl | rfl <;> rfl) (by unfold maxLen; omega) (by omega) (Nat.le_trans HE2.out.size HE9.out.size) fun v' w' g1 g2 _ g4 => ?_; have G1 := Lib.hid g1; have G2 := Lib.hid g2; have G4 := Lib.hid g4; clear g1 g2 g4)
                    simp only [Act.put, List.setIfInBounds_toArray, List.set_cons_succ, List.set_cons_zero] at hK
                    exact hK _ _ (by rw [HSROW.out]; exact Chg.grown G2.out) (Mono3.rel_mk ⟨G1.out, G4.out.imp id fun h => ⟨_, h, by rw [HN6.out]; exact HE9.out.size⟩⟩)
                  simp only [Act.put, List.setIfInBounds_toArray, List.set_cons_succ, List.set_cons_zero]
                  iterate 2 (apply Mono3.step_is; (· refine Mono3.obl_quiet (by decide) (by kernel_rfl) fun w9 hE9 _ K hK => ?_; clear hE9; go_wp2_with fail; simp only [Act.put, List.setIfInBounds_toArray, List.set_cons_succ, List.set_cons_zero] at hK; exact hK _ _ (Ext.refl _) (Mono3.is_rfl _ _)); simp only [Act.put, List.setIfInBounds_toArray, List.set_cons_succ, List.set_cons_zero])
                  refine Mono3.step_end fun w7 hE9 hkn => ?_
                  simp only [List.drop_succ_cons, List.drop_zero]
                  obtain ⟨ho7, hbl7⟩ := hkn.2.1
                  replace hE9 : Chg srow W6 w7 := Chg.drew.trans hE9
                  rw [HSROW.out] at hE9
                  have HE97 := Lib.hid hE9
                  obtain ⟨sa7, sc7, rfl, hs71, hs72, hs73⟩ := own_slice ho7
                  obtain ⟨sb, rfl⟩ := hs73 (by omega)
                  have hO7 : w7.ownsRow w.heap.size 47 2 (.slice (some ⟨g, 0, none⟩) nc2 cc2) nc2 (C2.map clR).flatten := by
                    have := own_off HO2.out.co hE9 (fun t ht hm => own_apart HO2.out.co HSV.out (by decide) t ht hm)
                    rwa [← HNC2.out] at this
                  have c7 := own_cell hO7 (P * 2 + 1) (cl_get C2 P _ HQ.out).2
                  have f7 := own_free hO7 (P * 2 + 1)
                  dsimp only at c7
                  have HO7 := Lib.hid hO7; have HS7 := Lib.hid ho7; have HBL7 := Lib.hid hbl7
                  clear hkn hE9 hO7 ho7 hbl7 hs73 c1 e3
                  go_upto_region 15 with fail
                  have hCs : Chg [g] w7 (w7.setCell ⟨g, P * 2 + 1, none⟩ (.slice (some ⟨sb, 0, none⟩) (m + 1) sc7)) := Chg.set g (P * 2 + 1) _ (by simp)
                  have hC8 : Chg ((Value.slice sa m sc).ownBlock.toList ++ [g]) W6 (w7.setCell ⟨g, P * 2 + 1, none⟩ (.slice (some ⟨sb, 0, none⟩) (m + 1) sc7)) := (HE97.out.mono fun t ht => .inl (List.mem_append_left _ ht)).trans' hCs (fun t ht => .inl (List.mem_append_right _ ht))
                  have hS8 : ∀ t ∈ (Value.slice sa m sc).ownBlock.toList ++ [g], t ∈ (Value.slice sa m sc).ownBlock.toList ∨ t ∈ (Value.slice (some ⟨g, 0, none⟩) nc2 cc2).ownBlock.toList := fun t ht => (List.mem_append.1 ht).imp id fun h => by simp at h; subst h; simp [Value.ownBlock]
                  have hn8 : ∀ (t : Nat) (c : Array Value) (e : TypeId), Blk W6 t c e → e ≠ 49 → e ≠ 47 → t ∉ (Value.slice sa m sc).ownBlock.toList ++ [g] := fun t c e hb h1 h2 hm => (hS8 t hm).elim (own_notin HSV.out hb (Ne.symm h1)) (own_notin HO2.out.co hb (Ne.symm h2))
                  have hB2 := HB2.out.chg hC8 (hn8 _ _ _ HB2.out (by decide) (by decide))
                  have hB4 := HB4.out.chg hC8 (hn8 _ _ _ HB4.out (by decide) (by decide))
                  have hE8 : Ext w (w7.setCell ⟨g, P * 2 + 1, none⟩ (.slice (some ⟨sb, 0, none⟩) (m + 1) sc7)) := ((Chg.ext HE2.out : Chg ((Value.slice sa m sc).ownBlock.toList ++ [g]) w W6).trans hC8).toExt (fun t ht => (hS8 t ht).elim (fun h => (own_type HSV.out t h).1) (fun h => (own_type HO2.out.co t h).1))
                  have hs8 : (w7.setCell ⟨g, P * 2 + 1, none⟩ (.slice (some ⟨sb, 0, none⟩) (m + 1) sc7)).ownsRow w.heap.size 49 2 (.slice (some ⟨sb, 0, none⟩) (m + 1) sc7) (m + 1) ((sl ++ [(sq, (nl : Int))]).map slR).flatten := by
                    have := own_off HS7.out hCs (fun t ht hm => by simp at hm; subst hm; exact own_apart HS7.out HO7.out (by decide) _ ht (by simp [Value.ownBlock]))
                    simpa [slR] using this
                  have hco8 := own_set HO7.out (P * 2 + 1) (by rw [HO7.out.1]; omega) (.slice (some ⟨sb, 0, none⟩) (m + 1) sc7)
                  rw [← cl_set2 C2 P _ (sl ++ [(sq, (nl : Int))]) _ HQ.out] at hco8
                  have hlen8 : (sl ++ [(sq, (nl : Int))]).length = m + 1 := by rw [List.length_append, ← HM.out]; rfl
                  have hO8 := HO2.out.turn HQ.out hC8 hS8 (l := sl ++ [(sq, (nl : Int))]) (by rw [hlen8]; exact hs8) (HBL7.out.imp id fun ⟨q, h1, h2⟩ => ⟨q, h1, by rw [← HN6.out]; exact h2⟩) (by rw [← HNC2.out]; exact hco8)
                  dsimp only at hO8
                  have hQ8 : (C2.set P (⟨cl, sl ++ [(sq, (nl : Int))]⟩, Value.slice (some ⟨sb, 0, none⟩) (m + 1) sc7))[P]? = some (⟨cl, sl ++ [(sq, (nl : Int))]⟩, Value.slice (some ⟨sb, 0, none⟩) (m + 1) sc7) := List.getElem?_set_self (List.getElem?_eq_some_iff.1 HQ.out).1
                  have hNC8 : nc2 = (C2.set P (⟨cl, sl ++ [(sq, (nl : Int))]⟩, Value.slice (some ⟨sb, 0, none⟩) (m + 1) sc7)).length := by rw [List.length_set]; exact HNC2.out
                  generalize w7.setCell ⟨g, P * 2 + 1, none⟩ (.slice (some ⟨sb, 0, none⟩) (m + 1) sc7) = W8 at *
                  obtain ⟨C8, hC8e⟩ : ∃ C8, C8 = C2.set P (⟨cl, sl ++ [(sq, (nl : Int))]⟩, Value.slice (some ⟨sb, 0, none⟩) (m + 1) sc7) := ⟨_, rfl⟩
                  rw [← hC8e] at hO8 hQ8 hNC8
                  have c8 := own_cell (n := nc2) (by have := hO8.co; rwa [← hNC8] at this) (P * 2 + 1) (cl_get C8 P _ hQ8).2
                  dsimp only at c8
                  obtain ⟨M, hM⟩ : ∃ M, M = m + 1 := ⟨_, rfl⟩
                  rw [← hM] at hs8 hlen8 hQ8 c8 hs71 ⊢
                  have HB2 := Lib.hid hB2; have HB4 := Lib.hid hB4; have HE8 := Lib.hid hE8; have HS8 := Lib.hid hs8; have HO8 := Lib.hid hO8; have HQ8 := Lib.hid hQ8; have HL8 := Lib.hid hlen8; have HMm := Lib.hid hM; have HNC8 := Lib.hid hNC8
                  have HM4 : Hid (M ≤ 5) := Lib.hid (by omega)
                  clear hCs hC8 hS8 hn8 hB2 hB4 hE8 hs8 hco8 hlen8 hO8 hQ8 hC8e hM hNC8 c7 f7
                  go_wp2_with fail
                  refine (sort_c w.heap.size W8 sb M sc7 (sl ++ [(sq, (nl : Int))]) HS8.out HL8.out.symm (by rw [HL8.out]; have := HM4.out; omega)).mono ?_
                  rintro e w9 ⟨rfl, l9, hp9, hpw9, ho9, hC9⟩
                  have hl9 : l9 = insL sl (sq, (nl : Int)) := sort_eq sl l9 (sq, (nl : Int)) HFN.out.1 HFN.out.2.1 hp9 hpw9
                  rw [HL8.out] at ho9
                  have hlen9 : l9.length = M := by rw [hp9.length_eq]; exact HL8.out
                  have hco9 : w9.ownsRow w.heap.size 47 2 (.slice (some ⟨g, 0, none⟩) nc2 cc2) nc2 (C8.map clR).flatten := by
                    have := own_off HO8.out.co hC9 (own_apart HO8.out.co HS8.out (by decide))
                    rwa [← HNC8.out] at this
                  have hO9 := HO8.out.turn HQ8.out hC9 (fun t ht => .inl ht) (l := l9) (by rw [hlen9]; exact ho9) (.inl rfl) (by rw [cl_set2 C8 P _ _ _ HQ8.out, set_same (cl_get C8 P _ HQ8.out).2, ← HNC8.out]; exact hco9)
                  dsimp only at hO9
                  have c9 := own_cell hco9 (P * 2 + 1) (cl_get C8 P _ HQ8.out).2
                  have f9 := own_free hco9 (P * 2 + 1)
                  dsimp only at c9
                  have hB2 := HB2.out.chg hC9 (own_notin HS8.out HB2.out (by decide))
                  have hB4 := HB4.out.chg hC9 (own_notin HS8.out HB4.out (by decide))
                  have hE9 : Ext w w9 := ((Chg.ext HE8.out : Chg (Value.slice (some ⟨sb, 0, none⟩) M sc7).ownBlock.toList w W8).trans hC9).toExt (fun t ht => (own_type HS8.out t ht).1)
                  have hQ9 : (C8.set P (⟨cl, l9⟩, Value.slice (some ⟨sb, 0, none⟩) M sc7))[P]? = some (⟨cl, l9⟩, Value.slice (some ⟨sb, 0, none⟩) M sc7) := List.getElem?_set_self (List.getElem?_eq_some_iff.1 HQ8.out).1
                  have HB2 := Lib.hid hB2; have HB4 := Lib.hid hB4; have HE9 := Lib.hid hE9; have HO9 := Lib.hid hO9; have HQ9 := Lib.hid hQ9; have HL9 := Lib.hid hl9; have HLN9 := Lib.hid hlen9; have HF9 := Lib.hid f9
                  have hM5 := HM4.out
                  obtain ⟨kk, hkk⟩ : ∃ kk, kk = M - 4 := ⟨_, rfl⟩
                  have HKK := Lib.hid hkk
                  have hk1 : (kk : Int) ≤ (M : Int) := by omega
                  have hk2 : (kk : Int) ≤ (sc7 : Int) := by omega
                  have hk3 : (M : Int) ≤ (sc7 : Int) := by omega
                  have hk4 : ¬ (sc7 = kk) := by have := HMm.out; omega
                  have HMX : Hid (max 0 ((M : Int) - 4) = (kk : Int)) := Lib.hid (by omega)
                  clear hkk
                  clear hp9 hpw9 ho9 hC9 hlen9 hco9 hO9 f9 hB2 hB4 hE9 hQ9 c8 hl9
                  go_upto_region 16 with fail
                  apply Mono.region1 15 Ext [.is _, .is _, .is _, .is _, .is _, .is _, .is _, .is _, .is _, .is _, .is _, .is (.int .i64 (kk : Int)), .is (.slice (some ⟨sb, kk * 2, none⟩) (M - kk) (sc7 - kk)), .is _, .is _] (by kernel_rfl) Ext.refl (fun _ _ _ => Ext.trans) (by kernel_rfl) rfl rfl trivial
                  focus
                    iterate 11 (apply Mono.step_is; (· refine Mono.obl_mk fun w10 hE10 _ K hK => ?_; (have q0 := hE10.cell (show w9.drew.cell? _ = _ from c9)); clear hE10; go_wp2_with fail; simp only [Act.put, List.setIfInBounds_toArray, List.set_cons_succ, List.set_cons_zero] at hK; exact hK _ _ (Ext.refl _) (Mono.is_rfl _ _)); simp only [Act.put, List.setIfInBounds_toArray, List.set_cons_succ, List.set_cons_zero])
                    apply Mono.step_is
                    · refine Mono.obl_mk fun w10 hE10 _ K hK => ?_
                      clear hE10
                      go_wp2_with fail
                      simp only [Act.put, List.setIfInBounds_toArray, List.set_cons_succ, List.set_cons_zero] at hK
                      rw [HMX.out]
                      exact hK _ _ (Ext.refl _) (Mono.is_rfl _ _)
                    simp only [Act.put, List.setIfInBounds_toArray, List.set_cons_succ, List.set_cons_zero]
                    apply Mono.step_is
                    · refine Mono.obl_mk fun w10 hE10 _ K hK => ?_
                      clear hE10
                      go_wp2_with fail
                      simp only [Act.put, List.setIfInBounds_toArray, List.set_cons_succ, List.set_cons_zero] at hK
                      exact hK _ _ (Ext.refl _) (Mono.is_rfl _ _)
                    simp only [Act.put, List.setIfInBounds_toArray, List.set_cons_succ, List.set_cons_zero]
                    iterate 2 (apply Mono.step_is; (· refine Mono.obl_mk fun w10 hE10 _ K hK => ?_; (have q0 := hE10.cell (show w9.drew.cell? _ = _ from c9)); clear hE10; go_wp2_with fail; simp only [Act.put, List.setIfInBounds_toArray, List.set_cons_succ, List.set_cons_zero] at hK; exact hK _ _ (Ext.refl _) (Mono.is_rfl _ _)); simp only [Act.put, List.setIfInBounds_toArray, List.set_cons_succ, List.set_cons_zero])
                    refine Mono.step_end fun w10 hE10 hkn => ?_
                    simp only [List.drop_succ_cons, List.drop_zero]
                    replace hE10 : Ext w9 w10 := (Ext.drew w9).trans hE10
                    have q0 := hE10.cell c9
                    have hB2 := HB2.out.ext hE10
                    have hB4 := HB4.out.ext hE10
                    have hO10 := HO9.out.ext hE10
                    have hE11 := HE9.out.trans hE10
                    have f10 := own_free (n := nc2) (g := g) (cap := cc2) (by have := hO10.co; rwa [List.length_set, ← HNC8.out] at this) (P * 2 + 1)
                    have HB2 := Lib.hid hB2; have HB4 := Lib.hid hB4; have HO10 := Lib.hid hO10; have HE11 := Lib.hid hE11
                    clear hkn hE10 c9 hB2 hB4 hO10 hE11
                    go_upto_region 17 with fail
                    have hCf : Chg [g] w10 (w10.setCell ⟨g, P * 2 + 1, none⟩ (.slice (some ⟨sb, kk * 2, none⟩) (M - kk) (sc7 - kk))) := Chg.set g (P * 2 + 1) _ (by simp)
                    have hng : ∀ (t : Nat) (c : Array Value) (e : TypeId), Blk w10 t c e → e ≠ 47 → t ∉ [g] := fun t c e hb h2 hm => own_notin HO10.out.co hb (Ne.symm h2) (by simp at hm; subst hm; simp [Value.ownBlock])
                    have hB2 := HB2.out.chg hCf (hng _ _ _ HB2.out (by decide))
                    have hB4 := HB4.out.chg hCf (hng _ _ _ HB4.out (by decide))
                    have hcut := HO10.out.cut HQ9.out HLN9.out.symm (show kk ≤ M by omega)
                    have hEf : Ext w (w10.setCell ⟨g, P * 2 + 1, none⟩ (.slice (some ⟨sb, kk * 2, none⟩) (M - kk) (sc7 - kk))) := ((Chg.ext HE11.out : Chg [g] w w10).trans hCf).toExt (fun t ht => (own_type HO10.out.co t (by simp at ht; subst ht; simp [Value.ownBlock])).1)
                    generalize w10.setCell ⟨g, P * 2 + 1, none⟩ (.slice (some ⟨sb, kk * 2, none⟩) (M - kk) (sc7 - kk)) = WF at *
                    have HB2 := Lib.hid hB2; have HB4 := Lib.hid hB4; have HCUT := Lib.hid hcut; have HEF := Lib.hid hEf
                    clear hCf hng hB2 hB4 hcut hEf q0 f10
                    go_wp2_with (first | (refine wpList_load_row rfl 25 (.tmp 2) rfl T2 rfl 25 _ (0, 0) _ HB2.out Tryd.underlying25 rfl (by kernel_rfl) ?_) | (refine wpList_store_row rfl 25 (.tmp 4) (.tmp 121) rfl T4 #[.slice la6 (nl + 1) lc6, .slice (some ⟨g, 0, none⟩) nc2 cc2] rfl rfl 25 _ HB4.out (book_size _ _) rfl (by simp [Value.oneCell']) ?_))
                    have hC4 : Chg [T4] WF (WF.setRow T4 #[.slice la6 (nl + 1) lc6, .slice (some ⟨g, 0, none⟩) nc2 cc2]) := Chg.some (grown_rowS WF T4 _) (.inl (by simp))
                    have hXr := HXA.out
                    cases hXr
                    refine apply_ret T4 _ _ _ _ _ _ _ (setRow_heap WF T4 _ _ _ (0, 0) HB4.out) rfl rfl rfl ⟨_, rfl, ?_, ?_⟩
                    · have hfin := HCUT.out.off hC4 HB4.out
                      have e : addB b cl sq d = ⟨b.leaves ++ [d], (((withC b cl).set P ⟨cl, sl ++ [(sq, (nl : Int))]⟩).set P ⟨cl, l9⟩).set P ⟨cl, l9.drop kk⟩⟩ := by
                        unfold addB
                        rw [HCQ.out, ← HNLB.out, ← HP.out, List.set_set, List.set_set]
                        dsimp only [Option.map_some, Option.getD_some]
                        rw [← HL9.out]
                        unfold lastF
                        rw [HLN9.out, HKK.out]
                      rw [e]
                      exact hfin
                    · exact ((Chg.ext HEF.out : Chg [T4] w WF).trans hC4).toExt (fun t ht => by simp at ht; have := HT4.out; omega)
    · have hfe' : (fe == 8) = false := by simpa using hfe
      have hXr : (xb, xn, xf) = (b, fi, fe) := by rw [HX.out]; unfold applyP; rw [if_pos rfl, ← HF.out]; dsimp only; rw [if_neg hfe]
      cases hXr
      go_wp2_with (first | (refine wpList_load_row rfl 25 (.tmp 2) rfl T2 rfl 25 _ (0, 0) _ HB2.out Tryd.underlying25 rfl (by kernel_rfl) ?_) | (refine wpList_store_row rfl 25 (.tmp 4) (.tmp 30) rfl T4 #[.slice la nl lc, .slice ca nc cc] rfl rfl 25 _ HB4.out (book_size _ _) rfl (by simp [Value.oneCell']) ?_))
      have hC4 : Chg [T4] W3 (W3.setRow T4 #[.slice la nl lc, .slice ca nc cc]) := Chg.some (grown_rowS W3 T4 _) (.inl (by simp))
      refine apply_ret T4 _ _ _ _ _ _ _ (setRow_heap W3 T4 _ _ _ (0, 0) HB4.out) rfl rfl rfl ⟨_, rfl, (HO2.out.off hC4 HB4.out).toNew, ?_⟩
      exact ((Chg.ext HE2.out : Chg [T4] w W3).trans hC4).toExt (fun t ht => by simp at ht; have := HT4.out; omega)
  · have hk' : (k == 2) = false := by simpa using hk
    have hXr : (xb, xn, xf) = (b, 0, 8) := by rw [HX.out]; unfold applyP; rw [if_neg hk]
    cases hXr
    go_wp2_with (first | (refine wpList_load_row rfl 25 (.tmp 2) rfl T2 rfl 25 _ (0, 0) _ HB2.out Tryd.underlying25 rfl (by kernel_rfl) ?_) | (refine wpList_store_row rfl 25 (.tmp 4) (.tmp 18) rfl T4 #[.slice la nl lc, .slice ca nc cc] rfl rfl 25 _ HB4.out (book_size _ _) rfl (by simp [Value.oneCell']) ?_))
    have hC4 : Chg [T4] W2 (W2.setRow T4 #[.slice la nl lc, .slice ca nc cc]) := Chg.some (grown_rowS W2 T4 _) (.inl (by simp))
    refine apply_ret T4 _ _ _ _ _ _ _ (setRow_heap W2 T4 _ _ _ (0, 0) HB4.out) rfl rfl rfl ⟨_, rfl, (HO2.out.off hC4 HB4.out).toNew, ?_⟩
    exact ((Chg.ext HE2.out : Chg [T4] w W2).trans hC4).toExt (fun t ht => by simp at ht; have := HT4.out; omega)
end Go.Proofs.YtgefphfnicjbiaaDoor
