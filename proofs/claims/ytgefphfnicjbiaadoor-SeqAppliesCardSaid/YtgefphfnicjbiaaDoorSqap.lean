/- Layer 25 (seq): SeqApplies. PRINTED BY gen/sapp.py -/
import Derived.Test.YtgefphfnicjbiaaDoorSpk
import Derived.Test.YtgefphfnicjbiaaDoorShd
import Derived.Test.YtgefphfnicjbiaaDoorSks
import Derived.Test.YtgefphfnicjbiaaDoorSkv
import Derived.Test.YtgefphfnicjbiaaDoorSkw
import Derived.Test.YtgefphfnicjbiaaDoorSqs
set_option linter.unusedSimpArgs false
set_option linter.unusedVariables false
namespace Go.Proofs.YtgefphfnicjbiaaDoor
open Go Go.RowKit

theorem BookV.shape2 {w : World} {v : Value} {b : Bk} (h : BookV w v b) : ∃ a n c d m e, v = .agg #[.slice a n c, .slice d m e] := by
  obtain ⟨lv, cv, L, C, rfl, -, -, h3, h4, -⟩ := h
  obtain ⟨la, lc, rfl, -⟩ := h3.shape
  obtain ⟨ca, cc, rfl, -⟩ := h4.shape
  exact ⟨_, _, _, _, _, _, rfl⟩
theorem BookV.be {w : World} {v : Value} {b : Bk} (h : BookV w v b) : BkBe b := by
  obtain ⟨lv, cv, L, C, rfl, hL, hC, h3, h4, h5, h6⟩ := h
  obtain ⟨la, lc, -, h1, h2⟩ := h3.shape
  refine ⟨by rw [← hL, List.length_map]; rw [List.length_map] at h1; omega, fun c hc => ?_⟩
  rw [← hC] at hc
  obtain ⟨q, hq, rfl⟩ := List.mem_map.1 hc
  obtain ⟨a, c, -, k1, k2⟩ := RowV.shape (show RowV w 2 q.2 (q.1.slots.map slR) from h6 q hq)
  rw [List.length_map] at k1
  omega
theorem BookV.eqn {w : World} {v : Value} {b b' : Bk} (h : BookV w v b) (e : b = b') : BookV w v b' := e ▸ h
theorem bkok_of_formed {b : Bk} (h : formedK b = true) : BkOk b := by
  obtain ⟨h1, h2, h3, h4, h5⟩ := (formedK_iff b).1 h
  exact ⟨⟨h4, fun c hc => (h5 c hc).2.2.1, by omega, fun c hc => by have := (h5 c hc).2.1; omega⟩, h1, h2, h3, fun c hc => (h5 c hc).2.1⟩
set_option maxRecDepth 100000 in
set_option maxHeartbeats 8000000 in
theorem seqapplies_c (v dv mv : Value) (b : Bk) (tm kd cl sq : Int) (d : List Int) (w : World) (h : BookV w v b) (ok : OkK b) (hcl : U64 cl) (hsq : U64 sq) (hd8 : B8 d) (hd : Rd w dv (u8s d)) (hdl : d.length ≤ 140737488355328) (hmv : ∃ a n c, mv = .slice a n c) (hT : Tabs w) :
    Calls Tryd.prog 3 #[v, .agg #[.int .u64 tm, .int .i64 kd, .int .u64 cl, .int .u64 sq, dv, mv]] w (RetE (.bool true) w) := by
  have haw := fun w => awake25_c w
  obtain ⟨ba, bn, bc, bd, bm, be, rfl⟩ := h.shape2
  obtain ⟨da, dn, dc, rfl⟩ := hd.shape
  obtain ⟨ma, mn, mc, rfl⟩ := hmv
  have HAW := Lib.hid haw
  have HV := Lib.hid h; have HOK := Lib.hid ok; have HCL := Lib.hid hcl; have HSQ := Lib.hid hsq; have HD8 := Lib.hid hd8; have HD := Lib.hid hd; have HDL := Lib.hid hdl; have HT := Lib.hid hT
  obtain ⟨r, hr⟩ : ∃ r, r = formedK b := ⟨_, rfl⟩
  have HR := Lib.hid hr
  clear h ok hcl hsq hd8 hd hdl hT haw hr
  go_enter Tryd.func3, Tryd.ntmps3
  go_upto_region 1 with fail
  obtain ⟨T2, hT2⟩ : ∃ T, T = w.heap.size := ⟨_, rfl⟩
  have hB2 := (Blk.new w #[.slice ba bn bc, .slice bd bm be] 25).alloc (.cells #[.int .u64 tm, .int .i64 kd, .int .u64 cl, .int .u64 sq, .slice da dn dc, .slice ma mn mc] 30)
  have hB3 := Blk.new (w.alloc (.cells #[.slice ba bn bc, .slice bd bm be] 25)) #[.int .u64 tm, .int .i64 kd, .int .u64 cl, .int .u64 sq, .slice da dn dc, .slice ma mn mc] 30
  simp only [World.size_alloc] at hB3
  have hE := (Ext.alloc w (.cells #[.slice ba bn bc, .slice bd bm be] 25)).trans (Ext.alloc _ (.cells #[.int .u64 tm, .int .i64 kd, .int .u64 cl, .int .u64 sq, .slice da dn dc, .slice ma mn mc] 30))
  rw [← hT2] at hB2 hB3 ⊢
  generalize (w.alloc (.cells #[.slice ba bn bc, .slice bd bm be] 25)).alloc (.cells #[.int .u64 tm, .int .i64 kd, .int .u64 cl, .int .u64 sq, .slice da dn dc, .slice ma mn mc] 30) = W1 at *
  have HB2 := Lib.hid hB2; have HB3 := Lib.hid hB3; have HE := Lib.hid hE
  clear hB2 hB3 hE hT2
  go_wp2_with fail
  refine (HAW.out _).mono ?_
  rintro e w2 ⟨rfl, hE2⟩
  have HE2 := Lib.hid hE2
  clear hE2
  have HB := Lib.hid (HB2.out.ext HE2.out)
  have hrf := rformed_c (.agg #[.slice ba bn bc, .slice bd bm be]) b w2 (HV.out.ext (HE.out.trans HE2.out)) HV.out.be (fun c hc s hs => by have := (HOK.out.cl c hc).2.2 s hs; exact this.2.1)
  rw [← HR.out] at hrf
  have HRF := Lib.hid hrf
  clear hrf
  go_wp2_with (refine wpList_load_row rfl 25 (.tmp 2) rfl T2 rfl 25 _ (0, 0) _ HB.out Tryd.underlying25 rfl (by kernel_rfl) ?_)
  refine HRF.out.mono ?_
  rintro e w3 ⟨rfl, hE3⟩
  have HE3 := Lib.hid (HE2.out.trans hE3)
  clear hE3 HRF HB HE2
  by_cases hrt : r = true
  case neg =>
    have hrf : r = false := by cases r <;> simp_all
    subst hrf
    clear hrt
    go_wp2_with fail
    go_ret
    exact ⟨rfl, HE.out.trans HE3.out⟩
  subst hrt
  have HK := Lib.hid (bkok_of_formed HR.out.symm)
  have HG : Hid (Good b) := Lib.hid ⟨HK.out, HR.out.symm, HOK.out⟩
  have HBa := Lib.hid (HB2.out.ext HE3.out)
  have HCP := Lib.hid (rcopy_c (.agg #[.slice ba bn bc, .slice bd bm be]) b w3 (HV.out.ext (HE.out.trans HE3.out)) HK.out.bd)
  go_wp2_with (refine wpList_load_row rfl 25 (.tmp 2) rfl T2 rfl 25 _ (0, 0) _ HBa.out Tryd.underlying25 rfl (by kernel_rfl) ?_)
  refine HCP.out.mono ?_
  rintro e w4 ⟨olv, ocv, L4, C4, rfl, hO4, hE4⟩
  obtain ⟨oa, on, oc, od, om, oe, he⟩ := hO4.toNew.book.shape2
  cases he
  obtain ⟨T5, hT5⟩ : ∃ T, T = w4.heap.size := ⟨_, rfl⟩
  have hA5 := Ext.alloc w4 (.cells #[.slice none 0 0, .slice none 0 0] 25)
  have hN5 := Blk.new w4 #[.slice none 0 0, .slice none 0 0] 25
  rw [← hT5] at hN5
  have hO5 := hO4.toNew.book
  have HO5 := Lib.hid hO5; have HN5 := Lib.hid hN5; have HT5 := Lib.hid hT5
  have HE4 := Lib.hid (HE3.out.trans hE4)
  clear hE4 hO4 hO5 hN5 hT5 HCP hA5
  go_upto_region 6 with (refine wpList_store_row rfl 25 (.tmp 5) (.tmp 22) rfl w4.heap.size _ rfl rfl 25 #[.slice none 0 0, .slice none 0 0] (heap_alloc_new w4 _) (by kernel_rfl) rfl (by simp [Value.oneCell']) ?_)
  try simp only [Act.put]
  have hE5 : Ext w4 ((w4.alloc (.cells #[.slice none 0 0, .slice none 0 0] 25)).setRow w4.heap.size #[.slice oa on oc, .slice od om oe]) :=
    ((Chg.ext (Ext.alloc w4 _) : Chg [w4.heap.size] w4 _).trans (Chg.some (row_grown _ w4.heap.size _) (.inl (by simp)))).toExt (fun t ht => by simp at ht; omega)
  have hB5 : Blk ((w4.alloc (.cells #[.slice none 0 0, .slice none 0 0] 25)).setRow w4.heap.size #[.slice oa on oc, .slice od om oe]) w4.heap.size #[.slice oa on oc, .slice od om oe] 25 := setRow_heap _ _ _ _ _ (0, 0) (heap_alloc_new w4 _)
  rw [← HT5.out] at hE5 hB5 ⊢
  generalize (w4.alloc (.cells #[.slice none 0 0, .slice none 0 0] 25)).setRow T5 #[.slice oa on oc, .slice od om oe] = W5 at *
  have HB5 := Lib.hid hB5; have HE5 := Lib.hid (HE4.out.trans hE5)
  have HO := Lib.hid (HO5.out.ext hE5)
  clear hE5 hB5 HO5 HT5 HN5
  obtain ⟨⟨xb, xn, xf⟩, hX⟩ : ∃ X, X = applyP b kd cl sq d := ⟨_, rfl⟩
  have hap := apply_c (.agg #[.slice oa on oc, .slice od om oe]) (.slice da dn dc) (.slice ma mn mc) b tm kd cl sq d W5 HO.out HK.out.rise HK.out.bd (by have := HK.out.clients; omega) HK.out.slots (HD.out.ext (HE.out.trans HE5.out)) HDL.out ⟨_, _, _, rfl⟩
  have hgx := HG.out.apply kd HCL.out HSQ.out HD8.out
  rw [← hX] at hap hgx
  have HX := Lib.hid hX; have HAP := Lib.hid hap; have HGX := Lib.hid hgx
  clear hX hap hgx
  have HB3a := Lib.hid (HB3.out.ext HE5.out)
  go_wp2_with (first | (refine wpList_load_row rfl 25 (.tmp 5) rfl T5 rfl 25 _ (0, 0) _ HB5.out Tryd.underlying25 rfl (by kernel_rfl) ?_) | (refine wpList_load_row rfl 30 (.tmp 3) rfl (T2 + 1) rfl 30 _ (0, 0) _ HB3a.out Tryd.underlying30 rfl (by kernel_rfl) ?_))
  refine HAP.out.mono ?_
  rintro e w6 ⟨xv, rfl, hn6, hE6⟩
  obtain ⟨xa, xn1, xc, xd, xm, xe, rfl⟩ := hn6.book.shape2
  have HN6 := Lib.hid hn6; have HE6 := Lib.hid hE6
  clear hn6 hE6 HAP
  obtain ⟨T6, hT6⟩ : ∃ T, T = w6.heap.size := ⟨_, rfl⟩
  have HT6 := Lib.hid hT6
  clear hT6
  go_upto_region 7 with (refine wpList_store_row rfl 25 (.tmp 6) (.tmp 27) rfl w6.heap.size _ rfl rfl 25 #[.slice none 0 0, .slice none 0 0] (heap_alloc_new w6 _) (by kernel_rfl) rfl (by simp [Value.oneCell']) ?_)
  try simp only [Act.put]
  have hE7 : Ext w6 ((w6.alloc (.cells #[.slice none 0 0, .slice none 0 0] 25)).setRow w6.heap.size #[.slice xa xn1 xc, .slice xd xm xe]) :=
    ((Chg.ext (Ext.alloc w6 _) : Chg [w6.heap.size] w6 _).trans (Chg.some (row_grown _ w6.heap.size _) (.inl (by simp)))).toExt (fun t ht => by simp at ht; omega)
  have hB6 : Blk ((w6.alloc (.cells #[.slice none 0 0, .slice none 0 0] 25)).setRow w6.heap.size #[.slice xa xn1 xc, .slice xd xm xe]) w6.heap.size #[.slice xa xn1 xc, .slice xd xm xe] 25 := setRow_heap _ _ _ _ _ (0, 0) (heap_alloc_new w6 _)
  rw [← HT6.out] at hE7 hB6 ⊢
  generalize (w6.alloc (.cells #[.slice none 0 0, .slice none 0 0] 25)).setRow T6 #[.slice xa xn1 xc, .slice xd xm xe] = W7 at *
  have HB6 := Lib.hid hB6; have HN7 := Lib.hid (HN6.out.ext hE7)
  have HE7 := Lib.hid (HE6.out.trans hE7)
  clear hE7 hB6 HT6 HN6 HE6
  have har := rapply_c (.agg #[.slice ba bn bc, .slice bd bm be]) (.slice da dn dc) (.slice ma mn mc) b tm kd cl sq d W7 (HV.out.ext ((HE.out.trans HE5.out).trans HE7.out)) HK.out (HD.out.ext ((HE.out.trans HE5.out).trans HE7.out)) HDL.out ⟨_, _, _, rfl⟩
  rw [← HX.out] at har
  have HAR := Lib.hid har
  clear har
  have HB2b := Lib.hid (HB2.out.ext (HE5.out.trans HE7.out))
  have HB3b := Lib.hid (HB3.out.ext (HE5.out.trans HE7.out))
  go_wp2_with (first | (refine wpList_load_row rfl 25 (.tmp 2) rfl T2 rfl 25 _ (0, 0) _ HB2b.out Tryd.underlying25 rfl (by kernel_rfl) ?_) | (refine wpList_load_row rfl 30 (.tmp 3) rfl (T2 + 1) rfl 30 _ (0, 0) _ HB3b.out Tryd.underlying30 rfl (by kernel_rfl) ?_))
  refine HAR.out.mono ?_
  rintro e w8 ⟨yv, rfl, hn8, hE8⟩
  obtain ⟨ya, yn, yc, yd, ym, ye, rfl⟩ := hn8.book.shape2
  have HN8 := Lib.hid hn8.book; have HE8 := Lib.hid (HE7.out.trans hE8)
  have HN8x := Lib.hid (HN7.out.ext hE8); have HB6b := Lib.hid (HB6.out.ext hE8)
  clear hn8 hE8 HAR HB2b HB3b HN7 HB6 HE7
  obtain ⟨T9, hT9⟩ : ∃ T, T = w8.heap.size := ⟨_, rfl⟩
  have HT9 := Lib.hid hT9
  clear hT9
  go_upto_region 8 with (refine wpList_store_row rfl 25 (.tmp 9) (.tmp 34) rfl w8.heap.size _ rfl rfl 25 #[.slice none 0 0, .slice none 0 0] (heap_alloc_new w8 _) (by kernel_rfl) rfl (by simp [Value.oneCell']) ?_)
  try simp only [Act.put]
  have hE9 : Ext w8 ((w8.alloc (.cells #[.slice none 0 0, .slice none 0 0] 25)).setRow w8.heap.size #[.slice ya yn yc, .slice yd ym ye]) :=
    ((Chg.ext (Ext.alloc w8 _) : Chg [w8.heap.size] w8 _).trans (Chg.some (row_grown _ w8.heap.size _) (.inl (by simp)))).toExt (fun t ht => by simp at ht; omega)
  have hB9 : Blk ((w8.alloc (.cells #[.slice none 0 0, .slice none 0 0] 25)).setRow w8.heap.size #[.slice ya yn yc, .slice yd ym ye]) w8.heap.size #[.slice ya yn yc, .slice yd ym ye] 25 := setRow_heap _ _ _ _ _ (0, 0) (heap_alloc_new w8 _)
  rw [← HT9.out] at hE9 hB9 ⊢
  generalize (w8.alloc (.cells #[.slice none 0 0, .slice none 0 0] 25)).setRow T9 #[.slice ya yn yc, .slice yd ym ye] = W9 at *
  have HB9 := Lib.hid hB9; have HNY := Lib.hid (HN8.out.ext hE9); have HNX := Lib.hid (HN8x.out.ext hE9); have HB6c := Lib.hid (HB6b.out.ext hE9)
  have HE9 := Lib.hid (HE8.out.trans hE9)
  clear hE9 hB9 HT9 HN8 HN8x HB6b HE8
  obtain ⟨⟨fn, ff⟩, hF⟩ : ∃ X, X = findP b cl sq := ⟨_, rfl⟩
  have hf1 := fun W (hE : Ext W5 W) => find_c (.agg #[.slice oa on oc, .slice od om oe]) b cl sq W (HO.out.ext hE) HK.out.rise
  have hf2 := fun W (hE : Ext W5 W) => rfind_c (.agg #[.slice ba bn bc, .slice bd bm be]) b cl sq W (HV.out.ext ((HE.out.trans HE5.out).trans hE)) HK.out.rise
  rw [← hF] at hf1 hf2
  have HF1 := Lib.hid hf1; have HF2 := Lib.hid hf2
  clear hf1 hf2 hF
  have HB5b := Lib.hid (HB5.out.ext HE9.out)
  have HB3c := HB3.out.ext (HE5.out.trans HE9.out)
  have e2 := HB3c.cell 2 rfl; have e3 := HB3c.cell 3 rfl
  simp only [List.getElem_toArray, List.getElem_cons_succ, List.getElem_cons_zero] at e2 e3
  clear HB3c
  go_wp2_with (refine wpList_load_row rfl 25 (.tmp 5) rfl T5 rfl 25 _ (0, 0) _ HB5b.out Tryd.underlying25 rfl (by kernel_rfl) ?_)
  refine (HF1.out _ HE9.out).mono ?_
  rintro e wA ⟨rfl, hEA⟩
  have HEA := Lib.hid hEA
  have HEX := Lib.hid (HE9.out.trans hEA)
  clear hEA HF1 e2 e3
  have HB2d := Lib.hid (HB2.out.ext (HE5.out.trans HEX.out))
  have HB3d := HB3.out.ext (HE5.out.trans HEX.out)
  have e2 := HB3d.cell 2 rfl; have e3 := HB3d.cell 3 rfl
  simp only [List.getElem_toArray, List.getElem_cons_succ, List.getElem_cons_zero] at e2 e3
  clear HB3d
  go_wp2_with (refine wpList_load_row rfl 25 (.tmp 2) rfl T2 rfl 25 _ (0, 0) _ HB2d.out Tryd.underlying25 rfl (by kernel_rfl) ?_)
  refine (HF2.out _ HEX.out).mono ?_
  rintro e wB ⟨rfl, hEB⟩
  have HB6e := Lib.hid ((HB6c.out.ext HEA.out).ext hEB); have HB9e := Lib.hid ((HB9.out.ext HEA.out).ext hEB)
  have HNXe := Lib.hid ((HNX.out.ext HEA.out).ext hEB); have HNYe := Lib.hid ((HNY.out.ext HEA.out).ext hEB)
  have HEB := Lib.hid (HEX.out.trans hEB)
  clear hEB HF2 e2 e3 HB2d HB5b HEX HEA HB9 HNY HNX HB6c HE9
  have HTB := Lib.hid (HT.out.ext ((HE.out.trans HE5.out).trans HEB.out))
  have hxb1 : xb.leaves.length ≤ 1000000 := by have := HGX.out.ok.leaves; omega
  have hxb2 : ∀ l ∈ xb.leaves, l.length ≤ 1000000 ∧ ∀ x ∈ l, 0 ≤ x ∧ x ≤ 255 := fun l hl => ⟨by have := HGX.out.ok.each l hl; omega, (HGX.out.u.each l hl).2⟩
  have HX1 := Lib.hid hxb1; have HX2 := Lib.hid hxb2
  clear hxb1 hxb2
  have hxn : (xn != xn) = false := by simp
  have hxf : (xf != xf) = false := by simp
  have hfn : (fn != fn) = false := by simp
  have hff : (ff != ff) = false := by simp
  go_upto_region 10 with fail
  apply Mono.region1 31 Ext [.is _, .is _, .is _, .is _, .is _, .is _, .is _, .is _, .is _, .is _, .is _, .is _, .is _, .is _, .is _, .is _, .is _, .is _, .is _, .is _, .is _, .is _, .is _, .is _, .is _, .is _,
      .rel (fun v w' => RowV w' 32 v (xb.leaves.map fun l => u8s (lfH l))), .is _, .rel (fun v w' => RowV w' 32 v (xb.leaves.map fun l => u8s (lfH l))), .is _, .is _]
    (by kernel_rfl) Ext.refl (fun _ _ _ => Ext.trans) (by kernel_rfl) rfl rfl ⟨fun _ _ _ h hE => h.ext hE, fun _ _ _ h hE => h.ext hE, trivial⟩
  focus
    apply Mono.step_is
    · refine Mono.obl_mk fun w9 hE9 _ K hK => ?_
      have HB9 := Lib.hid (HB6e.out.ext ((Ext.drew _).trans hE9))
      clear hE9
      go_wp2_with (refine wpList_load_row rfl 25 (.tmp 6) rfl T6 rfl 25 _ (0, 0) _ HB9.out Tryd.underlying25 rfl (by kernel_rfl) ?_)
      simp only [Act.put, List.setIfInBounds_toArray, List.set_cons_succ, List.set_cons_zero] at hK ⊢
      exact hK _ _ (Ext.refl _) (Mono.is_rfl _ _)
    simp only [Act.put, List.setIfInBounds_toArray, List.set_cons_succ, List.set_cons_zero]
    apply Mono.step_is
    · refine Mono.obl_mk fun w9 hE9 _ K hK => ?_
      have HB9 := Lib.hid (HB9e.out.ext ((Ext.drew _).trans hE9))
      clear hE9
      go_wp2_with (refine wpList_load_row rfl 25 (.tmp 9) rfl T9 rfl 25 _ (0, 0) _ HB9.out Tryd.underlying25 rfl (by kernel_rfl) ?_)
      simp only [Act.put, List.setIfInBounds_toArray, List.set_cons_succ, List.set_cons_zero] at hK ⊢
      exact hK _ _ (Ext.refl _) (Mono.is_rfl _ _)
    simp only [Act.put, List.setIfInBounds_toArray, List.set_cons_succ, List.set_cons_zero]
    apply Mono.step_is
    · refine Mono.obl_mk fun w9 hE9 _ K hK => ?_
      have hsm := rsame25_c _ _ xb w9 (HNXe.out.book.ext ((Ext.drew _).trans hE9)) (HNYe.out.ext ((Ext.drew _).trans hE9))
      clear hE9
      go_wp2_with fail
      refine hsm.mono ?_
      rintro e w10 ⟨rfl, hE10⟩
      have HE10 := Lib.hid hE10
      clear hE10 hsm
      go_wp2_with fail
      simp only [Act.put, List.setIfInBounds_toArray, List.set_cons_succ, List.set_cons_zero] at hK
      exact hK _ _ HE10.out (Mono.is_rfl _ _)
    simp only [Act.put, List.setIfInBounds_toArray, List.set_cons_succ, List.set_cons_zero]
    iterate 22 (apply Mono.step_is; (· refine Mono.obl_mk fun w9 hE9 _ K hK => ?_; clear hE9; go_wp2_with fail; simp only [Act.put, List.setIfInBounds_toArray, List.set_cons_succ, List.set_cons_zero] at hK; exact hK _ _ (Ext.refl _) (Mono.is_rfl _ _)); simp only [Act.put, List.setIfInBounds_toArray, List.set_cons_succ, List.set_cons_zero])
    apply Mono.step_is
    · refine Mono.obl_mk fun w9 hE9 _ K hK => ?_
      have hb9 := HB6e.out.ext ((Ext.drew _).trans hE9)
      have q0 := hb9.cell 0 rfl; have q1 := hb9.cell 1 rfl
      simp only [List.getElem_toArray, List.getElem_cons_succ, List.getElem_cons_zero] at q0 q1
      clear hE9 hb9
      go_wp2_with fail
      simp only [Act.put, List.setIfInBounds_toArray, List.set_cons_succ, List.set_cons_zero] at hK
      exact hK _ _ (Ext.refl _) (Mono.is_rfl _ _)
    simp only [Act.put, List.setIfInBounds_toArray, List.set_cons_succ, List.set_cons_zero]
    refine Mono.step_rel (Mono.obl_mk fun w9 hE9 _ K hK => ?_) fun v81 => ?_
    · have hE9' := (Ext.drew _).trans hE9
      have hlv := leaves_c _ xb w9 (HNXe.out.book.ext hE9') HX1.out HX2.out (HTB.out.ext hE9')
      clear hE9 hE9'
      go_wp2_with fail
      refine hlv.mono ?_
      rintro e w10 ⟨v', rfl, hr10, hE10⟩
      have HE10 := Lib.hid hE10; have HR10 := Lib.hid hr10
      clear hE10 hlv hr10
      go_wp2_with fail
      simp only [Act.put, List.setIfInBounds_toArray, List.set_cons_succ, List.set_cons_zero] at hK
      exact hK _ _ HE10.out (Mono.rel_mk HR10.out)
    simp only [Act.put, List.setIfInBounds_toArray, List.set_cons_succ, List.set_cons_zero]
    apply Mono.step_is
    · refine Mono.obl_mk fun w9 hE9 _ K hK => ?_
      have hb9 := HB9e.out.ext ((Ext.drew _).trans hE9)
      have q0 := hb9.cell 0 rfl; have q1 := hb9.cell 1 rfl
      simp only [List.getElem_toArray, List.getElem_cons_succ, List.getElem_cons_zero] at q0 q1
      clear hE9 hb9
      go_wp2_with fail
      simp only [Act.put, List.setIfInBounds_toArray, List.set_cons_succ, List.set_cons_zero] at hK
      exact hK _ _ (Ext.refl _) (Mono.is_rfl _ _)
    simp only [Act.put, List.setIfInBounds_toArray, List.set_cons_succ, List.set_cons_zero]
    refine Mono.step_rel (Mono.obl_mk fun w9 hE9 _ K hK => ?_) fun v83 => ?_
    · have hE9' := (Ext.drew _).trans hE9
      have hlv := rleaves_c _ xb w9 (HNYe.out.ext hE9') HX1.out HX2.out (HTB.out.ext hE9')
      clear hE9 hE9'
      go_wp2_with fail
      refine hlv.mono ?_
      rintro e w10 ⟨v', rfl, hr10, hE10⟩
      have HE10 := Lib.hid hE10; have HR10 := Lib.hid hr10
      clear hE10 hlv hr10
      go_wp2_with fail
      simp only [Act.put, List.setIfInBounds_toArray, List.set_cons_succ, List.set_cons_zero] at hK
      exact hK _ _ HE10.out (Mono.rel_mk HR10.out)
    simp only [Act.put, List.setIfInBounds_toArray, List.set_cons_succ, List.set_cons_zero]
    apply Mono.step_is
    · refine Mono.obl_mk fun w9 hE9 hkn K hK => ?_
      have h81 : RowV w9 32 v81 (xb.leaves.map fun l => u8s (lfH l)) := hkn.1 (by kernel_rfl)
      have h83 : RowV w9 32 v83 (xb.leaves.map fun l => u8s (lfH l)) := hkn.2.1 (by kernel_rfl)
      rw [show (xb.leaves.map fun l => u8s (lfH l)) = (xb.leaves.map lfH).map u8s by rw [List.map_map]; rfl] at h81 h83
      have hh := hashes_c v81 v83 (xb.leaves.map lfH) w9 h81 h83 (fun x hx => by obtain ⟨l, -, rfl⟩ := List.mem_map.1 hx; exact lfH_len l) (by rw [List.length_map]; exact HX1.out)
      clear hE9 hkn h81 h83
      go_wp2_with fail
      refine hh.mono ?_
      rintro e w10 ⟨rfl, hE10⟩
      have HE10 := Lib.hid hE10
      clear hE10 hh
      go_wp2_with fail
      simp only [Act.put, List.setIfInBounds_toArray, List.set_cons_succ, List.set_cons_zero] at hK
      exact hK _ _ HE10.out (Mono.is_rfl _ _)
    simp only [Act.put, List.setIfInBounds_toArray, List.set_cons_succ, List.set_cons_zero]
    iterate 1 (apply Mono.step_is; (· refine Mono.obl_mk fun w9 hE9 _ K hK => ?_; clear hE9; go_wp2_with fail; simp only [Act.put, List.setIfInBounds_toArray, List.set_cons_succ, List.set_cons_zero] at hK; exact hK _ _ (Ext.refl _) (Mono.is_rfl _ _)); simp only [Act.put, List.setIfInBounds_toArray, List.set_cons_succ, List.set_cons_zero])
    refine Mono.step_end fun w9 hE9 hkn => ?_
    simp only [List.drop_succ_cons, List.drop_zero]
    replace hE9 : Ext wB w9 := (Ext.drew wB).trans hE9
    have HB6f := Lib.hid (HB6e.out.ext hE9); have HNXf := Lib.hid (HNXe.out.ext hE9)
    have HEf := Lib.hid (HEB.out.trans hE9)
    clear hkn hE9 HB6e HB9e HNXe HNYe HEB HTB HX1 HX2
    have HSP := Lib.hid (spoil25_c HNXf.out)
    go_wp2_with (refine wpList_load_row rfl 25 (.tmp 6) rfl T6 rfl 25 _ (0, 0) _ HB6f.out Tryd.underlying25 rfl (by kernel_rfl) ?_)
    refine HSP.out.mono ?_
    rintro e wC ⟨rfl, hC⟩
    have hEC : Ext W5 wC := ((Chg.ext HEf.out : Chg (upFrom W5.heap.size w9) W5 w9).trans hC).toExt (fun t ht => (mem_upFrom.1 ht).2)
    have HEC := Lib.hid hEC
    clear hC hEC HSP HNXf HB6f HEf
    have HB5f := Lib.hid (HB5.out.ext HEC.out); have HB2f := Lib.hid (HB2.out.ext (HE5.out.trans HEC.out))
    have HSM := Lib.hid (rsame25_c (.agg #[.slice oa on oc, .slice od om oe]) (.agg #[.slice ba bn bc, .slice bd bm be]) b wC (HO.out.ext HEC.out) (HV.out.ext ((HE.out.trans HE5.out).trans HEC.out)))
    go_wp2_with (first | (refine wpList_load_row rfl 25 (.tmp 5) rfl T5 rfl 25 _ (0, 0) _ HB5f.out Tryd.underlying25 rfl (by kernel_rfl) ?_) | (refine wpList_load_row rfl 25 (.tmp 2) rfl T2 rfl 25 _ (0, 0) _ HB2f.out Tryd.underlying25 rfl (by kernel_rfl) ?_))
    refine HSM.out.mono ?_
    rintro e wD ⟨rfl, hED⟩
    have HED := Lib.hid hED
    clear hED HSM
    go_wp2_with fail
    go_ret
    exact ⟨rfl, ((HE.out.trans HE5.out).trans HEC.out).trans HED.out⟩
end Go.Proofs.YtgefphfnicjbiaaDoor
