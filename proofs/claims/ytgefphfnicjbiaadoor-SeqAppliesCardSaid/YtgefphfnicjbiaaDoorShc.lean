/- Layers 3 and 14: a leaf's hash, the program's and the document's: shaB (0 :: data). PRINTED BY gen/leaf.py -/
import Derived.Test.YtgefphfnicjbiaaDoorShb
set_option linter.unusedSimpArgs false
set_option linter.unusedVariables false
namespace Go.Proofs.YtgefphfnicjbiaaDoor
open Go Go.RowKit

theorem leaf_ret (b : Nat) (cs : Array Value) (hs : cs.size = 32) (F : World) (tmps : Array Value) (R : Ending → World → Prop) (hB : Blk F b cs 63)
    (hz : tmps[4]? = some (.pointer (some ⟨b, 0, none⟩))) (h : R (.returned (.agg cs)) F) :
    bodyPost Tryd.prog Tryd.f27 R .ret { tmps := tmps, defers := [] } F := by
  refine bodyPost_ret ?_ rfl h
  exact results_cell_row Tryd.results27 tmps F b _ cs (0, 0) _ (by simp [hz]) hB Tryd.underlying63 rfl (by rw [hs]; kernel_rfl)
theorem rhash_ret (b : Nat) (cs : Array Value) (hs : cs.size = 32) (F : World) (tmps : Array Value) (R : Ending → World → Prop) (hB : Blk F b cs 63)
    (hz : tmps[4]? = some (.pointer (some ⟨b, 0, none⟩))) (h : R (.returned (.agg cs)) F) :
    bodyPost Tryd.prog Tryd.f55 R .ret { tmps := tmps, defers := [] } F := by
  refine bodyPost_ret ?_ rfl h
  exact results_cell_row Tryd.results55 tmps F b _ cs (0, 0) _ (by simp [hz]) hB Tryd.underlying63 rfl (by rw [hs]; kernel_rfl)
theorem rleaf_ret (b : Nat) (cs : Array Value) (hs : cs.size = 32) (F : World) (tmps : Array Value) (R : Ending → World → Prop) (hB : Blk F b cs 63)
    (hz : tmps[4]? = some (.pointer (some ⟨b, 0, none⟩))) (h : R (.returned (.agg cs)) F) :
    bodyPost Tryd.prog Tryd.f42 R .ret { tmps := tmps, defers := [] } F := by
  refine bodyPost_ret ?_ rfl h
  exact results_cell_row Tryd.results42 tmps F b _ cs (0, 0) _ (by simp [hz]) hB Tryd.underlying63 rfl (by rw [hs]; kernel_rfl)
/-- The answer's place. -/
structure AnsS (w W : World) (T4 : Nat) : Prop where
  ext : Ext w W
  ans : Blk W T4 (u8s (List.replicate 32 0)).toArray 63
  low : w.heap.size ≤ T4
theorem AnsS.new (w : World) : AnsS w (w.alloc (.cells (u8s (List.replicate 32 0)).toArray 63)) w.heap.size := ⟨Ext.alloc _ _, Blk.new _ _ _, Nat.le_refl _⟩
theorem AnsS.ext' {w W W' : World} {T4 : Nat} (h : AnsS w W T4) (hE : Ext W W') : AnsS w W' T4 := ⟨h.ext.trans hE, h.ans.ext hE, h.low⟩
theorem AnsS.fin {w W : World} {T4 : Nat} (h : AnsS w W T4) (cs : Array Value) : Ext w (W.setRow T4 cs) := by
  have := h.low
  exact ((Chg.ext h.ext : Chg [T4] w W).trans (Chg.some (row_grown W T4 cs) (.inl (by simp)))).toExt (fun t ht => by simp at ht; omega)
theorem absC_nil : absC [] = Tryd.zeroCells82 := by rfl
theorem shaB_ok (X : List Int) : ∀ x ∈ shaB X, 0 ≤ x ∧ x ≤ 255 := by
  intro x hx
  obtain ⟨j, -, rfl⟩ := List.mem_map.1 hx
  unfold digI; omega
set_option maxRecDepth 100000 in
set_option maxHeartbeats 4000000 in
theorem leaf_c (D : List Int) (dv : Value) (w : World) (hD8 : ∀ x ∈ D, 0 ≤ x ∧ x ≤ 255) (hd : Rd w dv (u8s D)) (hl : D.length ≤ 140737488350000) (hT : Tabs w) :
    Calls Tryd.prog 27 #[.int .i64 256, dv] w fun e w' => e = .returned (.agg (u8s (shaB (0 :: D))).toArray) ∧ Ext w w' := by
  obtain ⟨da, dn, dc, rfl⟩ := hd.shape
  have HD := Lib.hid hd; have HT := Lib.hid hT; have HD8 := Lib.hid hD8; have HL := Lib.hid hl
  clear hd hT hD8 hl
  go_enter Tryd.func27, Tryd.ntmps27
  go_upto_region 1 with fail
  rw [show #[Value.int IntKind.u8 0, Value.int IntKind.u8 0, Value.int IntKind.u8 0, Value.int IntKind.u8 0, Value.int IntKind.u8 0, Value.int IntKind.u8 0, Value.int IntKind.u8 0, Value.int IntKind.u8 0, Value.int IntKind.u8 0, Value.int IntKind.u8 0, Value.int IntKind.u8 0, Value.int IntKind.u8 0, Value.int IntKind.u8 0, Value.int IntKind.u8 0, Value.int IntKind.u8 0, Value.int IntKind.u8 0, Value.int IntKind.u8 0, Value.int IntKind.u8 0, Value.int IntKind.u8 0, Value.int IntKind.u8 0, Value.int IntKind.u8 0, Value.int IntKind.u8 0, Value.int IntKind.u8 0, Value.int IntKind.u8 0, Value.int IntKind.u8 0, Value.int IntKind.u8 0, Value.int IntKind.u8 0, Value.int IntKind.u8 0, Value.int IntKind.u8 0, Value.int IntKind.u8 0, Value.int IntKind.u8 0, Value.int IntKind.u8 0] = (u8s (List.replicate 32 0)).toArray from rfl]
  have hA := AnsS.new w
  obtain ⟨T4, hT4⟩ : ∃ T, T = w.heap.size := ⟨_, rfl⟩
  rw [← hT4] at hA ⊢
  generalize w.alloc (.cells (u8s (List.replicate 32 0)).toArray 63) = W0 at *
  have HA := Lib.hid hA
  clear hA hT4
  have hE1 := Ext.alloc W0 (.cells #[Value.int .u8 0] 5)
  have hr1 : Rd (W0.alloc (.cells #[Value.int .u8 0] 5)) (.slice (some ⟨W0.heap.size, 0, none⟩) 1 1) (u8s [0]) := Rd.of_own (own_lit W0 [.int .u8 0] 5 (by unfold maxLen; simp))
  have hw1 := write_c [] [0] _ _ (by simp) (by simp) hr1 (by simp) (HT.out.ext (HA.out.ext.trans hE1))
  rw [absC_nil] at hw1
  have HW1 := Lib.hid hw1; have HE1 := Lib.hid hE1
  clear hr1 hw1 hE1
  go_wp2_with fail
  refine HW1.out.mono ?_
  rintro e w2 ⟨rfl, hE2⟩
  have HE2 := Lib.hid (HE1.out.trans hE2)
  clear HW1 hE2
  have HW2 := Lib.hid (write_c ([] ++ [0]) D _ w2 (by simp) HD8.out (HD.out.ext (HA.out.ext.trans HE2.out)) (by have := HL.out; simp; omega) (HT.out.ext (HA.out.ext.trans HE2.out)))
  go_wp2_with fail
  refine HW2.out.mono ?_
  rintro e w3 ⟨rfl, hE3⟩
  have HE3 := Lib.hid (HE2.out.trans hE3)
  clear HW2 hE3
  have hX8 : ∀ x ∈ (0 : Int) :: D, 0 ≤ x ∧ x ≤ 255 := fun x hx => by
    rcases List.mem_cons.1 hx with rfl | h
    · omega
    · exact HD8.out x h
  have HW3 := Lib.hid (sum_c (0 :: D) w3 hX8 (by have := HL.out; simp; omega) (HT.out.ext (HA.out.ext.trans HE3.out)))
  clear hX8
  go_wp2_with fail
  refine HW3.out.mono ?_
  rintro e w4 ⟨rfl, hE4⟩
  have HE4 := Lib.hid (HE3.out.trans hE4)
  clear HW3 hE4
  have HW4 := Lib.hid (narrow_c (shaB (0 :: D)) w4 (shaB_len _))
  go_wp2_with fail
  refine HW4.out.mono ?_
  rintro e w5 ⟨rfl, hE5⟩
  have HF := Lib.hid (HA.out.ext' (HE4.out.trans hE5))
  clear HW4 hE5
  go_wp2_with (refine wpList_store_row rfl 63 (.tmp 4) (.tmp 12) rfl T4 _ rfl rfl 63 _ HF.out.ans (by rw [hash_size (shaB_len (0 :: D))]; kernel_rfl) (by rw [hash_size (shaB_len (0 :: D))]; simp [u8s]) u8a_one ?_)
  exact leaf_ret T4 _ (hash_size (shaB_len (0 :: D))) _ _ _ (setRow_heap w5 T4 _ _ _ (0, 0) HF.out.ans) rfl ⟨rfl, HF.out.fin _⟩
set_option maxRecDepth 100000 in
set_option maxHeartbeats 4000000 in
theorem rhash_c (X : List Int) (bv : Value) (w : World) (hX8 : ∀ x ∈ X, 0 ≤ x ∧ x ≤ 255) (hb : Rd w bv (u8s X)) (hl : X.length ≤ 140737488355000) (hT : Tabs w) :
    Calls Tryd.prog 55 #[.int .i64 256, bv] w fun e w' => e = .returned (.agg (u8s (shaB X)).toArray) ∧ Ext w w' := by
  obtain ⟨da, dn, dc, rfl⟩ := hb.shape
  have HD := Lib.hid hb; have HT := Lib.hid hT; have HX8 := Lib.hid hX8; have HL := Lib.hid hl
  clear hb hT hX8 hl
  go_enter Tryd.func55, Tryd.ntmps55
  go_upto_region 1 with fail
  rw [show #[Value.int IntKind.u8 0, Value.int IntKind.u8 0, Value.int IntKind.u8 0, Value.int IntKind.u8 0, Value.int IntKind.u8 0, Value.int IntKind.u8 0, Value.int IntKind.u8 0, Value.int IntKind.u8 0, Value.int IntKind.u8 0, Value.int IntKind.u8 0, Value.int IntKind.u8 0, Value.int IntKind.u8 0, Value.int IntKind.u8 0, Value.int IntKind.u8 0, Value.int IntKind.u8 0, Value.int IntKind.u8 0, Value.int IntKind.u8 0, Value.int IntKind.u8 0, Value.int IntKind.u8 0, Value.int IntKind.u8 0, Value.int IntKind.u8 0, Value.int IntKind.u8 0, Value.int IntKind.u8 0, Value.int IntKind.u8 0, Value.int IntKind.u8 0, Value.int IntKind.u8 0, Value.int IntKind.u8 0, Value.int IntKind.u8 0, Value.int IntKind.u8 0, Value.int IntKind.u8 0, Value.int IntKind.u8 0, Value.int IntKind.u8 0] = (u8s (List.replicate 32 0)).toArray from rfl]
  have hA := AnsS.new w
  obtain ⟨T4, hT4⟩ : ∃ T, T = w.heap.size := ⟨_, rfl⟩
  rw [← hT4] at hA ⊢
  generalize w.alloc (.cells (u8s (List.replicate 32 0)).toArray 63) = W0 at *
  have HA := Lib.hid hA
  clear hA hT4
  have HW1 := Lib.hid (rsum_c X _ W0 HX8.out (HD.out.ext HA.out.ext) HL.out (HT.out.ext HA.out.ext))
  go_wp2_with fail
  refine HW1.out.mono ?_
  rintro e w2 ⟨rfl, hE2⟩
  have HE2 := Lib.hid hE2
  clear HW1 hE2
  have HW4 := Lib.hid (rnarrow_c (shaB X) w2 (shaB_len _) (shaB_ok X))
  go_wp2_with fail
  refine HW4.out.mono ?_
  rintro e w5 ⟨rfl, hE5⟩
  have HF := Lib.hid (HA.out.ext' (HE2.out.trans hE5))
  clear HW4 hE5
  go_wp2_with (refine wpList_store_row rfl 63 (.tmp 4) (.tmp 8) rfl T4 _ rfl rfl 63 _ HF.out.ans (by rw [hash_size (shaB_len X)]; kernel_rfl) (by rw [hash_size (shaB_len X)]; simp [u8s]) u8a_one ?_)
  exact rhash_ret T4 _ (hash_size (shaB_len X)) _ _ _ (setRow_heap w5 T4 _ _ _ (0, 0) HF.out.ans) rfl ⟨rfl, HF.out.fin _⟩
set_option maxRecDepth 100000 in
set_option maxHeartbeats 4000000 in
theorem leaftext_c (D : List Int) (dv : Value) (w : World) (hd : Rd w dv (u8s D)) (hl : D.length ≤ 140737488350000) :
    Calls Tryd.prog 56 #[dv] w fun e w' => ∃ v', e = .returned v' ∧ Rd w' v' (u8s (0 :: D)) ∧ Ext w w' := by
  obtain ⟨da, dn, dc, rfl⟩ := hd.shape
  have HO : Hid ((w.alloc (.cells #[Value.int .u8 0] 5)).ownsRow w.heap.size 5 1 (.slice (some ⟨w.heap.size, 0, none⟩) 1 1) 1 [.int .u8 0]) := Lib.hid (own_lit w [.int .u8 0] 5 (by unfold maxLen; simp))
  have HE := Lib.hid (Ext.alloc w (.cells #[Value.int .u8 0] 5))
  have HD := Lib.hid (hd.ext HE.out); have HL := Lib.hid hl
  clear hd hl
  go_enter Tryd.func56, Tryd.ntmps56
  go_wp2_with (at_builtin; refine wpList_append_rd rfl (.tmp 3) (.tmp 4) _ rfl el8 w.heap.size _ 1 [.int .u8 0] (u8s D) rfl HO.out _ rfl HD.out (u8s_one D) (by have := HL.out; rw [u8s_len]; omega) (by have := HL.out; rw [u8s_len]; unfold maxLen; omega) (by simp [World.size_alloc]) ?_)
  intro v1 w1 ho1 hg1
  have HO1 := Lib.hid ho1
  have hE1 : Ext w w1 := ((Chg.ext HE.out : Chg [w.heap.size] w _).trans (Chg.grown hg1)).toExt (fun t ht => by simp at ht; omega)
  have HE1 := Lib.hid hE1
  clear ho1 hg1 hE1
  go_wp2_with fail
  go_ret
  exact ⟨_, rfl, Rd.of_own HO1.out, HE1.out⟩
set_option maxRecDepth 100000 in
set_option maxHeartbeats 4000000 in
theorem rleaf_c (D : List Int) (dv : Value) (w : World) (hD8 : ∀ x ∈ D, 0 ≤ x ∧ x ≤ 255) (hd : Rd w dv (u8s D)) (hl : D.length ≤ 140737488350000) (hT : Tabs w) :
    Calls Tryd.prog 42 #[.int .i64 256, dv] w fun e w' => e = .returned (.agg (u8s (shaB (0 :: D))).toArray) ∧ Ext w w' := by
  obtain ⟨da, dn, dc, rfl⟩ := hd.shape
  have HD := Lib.hid hd; have HT := Lib.hid hT; have HD8 := Lib.hid hD8; have HL := Lib.hid hl
  clear hd hT hD8 hl
  go_enter Tryd.func42, Tryd.ntmps42
  go_upto_region 1 with fail
  rw [show #[Value.int IntKind.u8 0, Value.int IntKind.u8 0, Value.int IntKind.u8 0, Value.int IntKind.u8 0, Value.int IntKind.u8 0, Value.int IntKind.u8 0, Value.int IntKind.u8 0, Value.int IntKind.u8 0, Value.int IntKind.u8 0, Value.int IntKind.u8 0, Value.int IntKind.u8 0, Value.int IntKind.u8 0, Value.int IntKind.u8 0, Value.int IntKind.u8 0, Value.int IntKind.u8 0, Value.int IntKind.u8 0, Value.int IntKind.u8 0, Value.int IntKind.u8 0, Value.int IntKind.u8 0, Value.int IntKind.u8 0, Value.int IntKind.u8 0, Value.int IntKind.u8 0, Value.int IntKind.u8 0, Value.int IntKind.u8 0, Value.int IntKind.u8 0, Value.int IntKind.u8 0, Value.int IntKind.u8 0, Value.int IntKind.u8 0, Value.int IntKind.u8 0, Value.int IntKind.u8 0, Value.int IntKind.u8 0, Value.int IntKind.u8 0] = (u8s (List.replicate 32 0)).toArray from rfl]
  have hA := AnsS.new w
  obtain ⟨T4, hT4⟩ : ∃ T, T = w.heap.size := ⟨_, rfl⟩
  rw [← hT4] at hA ⊢
  generalize w.alloc (.cells (u8s (List.replicate 32 0)).toArray 63) = W0 at *
  have HA := Lib.hid hA
  clear hA hT4
  have HW1 := Lib.hid (leaftext_c D _ W0 (HD.out.ext HA.out.ext) HL.out)
  go_wp2_with fail
  refine HW1.out.mono ?_
  rintro e w2 ⟨v2, rfl, hr2, hE2⟩
  obtain ⟨a2, n2, c2, rfl⟩ := hr2.shape
  have hX8 : ∀ x ∈ (0 : Int) :: D, 0 ≤ x ∧ x ≤ 255 := fun x hx => by
    rcases List.mem_cons.1 hx with rfl | h
    · omega
    · exact HD8.out x h
  have HE2 := Lib.hid hE2
  have HW4 := Lib.hid (rhash_c (0 :: D) _ w2 hX8 hr2 (by have := HL.out; simp; omega) (HT.out.ext (HA.out.ext.trans hE2)))
  clear HW1 hE2 hr2 hX8
  go_wp2_with fail
  refine HW4.out.mono ?_
  rintro e w5 ⟨rfl, hE5⟩
  have HF := Lib.hid (HA.out.ext' (HE2.out.trans hE5))
  clear HW4 hE5
  go_wp2_with (refine wpList_store_row rfl 63 (.tmp 4) (.tmp 8) rfl T4 _ rfl rfl 63 _ HF.out.ans (by rw [hash_size (shaB_len (0 :: D))]; kernel_rfl) (by rw [hash_size (shaB_len (0 :: D))]; simp [u8s]) u8a_one ?_)
  exact rleaf_ret T4 _ (hash_size (shaB_len (0 :: D))) _ _ _ (setRow_heap w5 T4 _ _ _ (0, 0) HF.out.ans) rfl ⟨rfl, HF.out.fin _⟩
end Go.Proofs.YtgefphfnicjbiaaDoor
