/- tabellionlaw11: awake. -/
import Derived.Test.YtapclkjpokbgbaaDoorVau7
set_option linter.unusedSimpArgs false
set_option linter.unusedVariables false
namespace Go.Proofs.YtapclkjpokbgbaaDoor
open Go Go.RowKit Go.Maps

theorem rd_mark11 (w : World) (l : List Value) (e : TypeId) (fr : Nat × Nat) (he : l.length ≤ maxLen) : Rd (w.alloc (.cells l.toArray e fr)) (.slice (some ⟨w.heap.size, 0, none⟩) l.length l.length) l := by
  refine ⟨_, _, rfl, Nat.le_refl _, he, .inr ⟨w.heap.size, 0, rfl, fun j u hj => ?_⟩⟩
  rw [Nat.zero_add, cell_of_row _ w.heap.size j l.toArray e fr (heap_alloc_new w _)]
  simpa using hj
set_option maxRecDepth 100000 in
set_option maxHeartbeats 2000000 in
theorem awake11_c (w : World) : Calls Tryd.prog 14 #[] w fun e w' => e = .returned (.bool true) ∧ Ext w w' := by
  have HCV := Lib.hid (fun (w : World) (v : Value) (xs : List Int) (h : Rd w v (u8s xs)) => h.convert (P := Tryd.prog) Tryd.underlying36 Tryd.underlying5 Tryd.underlying9)
  have hV0 : VInv ⟨#[97]⟩ (dkNew 1073741824) ([], false) := VInv.new _ _
  have kc := fun (w : World) (C : Array Value) (n c : Nat) => Lib.run_convert_bytes_const (P := Tryd.prog) w 36 5 C n c Tryd.underlying36 Tryd.underlying5
  have HV0 := Lib.hid hV0
  clear hV0
  go_enter Tryd.func14, Tryd.ntmps14
  go_wp2_with fail
  refine (new_c 32768 1073741824 [] w (by omega) (by omega) (by simp)).mono ?_
  rintro e w1 ⟨d, rfl, hd, hE1, hdw⟩
  have HD := Lib.hid hd; have HE1 := Lib.hid hE1
  have HNO := Lib.hid (show ∀ k ∈ [d, w.heap.size, w.heap.size + 1], w.heap.size ≤ k from fun t ht => by simp at ht; omega)
  clear hd hE1 hdw
  go_wp2_with fail
  refine (vopen_s w d 0 _ (dkNew 1073741824) ⟨#[97]⟩ ([], false) w1 HD.out (by omega) (by decide) HV0.out.toVOpn (by simp) HE1.out HNO.out).mono ?_
  rintro e w2 ⟨hO, hE2, O', ht2, hd2, hnO2, h⟩
  rcases hO with ⟨o1, hI2, o3, o4, _⟩ | ⟨_, o2, _⟩
  rotate_left
  · exact absurd rfl o2
  obtain ⟨S2, hS2⟩ : ∃ S2, S2 = (openV (dkNew 1073741824) ⟨#[97]⟩).2 := ⟨_, rfl⟩
  rcases h with ⟨h6, _⟩ | ⟨_, v, bv, rfl, hvn, hVS⟩
  · exact absurd (o1.symm.trans h6) (by decide)
  rw [← hS2] at hI2 o3 hVS
  have HI2 := Lib.hid hI2; have HVS := Lib.hid hVS; have HR2 := Lib.hid o3; have HF2 := Lib.hid (show S2.fuse = -1 by rw [hS2]; exact o4 rfl)
  clear hI2 hVS ht2 hd2 hnO2 hE2 o3 o4 hS2 o1 hvn
  obtain ⟨w3, hw3⟩ : ∃ w3, w3 = w2.alloc (.cells #[.int .u8 120] 5 (1, 2)) := ⟨_, rfl⟩
  have hE3 : Ext w2 w3 := by rw [hw3]; exact Ext.alloc _ _
  have hR3 : Rd w3 (.slice (some ⟨w2.heap.size, 0, none⟩) 1 1) (u8s [120]) := by rw [hw3]; exact rd_mark11 w2 [.int .u8 120] 5 (1, 2) (by unfold maxLen; simp)
  have hof : OffL (.slice (some ⟨w2.heap.size, 0, none⟩) 1 1) (u8s [120]) O' := fun a n c e _ hm => by
    injection e with e1 e2 e3
    injection e1 with e1
    subst e1
    have := HVS.out.dk.low _ hm
    simp at this
  have HVS3 := Lib.hid (HVS.out.ext hE3); have HR3 := Lib.hid hR3; have HOF := Lib.hid hof
  clear hE3 hR3 hof
  go_wp2_with fail
  rw [← hw3]
  refine (vput_s w v d (0 + 1) O' [] S2 ⟨#[97]⟩ ([], false) bv _ [120] w3 HVS3.out (by omega) (by decide) HI2.out (by rw [HR2.out]; have := HVS3.out.dk.usedN; show (usedF S2.now : Int) + 1 ≤ 1073741824; omega) HR3.out HOF.out (by intro x hx; simp at hx; subst hx; decide) (by simp)).mono ?_
  rintro e w4 ⟨hP, rfl, hC4, O4, _, cv', h⟩
  rcases hP with ⟨p1, _⟩ | ⟨_, p2, _⟩
  rotate_left
  · exact absurd HF2.out p2
  rw [p1]
  rcases h with ⟨_, hV4, _⟩ | ⟨h6, _⟩
  rotate_left
  · exact absurd (p1.symm.trans h6) (by decide)
  have HV4 := Lib.hid hV4
  clear hV4 hC4 hw3
  go_wp2_with fail
  refine (vget_c v d ⟨#[97]⟩ cv' [120] true false w4 HV4.out.vb HV4.out.rd (by simp)).mono ?_
  rintro e w5 ⟨gv, rfl, hg, hE5⟩
  have hcv := HCV.out w5 _ _ (Rd.of_own hg)
  have HE5 := Lib.hid (HV4.out.old.trans hE5)
  rw [show strOfNums [120] = ⟨#[120]⟩ from rfl] at hcv
  clear hg hE5
  go_wp2_with fail
  go_ret
  exact ⟨rfl, HE5.out⟩
end Go.Proofs.YtapclkjpokbgbaaDoor
