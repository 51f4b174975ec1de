/- tabellionlaw08: awake. -/
import Derived.Test.YtmffknllnjagoaaDoorDsk10
set_option linter.unusedSimpArgs false
set_option linter.unusedVariables false
namespace Go.Proofs.YtmffknllnjagoaaDoor
open Go Go.RowKit Go.Maps

theorem DkTo.toExt {O O' : List Nat} {w0 w w' : World} (h : DkTo O w w' O') (hE : Ext w0 w) (hO : ∀ t ∈ O, w0.heap.size ≤ t) : Ext w0 w' := Chg.below hE h.1 hE.size hO
theorem DkTo.new {O O' : List Nat} {w w' : World} {B : Nat} (h : DkTo O w w' O') (hO : ∀ t ∈ O, B ≤ t) (hB : B ≤ w.heap.size) : ∀ t ∈ O', B ≤ t := fun t ht => by
  rcases h.2.1 t ht with h1 | h1
  · exact hO t h1
  · omega
def awS : Dk := ⟨[([97], [0, 120, 121])], [], [⟨119, ⟨#[97]⟩, ⟨#[]⟩, 1, [120, 121]⟩], 100, -1, false⟩
theorem awS_eq : writeS (dkNew 100) ⟨#[97]⟩ 1 [120, 121] = (0, awS) := by
  have h1 : namedB ⟨#[97]⟩ = true := by decide
  simp only [writeS, dkNew, h1]
  rfl
theorem awS_read : readS awS ⟨#[97]⟩ = ([0, 120, 121], 0) := by rfl
set_option maxRecDepth 100000 in
set_option maxHeartbeats 1000000 in
theorem awake_c (w : World) : Calls Tryd.prog 8 #[] w fun e w' => e = .returned (.bool true) ∧ Ext w w' := by
  have hconv := fun (w : World) (v : Value) (h : Rd w v (u8s [0, 120, 121])) => h.convert (P := Tryd.prog) Tryd.underlying22 Tryd.underlying5 Tryd.underlying9
  have hstr : strOfNums [0, 120, 121] = ⟨#[0, 120, 121]⟩ := by rfl
  have HCV := Lib.hid hconv; clear hconv
  have kc := fun (w : World) (C : Array Value) (n c : Nat) => Lib.run_convert_bytes_const (P := Tryd.prog) w 22 5 C n c Tryd.underlying22 Tryd.underlying5
  go_enter Tryd.func8, Tryd.ntmps8
  go_wp2_with fail
  refine (new_c 100000 100 [] w (by omega) (by omega) (by simp)).mono ?_
  rintro e w1 ⟨d, rfl, hd, hE1, hdw⟩
  have HD := Lib.hid hd; have HE1 := Lib.hid hE1
  clear hd hE1
  go_wp2_with fail
  obtain ⟨W, hW⟩ : ∃ W, W = w1.alloc (.cells #[.int .u8 120, .int .u8 121] 5 (2, 3)) := ⟨_, rfl⟩
  have hWE : Ext w1 W := by rw [hW]; exact Ext.alloc _ _
  have hrd : Rd W (.slice (some ⟨w1.heap.size, 0, none⟩) 2 2) (u8s [120, 121]) := by
    refine ⟨_, 2, rfl, Nat.le_refl _, by unfold maxLen; omega, .inr ⟨w1.heap.size, 0, rfl, fun j u hj => ?_⟩⟩
    rw [hW, World.cell?_alloc_mark, Nat.zero_add]
    simpa [u8s] using hj
  rw [← hW]
  have HWE := Lib.hid hWE; have HRD := Lib.hid hrd
  clear hW hWE hrd
  refine (write_c d 0 100000 _ [] (dkNew 100) ⟨#[97]⟩ 1 [120, 121] _ W (HD.out.ext HWE.out) (by omega) (by simp [dkNew]) (by omega) (by omega) (by decide) (by omega) (by omega) HRD.out (by intro z hz; simp at hz; omega) (by intro _ _; simp)).mono ?_
  rintro e w2 ⟨rfl, O2, hd2, ht2⟩
  rw [awS_eq] at hd2 ⊢
  have HD2 := Lib.hid hd2
  have hE2 : Ext w w2 := ht2.toExt (HE1.out.trans HWE.out) (by intro t ht; simp at ht; omega)
  have HE2 := Lib.hid hE2
  clear hd2 ht2 hE2
  go_wp2_with fail
  refine (read_c d 1 100000 _ [] awS ⟨#[97]⟩ w2 HD2.out (by omega) (by decide)).mono ?_
  rintro e w3 ⟨v, rfl, hrv, hov, hE3⟩
  rw [awS_read] at hrv hov ⊢
  have hk := HCV.out w3 v hrv
  rw [hstr] at hk
  have HE3 := Lib.hid hE3
  obtain ⟨a3, n3, c3, rfl⟩ := hrv.shape
  clear hrv hov hE3
  go_wp2_with fail
  refine (waiting_c d 1 100000 _ [] awS w3 (HD2.out.ext HE3.out)).mono ?_
  rintro e w4 ⟨rfl, rfl⟩
  go_wp2_with fail
  refine (used_c d 1 100000 _ [] awS w4 (HD2.out.ext HE3.out) (by omega)).mono ?_
  rintro e w5 ⟨rfl, hE5⟩
  have HE5 := Lib.hid hE5
  clear hE5
  go_wp2_with fail
  go_ret
  exact ⟨rfl, HE2.out.trans (HE3.out.trans HE5.out)⟩
end Go.Proofs.YtmffknllnjagoaaDoor
