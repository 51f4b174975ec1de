/- Layer 3 (sha): the padding, plainly. -/
import Derived.Test.YtgefphfnicjbiaaDoorSh6
set_option linter.unusedSimpArgs false
set_option linter.unusedVariables false
namespace Go.Proofs.YtgefphfnicjbiaaDoor
open Go Go.RowKit

/-- How many zeros are laid behind the 128. -/
def zN (L : Nat) : Nat := (119 - L % 64) % 64
def lenI (L : Nat) (i : Nat) : Int := ((L * 8 / 2 ^ (56 - 8 * i) % 256 : Nat) : Int)
def lenB (L : Nat) : List Int := (List.range 8).map (lenI L)
/-- The text with its padding. -/
def padT (X : List Int) : List Int := X ++ (128 :: (List.replicate (zN X.length) 0 ++ lenB X.length))
theorem lenB_len (L : Nat) : (lenB L).length = 8 := by simp [lenB]
theorem padT_len (X : List Int) : (padT X).length = X.length + 9 + zN X.length := by
  unfold padT; simp [lenB_len]; omega
theorem padT_lo {X : List Int} {j : Nat} (h : j < X.length) : (padT X).getD j 0 = X.getD j 0 := by
  unfold padT; rw [List.getD_eq_getElem?_getD, List.getD_eq_getElem?_getD, List.getElem?_append_left h]
theorem padT_at (X : List Int) : (padT X).getD X.length 0 = 128 := by
  unfold padT; rw [List.getD_eq_getElem?_getD, List.getElem?_append_right (Nat.le_refl _)]; simp
theorem padT_z {X : List Int} {j : Nat} (h : X.length < j) (h2 : j < X.length + 1 + zN X.length) : (padT X).getD j 0 = 0 := by
  unfold padT; rw [List.getD_eq_getElem?_getD, List.getElem?_append_right (by omega)]
  obtain ⟨k, hk⟩ : ∃ k, j - X.length = k + 1 := ⟨j - X.length - 1, by omega⟩
  rw [hk, List.getElem?_cons_succ, List.getElem?_append_left (by rw [List.length_replicate]; omega), List.getElem?_replicate, if_pos (by omega)]; rfl
theorem padT_n {X : List Int} {i : Nat} (h : i < 8) : (padT X).getD (X.length + 1 + zN X.length + i) 0 = lenI X.length i := by
  unfold padT; rw [List.getD_eq_getElem?_getD, List.getElem?_append_right (by omega)]
  rw [show X.length + 1 + zN X.length + i - X.length = (zN X.length + i) + 1 by omega, List.getElem?_cons_succ, List.getElem?_append_right (by rw [List.length_replicate]; omega), List.length_replicate]
  rw [show zN X.length + i - zN X.length = i by omega]
  unfold lenB; rw [List.getElem?_map, List.getElem?_range h]; rfl
/-- The last block begins at q. -/
theorem pad_one {X : List Int} (h : X.length % 64 < 56) : X.length + 1 + zN X.length = 64 * (X.length / 64) + 56 := by unfold zN; omega
theorem pad_two {X : List Int} (h : 56 ≤ X.length % 64) : X.length + 1 + zN X.length = 64 * (X.length / 64 + 1) + 56 := by unfold zN; omega
theorem lenI_ok (L i : Nat) : 0 ≤ lenI L i ∧ lenI L i ≤ 255 := by unfold lenI; omega
theorem padT_ok {X : List Int} (h : ∀ x ∈ X, 0 ≤ x ∧ x ≤ 255) : ∀ x ∈ padT X, 0 ≤ x ∧ x ≤ 255 := by
  intro x hx
  unfold padT at hx
  rcases List.mem_append.1 hx with hx | hx
  · exact h x hx
  · rcases List.mem_cons.1 hx with rfl | hx
    · omega
    · rcases List.mem_append.1 hx with hx | hx
      · have := List.eq_of_mem_replicate hx; omega
      · obtain ⟨i, -, rfl⟩ := List.mem_map.1 hx
        exact lenI_ok _ _
theorem getD_ok {X : List Int} (h : ∀ x ∈ X, 0 ≤ x ∧ x ≤ 255) (j : Nat) : 0 ≤ X.getD j 0 ∧ X.getD j 0 ≤ 255 := by
  rw [List.getD_eq_getElem?_getD]
  cases hq : X[j]? with
  | none => simp
  | some x => exact h x (List.mem_of_getElem? hq)
/-- The words of a text's hash. -/
def shaO (X : List Int) : List Wd := List.zipWith (· + ·) ((List.range 8).map gW) (absO (padT X) ((padT X).length / 64))
/-- A byte of a list of words. -/
def digI (ws : List Wd) (j : Nat) : Int := iw (ws.getD (j / 4) 0) / ((2 ^ (24 - 8 * (j % 4)) : Nat) : Int) % 256
/-- The hash. -/
def shaB (X : List Int) : List Int := (List.range 32).map (digI (shaO X))
theorem shaB_len (X : List Int) : (shaB X).length = 32 := by simp [shaB]
theorem shaB_get (X : List Int) {j : Nat} (h : j < 32) : (shaB X)[j]? = some (digI (shaO X) j) := by
  unfold shaB; rw [List.getElem?_map, List.getElem?_range h]; rfl
theorem absR_lo {X : List Int} {j : Nat} (h : j < X.length % 64) : (absR X).getD j 0 = X.getD (64 * (X.length / 64) + j) 0 := by
  unfold absR
  rw [List.getD_eq_getElem?_getD, List.getD_eq_getElem?_getD, List.getElem?_append_left (by rw [List.length_drop]; omega), List.getElem?_drop]
theorem absR_hi {X : List Int} {j : Nat} (h : X.length % 64 ≤ j) : (absR X).getD j 0 = 0 := by
  unfold absR
  rw [List.getD_eq_getElem?_getD, List.getElem?_append_right (by rw [List.length_drop]; omega), List.getElem?_replicate]
  split <;> rfl
/-- Mixed in: a block that is the text's at a place. -/
theorem absO_step {P Y : List Int} {k : Nat} (h : ∀ j, j < 64 → Y.getD j 0 = P.getD (64 * k + j) 0) : mixO (absO P k) Y = absO P (k + 1) := by
  rw [absO]
  refine mixO_congr fun j hj => ?_
  rw [h j hj, List.getD_eq_getElem?_getD, List.getD_eq_getElem?_getD, List.getElem?_drop]
end Go.Proofs.YtgefphfnicjbiaaDoor
