/- cell: lay. -/
import Derived.Test.YtafjjladnghjbaaGreatDoorCel1
namespace Go.Proofs.YtafjjladnghjbaaGreatDoor
open Go Go.RowKit Go.Maps

theorem xor8 (b : Int) (h0 : 0 ≤ b) (h1 : b ≤ 255) : bits BinOp.xor IntKind.u8 IntKind.u8.max b = 255 - b := by
  have key : ∀ n : Fin 256, bits BinOp.xor IntKind.u8 IntKind.u8.max ((n.val : Nat) : Int) = 255 - ((n.val : Nat) : Int) := by decide +kernel
  obtain ⟨n, rfl⟩ := Int.eq_ofNat_of_zero_le h0
  exact key ⟨n, by omega⟩
/-- The word in which byte i of the three lies. -/
def wordAt (c t v q : Nat) : Nat := if q = 0 then c else if q = 1 then t else v
theorem lay24_get (c t v q r : Nat) (hq : q < 3) (hr : r < 8) : (lay24 c t v)[8 * q + r]? = some ((wordAt c t v q / 256 ^ (7 - r) % 256 : Nat) : Int) := by
  have l8 := fun n => be_len 8 n
  have hg := fun n => be_get 8 n r hr
  have e7 : 8 - 1 - r = 7 - r := by omega
  rw [e7] at hg
  unfold lay24
  rcases (show q = 0 ∨ q = 1 ∨ q = 2 by omega) with rfl | rfl | rfl
  · rw [List.append_assoc, List.getElem?_append_left (by rw [l8]; omega), show 8 * 0 + r = r by omega, hg]; rfl
  · rw [List.append_assoc, List.getElem?_append_right (by rw [l8]; omega), l8, List.getElem?_append_left (by rw [l8]; omega), show 8 * 1 + r - 8 = r by omega, hg]; rfl
  · rw [List.getElem?_append_right (by rw [List.length_append, l8, l8]; omega), List.length_append, l8, l8, show 8 * 2 + r - (8 + 8) = r by omega, hg]; rfl
theorem layC_get (c t v i : Nat) (hi : i < 24) : (layC c t v)[i]? = (lay24 c t v)[i]? ∧ (layC c t v)[24 + i]? = ((lay24 c t v)[i]?).map (fun x => 255 - x) := by
  unfold layC
  refine ⟨List.getElem?_append_left (by rw [lay24_len]; exact hi), ?_⟩
  rw [List.getElem?_append_right (by rw [lay24_len]; omega), lay24_len, show 24 + i - 24 = i by omega]
  unfold turn8; rw [List.getElem?_map]
end Go.Proofs.YtafjjladnghjbaaGreatDoor
