/- From a walk to a law's row and its tied card: numbers, strings, bytes opened. -/
import Derived.Test.YtafjjladnghjbaaGreatDoorRowG
import Derived.Test.YtafjjladnghjbaaGreatDoorTie
import Derived.Test.YtafjjladnghjbaaGreatDoorCards
import Derived.LaidMore
import Derived.Lay
import Derived.SevenTiedAt
import Derived.Stop.Joined
import Derived.ChangeMaps5
namespace Go.Proofs.YtafjjladnghjbaaGreatDoor
open Go Go.RowKit Go.ChangeShapes Go.WideShapes Go.ChangeAt

theorem cells5 : Tryz.prog.cellsOf 5 = 1 := by kernel_rfl
theorem bytes5 : Tryz.prog.bytesOf 5 = 1 := by kernel_rfl
set_option maxRecDepth 100000 in
/-- A []byte that came in. -/
theorem u8s_open {H : Type} {enc : TypeId × Value → H} {W : World} {base : Nat} {sp : Nat → Bool} {held : Bool} {v : Value} {d : DataW H} {ps : List MemPlace} {r : Reach} {b0 : Nat}
    (hv : Value.okWide Tryz.prog W r b0 23 v) (h : DataW.Trod enc Tryz.prog W base sp held 23 v d ps) (hz : ∀ n ∈ d.weights Tryz.prog 23, n ≤ reachBytes) :
    ∃ xs : List Int, Rd W v (u8s xs) ∧ B8 xs ∧ xs.length ≤ 140737488351232 := by
  obtain ⟨a, l, c, rfl⟩ := okWide_slice Tryz.underlying23 hv
  obtain ⟨fuel, hf⟩ := h
  obtain ⟨v', xs, e, h1, h2, h3⟩ := rd_of_trod Tryz.underlying23 Tryz.underlying5 cells5 hf hz
  rw [bytes5, Nat.mul_one] at h3
  unfold reachBytes at h3
  have e' : Value.slice a l c = v' := by simpa [Value.cells] using e
  subst e'
  exact ⟨xs, h1, fun z hz => u8_wf (h2 z hz), h3⟩
end Go.Proofs.YtafjjladnghjbaaGreatDoor
