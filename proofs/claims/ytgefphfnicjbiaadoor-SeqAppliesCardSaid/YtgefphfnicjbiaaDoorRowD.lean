/- From a walk to a law's row and its tied card: numbers, strings, bytes opened. -/
import Derived.Test.YtgefphfnicjbiaaDoorRowG
import Derived.Test.YtgefphfnicjbiaaDoorTie
import Derived.Test.YtgefphfnicjbiaaDoorCards
import Derived.LaidMore
import Derived.Lay
import Derived.SevenTiedAt
import Derived.Stop.Joined
import Derived.ChangeMaps5
set_option linter.unusedSimpArgs false
set_option linter.unusedVariables false
namespace Go.Proofs.YtgefphfnicjbiaaDoor
open Go Go.RowKit Go.ChangeShapes Go.WideShapes Go.ChangeAt

theorem cells5 : Tryd.prog.cellsOf 5 = 1 := by kernel_rfl
theorem bytes5 : Tryd.prog.bytesOf 5 = 1 := by kernel_rfl
set_option maxRecDepth 100000 in
/-- A []byte that came in. -/
theorem u8s_open {H : Type} {enc : TypeId × Value → H} {W : World} {base : Nat} {sp : Nat → Bool} {held : Bool} {v : Value} {d : DataW H} {ps : List MemPlace} {r : Reach} {b0 : Nat}
    (hv : Value.okWide Tryd.prog W r b0 27 v) (h : DataW.Trod enc Tryd.prog W base sp held 27 v d ps) (hz : ∀ n ∈ d.weights Tryd.prog 27, n ≤ reachBytes) :
    ∃ xs : List Int, Rd W v (u8s xs) ∧ B8 xs ∧ xs.length ≤ 140737488351232 := by
  obtain ⟨a, l, c, rfl⟩ := okWide_slice Tryd.underlying27 hv
  obtain ⟨fuel, hf⟩ := h
  obtain ⟨v', xs, e, h1, h2, h3⟩ := rd_of_trod Tryd.underlying27 Tryd.underlying5 cells5 hf hz
  rw [bytes5, Nat.mul_one] at h3
  unfold reachBytes at h3
  have e' : Value.slice a l c = v' := by simpa [Value.cells] using e
  subst e'
  exact ⟨xs, h1, fun z hz => u8_wf (h2 z hz), h3⟩
end Go.Proofs.YtgefphfnicjbiaaDoor
