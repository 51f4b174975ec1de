/- From a walk to a law's row: slices of int opened. -/
import Derived.Test.YtgefphfnicjbiaaRowS
namespace Go.Proofs.Ytgefphfnicjbiaa
open Go Go.RowKit Go.ChangeShapes Go.WideShapes Go.ChangeAt Go.Deep

set_option maxRecDepth 100000 in
theorem ints_open {H : Type} {enc : TypeId × Value → H} {W : World} {base : Nat} {sp : Nat → Bool} {held : Bool} {v : Value} {d : DataW H} {ps : List MemPlace} {r : Reach} {b0 : Nat}
    (hv : Value.okWide Try.prog W r b0 39 v) (h : DataW.Trod enc Try.prog W base sp held 39 v d ps) (hz : ∀ n ∈ d.weights Try.prog 39, n ≤ reachBytes) :
    ∃ xs : List Int, Rd W v (xs.map (Value.int .i64)) ∧ ∀ x ∈ xs, -9223372036854775808 ≤ x ∧ x ≤ 9223372036854775807 := by
  obtain ⟨a, l, c, rfl⟩ := okWide_slice Try.underlying39 hv
  obtain ⟨fuel, hf⟩ := h
  obtain ⟨v', xs, e, h1, h2, -⟩ := rd_of_trod Try.underlying39 Try.underlying3 sc3 hf hz
  have e' : Value.slice a l c = v' := by simpa [Value.cells] using e
  subst e'
  exact ⟨xs, h1, fun z hz => i64_wf (h2 z hz)⟩
end Go.Proofs.Ytgefphfnicjbiaa
