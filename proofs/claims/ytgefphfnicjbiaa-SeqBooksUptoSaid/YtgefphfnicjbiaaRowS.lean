/- From a walk to a law's row: entries opened (layer 25). -/
import Derived.Test.YtgefphfnicjbiaaRowR
import Derived.Test.YtgefphfnicjbiaaBun6
set_option linter.unusedSimpArgs false
set_option linter.unusedVariables false
namespace Go.Proofs.Ytgefphfnicjbiaa
open Go Go.RowKit Go.ChangeShapes Go.WideShapes Go.ChangeAt Go.Deep

theorem sc22 : Try.prog.cellsOf 28 = 1 := by kernel_rfl
theorem sc3 : Try.prog.cellsOf 3 = 1 := by kernel_rfl
theorem sc23 : Try.prog.cellsOf 29 = 1 := by kernel_rfl
theorem sc24 : Try.prog.cellsOf 30 = 1 := by kernel_rfl
theorem sc5 : Try.prog.cellsOf 5 = 1 := by kernel_rfl
theorem sc26 : Try.prog.cellsOf 32 = 6 := by kernel_rfl
theorem sb5 : Try.prog.bytesOf 5 = 1 := by kernel_rfl
theorem sb22 : Try.prog.bytesOf 28 = 8 := by kernel_rfl
/-- The numbers of an entry that came in. -/
structure QU (q : QE) : Prop where
  client : U64 q.1.client
  seq : U64 q.1.seq
  data : B8 q.1.data
instance : Inhabited QE := ⟨⟨0, 0, 0, 0, [], []⟩, undef, undef⟩
theorem qe_of_trod {H : Type} {enc : TypeId × Value → H} {W : World} {base fuel : Nat} {sp : Nat → Bool} {held : Bool} {cs : List Value} {x : DataW H × List MemPlace}
    (h : DataW.trod enc Try.prog W base sp held fuel 32 cs = some x) (hz : ∀ n ∈ x.1.weights Try.prog 32, n ≤ reachBytes) :
    ∃ q : QE, cs = qC q ∧ (QOk W q ∧ QU q) := by
  obtain ⟨xs, n, _, rfl, hl, hxl, hf⟩ := DataW.trod_struct Try.underlying32 h
  rw [sc26] at hl
  obtain ⟨c0, c1, c2, c3, c4, c5, rfl⟩ := list6 hl
  obtain ⟨y0, y1, y2, y3, y4, y5, rfl⟩ := list6 (show xs.length = 6 from hxl)
  have h0 := hf 0 _ rfl; have h1 := hf 1 _ rfl; have h2 := hf 2 _ rfl; have h3 := hf 3 _ rfl; have h4 := hf 4 _ rfl; have h5 := hf 5 _ rfl
  simp [sc22, sc3, sc23, sc24] at h0 h1 h2 h3 h4 h5
  obtain ⟨t, e0, rfl, w0⟩ := DataW.trod_int Try.underlying28 h0
  obtain ⟨k, e1, rfl, w1⟩ := DataW.trod_int Try.underlying3 h1
  obtain ⟨c, e2, rfl, w2⟩ := DataW.trod_int Try.underlying28 h2
  obtain ⟨s, e3, rfl, w3⟩ := DataW.trod_int Try.underlying28 h3
  have hw : ∀ n, n ∈ y4.1.weights Try.prog 29 ∨ n ∈ y5.1.weights Try.prog 30 → n ≤ reachBytes := fun n hn => hz n (by
    simp [DataW.weights, Try.underlying32, DataW.weightsEach]
    exact hn)
  obtain ⟨dv, ds, e4, r4, w4, b4⟩ := rd_of_trod Try.underlying29 Try.underlying5 sc5 h4 fun n hn => hw n (.inl hn)
  obtain ⟨mv, ms, e5, r5, w5, b5⟩ := rd_of_trod Try.underlying30 Try.underlying28 sc22 h5 fun n hn => hw n (.inr hn)
  simp only [List.cons.injEq, and_true] at e0 e1 e2 e3 e4 e5
  subst e0 e1 e2 e3 e4 e5
  rw [sb5, Nat.mul_one] at b4
  unfold reachBytes at b4
  obtain ⟨ma, mn, mc, hm⟩ := r5.shape
  exact ⟨⟨⟨t, k, c, s, ds, ms⟩, _, _⟩, rfl, ⟨r4, ⟨_, _, _, hm⟩, show ds.length ≤ _ by omega⟩, u64_wf w2, u64_wf w3, fun z hz => u8_wf (w4 z hz)⟩
set_option maxRecDepth 100000 in
theorem qes_open {H : Type} {enc : TypeId × Value → H} {W : World} {base : Nat} {sp : Nat → Bool} {held : Bool} {v : Value} {d : DataW H} {ps : List MemPlace} {r : Reach} {b0 : Nat}
    (hv : Value.okWide Try.prog W r b0 22 v) (h : DataW.Trod enc Try.prog W base sp held 22 v d ps) (hz : ∀ n ∈ d.weights Try.prog 22, n ≤ reachBytes) :
    ∃ qs : List QE, RowV W 6 v (qs.map qC) ∧ ∀ q ∈ qs, QOk W q ∧ QU q := by
  obtain ⟨a, l, c, rfl⟩ := okWide_slice Try.underlying22 hv
  obtain ⟨fuel, hf⟩ := h
  obtain ⟨v', qs, e, h1, h2, -⟩ := rows_of_trod Try.underlying22 sc26 (by omega) qC (fun q => rfl) (fun q => QOk W q ∧ QU q) (fun cs x f h hz => qe_of_trod h hz) hf hz
  have e' : Value.slice a l c = v' := by simpa [Value.cells] using e
  subst e'
  exact ⟨qs, h1, h2⟩
end Go.Proofs.Ytgefphfnicjbiaa
