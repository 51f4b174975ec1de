/- From a walk to a law's row: entries opened (layer 25). -/
import Derived.Test.YtgefphfnicjbiaaDoorRowR
import Derived.Test.YtgefphfnicjbiaaDoorSqm
set_option linter.unusedSimpArgs false
set_option linter.unusedVariables false
namespace Go.Proofs.YtgefphfnicjbiaaDoor
open Go Go.RowKit Go.ChangeShapes Go.WideShapes Go.ChangeAt Go.Deep

theorem sc22 : Tryd.prog.cellsOf 26 = 1 := by kernel_rfl
theorem sc3 : Tryd.prog.cellsOf 3 = 1 := by kernel_rfl
theorem sc23 : Tryd.prog.cellsOf 27 = 1 := by kernel_rfl
theorem sc24 : Tryd.prog.cellsOf 28 = 1 := by kernel_rfl
theorem sc5 : Tryd.prog.cellsOf 5 = 1 := by kernel_rfl
theorem sc26 : Tryd.prog.cellsOf 30 = 6 := by kernel_rfl
theorem sb5 : Tryd.prog.bytesOf 5 = 1 := by kernel_rfl
theorem sb22 : Tryd.prog.bytesOf 26 = 8 := by kernel_rfl
/-- The numbers of an entry that came in. -/
structure QU (q : QE) : Prop where
  client : U64 q.1.client
  seq : U64 q.1.seq
  data : B8 q.1.data
instance : Inhabited QE := ⟨⟨0, 0, 0, 0, [], []⟩, undef, undef⟩
theorem qe_of_trod {H : Type} {enc : TypeId × Value → H} {W : World} {base fuel : Nat} {sp : Nat → Bool} {held : Bool} {cs : List Value} {x : DataW H × List MemPlace}
    (h : DataW.trod enc Tryd.prog W base sp held fuel 30 cs = some x) (hz : ∀ n ∈ x.1.weights Tryd.prog 30, n ≤ reachBytes) :
    ∃ q : QE, cs = qC q ∧ (QOk W q ∧ QU q) := by
  obtain ⟨xs, n, _, rfl, hl, hxl, hf⟩ := DataW.trod_struct Tryd.underlying30 h
  rw [sc26] at hl
  obtain ⟨c0, c1, c2, c3, c4, c5, rfl⟩ := list6 hl
  obtain ⟨y0, y1, y2, y3, y4, y5, rfl⟩ := list6 (show xs.length = 6 from hxl)
  have h0 := hf 0 _ rfl; have h1 := hf 1 _ rfl; have h2 := hf 2 _ rfl; have h3 := hf 3 _ rfl; have h4 := hf 4 _ rfl; have h5 := hf 5 _ rfl
  simp [sc22, sc3, sc23, sc24] at h0 h1 h2 h3 h4 h5
  obtain ⟨t, e0, rfl, w0⟩ := DataW.trod_int Tryd.underlying26 h0
  obtain ⟨k, e1, rfl, w1⟩ := DataW.trod_int Tryd.underlying3 h1
  obtain ⟨c, e2, rfl, w2⟩ := DataW.trod_int Tryd.underlying26 h2
  obtain ⟨s, e3, rfl, w3⟩ := DataW.trod_int Tryd.underlying26 h3
  have hw : ∀ n, n ∈ y4.1.weights Tryd.prog 27 ∨ n ∈ y5.1.weights Tryd.prog 28 → n ≤ reachBytes := fun n hn => hz n (by
    simp [DataW.weights, Tryd.underlying30, DataW.weightsEach]
    exact hn)
  obtain ⟨dv, ds, e4, r4, w4, b4⟩ := rd_of_trod Tryd.underlying27 Tryd.underlying5 sc5 h4 fun n hn => hw n (.inl hn)
  obtain ⟨mv, ms, e5, r5, w5, b5⟩ := rd_of_trod Tryd.underlying28 Tryd.underlying26 sc22 h5 fun n hn => hw n (.inr hn)
  simp only [List.cons.injEq, and_true] at e0 e1 e2 e3 e4 e5
  subst e0 e1 e2 e3 e4 e5
  rw [sb5, Nat.mul_one] at b4
  unfold reachBytes at b4
  obtain ⟨ma, mn, mc, hm⟩ := r5.shape
  exact ⟨⟨⟨t, k, c, s, ds, ms⟩, _, _⟩, rfl, ⟨r4, ⟨_, _, _, hm⟩, show ds.length ≤ _ by omega⟩, u64_wf w2, u64_wf w3, fun z hz => u8_wf (w4 z hz)⟩
end Go.Proofs.YtgefphfnicjbiaaDoor
