/- From a walk to a law's row: entries and bytes opened. -/
import Derived.Test.YtjodgbabfhcilaaRowG
import Derived.Test.YtjodgbabfhcilaaEnt2
set_option linter.unusedSimpArgs false
set_option linter.unusedVariables false
namespace Go.Proofs.Ytjodgbabfhcilaa
open Go Go.RowKit Go.ChangeShapes Go.WideShapes Go.ChangeAt

theorem cells22 : Try.prog.cellsOf 29 = 1 := by kernel_rfl
theorem cells3 : Try.prog.cellsOf 3 = 1 := by kernel_rfl
theorem cells23 : Try.prog.cellsOf 32 = 1 := by kernel_rfl
theorem cells24 : Try.prog.cellsOf 31 = 1 := by kernel_rfl
theorem cells5 : Try.prog.cellsOf 5 = 1 := by kernel_rfl
theorem cells26 : Try.prog.cellsOf 67 = 6 := by kernel_rfl
theorem bytes5 : Try.prog.bytesOf 5 = 1 := by kernel_rfl
theorem bytes22 : Try.prog.bytesOf 29 = 8 := by kernel_rfl

/-- An entry that came in. -/
theorem ent_of_trod {H : Type} {enc : TypeId × Value → H} {W : World} {base fuel : Nat} {sp : Nat → Bool} {held : Bool} {cs : List Value} {x : DataW H × List MemPlace}
    (h : DataW.trod enc Try.prog W base sp held fuel 67 cs = some x) (hz : ∀ n ∈ x.1.weights Try.prog 67, n ≤ reachBytes) :
    ∃ e : Ent, EntV W (.agg cs.toArray) e ∧ EntOk e ∧ e.data.length ≤ reachBytes ∧ e.members.length * 8 ≤ reachBytes := by
  obtain ⟨xs, n, _, rfl, hl, hxl, hf⟩ := DataW.trod_struct Try.underlying67 h
  rw [cells26] at hl
  obtain ⟨c0, c1, c2, c3, c4, c5, rfl⟩ := list6 hl
  obtain ⟨y0, y1, y2, y3, y4, y5, rfl⟩ := list6 (show xs.length = 6 from hxl)
  have h0 := hf 0 _ rfl; have h1 := hf 1 _ rfl; have h2 := hf 2 _ rfl; have h3 := hf 3 _ rfl; have h4 := hf 4 _ rfl; have h5 := hf 5 _ rfl
  simp [cells22, cells3, cells23, cells24] at h0 h1 h2 h3 h4 h5
  obtain ⟨t, e0, rfl, w0⟩ := DataW.trod_int Try.underlying29 h0
  obtain ⟨k, e1, rfl, w1⟩ := DataW.trod_int Try.underlying3 h1
  obtain ⟨c, e2, rfl, w2⟩ := DataW.trod_int Try.underlying29 h2
  obtain ⟨s, e3, rfl, w3⟩ := DataW.trod_int Try.underlying29 h3
  have hw : ∀ n, n ∈ y4.1.weights Try.prog 32 ∨ n ∈ y5.1.weights Try.prog 31 → n ≤ reachBytes := fun n hn => hz n (by
    simp [DataW.weights, Try.underlying67, DataW.weightsEach]
    exact hn)
  obtain ⟨dv, ds, e4, r4, w4, b4⟩ := rd_of_trod Try.underlying32 Try.underlying5 cells5 h4 fun n hn => hw n (.inl hn)
  obtain ⟨mv, ms, e5, r5, w5, b5⟩ := rd_of_trod Try.underlying31 Try.underlying29 cells22 h5 fun n hn => hw n (.inr hn)
  simp only [List.cons.injEq, and_true] at e0 e1 e2 e3 e4 e5
  subst e0 e1 e2 e3 e4 e5
  rw [bytes5, Nat.mul_one] at b4
  rw [bytes22] at b5
  exact ⟨⟨t, k, c, s, ds, ms⟩, ⟨_, _, rfl, r4, r5⟩, ⟨u64_wf w0, i64_wf w1, u64_wf w2, u64_wf w3, fun z hz => u8_wf (w4 z hz), fun z hz => u64_wf (w5 z hz)⟩, b4, b5⟩

set_option maxRecDepth 100000 in
theorem ent_open {H : Type} {enc : TypeId × Value → H} {W : World} {base : Nat} {sp : Nat → Bool} {held : Bool} {v : Value} {d : DataW H} {ps : List MemPlace} {r : Reach} {b0 : Nat}
    (hv : Value.okWide Try.prog W r b0 67 v) (h : DataW.Trod enc Try.prog W base sp held 67 v d ps) (hz : ∀ n ∈ d.weights Try.prog 67, n ≤ reachBytes) :
    ∃ e : Ent, EntV W v e ∧ EntOk e ∧ e.data.length ≤ 140737488355328 ∧ e.members.length ≤ 17592186044416 := by
  obtain ⟨cs, rfl, hsz⟩ := okWide_struct Try.underlying67 hv
  obtain ⟨fuel, hf⟩ := h
  obtain ⟨e, h1, h2, h3, h4⟩ := ent_of_trod hf hz
  unfold reachBytes at h3 h4
  exact ⟨e, by simpa [Value.cells] using h1, h2, by omega, by omega⟩

set_option maxRecDepth 100000 in
/-- A []byte that came in. -/
theorem u8s_open {H : Type} {enc : TypeId × Value → H} {W : World} {base : Nat} {sp : Nat → Bool} {held : Bool} {v : Value} {d : DataW H} {ps : List MemPlace} {r : Reach} {b0 : Nat}
    (hv : Value.okWide Try.prog W r b0 32 v) (h : DataW.Trod enc Try.prog W base sp held 32 v d ps) (hz : ∀ n ∈ d.weights Try.prog 32, n ≤ reachBytes) :
    ∃ xs : List Int, Rd W v (u8s xs) ∧ B8 xs ∧ xs.length ≤ 140737488351232 := by
  obtain ⟨a, l, c, rfl⟩ := okWide_slice Try.underlying32 hv
  obtain ⟨fuel, hf⟩ := h
  obtain ⟨v', xs, e, h1, h2, h3⟩ := rd_of_trod Try.underlying32 Try.underlying5 cells5 hf hz
  rw [bytes5, Nat.mul_one] at h3
  unfold reachBytes at h3
  have e' : Value.slice a l c = v' := by simpa [Value.cells] using e
  subst e'
  exact ⟨xs, h1, fun z hz => u8_wf (h2 z hz), h3⟩
end Go.Proofs.Ytjodgbabfhcilaa
