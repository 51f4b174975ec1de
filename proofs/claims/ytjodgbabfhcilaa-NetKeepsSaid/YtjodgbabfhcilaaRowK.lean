/- From a walk to a law's row: lists of messages opened. -/
import Derived.Test.YtjodgbabfhcilaaRowN
import Derived.Test.YtjodgbabfhcilaaNeta
set_option linter.unusedSimpArgs false
set_option linter.unusedVariables false
namespace Go.Proofs.Ytjodgbabfhcilaa
open Go Go.RowKit Go.ChangeShapes Go.WideShapes Go.ChangeAt Go.Deep

set_option maxRecDepth 100000 in
theorem msgs_of_trod {H : Type} {enc : TypeId × Value → H} {W : World} {base fuel : Nat} {held : Bool} {cs : List Value} {x : DataW H × List MemPlace}
    (h : DataW.trod enc Try.prog W base (fun _ => true) held fuel 22 cs = some x) (hz : ∀ n ∈ x.1.weights Try.prog 22, n ≤ reachBytes) :
    ∃ (v : Value) (qs : List MQ), cs = [v] ∧ RowV W 12 v (qs.map mC) ∧ ∀ q ∈ qs, MQok W q := by
  rcases open_slice Try.underlying22 h with ⟨rfl, _⟩ | ⟨a, len, cap, m, n, D, Pl, rfl, _, hl, hm, hmm, rfl, hi⟩
  · exact ⟨_, [], rfl, RowV.nil _ _, fun e he => by cases he⟩
  · have hlm : len ≤ m := by rw [hmm]; split <;> omega
    have hzi : ∀ i, i < len → ∀ n ∈ (D i).weights Try.prog 34, n ≤ reachBytes := fun i hil n hn => hz n (by
      simp [DataW.weights, Try.underlying22]
      exact .inr (.inl (weightsAll_mem _ (List.mem_map.2 ⟨i, List.mem_range.2 hil, rfl⟩) hn)))
    rw [cellsMsg] at hi
    have key : ∀ i, ∃ q : MQ, i < len → (∀ (j : Nat) u, (mC q)[j]? = some u → W.cell? (a.add (i * 12 + j)) = some u) ∧ MQok W q := fun i => by
      by_cases hil : i < len
      · obtain ⟨cs', hc, ht⟩ := hi i (by omega)
        obtain ⟨M, ev, mv, iv, hcs, h1, h2, _⟩ := msg_of_trod ht (hzi i hil)
        obtain ⟨_, hcl, hat⟩ := World.cells?_some hc
        refine ⟨⟨M, ev, mv, iv⟩, fun _ => ⟨fun j u hu => ?_, h1, h2⟩⟩
        have hj : j < 12 := by have := (List.getElem?_eq_some_iff.1 hu).1; simpa [mC] using this
        rw [← Go.Deep.add_add, hat j hj, hcs]; exact hu
      · exact ⟨⟨Msg.zero, undef, undef, undef⟩, fun h => absurd h hil⟩
    obtain ⟨f, hf⟩ := Classical.skolem.1 key
    refine ⟨_, (List.range len).map f, rfl, ⟨some a, cap, by simp, by simpa using hl, hm, ?_⟩, fun o ho => ?_⟩
    · by_cases h0 : len = 0
      · left; subst h0; simp
      · right
        obtain ⟨b, o, s⟩ := a
        have hc0 := (hf 0 (by omega)).1 0 _ rfl
        have hs : s = none := by
          cases s with
          | none => rfl
          | some q =>
            exfalso
            have : (⟨b, o, some q⟩ : Addr).add (0 * 12 + 0) = ⟨b, o, some q⟩ := by simp [Addr.add]
            rw [this] at hc0
            unfold World.cell? at hc0
            split at hc0 <;> simp at hc0
        subst hs
        refine ⟨b, o, rfl, fun i r hr j u hu => ?_⟩
        rw [List.map_map, List.getElem?_map] at hr
        have hil : i < len := by
          cases hx : (List.range len)[i]? with
          | none => rw [hx] at hr; cases hr
          | some y => have := (List.getElem?_eq_some_iff.1 hx).1; simpa using this
        rw [List.getElem?_range hil] at hr
        simp only [Option.map_some, Function.comp, Option.some.injEq] at hr
        subst hr
        have := (hf i hil).1 j u hu
        rw [Addr.add_lit] at this
        rw [Nat.add_assoc]; exact this
    · obtain ⟨i, hi2, rfl⟩ := List.mem_map.1 ho
      exact (hf i (List.mem_range.1 hi2)).2
set_option maxRecDepth 100000 in
theorem msgs_open {H : Type} {enc : TypeId × Value → H} {W : World} {base : Nat} {held : Bool} {v : Value} {d : DataW H} {ps : List MemPlace} {r : Reach} {b0 : Nat}
    (hv : Value.okWide Try.prog W r b0 22 v) (h : DataW.Trod enc Try.prog W base (fun _ => true) held 22 v d ps) (hz : ∀ n ∈ d.weights Try.prog 22, n ≤ reachBytes) :
    ∃ qs : List MQ, RowV W 12 v (qs.map mC) ∧ ∀ q ∈ qs, MQok W q := by
  obtain ⟨a, l, c, rfl⟩ := okWide_slice Try.underlying22 hv
  obtain ⟨fuel, hf⟩ := h
  obtain ⟨v', xs, e, h1, h2⟩ := msgs_of_trod hf hz
  have e' : Value.slice a l c = v' := by simpa [Value.cells] using e
  subst e'
  exact ⟨xs, h1, h2⟩
set_option maxRecDepth 100000 in
theorem ints_open {H : Type} {enc : TypeId × Value → H} {W : World} {base : Nat} {sp : Nat → Bool} {held : Bool} {v : Value} {d : DataW H} {ps : List MemPlace} {r : Reach} {b0 : Nat}
    (hv : Value.okWide Try.prog W r b0 23 v) (h : DataW.Trod enc Try.prog W base sp held 23 v d ps) (hz : ∀ n ∈ d.weights Try.prog 23, n ≤ reachBytes) :
    ∃ xs : List Int, Rd W v (xs.map (Value.int .i64)) ∧ ∀ x ∈ xs, -9223372036854775808 ≤ x ∧ x ≤ 9223372036854775807 := by
  obtain ⟨a, l, c, rfl⟩ := okWide_slice Try.underlying23 hv
  obtain ⟨fuel, hf⟩ := h
  obtain ⟨mv, ms, e, r0, q0, _⟩ := rd_of_trod Try.underlying23 Try.underlying3 cellsI hf hz
  have e' : Value.slice a l c = mv := by simpa [Value.cells] using e
  subst e'
  exact ⟨ms, r0, fun x hx => i64_wf (q0 x hx)⟩
end Go.Proofs.Ytjodgbabfhcilaa
