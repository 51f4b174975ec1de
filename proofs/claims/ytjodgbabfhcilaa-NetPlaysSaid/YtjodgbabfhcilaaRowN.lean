/- From a walk to a law's row: scripts of net calls opened. -/
import Derived.Test.YtjodgbabfhcilaaRowM
import Derived.Test.YtjodgbabfhcilaaNet9
import Derived.Deep.Slices
set_option linter.unusedSimpArgs false
set_option linter.unusedVariables false
namespace Go.Proofs.Ytjodgbabfhcilaa
open Go Go.RowKit Go.ChangeShapes Go.WideShapes Go.ChangeAt Go.Deep

theorem cellsNO : Try.prog.cellsOf 47 = 17 := by kernel_rfl
theorem cellsI : Try.prog.cellsOf 3 = 1 := by kernel_rfl
set_option maxRecDepth 100000 in
theorem msg_of_trod {H : Type} {enc : TypeId × Value → H} {W : World} {base fuel : Nat} {sp : Nat → Bool} {held : Bool} {cs : List Value} {x : DataW H × List MemPlace}
    (h : DataW.trod enc Try.prog W base sp held fuel 34 cs = some x) (hz : ∀ n ∈ x.1.weights Try.prog 34, n ≤ reachBytes) :
    ∃ (M : Msg) (ev mv iv : Value), cs = (mCells M ev mv iv).toList ∧ MsgV W 0 (.agg (mCells M ev mv iv)) M ∧ MsgOk M ∧ MsgBd M := by
  obtain ⟨xs, n, _, hx, hl, hxl, hg⟩ := DataW.trod_struct Try.underlying34 h
  rw [cellsMsg] at hl
  obtain ⟨c0, c1, c2, c3, c4, c5, c6, c7, c8, c9, c10, c11, rfl⟩ := list12 hl
  obtain ⟨y0, y1, y2, y3, y4, y5, y6, y7, y8, y9, y10, y11, rfl⟩ := list12 (show xs.length = 12 from hxl)
  have h0 := hg 0 _ rfl; have h1 := hg 1 _ rfl; have h2 := hg 2 _ rfl; have h3 := hg 3 _ rfl; have h4 := hg 4 _ rfl; have h5 := hg 5 _ rfl
  have h6 := hg 6 _ rfl; have h7 := hg 7 _ rfl; have h8 := hg 8 _ rfl; have h9 := hg 9 _ rfl; have h10 := hg 10 _ rfl; have h11 := hg 11 _ rfl
  simp [cells22, cells3, cells23, cells24, cellsB, cellsEs] at h0 h1 h2 h3 h4 h5 h6 h7 h8 h9 h10 h11
  obtain ⟨k, e0, _, w0⟩ := DataW.trod_int Try.underlying3 h0
  obtain ⟨f, e1, _, w1⟩ := DataW.trod_int Try.underlying29 h1
  obtain ⟨t, e2, _, w2⟩ := DataW.trod_int Try.underlying29 h2
  obtain ⟨m, e3, _, w3⟩ := DataW.trod_int Try.underlying29 h3
  obtain ⟨i, e4, _, w4⟩ := DataW.trod_int Try.underlying29 h4
  obtain ⟨l, e5, _, w5⟩ := DataW.trod_int Try.underlying29 h5
  obtain ⟨c, e6, _, w6⟩ := DataW.trod_int Try.underlying29 h6
  obtain ⟨s, e7, _, w7⟩ := DataW.trod_int Try.underlying29 h7
  obtain ⟨y, e8, _⟩ := DataW.trod_bool Try.underlying4 h8
  subst hx
  have hw : ∀ n, n ∈ y9.1.weights Try.prog 30 ∨ n ∈ y10.1.weights Try.prog 31 ∨ n ∈ y11.1.weights Try.prog 32 → n ≤ reachBytes := fun n hn => hz n (by
    simp [DataW.weights, Try.underlying34, DataW.weightsEach]
    first | exact hn | exact .inr hn | exact .inr (.inr hn) | (rcases hn with h | h | h <;> simp [h]))
  obtain ⟨ev, es, e9, r9, b9, n9⟩ := ents_of_trod h9 fun n hn => hw n (.inl hn)
  obtain ⟨mv, ms, e10, r10, q10, b10⟩ := rd_of_trod Try.underlying31 Try.underlying29 cells22 h10 fun n hn => hw n (.inr (.inl hn))
  obtain ⟨dv, ds, e11, r11, q11, b11⟩ := rd_of_trod Try.underlying32 Try.underlying5 cells5 h11 fun n hn => hw n (.inr (.inr hn))
  simp only [List.cons.injEq, and_true] at e0 e1 e2 e3 e4 e5 e6 e7 e8 e9 e10 e11
  subst e0 e1 e2 e3 e4 e5 e6 e7 e8 e9 e10 e11
  rw [bytes5, Nat.mul_one] at b11
  rw [bytes22] at b10
  unfold reachBytes at b10 b11
  exact ⟨⟨k, f, t, m, i, l, c, s, y, es, ms, ds⟩, _, _, _, rfl, ⟨_, _, _, rfl, r9, ⟨r10, fun _ _ _ _ => Nat.zero_le _⟩, r11, fun _ _ _ _ => Nat.zero_le _⟩,
    ⟨i64_wf w0, u64_wf w1, u64_wf w2, u64_wf w3, u64_wf w4, u64_wf w5, u64_wf w6, u64_wf w7, fun e he => (b9 e he).1, fun z hz => u64_wf (q10 z hz), fun z hz => u8_wf (q11 z hz)⟩,
    ⟨n9, fun e he => (b9 e he).2, show ms.length ≤ _ by omega, show ds.length ≤ _ by omega⟩⟩
theorem list17 {α : Type} {l : List α} (h : l.length = 17) : ∃ a b c d e t, l = [a, b, c, d, e] ++ t ∧ t.length = 12 := by
  match l, h with
  | a :: b :: c :: d :: e :: t, h => exact ⟨a, b, c, d, e, t, rfl, by simpa using h⟩
theorem list6' {α : Type} {l : List α} (h : l.length = 6) : ∃ a b c d e f, l = [a, b, c, d, e, f] := by
  match l, h with
  | [a, b, c, d, e, f], _ => exact ⟨a, b, c, d, e, f, rfl⟩
set_option maxRecDepth 100000 in
theorem nop_of_trod {H : Type} {enc : TypeId × Value → H} {W : World} {base fuel : Nat} {held : Bool} {cs : List Value} {x : DataW H × List MemPlace}
    (h : DataW.trod enc Try.prog W base (fun _ => true) held fuel 47 cs = some x) (hz : ∀ n ∈ x.1.weights Try.prog 47, n ≤ reachBytes) :
    ∃ (o : NOp) (ev mv iv : Value), cs = noC o ev mv iv ∧ MsgV W 0 (.agg (mCells o.m ev mv iv)) o.m ∧ NOk o := by
  obtain ⟨xs, n, _, hx, hl, hxl, hf⟩ := DataW.trod_struct Try.underlying47 h
  rw [cellsNO] at hl
  obtain ⟨c0, c1, c2, c3, c4, t, rfl, ht⟩ := list17 hl
  obtain ⟨y0, y1, y2, y3, y4, y5, rfl⟩ := list6' (show xs.length = 6 from hxl)
  have h0 := hf 0 _ rfl; have h1 := hf 1 _ rfl; have h2 := hf 2 _ rfl; have h3 := hf 3 _ rfl; have h4 := hf 4 _ rfl; have h5 := hf 5 _ rfl
  simp [cellsI, cells22, cells3, cells23, cells24, cellsB, cellsMsg] at h0 h1 h2 h3 h4 h5
  rw [List.take_of_length_le (by omega)] at h5
  obtain ⟨k, e0, _, w0⟩ := DataW.trod_int Try.underlying3 h0
  obtain ⟨i, e1, _, w1⟩ := DataW.trod_int Try.underlying3 h1
  obtain ⟨a, e2, _, w2⟩ := DataW.trod_int Try.underlying29 h2
  obtain ⟨b, e3, _, w3⟩ := DataW.trod_int Try.underlying29 h3
  obtain ⟨y, e4, _⟩ := DataW.trod_bool Try.underlying4 h4
  subst hx
  have hw : ∀ n, n ∈ y5.1.weights Try.prog 34 → n ≤ reachBytes := fun n hn => hz n (by
    simp [DataW.weights, Try.underlying47, DataW.weightsEach]
    simp [hn])
  obtain ⟨M, ev, mv, iv, e5, r5, ok5, bd5⟩ := msg_of_trod h5 hw
  simp only [List.cons.injEq, and_true] at e0 e1 e2 e3 e4
  subst e0 e1 e2 e3 e4 e5
  exact ⟨⟨k, i, a, b, y, M⟩, ev, mv, iv, rfl, r5, ⟨i64_wf w0, i64_wf w1, u64_wf w2, u64_wf w3, ok5, bd5.entries, fun e he => ⟨(bd5.each e he).data, (bd5.each e he).members⟩, bd5.members, bd5.image⟩⟩
set_option maxRecDepth 100000 in
theorem nops_of_trod {H : Type} {enc : TypeId × Value → H} {W : World} {base fuel : Nat} {held : Bool} {cs : List Value} {x : DataW H × List MemPlace}
    (h : DataW.trod enc Try.prog W base (fun _ => true) held fuel 41 cs = some x) (hz : ∀ n ∈ x.1.weights Try.prog 41, n ≤ reachBytes) :
    ∃ (v : Value) (xs : List NOp), cs = [v] ∧ OpsN W v xs ∧ ∀ o ∈ xs, NOk o := by
  rcases open_slice Try.underlying41 h with ⟨rfl, _⟩ | ⟨a, len, cap, m, n, D, Pl, rfl, _, hl, hm, hmm, rfl, hi⟩
  · exact ⟨_, [], rfl, ⟨none, 0, rfl, Nat.le_refl _, by unfold maxLen; omega, .inl rfl⟩, fun e he => by cases he⟩
  · have hlm : len ≤ m := by rw [hmm]; split <;> omega
    have hzi : ∀ i, i < len → ∀ n ∈ (D i).weights Try.prog 47, n ≤ reachBytes := fun i hil n hn => hz n (by
      simp [DataW.weights, Try.underlying41]
      exact .inr (.inl (weightsAll_mem _ (List.mem_map.2 ⟨i, List.mem_range.2 hil, rfl⟩) hn)))
    rw [cellsNO] at hi
    have key : ∀ i, ∃ q : NOp × Value × Value × Value, i < len → (∀ (j : Nat) u, (noC q.1 q.2.1 q.2.2.1 q.2.2.2)[j]? = some u → W.cell? (a.add (i * 17 + j)) = some u) ∧ MsgV W 0 (.agg (mCells q.1.m q.2.1 q.2.2.1 q.2.2.2)) q.1.m ∧ NOk q.1 := fun i => by
      by_cases hil : i < len
      · obtain ⟨cs', hc, ht⟩ := hi i (by omega)
        obtain ⟨o, ev, mv, iv, hcs, h1, h3⟩ := nop_of_trod ht (hzi i hil)
        obtain ⟨_, hcl, hat⟩ := World.cells?_some hc
        refine ⟨⟨o, ev, mv, iv⟩, fun _ => ⟨fun j u hu => ?_, h1, h3⟩⟩
        have hj : j < 17 := by have := (List.getElem?_eq_some_iff.1 hu).1; simpa [noC] using this
        rw [← Go.Deep.add_add, hat j hj, hcs]; exact hu
      · exact ⟨⟨⟨0, 0, 0, 0, false, Msg.zero⟩, undef, undef, undef⟩, fun h => absurd h hil⟩
    obtain ⟨f, hf⟩ := Classical.skolem.1 key
    refine ⟨_, (List.range len).map fun i => (f i).1, rfl, ⟨some a, cap, by simp, by simpa using hl, hm, ?_⟩, fun o ho => ?_⟩
    · by_cases h0 : len = 0
      · left; subst h0; simp
      · right
        obtain ⟨b, o, s⟩ := a
        have hc0 := (hf 0 (by omega)).1 0 _ rfl
        have hs : s = none := by
          cases s with
          | none => rfl
          | some q =>
            exfalso
            have : (⟨b, o, some q⟩ : Addr).add (0 * 17 + 0) = ⟨b, o, some q⟩ := by simp [Addr.add]
            rw [this] at hc0
            unfold World.cell? at hc0
            split at hc0 <;> simp at hc0
        subst hs
        refine ⟨b, o, rfl, fun i x hx => ?_⟩
        have hil : i < len := by have := (List.getElem?_eq_some_iff.1 hx).1; simpa using this
        have hxf : x = (f i).1 := by simpa [hil] using hx.symm
        subst hxf
        obtain ⟨k1, k2, k4⟩ := hf i hil
        refine ⟨(f i).2.1, (f i).2.2.1, (f i).2.2.2, k2, fun j u hu => ?_⟩
        have := k1 j u hu
        rw [Addr.add_lit] at this
        rw [Nat.add_assoc]; exact this
    · obtain ⟨i, hi2, rfl⟩ := List.mem_map.1 ho
      exact (hf i (List.mem_range.1 hi2)).2.2
set_option maxRecDepth 100000 in
theorem nops_open {H : Type} {enc : TypeId × Value → H} {W : World} {base : Nat} {held : Bool} {v : Value} {d : DataW H} {ps : List MemPlace} {r : Reach} {b0 : Nat}
    (hv : Value.okWide Try.prog W r b0 41 v) (h : DataW.Trod enc Try.prog W base (fun _ => true) held 41 v d ps) (hz : ∀ n ∈ d.weights Try.prog 41, n ≤ reachBytes) :
    ∃ xs : List NOp, OpsN W v xs ∧ ∀ o ∈ xs, NOk o := by
  obtain ⟨a, l, c, rfl⟩ := okWide_slice Try.underlying41 hv
  obtain ⟨fuel, hf⟩ := h
  obtain ⟨v', xs, e, h1, h2⟩ := nops_of_trod hf hz
  have e' : Value.slice a l c = v' := by simpa [Value.cells] using e
  subst e'
  exact ⟨xs, h1, h2⟩
end Go.Proofs.Ytjodgbabfhcilaa
