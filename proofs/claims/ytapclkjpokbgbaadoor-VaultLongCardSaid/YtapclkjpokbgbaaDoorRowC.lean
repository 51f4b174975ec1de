/- From a walk to a law's row: hard states, lists of them, lists of bools opened. -/
import Derived.Test.YtapclkjpokbgbaaDoorRowD
import Derived.Test.YtapclkjpokbgbaaDoorCel5
import Derived.Deep.Slices
import Derived.Deep.Fields
import Derived.Deep.Grids
set_option linter.unusedSimpArgs false
set_option linter.unusedVariables false
namespace Go.Proofs.YtapclkjpokbgbaaDoor
open Go Go.RowKit Go.ChangeShapes Go.WideShapes Go.ChangeAt Go.Deep

theorem cellsH : Tryd.prog.cellsOf 24 = 2 := by kernel_rfl
theorem cellsU64 : Tryd.prog.cellsOf 22 = 1 := by kernel_rfl
theorem cellsB : Tryd.prog.cellsOf 4 = 1 := by kernel_rfl
/-- A []bool that came in. -/
theorem bools_of_trod {H : Type} {enc : TypeId × Value → H} {W : World} {base fuel : Nat} {held : Bool} {cs : List Value} {x : DataW H × List MemPlace}
    (h : DataW.trod enc Tryd.prog W base (fun _ => true) held fuel 61 cs = some x) : ∃ (v : Value) (bs : List Bool), cs = [v] ∧ Rd W v (bs.map Value.bool) := by
  rcases open_bools Tryd.underlying61 Tryd.underlying4 cellsB h with ⟨rfl, _⟩ | ⟨a, len, cap, B, rfl, _, hl, hm, _, hcell⟩
  · exact ⟨_, [], rfl, Rd.nil W⟩
  · refine ⟨_, (List.range len).map B, rfl, some a, cap, by simp, by simpa using hl, hm, ?_⟩
    by_cases h0 : len = 0
    · left; subst h0; simp
    · right
      obtain ⟨b, o, s⟩ := a
      have hc0 := hcell 0 (by omega)
      have hs : s = none := by
        cases s with
        | none => rfl
        | some q =>
          exfalso
          have : (⟨b, o, some q⟩ : Addr).add 0 = ⟨b, o, some q⟩ := by simp [Addr.add]
          rw [this] at hc0
          unfold World.cell? at hc0
          split at hc0 <;> simp at hc0
      subst hs
      refine ⟨b, o, rfl, fun j u hj => ?_⟩
      have hjl : j < len := by have := (List.getElem?_eq_some_iff.1 hj).1; simpa using this
      have hcj := hcell j (by omega)
      rw [Addr.add_lit] at hcj
      rw [hcj]
      simpa [hjl] using hj
set_option maxRecDepth 100000 in
theorem bools_open {H : Type} {enc : TypeId × Value → H} {W : World} {base : Nat} {held : Bool} {v : Value} {d : DataW H} {ps : List MemPlace} {r : Reach} {b0 : Nat}
    (hv : Value.okWide Tryd.prog W r b0 61 v) (h : DataW.Trod enc Tryd.prog W base (fun _ => true) held 61 v d ps) : ∃ bs : List Bool, Rd W v (bs.map Value.bool) := by
  obtain ⟨a, l, c, rfl⟩ := okWide_slice Tryd.underlying61 hv
  obtain ⟨fuel, hf⟩ := h
  obtain ⟨v', bs, e, h1⟩ := bools_of_trod hf
  have e' : Value.slice a l c = v' := by simpa [Value.cells] using e
  subst e'
  exact ⟨bs, h1⟩
theorem list2 {α : Type} {l : List α} (h : l.length = 2) : ∃ a b, l = [a, b] := by
  match l, h with
  | [a, b], _ => exact ⟨a, b, rfl⟩
/-- A term and a vote. -/
def HOk (x : Nat × Nat) : Prop := x.1 < 18446744073709551616 ∧ x.2 < 18446744073709551616
theorem hard_of_trod {H : Type} {enc : TypeId × Value → H} {W : World} {base fuel : Nat} {sp : Nat → Bool} {held : Bool} {cs : List Value} {x : DataW H × List MemPlace}
    (h : DataW.trod enc Tryd.prog W base sp held fuel 24 cs = some x) : ∃ q : Nat × Nat, cs = [.int .u64 q.1, .int .u64 q.2] ∧ HOk q := by
  obtain ⟨xs, n, _, _, hl, hxl, hf⟩ := DataW.trod_struct Tryd.underlying24 h
  rw [cellsH] at hl
  obtain ⟨c0, c1, rfl⟩ := list2 hl
  obtain ⟨y0, y1, rfl⟩ := list2 (show xs.length = 2 from hxl)
  have h0 := hf 0 _ rfl; have h1 := hf 1 _ rfl
  simp [cellsU64] at h0 h1
  obtain ⟨i, e0, _, w0⟩ := DataW.trod_int Tryd.underlying22 h0
  obtain ⟨j, e1, _, w1⟩ := DataW.trod_int Tryd.underlying22 h1
  simp only [List.cons.injEq, and_true] at e0 e1
  subst e0 e1
  obtain ⟨a0, a1⟩ := u64_wf w0; obtain ⟨b0, b1⟩ := u64_wf w1
  obtain ⟨i, rfl⟩ := Int.eq_ofNat_of_zero_le a0
  obtain ⟨j, rfl⟩ := Int.eq_ofNat_of_zero_le b0
  exact ⟨(i, j), rfl, by show i < _; omega, by show j < _; omega⟩
set_option maxRecDepth 100000 in
theorem hard_open {H : Type} {enc : TypeId × Value → H} {W : World} {base : Nat} {sp : Nat → Bool} {held : Bool} {v : Value} {d : DataW H} {ps : List MemPlace} {r : Reach} {b0 : Nat}
    (hv : Value.okWide Tryd.prog W r b0 24 v) (h : DataW.Trod enc Tryd.prog W base sp held 24 v d ps) : ∃ x : Nat × Nat, v = hardV x.1 x.2 ∧ HOk x := by
  obtain ⟨cs, rfl, hsz⟩ := okWide_struct Tryd.underlying24 hv
  obtain ⟨fuel, hf⟩ := h
  obtain ⟨q, e, hq⟩ := hard_of_trod hf
  obtain ⟨cs⟩ := cs
  simp only [Value.cells] at e
  exact ⟨q, by rw [hardV]; simpa using e, hq⟩
/-- v is a list of terms and votes. -/
def HardsV (w : World) (v : Value) (xs : List (Nat × Nat)) : Prop := ∃ a c, v = .slice a xs.length c ∧ xs.length ≤ c ∧ c ≤ maxLen ∧
  (xs = [] ∨ ∃ b o, a = some ⟨b, o, none⟩ ∧ ∀ (i : Nat) x, xs[i]? = some x → w.cell? ⟨b, o + i * 2, none⟩ = some (.int .u64 x.1) ∧ w.cell? ⟨b, o + i * 2 + 1, none⟩ = some (.int .u64 x.2))
set_option maxRecDepth 100000 in
theorem hards_open {H : Type} {enc : TypeId × Value → H} {W : World} {base : Nat} {sp : Nat → Bool} {held : Bool} {v : Value} {d : DataW H} {ps : List MemPlace} {r : Reach} {b0 : Nat}
    (hv : Value.okWide Tryd.prog W r b0 60 v) (h : DataW.Trod enc Tryd.prog W base sp held 60 v d ps) (_hz : ∀ n ∈ d.weights Tryd.prog 60, n ≤ reachBytes) : ∃ xs : List (Nat × Nat), HardsV W v xs ∧ ∀ x ∈ xs, HOk x := by
  obtain ⟨a, l, c, rfl⟩ := okWide_slice Tryd.underlying60 hv
  obtain ⟨fuel, hf⟩ := h
  rcases open_slice Tryd.underlying60 hf with ⟨e, _⟩ | ⟨a', len, cap, m, n, D, Pl, e, _, hl, hm, hmm, _, hi⟩
  · have e' : Value.slice a l c = .slice none 0 0 := by simpa [Value.cells] using e
    rw [e']
    exact ⟨[], ⟨none, 0, rfl, Nat.le_refl _, by unfold maxLen; omega, .inl rfl⟩, fun x hx => by cases hx⟩
  · have e' : Value.slice a l c = .slice (some a') len cap := by simpa [Value.cells] using e
    rw [e']
    have hlm : len ≤ m := by rw [hmm]; split <;> omega
    rw [cellsH] at hi
    have key : ∀ i, ∃ q : Nat × Nat, i < len → (W.cell? (a'.add (i * 2)) = some (.int .u64 q.1) ∧ W.cell? (a'.add (i * 2 + 1)) = some (.int .u64 q.2)) ∧ HOk q := fun i => by
      by_cases hil : i < len
      · obtain ⟨cs', hc, ht⟩ := hi i (by omega)
        obtain ⟨q, rfl, hq⟩ := hard_of_trod ht
        obtain ⟨_, hcl, hat⟩ := World.cells?_some hc
        refine ⟨q, fun _ => ⟨⟨?_, ?_⟩, hq⟩⟩
        · exact hat 0 (by omega)
        · rw [← Go.Deep.add_add]; have := hat 1 (by omega); simpa using this
      · exact ⟨(0, 0), fun h => absurd h hil⟩
    obtain ⟨f, hf⟩ := Classical.skolem.1 key
    refine ⟨(List.range len).map f, ⟨some a', cap, by simp, by simpa using hl, hm, ?_⟩, fun x hx => ?_⟩
    · by_cases h0 : len = 0
      · left; subst h0; simp
      · right
        obtain ⟨b, o, s⟩ := a'
        have hc0 := (hf 0 (by omega)).1.1
        have hs : s = none := by
          cases s with
          | none => rfl
          | some q =>
            exfalso
            have : (⟨b, o, some q⟩ : Addr).add (0 * 2) = ⟨b, o, some q⟩ := by simp [Addr.add]
            rw [this] at hc0
            unfold World.cell? at hc0
            split at hc0 <;> simp at hc0
        subst hs
        refine ⟨b, o, rfl, fun i x hx => ?_⟩
        have hil : i < len := by have := (List.getElem?_eq_some_iff.1 hx).1; simpa using this
        have hxf : x = f i := by simpa [hil] using hx.symm
        subst hxf
        obtain ⟨⟨k1, k2⟩, _⟩ := hf i hil
        rw [Addr.add_lit] at k1 k2
        exact ⟨k1, by rw [Nat.add_assoc]; exact k2⟩
    · obtain ⟨i, hi2, rfl⟩ := List.mem_map.1 hx
      exact (hf i (List.mem_range.1 hi2)).2
end Go.Proofs.YtapclkjpokbgbaaDoor
