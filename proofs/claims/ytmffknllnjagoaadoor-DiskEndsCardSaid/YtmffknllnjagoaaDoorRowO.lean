/- From a walk to a law's row: a script of calls opened. -/
import Derived.Test.YtmffknllnjagoaaDoorRowD
import Derived.Test.YtmffknllnjagoaaDoorTwf
import Derived.Deep.Slices
import Derived.Deep.Fields
import Derived.Deep.Grids
set_option linter.unusedSimpArgs false
set_option linter.unusedVariables false
namespace Go.Proofs.YtmffknllnjagoaaDoor
open Go Go.RowKit Go.ChangeShapes Go.WideShapes Go.ChangeAt Go.Deep

theorem cellsOp : Tryd.prog.cellsOf 46 = 6 := by kernel_rfl
theorem cellsI : Tryd.prog.cellsOf 3 = 1 := by kernel_rfl
theorem cellsSt : Tryd.prog.cellsOf 9 = 1 := by kernel_rfl
theorem cellsU8 : Tryd.prog.cellsOf 22 = 1 := by kernel_rfl
theorem cellsBs : Tryd.prog.cellsOf 31 = 1 := by kernel_rfl
theorem cellsB : Tryd.prog.cellsOf 4 = 1 := by kernel_rfl
theorem weightsAll_mem {H : Type} {P : Program} {t : TypeId} {d : DataW H} {n : Nat} : ∀ (ds : List (DataW H)), d ∈ ds → n ∈ d.weights P t → n ∈ DataW.weightsAll P t ds
  | [], h, _ => by cases h
  | x :: r, h, hn => by
    simp only [DataW.weightsAll, List.mem_append]
    rcases List.mem_cons.1 h with rfl | h
    · exact .inl hn
    · exact .inr (weightsAll_mem r h hn)
/-- A []bool that came in. -/
theorem bools_of_trod {H : Type} {enc : TypeId × Value → H} {W : World} {base fuel : Nat} {held : Bool} {cs : List Value} {x : DataW H × List MemPlace}
    (h : DataW.trod enc Tryd.prog W base (fun _ => true) held fuel 31 cs = some x) : ∃ (v : Value) (bs : List Bool), cs = [v] ∧ Rd W v (bs.map Value.bool) := by
  rcases open_bools Tryd.underlying31 Tryd.underlying4 cellsB h with ⟨rfl, _⟩ | ⟨a, len, cap, B, rfl, _, hl, hm, _, hcell⟩
  · exact ⟨_, [], rfl, Rd.nil W⟩
  · refine ⟨_, (List.range len).map B, rfl, some a, cap, by simp, by simpa using hl, hm, ?_⟩
    by_cases h0 : len = 0
    · left; subst h0; simp
    · right
      obtain ⟨b, o, s⟩ := a
      have hc0 := hcell 0 (by omega)
      have hs : s = none := by
        cases s with
        | none => rfl
        | some q =>
          exfalso
          have : (⟨b, o, some q⟩ : Addr).add 0 = ⟨b, o, some q⟩ := by simp [Addr.add]
          rw [this] at hc0
          unfold World.cell? at hc0
          split at hc0 <;> simp at hc0
      subst hs
      refine ⟨b, o, rfl, fun j u hj => ?_⟩
      have hjl : j < len := by have := (List.getElem?_eq_some_iff.1 hj).1; simpa using this
      have hcj := hcell j (by omega)
      rw [Addr.add_lit] at hcj
      rw [hcj]
      simpa [hjl] using hj
theorem op_of_trod {H : Type} {enc : TypeId × Value → H} {W : World} {base fuel : Nat} {held : Bool} {cs : List Value} {x : DataW H × List MemPlace}
    (h : DataW.trod enc Tryd.prog W base (fun _ => true) held fuel 46 cs = some x) (hz : ∀ n ∈ x.1.weights Tryd.prog 46, n ≤ reachBytes) :
    ∃ (o : LO) (bv kv : Value), cs = oC o bv kv ∧ Rd W bv (u8s o.b) ∧ Rd W kv (o.keep.map Value.bool) ∧ LOk o := by
  obtain ⟨xs, n, _, rfl, hl, hxl, hf⟩ := DataW.trod_struct Tryd.underlying46 h
  rw [cellsOp] at hl
  obtain ⟨c0, c1, c2, c3, c4, c5, rfl⟩ := list6 hl
  obtain ⟨y0, y1, y2, y3, y4, y5, rfl⟩ := list6 (show xs.length = 6 from hxl)
  have h0 := hf 0 _ rfl; have h1 := hf 1 _ rfl; have h2 := hf 2 _ rfl; have h3 := hf 3 _ rfl; have h4 := hf 4 _ rfl; have h5 := hf 5 _ rfl
  simp [cellsI, cellsSt, cellsU8, cellsBs] at h0 h1 h2 h3 h4 h5
  obtain ⟨k, e0, rfl, w0⟩ := DataW.trod_int Tryd.underlying3 h0
  obtain ⟨s, e1, rfl, w1⟩ := DataW.trod_string Tryd.underlying9 h1
  obtain ⟨t, e2, rfl, w2⟩ := DataW.trod_string Tryd.underlying9 h2
  obtain ⟨m, e3, rfl, w3⟩ := DataW.trod_int Tryd.underlying3 h3
  have hw : ∀ n, n ∈ y4.1.weights Tryd.prog 22 → n ≤ reachBytes := fun n hn => hz n (by
    simp [DataW.weights, Tryd.underlying46, DataW.weightsEach]
    simp [hn])
  obtain ⟨dv, ds, e4, r4, w4, _⟩ := rd_of_trod Tryd.underlying22 Tryd.underlying5 cells5 h4 hw
  obtain ⟨kv, ks, e5, r5⟩ := bools_of_trod h5
  simp only [List.cons.injEq, and_true] at e0 e1 e2 e3 e4 e5
  subst e0 e1 e2 e3 e4 e5
  have hk := i64_wf w0; have hm := i64_wf w3
  exact ⟨⟨k, s, t, m, ds, ks⟩, _, _, rfl, r4, r5, ⟨hk.1, hk.2, hm.1, hm.2, w1, w2, fun z hz => u8_wf (w4 z hz)⟩⟩
set_option maxRecDepth 100000 in
theorem ops_of_trod {H : Type} {enc : TypeId × Value → H} {W : World} {base fuel : Nat} {held : Bool} {cs : List Value} {x : DataW H × List MemPlace}
    (h : DataW.trod enc Tryd.prog W base (fun _ => true) held fuel 40 cs = some x) (hz : ∀ n ∈ x.1.weights Tryd.prog 40, n ≤ reachBytes) :
    ∃ (v : Value) (xs : List LO), cs = [v] ∧ OpsV W v xs ∧ ∀ o ∈ xs, LOk o := by
  rcases open_slice Tryd.underlying40 h with ⟨rfl, _⟩ | ⟨a, len, cap, m, n, D, Pl, rfl, _, hl, hm, hmm, rfl, hi⟩
  · exact ⟨_, [], rfl, ⟨none, 0, rfl, Nat.le_refl _, by unfold maxLen; omega, .inl rfl⟩, fun e he => by cases he⟩
  · have hlm : len ≤ m := by rw [hmm]; split <;> omega
    have hzi : ∀ i, i < len → ∀ n ∈ (D i).weights Tryd.prog 46, n ≤ reachBytes := fun i hil n hn => hz n (by
      simp [DataW.weights, Tryd.underlying40]
      exact .inr (.inl (weightsAll_mem _ (List.mem_map.2 ⟨i, List.mem_range.2 hil, rfl⟩) hn)))
    rw [cellsOp] at hi
    have key : ∀ i, ∃ q : LO × Value × Value, i < len → (∀ (j : Nat) u, (oC q.1 q.2.1 q.2.2)[j]? = some u → W.cell? (a.add (i * 6 + j)) = some u) ∧ Rd W q.2.1 (u8s q.1.b) ∧ Rd W q.2.2 (q.1.keep.map Value.bool) ∧ LOk q.1 := fun i => by
      by_cases hil : i < len
      · obtain ⟨cs', hc, ht⟩ := hi i (by omega)
        obtain ⟨o, bv, kv, hcs, h1, h2, h3⟩ := op_of_trod ht (hzi i hil)
        obtain ⟨_, hcl, hat⟩ := World.cells?_some hc
        refine ⟨⟨o, bv, kv⟩, fun _ => ⟨fun j u hu => ?_, h1, h2, h3⟩⟩
        have hj : j < 6 := by have := (List.getElem?_eq_some_iff.1 hu).1; simpa [oC] using this
        rw [← Go.Deep.add_add, hat j hj, hcs]; exact hu
      · exact ⟨⟨⟨0, ⟨#[]⟩, ⟨#[]⟩, 0, [], []⟩, undef, undef⟩, fun h => absurd h hil⟩
    obtain ⟨f, hf⟩ := Classical.skolem.1 key
    refine ⟨_, (List.range len).map fun i => (f i).1, rfl, ⟨some a, cap, by simp, by simpa using hl, hm, ?_⟩, fun o ho => ?_⟩
    · by_cases h0 : len = 0
      · left; subst h0; simp
      · right
        obtain ⟨b, o, s⟩ := a
        have hc0 := (hf 0 (by omega)).1 0 _ rfl
        have hs : s = none := by
          cases s with
          | none => rfl
          | some q =>
            exfalso
            have : (⟨b, o, some q⟩ : Addr).add (0 * 6 + 0) = ⟨b, o, some q⟩ := by simp [Addr.add]
            rw [this] at hc0
            unfold World.cell? at hc0
            split at hc0 <;> simp at hc0
        subst hs
        refine ⟨b, o, rfl, fun i x hx => ?_⟩
        have hil : i < len := by have := (List.getElem?_eq_some_iff.1 hx).1; simpa using this
        have hxf : x = (f i).1 := by simpa [hil] using hx.symm
        subst hxf
        obtain ⟨k1, k2, k3, k4⟩ := hf i hil
        refine ⟨(f i).2.1, (f i).2.2, k2, k3, fun j u hu => ?_⟩
        have := k1 j u hu
        rw [Addr.add_lit] at this
        rw [Nat.add_assoc]; exact this
    · obtain ⟨i, hi2, rfl⟩ := List.mem_map.1 ho
      exact (hf i (List.mem_range.1 hi2)).2.2.2
set_option maxRecDepth 100000 in
theorem ops_open {H : Type} {enc : TypeId × Value → H} {W : World} {base : Nat} {held : Bool} {v : Value} {d : DataW H} {ps : List MemPlace} {r : Reach} {b0 : Nat}
    (hv : Value.okWide Tryd.prog W r b0 40 v) (h : DataW.Trod enc Tryd.prog W base (fun _ => true) held 40 v d ps) (hz : ∀ n ∈ d.weights Tryd.prog 40, n ≤ reachBytes) :
    ∃ xs : List LO, OpsV W v xs ∧ ∀ o ∈ xs, LOk o := by
  obtain ⟨a, l, c, rfl⟩ := okWide_slice Tryd.underlying40 hv
  obtain ⟨fuel, hf⟩ := h
  obtain ⟨v', xs, e, h1, h2⟩ := ops_of_trod hf hz
  have e' : Value.slice a l c = v' := by simpa [Value.cells] using e
  subst e'
  exact ⟨xs, h1, h2⟩
end Go.Proofs.YtmffknllnjagoaaDoor
