/- From a walk to a law's row: a slice of structs opened, row by row. Of any program. -/
import Derived.Test.YtgefphfnicjbiaaDoorRowG
import Derived.Test.YtgefphfnicjbiaaDoorBun3
import Derived.Deep.Slices
set_option linter.unusedSimpArgs false
set_option linter.unusedVariables false
namespace Go.Proofs.YtgefphfnicjbiaaDoor
open Go Go.RowKit Go.ChangeShapes Go.WideShapes Go.ChangeAt Go.Deep

theorem weights_all {H : Type} {P : Program} {t : TypeId} {d : DataW H} {n : Nat} : ∀ (ds : List (DataW H)), d ∈ ds → n ∈ d.weights P t → n ∈ DataW.weightsAll P t ds
  | x :: r, h, hn => by
    simp only [DataW.weightsAll, List.mem_append]
    rcases List.mem_cons.1 h with rfl | h
    · exact .inl hn
    · exact .inr (weights_all r h hn)
theorem flat_at {s : Nat} {u : Value} : ∀ (rows : List (List Value)) (j : Nat), (∀ r ∈ rows, r.length = s) → rows.flatten[j]? = some u → ∃ i r j', rows[i]? = some r ∧ r[j']? = some u ∧ j = i * s + j'
  | [], j, _, h => by simp at h
  | r :: rs, j, hs, h => by
    have hr := hs r (by simp)
    rw [List.flatten_cons] at h
    by_cases hj : j < r.length
    · rw [List.getElem?_append_left hj] at h
      exact ⟨0, r, j, rfl, h, by omega⟩
    · rw [List.getElem?_append_right (by omega)] at h
      obtain ⟨i, r', j', h1, h2, h3⟩ := flat_at rs _ (fun r' h' => hs r' (by simp [h'])) h
      exact ⟨i + 1, r', j', h1, h2, by rw [Nat.succ_mul]; omega⟩
/-- A slice of structs that came in: its rows. -/
theorem rows_of_trod {H : Type} {enc : TypeId × Value → H} {P : Program} {W : World} {base fuel : Nat} {sp : Nat → Bool} {held : Bool} {cs : List Value} {x : DataW H × List MemPlace} {t e : TypeId} {s : Nat} {α : Type} [Inhabited α]
    (ht : P.underlying t = some (.slice e)) (hs : P.cellsOf e = s) (hs0 : 0 < s) (C : α → List Value) (hC : ∀ q, (C q).length = s) (Ok : α → Prop)
    (hel : ∀ (cs : List Value) (x : DataW H × List MemPlace) (fuel : Nat), DataW.trod enc P W base sp held fuel e cs = some x → (∀ n ∈ x.1.weights P e, n ≤ reachBytes) → ∃ q, cs = C q ∧ Ok q)
    (h : DataW.trod enc P W base sp held fuel t cs = some x) (hz : ∀ n ∈ x.1.weights P t, n ≤ reachBytes) :
    ∃ (v : Value) (qs : List α), cs = [v] ∧ RowV W s v (qs.map C) ∧ (∀ q ∈ qs, Ok q) ∧ qs.length * P.bytesOf e ≤ reachBytes := by
  rcases open_slice ht h with ⟨rfl, _⟩ | ⟨a, len, cap, m, n, D, Pl, rfl, _, hl, hm, hmm, rfl, hi⟩
  · exact ⟨_, [], rfl, RowV.nil _ _, (fun e he => by cases he), by simp⟩
  · have hlm : len ≤ m := by rw [hmm]; split <;> omega
    have hlen : len * P.bytesOf e ≤ reachBytes := by
      have := hz _ (by simp [DataW.weights, ht]; exact .inl rfl)
      exact Nat.le_trans (Nat.mul_le_mul_right _ (by simp)) this
    have hzi : ∀ i, i < len → ∀ n ∈ (D i).weights P e, n ≤ reachBytes := fun i hil n hn => hz n (by
      simp [DataW.weights, ht]
      exact .inr (.inl (weights_all _ (List.mem_map.2 ⟨i, List.mem_range.2 hil, rfl⟩) hn)))
    rw [hs] at hi
    have key : ∀ i, ∃ q : α, i < len → (∀ j u, (C q)[j]? = some u → W.cell? (a.add (i * s + j)) = some u) ∧ Ok q := fun i => by
      by_cases hil : i < len
      · obtain ⟨cs', hc, ht⟩ := hi i (by omega)
        obtain ⟨q, rfl, hok⟩ := hel _ _ _ ht (hzi i hil)
        obtain ⟨_, hcl, hat⟩ := World.cells?_some hc
        refine ⟨q, fun _ => ⟨fun j u hu => ?_, hok⟩⟩
        have hj : j < s := by have := (List.getElem?_eq_some_iff.1 hu).1; rwa [hC] at this
        rw [← Go.Deep.add_add, hat j hj]; exact hu
      · exact ⟨default, fun h => absurd h hil⟩
    obtain ⟨f, hf⟩ := Classical.skolem.1 key
    refine ⟨_, (List.range len).map f, rfl, ⟨some a, cap, by simp, by simpa using hl, hm, ?_⟩, fun q hq => ?_, by simpa using hlen⟩
    · by_cases h0 : len = 0
      · left; subst h0; simp
      · right
        obtain ⟨b, o, sh⟩ := a
        have hc0 := (hf 0 (by omega)).1 0 _ (List.getElem?_eq_getElem (by rw [hC]; exact hs0))
        have hsh : sh = none := by
          cases sh with
          | none => rfl
          | some q =>
            exfalso
            have : (⟨b, o, some q⟩ : Addr).add (0 * s + 0) = ⟨b, o, some q⟩ := by simp [Addr.add]
            rw [this] at hc0
            unfold World.cell? at hc0
            split at hc0 <;> simp at hc0
        subst hsh
        refine ⟨b, o, rfl, fun i r hr j u hu => ?_⟩
        rw [List.getElem?_map, List.getElem?_map] at hr
        have hil : i < len := by
          by_cases hil : i < len
          · exact hil
          · rw [List.getElem?_eq_none (by simpa using hil)] at hr; cases hr
        rw [List.getElem?_range hil] at hr
        have hrq : r = C (f i) := (Option.some.inj hr).symm
        subst hrq
        have := (hf i hil).1 j u hu
        rw [Addr.add_lit] at this
        rw [Nat.add_assoc]; exact this
    · obtain ⟨i, hi2, rfl⟩ := List.mem_map.1 hq
      exact (hf i (List.mem_range.1 hi2)).2
end Go.Proofs.YtgefphfnicjbiaaDoor
