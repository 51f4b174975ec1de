/- Slices of rows of several cells in memory. Of any program. -/
import Derived.Test.YtgefphfnicjbiaaChg
namespace Go.Proofs.Ytgefphfnicjbiaa
open Go Go.RowKit

/-- v is a slice whose elements are the rows, of s cells each. -/
def RowV (w : World) (s : Nat) (v : Value) (rows : List (List Value)) : Prop := ∃ a c, v = .slice a rows.length c ∧ rows.length ≤ c ∧ c ≤ maxLen ∧
  (rows = [] ∨ ∃ b o, a = some ⟨b, o, none⟩ ∧ ∀ (i : Nat) r, rows[i]? = some r → ∀ (j : Nat) u, r[j]? = some u → w.cell? ⟨b, o + i * s + j, none⟩ = some u)
theorem RowV.nil (w : World) (s : Nat) : RowV w s (.slice none 0 0) [] := ⟨none, 0, rfl, Nat.le_refl _, by unfold maxLen; omega, .inl rfl⟩
theorem RowV.chg {w w' : World} {s : Nat} {v : Value} {rows : List (List Value)} {S : List Nat} (h : RowV w s v rows) (hg : Chg S w w') (ho : ∀ a n c, v = .slice (some a) n c → rows ≠ [] → a.block ∉ S) : RowV w' s v rows := by
  obtain ⟨a, c, hv, h1, h2, h3⟩ := h
  refine ⟨a, c, hv, h1, h2, ?_⟩
  by_cases hn : rows = []
  · exact .inl hn
  · rcases h3 with h3 | ⟨b, o, rfl, hc⟩
    · exact absurd h3 hn
    · exact .inr ⟨b, o, rfl, fun i r hr j u hj => cell_chg hg (hc i r hr j u hj) (by have := ho _ _ _ hv hn; exact this)⟩
theorem RowV.ext {w w' : World} {s : Nat} {v : Value} {rows : List (List Value)} (h : RowV w s v rows) (hE : Ext w w') : RowV w' s v rows := h.chg (S := []) (Chg.ext hE) (by simp)
theorem RowV.of_own {w : World} {base s : Nat} {e : TypeId} {v : Value} {rows : List (List Value)} (h : w.ownsRow base e s v rows.length rows.flatten) (hs : ∀ r ∈ rows, r.length = s) : RowV w s v rows := by
  rcases h.2 with ⟨hv, h0⟩ | ⟨g, cap, cur, hv, _, hh, h1, h2, h3, h4⟩
  · have : rows = [] := List.eq_nil_of_length_eq_zero h0
    subst this
    exact ⟨none, 0, hv, Nat.le_refl _, by unfold maxLen; omega, .inl rfl⟩
  · refine ⟨_, cap, hv, h1, h2, .inr ⟨g, 0, rfl, fun i r hr j u hj => ?_⟩⟩
    rw [Nat.zero_add]
    refine (show Blk w g cur e from hh).cell _ ?_
    have key : ∀ (rows : List (List Value)) (i : Nat) (r : List Value), (∀ r ∈ rows, r.length = s) → rows[i]? = some r → r[j]? = some u → rows.flatten[i * s + j]? = some u := by
      intro rows
      induction rows with
      | nil => intro i r _ hi _; simp at hi
      | cons x t ih =>
        intro i r hs hi hj
        have hx := hs x (by simp)
        rw [List.flatten_cons]
        cases i with
        | zero =>
          simp at hi; subst hi
          have hjl := (List.getElem?_eq_some_iff.1 hj).1
          rw [List.getElem?_append_left (by omega)]
          simpa using hj
        | succ i =>
          simp at hi
          rw [List.getElem?_append_right (by rw [hx, Nat.succ_mul]; omega), hx, show (i + 1) * s + j - s = i * s + j by rw [Nat.succ_mul]; omega]
          exact ih i r (fun r hr => hs r (by simp [hr])) hi hj
    have hk := key rows i r hs hr hj
    rw [← h4, List.getElem?_take] at hk
    split at hk
    · simpa using hk
    · cases hk
theorem RowV.lt {w : World} {s : Nat} {v : Value} {rows : List (List Value)} {a : Addr} {n c : Nat} (h : RowV w s v rows) (e : v = .slice (some a) n c) (hne : rows ≠ []) (hr : ∀ r ∈ rows, r ≠ []) : a.block < w.heap.size := by
  obtain ⟨a', c', hv, _, _, h3⟩ := h
  rcases h3 with h3 | ⟨b, o, rfl, hc⟩
  · exact absurd h3 hne
  · rw [e] at hv
    cases hv
    cases rows with
    | nil => exact absurd rfl hne
    | cons r t =>
      cases hr2 : r with
      | nil => exact absurd hr2 (hr r (by simp))
      | cons u x => exact World.block_lt_of_cell? w ⟨b, o + 0 * s + 0, none⟩ (hc 0 r rfl 0 u (by rw [hr2]; rfl))
end Go.Proofs.Ytgefphfnicjbiaa
