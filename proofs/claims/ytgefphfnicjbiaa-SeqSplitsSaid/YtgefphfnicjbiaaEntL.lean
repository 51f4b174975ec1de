/- Plain words for entries of the log. No program. -/
import Derived.Test.YtgefphfnicjbiaaNums
namespace Go.Proofs.Ytgefphfnicjbiaa

structure Ent where
  term : Int
  kind : Int
  client : Int
  seq : Int
  data : List Int
  members : List Int

/-- Strictly rising from 'last' on, none above 7; the last of all above 0. -/
def memGo (last : Int) : List Int → Bool
  | [] => decide (0 < last)
  | x :: r => !(decide (x ≤ last) || decide (7 < x)) && memGo x r
def membersB (xs : List Int) : Bool := memGo 0 xs

def formedB (x : Ent) : Bool :=
  decide (1 ≤ x.term ∧ x.term ≤ 4611686018427387904) &&
  (if x.kind = 2 then decide (x.data.length ≤ 64) && decide (x.members.length = 0)
   else if x.kind = 1 then decide (x.client = 0) && decide (x.seq = 0) && decide (x.data.length = 0) && decide (x.members.length = 0)
   else if x.kind = 3 then decide (x.client = 0) && decide (x.seq = 0) && decide (x.data.length = 0) && membersB x.members
   else false)

/-- The bytes of a formed entry. -/
def putB (x : Ent) : List Int :=
  numB x.term.toNat ++ [x.kind % 256] ++
  (if x.kind = 2 then numB x.client.toNat ++ numB x.seq.toNat ++ (numB x.data.length ++ x.data)
   else if x.kind = 3 then numB x.members.length ++ x.members.flatMap (fun m => numB m.toNat)
   else [])

theorem memGo_len : ∀ (xs : List Int) (last : Int), 0 ≤ last → memGo last xs = true → last + xs.length ≤ 7 ∨ xs = []
  | [], _, _, _ => .inr rfl
  | x :: r, last, h0, h => by
    simp only [memGo, Bool.and_eq_true, Bool.not_eq_true', Bool.or_eq_false_iff, decide_eq_false_iff_not] at h
    left
    rcases memGo_len r x (by omega) h.2 with h1 | h1
    · simp only [List.length_cons]; omega
    · subst h1; simp only [List.length_cons, List.length_nil]; omega
theorem formed_cases (x : Ent) (h : formedB x = true) : (1 ≤ x.term ∧ x.term ≤ 4611686018427387904) ∧
    ((x.kind = 1 ∧ x.client = 0 ∧ x.seq = 0 ∧ x.data = [] ∧ x.members = []) ∨ (x.kind = 2 ∧ x.data.length ≤ 64 ∧ x.members = []) ∨ (x.kind = 3 ∧ x.client = 0 ∧ x.seq = 0 ∧ x.data = [] ∧ membersB x.members = true)) := by
  simp only [formedB, Bool.and_eq_true, decide_eq_true_eq] at h
  refine ⟨h.1, ?_⟩
  have h2 := h.2
  by_cases k2 : x.kind = 2
  · rw [if_pos k2] at h2; simp at h2; exact .inr (.inl ⟨k2, h2⟩)
  · rw [if_neg k2] at h2
    by_cases k1 : x.kind = 1
    · rw [if_pos k1] at h2; simp at h2; exact .inl ⟨k1, h2.1.1.1, h2.1.1.2, h2.1.2, h2.2⟩
    · rw [if_neg k1] at h2
      by_cases k3 : x.kind = 3
      · rw [if_pos k3] at h2; simp at h2; exact .inr (.inr ⟨k3, h2.1.1.1, h2.1.1.2, h2.1.2, h2.2⟩)
      · rw [if_neg k3] at h2; cases h2
end Go.Proofs.Ytgefphfnicjbiaa
