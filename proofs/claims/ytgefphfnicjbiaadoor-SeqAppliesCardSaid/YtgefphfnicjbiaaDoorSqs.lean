/- Layer 25 (seq): books that entries make are formed, plainly. -/
import Derived.Test.YtgefphfnicjbiaaDoorBun8
set_option linter.unusedSimpArgs false
set_option linter.unusedVariables false
namespace Go.Proofs.YtgefphfnicjbiaaDoor
open Go Go.RowKit

/-- A book that entries make. -/
structure Good (b : Bk) : Prop where
  ok : BkOk b
  fm : formedK b = true
  u : OkK b
theorem formedK_iff (b : Bk) : formedK b = true ↔ b.leaves.length ≤ 64 ∧ (∀ l ∈ b.leaves, l.length ≤ 64) ∧ b.clients.length ≤ 8 ∧ (b.clients.map (·.id)).Pairwise (· < ·) ∧ ∀ c ∈ b.clients, 1 ≤ c.slots.length ∧ c.slots.length ≤ 4 ∧ (c.slots.map (·.1)).Pairwise (· < ·) ∧ ∀ s ∈ c.slots, s.2 < (b.leaves.length : Int) := by
  simp only [formedK, Bool.and_eq_true, decide_eq_true_eq, List.all_eq_true]
  rw [okC_iff _ _ _ List.Pairwise.nil, List.nil_append]
  constructor
  · rintro ⟨⟨⟨h1, h2⟩, h3⟩, h4, h5⟩; exact ⟨h1, h2, h3, h4, h5⟩
  · rintro ⟨h1, h2, h3, h4, h5⟩; exact ⟨⟨⟨h1, h2⟩, h3⟩, h4, h5⟩
theorem Good.nil : Good ⟨[], []⟩ := ⟨BkOk.nil, by decide, ⟨by simp, by simp, by simp, by simp⟩⟩
theorem Good.add {b : Bk} (h : Good b) {cl sq : Int} {d : List Int} (hu : U64 cl) (hs : U64 sq) (h8 : B8 d) (hf : (findP b cl sq).2 = 8) (hk : hitAt (idsB b) cl (posL (idsB b) cl) = false → b.clients.length < 8) (hl : b.leaves.length < 64) (hd : d.length ≤ 64) : Good (addB b cl sq d) := by
  obtain ⟨hok, c0, hid, hmem, h4, hpw, hn, hold, hset, hin, hkeep⟩ := addB_spec h.ok hf hk hl hd
  have hlm := lastF_mem (l := c0.slots) (s := (sq, (b.leaves.length : Int))) hpw hn h4 hold
  obtain ⟨f1, f2, f3, f4, f5⟩ := (formedK_iff b).1 h.fm
  have hlen : (addB b cl sq d).leaves.length = b.leaves.length + 1 := by unfold addB; simp
  have hsl : ∀ t ∈ lastF (insL c0.slots (sq, (b.leaves.length : Int))), t.2 < ((b.leaves.length + 1 : Nat) : Int) ∧ U64 t.1 ∧ U64 t.2 := fun t ht => by
    rcases hlm.2.1 t ht with h1 | rfl
    · rcases hmem with h3 | ⟨h3, _⟩
      · have := (f5 c0 h3).2.2.2 t h1
        have hu := (h.u.cl c0 h3).2.2 t h1
        exact ⟨by omega, hu.1, hu.2⟩
      · rw [h3] at h1; cases h1
    · exact ⟨by dsimp only; omega, hs, by unfold U64; dsimp only; omega⟩
  refine ⟨hok, (formedK_iff _).2 ⟨hok.leaves, hok.each, hok.clients, hok.rise.ids, fun c hc => ?_⟩, ⟨by have := hok.leaves; omega, fun l hl' => ⟨by have := hok.each l hl'; omega, ?_⟩, by have := hok.clients; omega, fun c hc => ?_⟩⟩
  · rw [hlen]
    rcases hset c hc with rfl | ⟨h1, _⟩
    · exact ⟨List.length_pos_of_mem hlm.1, hlm.2.2.2.2.1, hlm.2.2.2.1, fun s hs => (hsl s hs).1⟩
    · obtain ⟨g1, g2, g3, g4⟩ := f5 c h1
      exact ⟨g1, g2, g3, fun s hs => by have := g4 s hs; omega⟩
  · unfold addB at hl'
    rcases List.mem_append.1 hl' with h1 | h1
    · exact (h.u.each l h1).2
    · rw [List.mem_singleton.1 h1]; exact h8
  · rcases hset c hc with rfl | ⟨h1, _⟩
    · exact ⟨hu, by have := hlm.2.2.2.2.1; dsimp only; omega, fun s hs => (hsl s hs).2⟩
    · exact h.u.cl c h1
theorem Good.apply {b : Bk} (h : Good b) (k : Int) {cl sq : Int} {d : List Int} (hu : U64 cl) (hs : U64 sq) (h8 : B8 d) : Good (applyP b k cl sq d).1 := by
  unfold applyP
  by_cases hk : k = 2
  · simp only [if_pos hk]
    by_cases hf : (findP b cl sq).2 = 8
    · simp only [if_pos hf]
      by_cases hfull : (hitAt (idsB b) cl (posL (idsB b) cl) = false ∧ 8 ≤ b.clients.length) ∨ 64 ≤ b.leaves.length ∨ 64 < d.length
      · simp only [if_pos hfull]; exact h
      · simp only [if_neg hfull]
        exact h.add hu hs h8 hf (fun h1 => Nat.lt_of_not_le fun h2 => hfull (.inl ⟨h1, h2⟩)) (Nat.lt_of_not_le fun h2 => hfull (.inr (.inl h2))) (Nat.le_of_not_lt fun h2 => hfull (.inr (.inr h2)))
    · simp only [if_neg hf]; exact h
  · simp only [if_neg hk]; exact h
theorem flat_le {α : Type} (f : α → List Int) (B : Nat) : ∀ (l : List α), (∀ a ∈ l, (f a).length ≤ B) → (l.flatMap f).length ≤ l.length * B
  | [], _ => by simp
  | a :: l, h => by
    have h1 := h a (by simp)
    have h2 := flat_le f B l (fun x hx => h x (by simp [hx]))
    rw [List.flatMap_cons, List.length_append, List.length_cons, Nat.succ_mul]; omega
theorem numB_nine (n : Nat) : (numB n).length ≤ 9 := by rw [numB_len]; have := numK_le n; omega
theorem Good.size {b : Bk} (h : Good b) : (putK b).length ≤ 20000 := by
  obtain ⟨f1, f2, f3, f4, f5⟩ := (formedK_iff b).1 h.fm
  have h1 := numB_nine b.leaves.length
  have h2 := numB_nine b.clients.length
  have h3 := flat_le rawB 73 b.leaves (fun l hl => by unfold rawB; rw [List.length_append]; have := numB_nine l.length; have := f2 l hl; omega)
  have h4 := flat_le clB 90 b.clients (fun c hc => by
    unfold clB
    have g1 := numB_nine c.id.toNat; have g2 := numB_nine c.slots.length
    have g3 := flat_le slotB 18 c.slots (fun s _ => by unfold slotB; rw [List.length_append]; have := numB_nine s.1.toNat; have := numB_nine s.2.toNat; omega)
    have g4 := (f5 c hc).2.1
    rw [List.length_append, List.length_append]; omega)
  unfold putK
  simp only [List.length_append]
  omega
end Go.Proofs.YtgefphfnicjbiaaDoor
