/- A cell's words as bytes, and what a torn write leaves of them: plain. Of any program. -/
import Derived.Test.YtafjjladnghjbaaGreatDoorNums
import Derived.Test.YtafjjladnghjbaaGreatDoorDskL
namespace Go.Proofs.YtafjjladnghjbaaGreatDoor
open Go Go.RowKit Go.Maps

/-- Three words, and them with all bits turned. -/
def lay24 (c t v : Nat) : List Int := be 8 c ++ be 8 t ++ be 8 v
def turn8 (l : List Int) : List Int := l.map fun x => 255 - x
def layC (c t v : Nat) : List Int := lay24 c t v ++ turn8 (lay24 c t v)
def words3 (b : List Int) : Nat × Nat × Nat := (val (b.take 8), val ((b.drop 8).take 8), val ((b.drop 16).take 8))
def readC (b : List Int) : Option (Nat × Nat × Nat) := if b.length = 48 ∧ layC (words3 b).1 (words3 b).2.1 (words3 b).2.2 = b then some (words3 b) else none
theorem lay24_len (c t v : Nat) : (lay24 c t v).length = 24 := by simp [lay24, be_len]
theorem layC_len (c t v : Nat) : (layC c t v).length = 48 := by simp [layC, turn8, lay24_len]
theorem turn8_inj : ∀ {a b : List Int}, turn8 a = turn8 b → a = b
  | [], [], _ => rfl
  | [], _ :: _, h => by simp [turn8] at h
  | _ :: _, [], h => by simp [turn8] at h
  | x :: a, y :: b, h => by
    simp only [turn8, List.map_cons, List.cons.injEq] at h
    rw [show x = y by omega, turn8_inj (a := a) (b := b) h.2]
theorem val8 (n : Nat) (h : n < 18446744073709551616) : val (be 8 n) = n := by
  have := val_be 8 n 8 (Nat.le_refl _)
  rw [List.take_of_length_le (by rw [be_len]; exact Nat.le_refl _), Nat.sub_self, Nat.pow_zero, Nat.div_one] at this
  rw [this]; exact Nat.mod_eq_of_lt h
theorem words_lay (c t v : Nat) (hc : c < 18446744073709551616) (ht : t < 18446744073709551616) (hv : v < 18446744073709551616) : words3 (layC c t v) = (c, t, v) := by
  have e : layC c t v = be 8 c ++ (be 8 t ++ (be 8 v ++ turn8 (lay24 c t v))) := by simp [layC, lay24]
  have l8 := fun n => be_len 8 n
  have h1 : (layC c t v).take 8 = be 8 c := by rw [e, List.take_append_of_le_length (by rw [l8]; omega), List.take_of_length_le (by rw [l8]; omega)]
  have h2 : (layC c t v).drop 8 = be 8 t ++ (be 8 v ++ turn8 (lay24 c t v)) := by rw [e, List.drop_append, List.drop_of_length_le (by rw [l8]; omega), l8]; rfl
  have h3 : (layC c t v).drop 16 = be 8 v ++ turn8 (lay24 c t v) := by
    rw [show (16 : Nat) = 8 + 8 from rfl, ← List.drop_drop, h2, List.drop_append, List.drop_of_length_le (by rw [l8]; omega), l8]; rfl
  unfold words3
  rw [h1, h2, h3, List.take_append_of_le_length (by rw [l8]; omega), List.take_of_length_le (by rw [l8]; omega), List.take_append_of_le_length (by rw [l8]; omega), List.take_of_length_le (by rw [l8]; omega), val8 c hc, val8 t ht, val8 v hv]
theorem readC_lay (c t v : Nat) (hc : c < 18446744073709551616) (ht : t < 18446744073709551616) (hv : v < 18446744073709551616) : readC (layC c t v) = some (c, t, v) := by
  unfold readC
  rw [words_lay c t v hc ht hv, if_pos ⟨layC_len _ _ _, rfl⟩]
theorem readC_len {b : List Int} (h : b.length ≠ 48) : readC b = none := by
  unfold readC; rw [if_neg (fun h' => h h'.1)]
theorem readC_turn {b : List Int} (h : readC b ≠ none) : b.length = 48 ∧ b.drop 24 = turn8 (b.take 24) := by
  unfold readC at h
  by_cases hc : b.length = 48 ∧ layC (words3 b).1 (words3 b).2.1 (words3 b).2.2 = b
  · refine ⟨hc.1, ?_⟩
    have e := hc.2
    generalize words3 b = w at e
    rw [← e, layC]
    rw [List.drop_append, List.drop_of_length_le (by rw [lay24_len]; omega), lay24_len, List.take_append_of_le_length (by rw [lay24_len]; omega), List.take_of_length_le (by rw [lay24_len]; omega)]
    rfl
  · rw [if_neg hc] at h; exact absurd rfl h
/-- A file of which a beginning is new and the rest old is no file, or one of the two. -/
theorem readC_mix {old new : List Int} (k : Nat) (hn : new.length = 48 ∧ new.drop 24 = turn8 (new.take 24)) (ho : old.length = 48 ∧ old.drop 24 = turn8 (old.take 24)) :
    readC (new.take k ++ old.drop k) = none ∨ new.take k ++ old.drop k = old ∨ new.take k ++ old.drop k = new := by
  by_cases h0 : readC (new.take k ++ old.drop k) = none
  · exact .inl h0
  obtain ⟨h1, h2⟩ := readC_turn h0
  right
  obtain ⟨b, hb⟩ : ∃ b, b = new.take k ++ old.drop k := ⟨_, rfl⟩
  rw [← hb] at h1 h2 ⊢
  have hget : ∀ j, j < 48 → b[j]? = if j < k then new[j]? else old[j]? := fun j hj => by
    rw [hb]
    by_cases hjk : j < k
    · rw [if_pos hjk, List.getElem?_append_left (by rw [List.length_take]; omega), List.getElem?_take, if_pos hjk]
    · rw [if_neg hjk]
      rcases Nat.lt_or_ge k 48 with hk | hk
      · rw [List.getElem?_append_right (by rw [List.length_take]; omega), List.length_take, List.getElem?_drop]
        congr 1; omega
      · omega
  rcases Nat.lt_or_ge 24 k with hk | hk
  · right
    have ht : b.take 24 = new.take 24 := by
      apply List.ext_getElem?; intro j
      rw [List.getElem?_take, List.getElem?_take]
      by_cases hj : j < 24
      · rw [if_pos hj, if_pos hj, hget j (by omega), if_pos (by omega)]
      · rw [if_neg hj, if_neg hj]
    rw [← List.take_append_drop 24 b, h2, ht, ← hn.2, List.take_append_drop]
  · left
    have hd : b.drop 24 = old.drop 24 := by
      apply List.ext_getElem?; intro j
      rw [List.getElem?_drop, List.getElem?_drop]
      by_cases hj : 24 + j < 48
      · rw [hget _ hj, if_neg (by omega)]
      · rw [List.getElem?_eq_none (by omega), List.getElem?_eq_none (by omega)]
    have ht : b.take 24 = old.take 24 := turn8_inj (by rw [← h2, ← ho.2, hd])
    rw [← List.take_append_drop 24 b, hd, ht, List.take_append_drop]
/-- 48 bytes over at most 48. -/
theorem over_all {old b : List Int} (h : old.length ≤ b.length) : over old 0 b = b := by
  unfold over splice
  simp
  omega
theorem over_some {old b : List Int} (k : Nat) (h : old.length = 48) (hb : b.length = 48) : over old 0 (b.take k) = b.take k ++ old.drop k := by
  have hl : (b.take k).length ≤ 48 := by rw [List.length_take]; omega
  have e1 : splice (List.replicate (max old.length (0 + (b.take k).length)) (0 : Int)) 0 old = old := by
    unfold splice
    simp only [List.take_zero, List.nil_append, Nat.zero_add]
    rw [List.drop_of_length_le (by rw [List.length_replicate]; omega), List.append_nil]
  unfold over
  rw [e1]
  unfold splice
  simp only [List.take_zero, List.nil_append, Nat.zero_add]
  rw [List.length_take, hb]
  rcases Nat.lt_or_ge k 48 with hk | hk
  · rw [Nat.min_eq_left (by omega)]
  · rw [Nat.min_eq_right hk, List.drop_of_length_le (by omega), List.drop_of_length_le (by omega)]
theorem over_none (b : List Int) : over [] 0 b = b := over_all (by simp)
end Go.Proofs.YtafjjladnghjbaaGreatDoor
