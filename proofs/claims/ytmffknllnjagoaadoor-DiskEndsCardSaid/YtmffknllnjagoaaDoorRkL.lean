/- tabellionref08: plain laws of lists of files. Of any program. -/
import Derived.Test.YtmffknllnjagoaaDoorRk2
import Derived.Test.YtmffknllnjagoaaDoorDskm
import Derived.Test.YtmffknllnjagoaaDoorAppK
set_option linter.unusedSimpArgs false
set_option linter.unusedVariables false
namespace Go.Proofs.YtmffknllnjagoaaDoor
open Go Go.RowKit Go.Maps

theorem before_irrefl (a : Nm) : bytesBefore a a = false := by
  cases h : bytesBefore a a with
  | false => rfl
  | true => exact absurd (before_lt _ _ h) (List.lt_irrefl a)
theorem before_asymm {a b : Nm} (h : bytesBefore a b = true) : bytesBefore b a = false := by
  cases h2 : bytesBefore b a with
  | false => rfl
  | true => exact absurd (List.lt_trans (before_lt _ _ h) (before_lt _ _ h2)) (List.lt_irrefl a)
section
variable {α : Type}
theorem posG_some {k : Nm} : ∀ {l : List (Nm × α)} {i : Nat}, posG k l = some i → ∃ p, l[i]? = some p ∧ p.1 = k ∧ getG k l = some p.2
  | [], i, h => by cases h
  | y :: r, i, h => by
    unfold posG at h
    unfold getG
    by_cases hy : (y.1 == k) = true
    · rw [if_pos hy] at h ⊢
      cases h
      exact ⟨y, rfl, by simpa using hy, rfl⟩
    · rw [if_neg hy] at h ⊢
      cases hp : posG k r with
      | none => rw [hp] at h; cases h
      | some j =>
        rw [hp] at h
        simp at h
        subst h
        obtain ⟨p, h1, h2, h3⟩ := posG_some hp
        exact ⟨p, by simpa using h1, h2, h3⟩
theorem posG_none {k : Nm} : ∀ {l : List (Nm × α)}, posG k l = none → getG k l = none
  | [], h => rfl
  | y :: r, h => by
    unfold posG at h
    unfold getG
    by_cases hy : (y.1 == k) = true
    · rw [if_pos hy] at h; cases h
    · rw [if_neg hy] at h ⊢
      cases hp : posG k r with
      | none => exact posG_none hp
      | some j => rw [hp] at h; cases h
/-- What is found, in both words. -/
theorem posI_cases (k : Nm) (l : List (Nm × α)) : (posI k l = -1 ∧ getG k l = none) ∨ ∃ i p, posI k l = ((i : Nat) : Int) ∧ l[i]? = some p ∧ p.1 = k ∧ getG k l = some p.2 := by
  unfold posI
  cases h : posG k l with
  | none => exact .inl ⟨rfl, posG_none h⟩
  | some i => obtain ⟨p, h1, h2, h3⟩ := posG_some h; exact .inr ⟨i, p, rfl, h1, h2, h3⟩
theorem insG_front {x : Nm × α} : ∀ {r : List (Nm × α)}, (∀ q ∈ r, bytesBefore x.1 q.1 = true) → insG x r = x :: r
  | [], _ => rfl
  | y :: r, h => by unfold insG; rw [if_pos (h y (by simp))]
theorem delG_none {k : Nm} {l : List (Nm × α)} (h : ∀ p ∈ l, p.1 ≠ k) : delG k l = l := by
  unfold delG
  rw [List.filter_eq_self]
  intro p hp
  simpa using h p hp
/-- To put what is there changes nothing. -/
theorem putG_same {k : Nm} {x : α} : ∀ {l : List (Nm × α)}, RisG l → getG k l = some x → putG k x l = l
  | [], _, h => by cases h
  | y :: r, hr, h => by
    obtain ⟨h1, h2⟩ := List.pairwise_cons.1 hr
    unfold getG at h
    unfold putG
    by_cases hy : (y.1 == k) = true
    · rw [if_pos hy] at h
      have e : y.1 = k := by simpa using hy
      have e2 : y.2 = x := by simpa using h
      have ey : (k, x) = y := by rw [← e, ← e2]
      have hd : delG k (y :: r) = r := by
        unfold delG
        rw [List.filter_cons]
        rw [hy]
        simp only [Bool.not_true, Bool.false_eq_true, if_false]
        exact delG_none fun p hp he => by have := h1 p hp; rw [e, ← he, before_irrefl] at this; cases this
      rw [hd, ey]
      exact insG_front h1
    · rw [if_neg hy] at h
      have ih := putG_same h2 h
      have hd : delG k (y :: r) = y :: delG k r := by
        have : (!(y.1 == k)) = true := by simpa using hy
        unfold delG
        rw [List.filter_cons, if_pos this]
      have hb : bytesBefore k y.1 = false := before_asymm (h1 _ (getG_mem h))
      rw [hd]
      unfold insG
      rw [if_neg (by rw [hb]; simp)]
      unfold putG at ih
      rw [ih]
/-- An order stays. -/
theorem RisG.del {k : Nm} {l : List (Nm × α)} (h : RisG l) : RisG (delG k l) := h.filter _
theorem before_total : ∀ (a b : Nm), bytesBefore a b = false → a ≠ b → bytesBefore b a = true
  | [], [], _, h => absurd rfl h
  | [], _ :: _, h, _ => by simp [bytesBefore] at h
  | _ :: _, [], _, _ => rfl
  | a :: r, b :: s, h, hn => by
    simp only [bytesBefore, Bool.or_eq_false_iff, decide_eq_false_iff_not, Bool.and_eq_false_iff, beq_eq_false_iff_ne] at h
    simp only [bytesBefore, Bool.or_eq_true, decide_eq_true_eq, Bool.and_eq_true, beq_iff_eq]
    by_cases e : a = b
    · subst e
      refine .inr ⟨rfl, before_total r s ?_ (fun e => hn (by rw [e]))⟩
      rcases h.2 with h | h
      · exact absurd rfl h
      · exact h
    · left
      have := h.1
      exact UInt8.lt_of_le_of_ne (UInt8.not_lt.1 this) (fun e' => e e'.symm)
theorem before_trans {a b c : Nm} (h : bytesBefore a b = true) (k : bytesBefore b c = true) : bytesBefore a c = true := by
  cases h2 : bytesBefore a c with
  | true => rfl
  | false =>
    have l1 := List.lt_trans (before_lt _ _ h) (before_lt _ _ k)
    by_cases e : a = c
    · subst e; exact absurd l1 (List.lt_irrefl a)
    · exact absurd (List.lt_trans l1 (before_lt _ _ (before_total a c h2 e))) (List.lt_irrefl a)
theorem RisG.ins {x : Nm × α} : ∀ {l : List (Nm × α)}, RisG l → (∀ p ∈ l, p.1 ≠ x.1) → RisG (insG x l)
  | [], _, _ => by simp [insG, RisG]
  | y :: r, h, hn => by
    obtain ⟨h1, h2⟩ := List.pairwise_cons.1 h
    unfold insG
    by_cases hb : bytesBefore x.1 y.1 = true
    · rw [if_pos hb]
      refine List.pairwise_cons.2 ⟨fun q hq => ?_, h⟩
      rcases List.mem_cons.1 hq with rfl | hq
      · exact hb
      · exact before_trans hb (h1 q hq)
    · rw [if_neg hb]
      have hyx : bytesBefore y.1 x.1 = true := before_total x.1 y.1 (by simpa using hb) (fun e => hn y (by simp) e.symm)
      refine List.pairwise_cons.2 ⟨fun q hq => ?_, RisG.ins h2 fun p hp => hn p (by simp [hp])⟩
      rcases mem_insG.1 hq with rfl | hq
      · exact hyx
      · exact h1 q hq
theorem RisG.put {k : Nm} {a : α} {l : List (Nm × α)} (h : RisG l) : RisG (putG k a l) := RisG.ins h.del fun p hp => (mem_delG.1 hp).2
theorem RisG.nil : RisG ([] : List (Nm × α)) := List.Pairwise.nil
end
theorem RisG.do {L : FL} {o : Dd} (h : RisG L) : RisG (doF o L) := by
  unfold doF
  split
  · split <;> exact h.put
  · split
    · exact h
    · split
      · exact h.put
      · split
        · exact h.del
        · exact h.del.put
theorem RisG.doAll : ∀ {l : List Dd} {L : FL}, RisG L → RisG (doAll l L)
  | [], _, h => h
  | o :: r, L, h => RisG.doAll (l := r) (L := doF o L) h.do
/-! ### what a list uses -/
theorem usedF_insG (x : Nm × List Int) : ∀ l : FL, usedF (insG x l) = x.2.length + usedF l
  | [] => by simp [insG, usedF]
  | y :: r => by
    have ih := usedF_insG x r
    unfold insG
    split
    · simp [usedF]
    · simp only [usedF, List.map_cons, List.sum_cons] at ih ⊢; omega
theorem usedF_delG (k : Nm) : ∀ {l : FL}, RisG l → usedF (delG k l) + ((getG k l).getD []).length = usedF l
  | [], _ => by simp [delG, usedF, getG]
  | y :: r, h => by
    obtain ⟨h1, h2⟩ := List.pairwise_cons.1 h
    have ih := usedF_delG k h2
    unfold getG
    by_cases hy : (y.1 == k) = true
    · have e : y.1 = k := by simpa using hy
      have hd : delG k (y :: r) = r := by
        unfold delG
        rw [List.filter_cons, hy]
        simp only [Bool.not_true, Bool.false_eq_true, if_false]
        exact delG_none fun p hp he => by have := h1 p hp; rw [e, ← he, before_irrefl] at this; cases this
      rw [hd, if_pos hy]
      simp [usedF]; omega
    · have hd : delG k (y :: r) = y :: delG k r := by
        have : (!(y.1 == k)) = true := by simpa using hy
        unfold delG
        rw [List.filter_cons, if_pos this]
      rw [hd, if_neg hy]
      simp only [usedF, List.map_cons, List.sum_cons] at ih ⊢
      omega
theorem usedF_write (L : FL) (name nto : ByteArray) (at_ : Int) (b : List Int) (h : RisG L) (h0 : 0 ≤ at_) : (usedF (doF ⟨119, name, nto, at_, b⟩ L) : Int) = usedF L + growsB L name at_ b := by
  have hd := usedF_delG (nmOf name) h
  unfold doF growsB
  simp only [if_true]
  by_cases hb : b = []
  · rw [if_pos hb, if_pos hb]
    unfold putG
    rw [usedF_insG]
    simp only []
    omega
  · rw [if_neg hb, if_neg hb]
    unfold putG
    rw [usedF_insG]
    simp only [length_over]
    omega
/-! ### bytes over old ones -/
theorem over_eq (old : List Int) (n : Nat) (b : List Int) : over old n b = (old ++ List.replicate (n - old.length) 0).take n ++ b ++ (old ++ List.replicate (n - old.length) 0).drop (n + b.length) := by
  unfold over splice
  simp only [List.take_zero, List.nil_append, Nat.zero_add, List.drop_replicate]
  rw [← List.append_assoc]
  congr 1
  · congr 1
    rw [List.take_append, List.take_append, List.take_replicate, List.take_replicate]
    congr 2
    omega
  · by_cases h : n + b.length ≤ old.length
    · rw [show max old.length (n + b.length) - old.length = 0 by omega, show n - old.length = 0 by omega]
    · rw [List.drop_eq_nil_of_le (by simp; omega), List.drop_eq_nil_of_le (by simp; omega)]
theorem take_torn (b : List Int) (torn : Int) : b.take (max 0 (min torn b.length)).toNat = if torn < b.length then b.take (max torn 0).toNat else b := by
  split
  · congr 2; omega
  · rw [List.take_of_length_le]; omega
theorem Rd.drop {w : World} {a : Option Addr} {c : Nat} {r : List Int} {n : Nat} (h : Rd w (.slice a n c) (u8s r)) {N : Nat} (hN : N ≤ r.length) : Rd w (.slice (if c = N then a else a.map (·.add N)) (r.length - N) (c - N)) (u8s (r.drop N)) := by
  obtain ⟨a', c', hv, h1, h2, h3⟩ := h
  cases hv
  rw [u8s_len] at h1
  refine ⟨_, _, by rw [u8s_len, List.length_drop], by rw [u8s_len, List.length_drop]; omega, by omega, ?_⟩
  by_cases hn : r.length ≤ N
  · left; rw [List.drop_eq_nil_of_le hn]; rfl
  · rcases h3 with h3 | ⟨b, o, rfl, hc⟩
    · have : r = [] := by simpa [u8s] using h3
      subst this; simp at hn
    · right
      rw [if_neg (by omega)]
      refine ⟨b, o + N, by simp [Addr.add], fun j u hj => ?_⟩
      have := hc (N + j) u (by simpa [u8s] using hj)
      rw [← Nat.add_assoc] at this
      exact this
end Go.Proofs.YtmffknllnjagoaaDoor
