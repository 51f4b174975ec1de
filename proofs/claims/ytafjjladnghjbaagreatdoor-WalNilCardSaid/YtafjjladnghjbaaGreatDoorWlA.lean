/- Layer 9 (wal): names of a log's files; what a deed makes of a file. Plain. -/
import Derived.Test.YtafjjladnghjbaaGreatDoorDskL
import Derived.Lib.Atoi
import Derived.Lib.ItoaNum
namespace Go.Proofs.YtafjjladnghjbaaGreatDoor
open Go Go.RowKit Go.Maps

theorem nmOf_append (a b : ByteArray) : nmOf (a ++ b) = nmOf a ++ nmOf b := by
  show (a ++ b).data.toList = _
  rw [ByteArray.data_append, Array.toList_append]
theorem nmOf_inj {a b : ByteArray} (h : nmOf a = nmOf b) : a = b := by
  cases a with | mk a => cases b with | mk b => congr 1; exact Array.toList_inj.1 h
def headN (name : ByteArray) : ByteArray := name ++ ⟨#[46, 102, 105, 114, 115, 116]⟩
def freshN (name : ByteArray) : ByteArray := name ++ ⟨#[46, 102, 114, 101, 115, 104]⟩
def segN (name : ByteArray) (k : Nat) : ByteArray := name ++ ⟨#[46]⟩ ++ ⟨(Lib.decDigits k).toArray⟩
def preN (name : ByteArray) : Nm := nmOf name ++ [46]
theorem nm_head (name : ByteArray) : nmOf (headN name) = preN name ++ [102, 105, 114, 115, 116] := by unfold headN preN; rw [nmOf_append]; simp [nmOf]
theorem nm_fresh (name : ByteArray) : nmOf (freshN name) = preN name ++ [102, 114, 101, 115, 104] := by unfold freshN preN; rw [nmOf_append]; simp [nmOf]
theorem nm_seg (name : ByteArray) (k : Nat) : nmOf (segN name k) = preN name ++ Lib.decDigits k := by unfold segN preN; rw [nmOf_append, nmOf_append]
/-! ### Numerals -/
theorem decFrom_snoc (d : UInt8) (v : Nat) (hd : Lib.digitVal d = some v) : ∀ (l : List UInt8) (acc n : Nat), Lib.decFrom acc l = some n → Lib.decFrom acc (l ++ [d]) = some (n * 10 + v)
  | [], acc, n, h => by
    simp only [Lib.decFrom, Option.some.injEq] at h
    subst h
    simp [Lib.decFrom, hd]
  | b :: r, acc, n, h => by
    simp only [Lib.decFrom, List.cons_append] at h ⊢
    cases hb : Lib.digitVal b with
    | none => rw [hb] at h; cases h
    | some x => rw [hb] at h; exact decFrom_snoc d v hd r _ n h
theorem digit_val (u : Nat) (h : u < 10) : Lib.digitVal (UInt8.ofNat (48 + u)) = some u := by
  unfold Lib.digitVal
  have : (UInt8.ofNat (48 + u)).toNat = 48 + u := by rw [UInt8.toNat_ofNat']; omega
  rw [this, if_pos (by omega)]; congr 1; omega
theorem decFrom_dec : ∀ k : Nat, Lib.decFrom 0 (Lib.decDigits k) = some k := by
  intro k
  induction k using Nat.strongRecOn with
  | ind k ih =>
    rw [Lib.decDigits]
    split
    · rename_i h; rw [Lib.decFrom, digit_val k h]; simp [Lib.decFrom]
    · rename_i h
      rw [decFrom_snoc _ _ (digit_val (k % 10) (by omega)) _ _ _ (ih (k / 10) (by omega))]
      congr 1; omega
theorem dec_cons (k : Nat) : ∃ c r, Lib.decDigits k = c :: r ∧ 48 ≤ c.toNat ∧ c.toNat ≤ 57 := by
  cases h : Lib.decDigits k with
  | nil => have := decFrom_dec k; rw [Lib.decDigits] at h; split at h <;> simp at h
  | cons c r =>
    obtain ⟨d, hd⟩ := Lib.digit_of_decFrom _ _ _ (decFrom_dec k) 0 c (by rw [h]; rfl)
    have := Lib.digitVal_eq hd
    exact ⟨c, r, rfl, this.1, this.2.1⟩
theorem atoi_dec (k : Nat) : Lib.atoi (Lib.decDigits k) = some (k : Int) := by
  obtain ⟨c, r, h, h1, h2⟩ := dec_cons k
  have hk := decFrom_dec k
  rw [h] at hk ⊢
  unfold Lib.atoi
  have e1 : (c == 45) = false := by
    cases hc : c == 45 with
    | false => rfl
    | true => have := eq_of_beq hc; subst this; simp at h1
  have e2 : (c == 43) = false := by
    cases hc : c == 43 with
    | false => rfl
    | true => have := eq_of_beq hc; subst this; simp at h1
  simp [e1, e2, Lib.decNat, hk]
theorem dec_inj {a b : Nat} (h : Lib.decDigits a = Lib.decDigits b) : a = b := by
  have h1 := decFrom_dec a
  rw [h, decFrom_dec b] at h1
  exact (Option.some.inj h1).symm
theorem seg_inj {name : ByteArray} {a b : Nat} (h : nmOf (segN name a) = nmOf (segN name b)) : a = b := by
  rw [nm_seg, nm_seg] at h
  exact dec_inj (List.append_cancel_left h)
theorem seg_head (name : ByteArray) (k : Nat) : nmOf (segN name k) ≠ nmOf (headN name) := by
  rw [nm_seg, nm_head]
  intro h
  have h := List.append_cancel_left h
  obtain ⟨c, r, e, h1, h2⟩ := dec_cons k
  rw [e] at h; simp at h
  rw [h.1] at h2; simp at h2
theorem seg_fresh (name : ByteArray) (k : Nat) : nmOf (segN name k) ≠ nmOf (freshN name) := by
  rw [nm_seg, nm_fresh]
  intro h
  have h := List.append_cancel_left h
  obtain ⟨c, r, e, h1, h2⟩ := dec_cons k
  rw [e] at h; simp at h
  rw [h.1] at h2; simp at h2
theorem head_fresh (name : ByteArray) : nmOf (headN name) ≠ nmOf (freshN name) := by
  rw [nm_head, nm_fresh]
  intro h
  have h := List.append_cancel_left h
  simp at h
theorem pre_head (name : ByteArray) : preN name <+: nmOf (headN name) := ⟨_, (nm_head name).symm⟩
theorem pre_fresh (name : ByteArray) : preN name <+: nmOf (freshN name) := ⟨_, (nm_fresh name).symm⟩
theorem pre_seg (name : ByteArray) (k : Nat) : preN name <+: nmOf (segN name k) := ⟨_, (nm_seg name k).symm⟩
/-! ### What a deed makes of a file -/
theorem dof_w (nm to : ByteArray) (n : Int) (b : List Int) (L : FL) (k : Nm) : getG k (doF ⟨119, nm, to, n, b⟩ L) = if k = nmOf nm then some (if b = [] then (getG (nmOf nm) L).getD [] else over ((getG (nmOf nm) L).getD []) n.toNat b) else getG k L := by
  unfold doF
  simp only [if_true]
  by_cases hk : k = nmOf nm
  · subst hk
    rw [if_pos rfl]
    split
    · rw [getG_putG_same]
    · rw [getG_putG_same]
  · rw [if_neg hk]
    split <;> rw [getG_putG_other hk]
theorem dof_c (nm to : ByteArray) (n : Int) (b : List Int) (L : FL) (k : Nm) : getG k (doF ⟨99, nm, to, n, b⟩ L) = if k = nmOf nm then (getG (nmOf nm) L).map (·.take n.toNat) else getG k L := by
  unfold doF
  simp only [show ¬ ((99 : Int) = 119) by decide, if_false, if_true]
  by_cases hk : k = nmOf nm
  · subst hk
    rw [if_pos rfl]
    cases hg : getG (nmOf nm) L with
    | none => simp only [hg]; rfl
    | some x => simp only; rw [getG_putG_same]; rfl
  · rw [if_neg hk]
    cases hg : getG (nmOf nm) L with
    | none => rfl
    | some x => simp only; rw [getG_putG_other hk]
theorem dof_r (nm to : ByteArray) (n : Int) (b : List Int) (L : FL) (k : Nm) : getG k (doF ⟨114, nm, to, n, b⟩ L) = if k = nmOf nm then none else getG k L := by
  unfold doF
  simp only [show ¬ ((114 : Int) = 119) by decide, show ¬ ((114 : Int) = 99) by decide, if_false, if_true]
  by_cases hk : k = nmOf nm
  · subst hk
    rw [if_pos rfl]
    cases hg : getG (nmOf nm) L with
    | none => simp only [hg]
    | some x => simp only; rw [getG_delG_same]
  · rw [if_neg hk]
    cases hg : getG (nmOf nm) L with
    | none => rfl
    | some x => simp only; rw [getG_delG_other hk]
theorem dof_n (nm to : ByteArray) (n : Int) (b : List Int) (L : FL) (k : Nm) (hne : nmOf nm ≠ nmOf to) : getG k (doF ⟨110, nm, to, n, b⟩ L) = if (getG (nmOf nm) L).isNone then getG k L else if k = nmOf to then getG (nmOf nm) L else if k = nmOf nm then none else getG k L := by
  unfold doF
  simp only [show ¬ ((110 : Int) = 119) by decide, show ¬ ((110 : Int) = 99) by decide, show ¬ ((110 : Int) = 114) by decide, if_false]
  cases hg : getG (nmOf nm) L with
  | none => simp
  | some x =>
    simp only [Option.isNone_some, Bool.false_eq_true, if_false]
    by_cases hk : k = nmOf to
    · subst hk; rw [if_pos rfl, getG_putG_same]
    · rw [if_neg hk, getG_putG_other hk]
      by_cases hn : k = nmOf nm
      · subst hn; rw [if_pos rfl, getG_delG_same]
      · rw [if_neg hn, getG_delG_other hn]
end Go.Proofs.YtafjjladnghjbaaGreatDoor
