/- tabellionref08: Crash's plain law. Of any program. -/
import Derived.Test.YtmffknllnjagoaaDoorRk8
set_option linter.unusedSimpArgs false
set_option linter.unusedVariables false
namespace Go.Proofs.YtmffknllnjagoaaDoor
open Go Go.RowKit Go.Maps

/-- One more than the last place below m that is kept. -/
def endK (keep : List Bool) : Nat → Nat
  | 0 => 0
  | m + 1 => if keep[m]? = some true then m + 1 else endK keep m
theorem endK_le (keep : List Bool) : ∀ m, endK keep m ≤ m
  | 0 => Nat.le_refl _
  | m + 1 => by unfold endK; split; omega; have := endK_le keep m; omega
theorem endK_hit (keep : List Bool) : ∀ m i, endK keep m = i + 1 → keep[i]? = some true
  | 0, i, h => by cases h
  | m + 1, i, h => by
    unfold endK at h
    split at h
    · rename_i hk; cases h; exact hk
    · exact endK_hit keep m i h
theorem endK_miss (keep : List Bool) : ∀ m i, endK keep m ≤ i → i < m → keep[i]? ≠ some true
  | 0, i, _, h => by omega
  | m + 1, i, h, hi => by
    unfold endK at h
    split at h
    · omega
    · rename_i hk
      by_cases e : i = m
      · subst e; exact hk
      · exact endK_miss keep m i h (by omega)
theorem keptD_end {ws : List Dd} {keep : List Bool} {e : Nat} (hmiss : ∀ i, e ≤ i → i < ws.length → keep[i]? ≠ some true) : ∀ k, e + k ≤ ws.length → keptD (ws.take (e + k)) keep = keptD (ws.take e) keep
  | 0, _ => rfl
  | k + 1, h => by
    have ho : ws[e + k]? = some ws[e + k] := List.getElem?_eq_getElem (by omega)
    have := keptD_take ws keep (e + k) ho
    rw [if_neg (hmiss (e + k) (by omega) (by omega)), List.append_nil] at this
    rw [show e + (k + 1) = e + k + 1 by omega, this]
    exact keptD_end hmiss k (by omega)
def LfK (ws : List Dd) (keep : List Bool) (torn : Int) (L : FL) (i : Nat) : FL :=
  if i = endK keep (min ws.length keep.length) then doAll (tornD torn (keptD ws keep)) L else doAll (keptD (ws.take i) keep) L
section
variable {ws : List Dd} {keep : List Bool} {torn : Int} {L : FL}
theorem keptD_endK : keptD ws keep = keptD (ws.take (endK keep (min ws.length keep.length))) keep := by
  have hle := endK_le keep (min ws.length keep.length)
  have h := keptD_end (ws := ws) (keep := keep) (e := endK keep (min ws.length keep.length)) (fun i h1 h2 => by
    by_cases h3 : i < keep.length
    · exact endK_miss keep _ i h1 (by omega)
    · rw [List.getElem?_eq_none (by omega)]; simp) (ws.length - endK keep (min ws.length keep.length)) (by omega)
  rw [show endK keep (min ws.length keep.length) + (ws.length - endK keep (min ws.length keep.length)) = ws.length by omega, List.take_of_length_le (Nat.le_refl _)] at h
  exact h
theorem LfK_zero : LfK ws keep torn L 0 = L := by
  unfold LfK
  split
  · rename_i h
    rw [keptD_endK, ← h]; rfl
  · rfl
theorem LfK_end : LfK ws keep torn L (endK keep (min ws.length keep.length)) = doAll (tornD torn (keptD ws keep)) L := by
  unfold LfK; rw [if_pos rfl]
theorem LfK_skip {i : Nat} (hi : i < endK keep (min ws.length keep.length)) (hk : keep[i]? = some false) : LfK ws keep torn L (i + 1) = LfK ws keep torn L i := by
  have hle := endK_le keep (min ws.length keep.length)
  have hne : i + 1 ≠ endK keep (min ws.length keep.length) := fun e => by
    have := endK_hit keep _ i e.symm
    rw [hk] at this; cases this
  have ho : ws[i]? = some ws[i] := List.getElem?_eq_getElem (by omega)
  have := keptD_take ws keep i ho
  rw [if_neg (by rw [hk]; simp), List.append_nil] at this
  unfold LfK
  rw [if_neg hne, if_neg (by omega), this]
theorem doAll_snoc (l : List Dd) (o : Dd) : doAll (l ++ [o]) L = doF o (doAll l L) := by
  unfold doAll; rw [List.foldl_append]; rfl
theorem LfK_mid {i : Nat} {o : Dd} (hi : i + 1 < endK keep (min ws.length keep.length)) (ho : ws[i]? = some o) (hk : keep[i]? = some true) : LfK ws keep torn L (i + 1) = doF o (LfK ws keep torn L i) := by
  have := keptD_take ws keep i ho
  rw [if_pos hk] at this
  unfold LfK
  rw [if_neg (by omega), if_neg (by omega), this, doAll_snoc]
theorem LfK_last {i : Nat} {o : Dd} (hi : i + 1 = endK keep (min ws.length keep.length)) (ho : ws[i]? = some o) (hk : keep[i]? = some true) : LfK ws keep torn L (i + 1) = doF (tearD torn o) (LfK ws keep torn L i) := by
  have := keptD_take ws keep i ho
  rw [if_pos hk] at this
  unfold LfK
  rw [if_pos hi, if_neg (by omega), keptD_endK, ← hi, this, tornD_last, doAll_snoc]
/-- The deed that the reference does: of the last write a beginning. -/
def cutR (torn : Int) (o : Dd) : Dd := { o with b := o.b.take (max torn 0).toNat }
theorem doF_tear {o : Dd} (c : Bool) (hc : c = decide (o.kind = 119 ∧ torn < o.b.length)) : doF (tearD torn o) L = doF (if c then cutR torn o else o) L := by
  cases c with
  | true =>
    have h := of_decide_eq_true hc.symm
    have : tearD torn o = cutR torn o := by unfold tearD cutR; rw [take_torn, if_pos h.2]
    rw [this]; rfl
  | false =>
    have h := of_decide_eq_false hc.symm
    simp only [Bool.false_eq_true, if_false]
    by_cases hk : o.kind = 119
    · have : tearD torn o = o := by unfold tearD; rw [take_torn, if_neg (fun h2 => h ⟨hk, h2⟩)]
      rw [this]
    · unfold doF tearD; simp only [hk, if_false]
theorem cutR_ok {M : Nat} {o : Dd} (h : DdOk M o) : DdOk M (cutR torn o) := by
  obtain ⟨a1, a2, a3, a4, a5, a6⟩ := h
  exact ⟨a1, a2, a3, fun hk => by have := a4 hk; simp only [cutR, List.length_take]; omega, a5, fun z hz => a6 z (List.mem_of_mem_take hz)⟩
theorem length_doAll : ∀ (l : List Dd) (L : FL), (doAll l L).length ≤ L.length + l.length
  | [], L => Nat.le_refl _
  | o :: r, L => by
    have := length_doAll r (doF o L)
    have h2 := length_doF o L
    show (doAll r (doF o L)).length ≤ _
    simp only [List.length_cons]; omega
theorem LfK_len {i : Nat} : (LfK ws keep torn L i).length ≤ L.length + ws.length := by
  unfold LfK
  split
  · refine Nat.le_trans (length_doAll _ _) ?_
    rw [tornD_len]; have := keptD_len ws keep; omega
  · refine Nat.le_trans (length_doAll _ _) ?_
    have := keptD_len (ws.take i) keep
    rw [List.length_take] at this; omega
theorem LfK_le {M i : Nat} (h : LenLe M L) (hok : ∀ o ∈ ws, DdOk M o) : LenLe M (LfK ws keep torn L i) := by
  unfold LfK
  split
  · exact h.doAll (tornD_ok torn fun o ho => hok o (keptD_mem ho))
  · exact h.doAll fun o ho => hok o (List.mem_of_mem_take (keptD_mem ho))
theorem LfK_ris {i : Nat} (h : RisG L) : RisG (LfK ws keep torn L i) := by
  unfold LfK
  split <;> exact h.doAll
end
end Go.Proofs.YtmffknllnjagoaaDoor
