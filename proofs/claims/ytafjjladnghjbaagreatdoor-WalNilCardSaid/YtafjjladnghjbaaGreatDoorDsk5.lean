/- disk: Used. -/
import Derived.Test.YtafjjladnghjbaaGreatDoorDsk4
import Derived.Sort.KeysCollected
namespace Go.Proofs.YtafjjladnghjbaaGreatDoor
open Go Go.RowKit Go.Maps
open Go.Proofs (encStr)

def usedF (L : FL) : Nat := (L.map fun p => p.2.length).sum
/-- What is still to come. -/
def sumL (E : List (Nm × (Value × List Int))) (left : Lit → Bool) : Nat := ((E.filter fun p => left (.string p.1)).map fun p => p.2.2.length).sum
theorem sumL_none {E : List (Nm × (Value × List Int))} {left : Lit → Bool} (h : ∀ kl, left kl = false) : sumL E left = 0 := by
  unfold sumL
  rw [List.filter_eq_nil_iff.2 (by intro p _; rw [h]; simp)]; rfl
theorem sumL_step {E : List (Nm × (Value × List Int))} {left : Lit → Bool} {x : Nm} {a : Value × List Int} (hd : E.Pairwise fun p q => p.1 ≠ q.1) (hg : getG x E = some a) (hl : left (.string x) = true) :
    sumL E left = a.2.length + sumL E (fun z => left z && !z.sameKey (.string x)) := by
  unfold sumL
  simp only [same_str]
  induction E with
  | nil => cases hg
  | cons y r ih =>
    obtain ⟨h1, h2⟩ := List.pairwise_cons.1 hd
    unfold getG at hg
    by_cases hy : (y.1 == x) = true
    · rw [if_pos hy] at hg
      have e : y.1 = x := by simpa using hy
      have e2 : y.2 = a := by simpa using hg
      have hs : (r.filter fun p => left (.string p.1) && !(p.1 == x)) = r.filter fun p => left (.string p.1) := by
        apply List.filter_congr
        intro p hp
        have : (p.1 == x) = false := by
          have := h1 p hp; rw [e] at this; simpa using this.symm
        rw [this]; simp
      simp only [List.filter_cons, e, hl, if_true, List.map_cons, List.sum_cons, beq_self_eq_true, Bool.not_true, Bool.and_false, Bool.false_eq_true, if_false, e2]
      rw [hs]
    · rw [if_neg hy] at hg
      have := ih h2 hg
      have hy' : (y.1 == x) = false := by simpa using hy
      simp only [List.filter_cons, hy', Bool.not_false, Bool.and_true]
      by_cases hly : left (.string y.1) = true
      · simp only [hly, if_true, List.map_cons, List.sum_cons]; omega
      · simp only [hly, Bool.false_eq_true, if_false]; exact this
theorem sumL_all (E : List (Nm × (Value × List Int))) : sumL E (Maps.has (toD (·.1) E)) = usedF (mapG (·.2) E) := by
  unfold sumL usedF mapG
  rw [List.filter_eq_self.2 ?_]
  · simp [Function.comp_def]
  · intro p hp
    rw [toD_has]
    cases hg : getG p.1 E with
    | none => exact absurd rfl (getG_none.1 hg p hp)
    | some a => rfl
theorem usedF_le {n M : Nat} {L : FL} (hn : L.length ≤ n) (hM : LenLe M L) : usedF L ≤ n * M := by
  have : usedF L ≤ L.length * M := by
    unfold usedF
    induction L with
    | nil => simp
    | cons p r ih =>
      have h1 := hM p (by simp)
      have h2 := ih (by simp at hn; omega) (fun q hq => hM q (by simp [hq]))
      simp only [List.map_cons, List.sum_cons, List.length_cons, Nat.add_mul, Nat.one_mul]; omega
  exact Nat.le_trans this (Nat.mul_le_mul_right M hn)

theorem used_nil (w : World) : Calls Tryz.prog 29 #[.pointer none] w fun e w' => e = .returned (.int .i64 0) ∧ w' = w := by
  go_enter Tryz.func29, Tryz.ntmps29
  go_wp2_with fail
  go_ret
  exact ⟨rfl, rfl⟩
set_option maxRecDepth 100000 in
set_option maxHeartbeats 800000 in
theorem used_c (d n M : Nat) (O F : List Nat) (S : Dk) (w : World) (h : DkS w d n M O F S) (hnM : n * M ≤ 4611686018427387904) :
    Calls Tryz.prog 29 #[dptr d] w fun e w' => e = .returned (.int .i64 (usedF S.now)) ∧ Ext w w' := by
  obtain ⟨⟨bn, bs, wv, cs, hB, hF, -⟩, hL, -⟩ := h
  obtain ⟨c0, c1, c2, c3, c4, c5⟩ := hB.six
  have hlen := hF.len
  obtain ⟨E, ho, hE, hEL⟩ := hF
  have hap : E.Pairwise fun p q => p.1 ≠ q.1 := by
    obtain ⟨es, h1, h2, _⟩ := ho.entries kS
    unfold toD at h1
    injection h1 with h1
    rw [← h1, List.pairwise_map] at h2
    exact h2.imp fun {a b} hne e => hne (by rw [e])
  obtain ⟨U, hU⟩ : ∃ U, U = usedF S.now := ⟨_, rfl⟩
  rw [← hU]
  have hUb : U ≤ 4611686018427387904 := by
    rw [hU]; exact Nat.le_trans (usedF_le hlen hL) hnM
  have hU2 : U = sumL E (Maps.has (toD (·.1) E)) := by rw [hU, hEL, sumL_all]
  obtain ⟨D, hD⟩ : ∃ D, D = toD (fun p : Value × List Int => p.1) E := ⟨_, rfl⟩
  rw [← hD] at ho hU2
  have HO := Lib.hid ho; have HE := Lib.hid hE; have HAP := Lib.hid hap; have HU2 := Lib.hid hU2; have HD := Lib.hid hD
  clear ho hE hEL hap hU hU2 hD hL hB hlen
  have hl := HO.out.lt
  go_enter Tryz.func29, Tryz.ntmps29
  go_wp2_with (first
    | (at_range; refine wpList_range_own _ rfl _ 72 rfl 9 23 kS Tryz.underlying72 _ bn n _ rfl HO.out ?_; intro w0 hrg0 hg0 hs0)
    | fail)
  go_frame
  go_loopw [2, 4] (fun s v wr => ∃ (left : Lit → Bool) (cnt acc : Nat), wr.ranges Tryz.prog 9 hR bn w.heap.size n D left cnt ∧ s = .int .i64 (acc : Int) ∧ acc + sumL E left = U ∧ Ext w wr)
    (fun _ _ wr => wr.rangeLeft bn w.heap.size)
  case atStart => exact ⟨_, _, 0, hrg0, rfl, by rw [HU2.out]; simp, Ext.grown hg0 (by simp)⟩
  case round =>
    obtain ⟨left, cnt, acc, hrg, rfl, hacc, hEx⟩ := hrel
    have HEX := Lib.hid hEx; clear hEx
    go_wp2_with (first
      | (at_next; refine wpList_next_ranges _ rfl _ rfl 9 kS hR encStr (id : Value → Value) (fun key kl hk => by obtain ⟨x, hx, _⟩ := Maps.keyOf_str Tryz.underlying9 hk; exact ⟨x, hx⟩) (fun v y _ => ⟨v, rfl⟩) bn w.heap.size n _ _ _ rfl hrg ?_ ?_)
      | fail)
    · intro _ hl0
      have : acc = U := by rw [sumL_none hl0] at hacc; omega
      subst this
      go_wp2_with fail
      go_ret
      exact ⟨rfl, HEX.out⟩
    · intro x c kl yd yp w2 cnt2 hkey hlk hv hat hrg2 hlt hg2 hs2 hen
      obtain ⟨x', ex, rfl, _⟩ := Maps.keyOf_str Tryz.underlying9 hkey
      obtain rfl : x = x' := encStr_inj ex
      obtain ⟨a, ha, hca⟩ : ∃ a, getG x E = some a ∧ a.1 = c := by
        have h1 := hat .nil
        rw [HD.out, toD_atKey] at h1
        simp only [hR, Option.some.injEq, Prod.mk.injEq] at hv
        cases hg : getG x E with
        | none => rw [hg] at h1; rw [← hv.1] at h1; cases h1
        | some a => rw [hg] at h1; rw [← hv.1] at h1; exact ⟨a, rfl, by simpa using h1⟩
      have hst := sumL_step HAP.out ha hlk
      obtain ⟨hrd, -, -⟩ := HE.out _ (getG_mem ha)
      obtain ⟨ad, cp, hc', hlc, hcm, -⟩ := hrd.open
      simp only [] at hc'
      rw [hca] at hc'
      have hE2 : Ext w w2 := Below.grown HEX.out hg2 HEX.out.size (by intro k hk; have := Option.some.inj hk; omega)
      subst hc'
      have HE2 := Lib.hid hE2
      have hle : acc + a.2.length ≤ U := by omega
      clear hE2 hs2 hrd hv hat hkey hg2 ex
      go_wp2_with fail
      exact ⟨⟨_, cnt2, acc + a.2.length, hrg2, by simp, by omega, HE2.out⟩, by rw [hrg2.left_eq, hrg.left_eq]; exact hlt⟩
end Go.Proofs.YtafjjladnghjbaaGreatDoor
