/- Contracts of packages cmd and tabellionref12: which entries are formed. -/
import Derived.Test.YtjodgbabfhcilaaBun2
set_option linter.unusedSimpArgs false
set_option linter.unusedVariables false
namespace Go.Proofs.Ytjodgbabfhcilaa
open Go Go.RowKit

/-- v is an entry, by value. -/
def EntV (w : World) (v : Value) (x : Ent) : Prop :=
  ∃ dv mv, v = .agg #[.int .u64 x.term, .int .i64 x.kind, .int .u64 x.client, .int .u64 x.seq, dv, mv] ∧ Rd w dv (u8s x.data) ∧ Rd w mv (u64s x.members)
structure EntOk (x : Ent) : Prop where
  term : U64 x.term
  kind : -9223372036854775808 ≤ x.kind ∧ x.kind ≤ 9223372036854775807
  client : U64 x.client
  seq : U64 x.seq
  data : B8 x.data
  members : B64 x.members

theorem EntV.ext {w w' : World} {v : Value} {x : Ent} (h : EntV w v x) (hE : Ext w w') : EntV w' v x := by
  obtain ⟨dv, mv, hv, h1, h2⟩ := h
  exact ⟨dv, mv, hv, h1.ext hE, h2.ext hE⟩

set_option maxHeartbeats 1000000 in
theorem formed_ret (v : Value) (x : Ent) (w : World) (hv : EntV w v x) (hok : EntOk x) : Calls Try.prog 80 #[v] w (RetIs (.bool (formedB x)) w) := by
  obtain ⟨term, kind, client, seq, data, members⟩ := x
  obtain ⟨dv, mv, rfl, hd, hm⟩ := hv
  obtain ⟨a1, c1, rfl, hl1, hc1, h1⟩ := Rd.open hd
  have HM := Lib.hid hm
  obtain ⟨a2, c2, rfl, hl2, hc2, h2⟩ := Rd.open hm
  obtain ⟨⟨t0, t1⟩, ⟨k0, k1⟩, ⟨e0, e1⟩, ⟨s0, s1⟩, _, _⟩ := hok
  simp only at *
  clear hd hm
  unfold maxLen at hc1 hc2
  have HOR := Lib.hid (or_zero client seq ⟨e0, e1⟩ ⟨s0, s1⟩)
  obtain ⟨ld, hld⟩ : ∃ n, n = data.length := ⟨_, rfl⟩
  obtain ⟨lm, hlm⟩ : ∃ n, n = members.length := ⟨_, rfl⟩
  obtain ⟨fb, hfb0⟩ : ∃ fb, fb = formedB ⟨term, kind, client, seq, data, members⟩ := ⟨_, rfl⟩
  have hfb : fb = (decide (1 ≤ term ∧ term ≤ 4611686018427387904) &&
    (if kind = 2 then decide (ld ≤ 64) && decide (lm = 0)
     else if kind = 1 then decide (client = 0) && decide (seq = 0) && decide (ld = 0) && decide (lm = 0)
     else if kind = 3 then decide (client = 0) && decide (seq = 0) && decide (ld = 0) && membersB members
     else false)) := by rw [hfb0, hld, hlm]; rfl
  rw [← hfb0, ← hld]
  rw [← hld] at hl1
  rw [← hlm] at hl2 HM ⊢
  have HF := Lib.hid hfb
  clear hfb hld hlm h1 h2 hfb0
  have HB : membersB members = true ∨ membersB members = false := by cases membersB members <;> simp
  have hmem := fun wx hw => members_ret (.slice a2 lm c2) members wx hw
  have HMem := Lib.hid hmem; clear hmem
  by_cases ht : term = 0
  · subst ht
    go_enter Try.func80, Try.ntmps80
    go_wp2_with fail
    go_ret
    exact ⟨ret_eq (congrArg Value.bool (by rw [HF.out]; simp)), Ext.alloc _ _⟩
  · by_cases ht2 : term ≤ 4611686018427387904
    · by_cases hk : kind = 2
      · subst hk
        go_enter Try.func80, Try.ntmps80
        go_wp2_with fail
        all_goals go_ret
        all_goals refine ⟨ret_eq (congrArg Value.bool ?_), Ext.alloc _ _⟩
        all_goals (rw [HF.out, Bool.eq_iff_iff]; simp; omega)
      · by_cases hk1 : kind = 1
        · subst hk1
          go_enter Try.func80, Try.ntmps80
          go_wp2_with fail
          all_goals go_ret
          all_goals refine ⟨ret_eq (congrArg Value.bool ?_), Ext.alloc _ _⟩
          all_goals (have h9 := HOR.out; rw [HF.out, Bool.eq_iff_iff]; simp; omega)
        · by_cases hk3 : kind = 3
          · subst hk3
            go_enter Try.func80, Try.ntmps80
            go_wp2_with (go_at_call 78; refine (HMem.out _ (HM.out.ext (Ext.alloc _ _))).mono ?_; rintro e w' ⟨rfl, hE'⟩)
            all_goals go_ret
            all_goals refine ⟨ret_eq (congrArg Value.bool ?_), by first | exact Ext.alloc _ _ | exact (Ext.alloc _ _).trans (by assumption)⟩
            all_goals (have h9 := HOR.out; rcases HB with hb | hb <;> (rw [HF.out, Bool.eq_iff_iff]; simp [hb]; try omega))
          · have e1 : (kind == 1) = false := by simpa using hk1
            have e2 : (kind == 2) = false := by simpa using hk
            have e3 : (kind == 3) = false := by simpa using hk3
            go_enter Try.func80, Try.ntmps80
            go_wp2_with fail
            all_goals go_ret
            all_goals exact ⟨ret_eq (congrArg Value.bool (by rw [HF.out]; simp [hk, hk1, hk3])), Ext.alloc _ _⟩
    · go_enter Try.func80, Try.ntmps80
      go_wp2_with fail
      go_ret
      exact ⟨ret_eq (congrArg Value.bool (by rw [HF.out, decide_eq_false (by omega)]; rfl)), Ext.alloc _ _⟩

set_option maxHeartbeats 1000000 in
theorem rformed_ret (v : Value) (x : Ent) (w : World) (hv : EntV w v x) (hok : EntOk x) : Calls Try.prog 40 #[v] w (RetIs (.bool (formedB x)) w) := by
  obtain ⟨term, kind, client, seq, data, members⟩ := x
  obtain ⟨dv, mv, rfl, hd, hm⟩ := hv
  obtain ⟨a1, c1, rfl, hl1, hc1, h1⟩ := Rd.open hd
  have HM := Lib.hid hm
  obtain ⟨a2, c2, rfl, hl2, hc2, h2⟩ := Rd.open hm
  obtain ⟨⟨t0, t1⟩, ⟨k0, k1⟩, ⟨e0, e1⟩, ⟨s0, s1⟩, _, _⟩ := hok
  simp only at *
  clear hd hm
  unfold maxLen at hc1 hc2
  have HOR := Lib.hid (or_zero client seq ⟨e0, e1⟩ ⟨s0, s1⟩)
  obtain ⟨ld, hld⟩ : ∃ n, n = data.length := ⟨_, rfl⟩
  obtain ⟨lm, hlm⟩ : ∃ n, n = members.length := ⟨_, rfl⟩
  obtain ⟨fb, hfb0⟩ : ∃ fb, fb = formedB ⟨term, kind, client, seq, data, members⟩ := ⟨_, rfl⟩
  have hfb : fb = (decide (1 ≤ term ∧ term ≤ 4611686018427387904) &&
    (if kind = 2 then decide (ld ≤ 64) && decide (lm = 0)
     else if kind = 1 then decide (client = 0) && decide (seq = 0) && decide (ld = 0) && decide (lm = 0)
     else if kind = 3 then decide (client = 0) && decide (seq = 0) && decide (ld = 0) && membersB members
     else false)) := by rw [hfb0, hld, hlm]; rfl
  rw [← hfb0, ← hld]
  rw [← hld] at hl1
  rw [← hlm] at hl2 HM ⊢
  have HF := Lib.hid hfb
  clear hfb hld hlm h1 h2 hfb0
  have HB : membersB members = true ∨ membersB members = false := by cases membersB members <;> simp
  have hmem := fun wx hw => rmembers_ret (.slice a2 lm c2) members wx hw
  have HMem := Lib.hid hmem; clear hmem
  by_cases ht : term = 0
  · subst ht
    go_enter Try.func40, Try.ntmps40
    go_wp2_with fail
    go_ret
    exact ⟨ret_eq (congrArg Value.bool (by rw [HF.out]; simp)), Ext.alloc _ _⟩
  · by_cases ht2 : term ≤ 4611686018427387904
    · by_cases hk : kind = 2
      · subst hk
        go_enter Try.func40, Try.ntmps40
        go_wp2_with fail
        all_goals go_ret
        all_goals refine ⟨ret_eq (congrArg Value.bool ?_), Ext.alloc _ _⟩
        all_goals (rw [HF.out, Bool.eq_iff_iff]; simp; omega)
      · by_cases hk1 : kind = 1
        · subst hk1
          go_enter Try.func40, Try.ntmps40
          go_wp2_with fail
          all_goals go_ret
          all_goals refine ⟨ret_eq (congrArg Value.bool ?_), Ext.alloc _ _⟩
          all_goals (have h9 := HOR.out; rw [HF.out, Bool.eq_iff_iff]; simp; omega)
        · by_cases hk3 : kind = 3
          · subst hk3
            go_enter Try.func40, Try.ntmps40
            go_wp2_with (go_at_call 41; refine (HMem.out _ (HM.out.ext (Ext.alloc _ _))).mono ?_; rintro e w' ⟨rfl, hE'⟩)
            all_goals go_ret
            all_goals refine ⟨ret_eq (congrArg Value.bool ?_), by first | exact Ext.alloc _ _ | exact (Ext.alloc _ _).trans (by assumption)⟩
            all_goals (have h9 := HOR.out; rcases HB with hb | hb <;> (rw [HF.out, Bool.eq_iff_iff]; simp [hb]; try omega))
          · have e1 : (kind == 1) = false := by simpa using hk1
            have e2 : (kind == 2) = false := by simpa using hk
            have e3 : (kind == 3) = false := by simpa using hk3
            go_enter Try.func40, Try.ntmps40
            go_wp2_with fail
            all_goals go_ret
            all_goals exact ⟨ret_eq (congrArg Value.bool (by rw [HF.out]; simp [hk, hk1, hk3])), Ext.alloc _ _⟩
    · go_enter Try.func40, Try.ntmps40
      go_wp2_with fail
      go_ret
      exact ⟨ret_eq (congrArg Value.bool (by rw [HF.out, decide_eq_false (by omega)]; rfl)), Ext.alloc _ _⟩
end Go.Proofs.Ytjodgbabfhcilaa
