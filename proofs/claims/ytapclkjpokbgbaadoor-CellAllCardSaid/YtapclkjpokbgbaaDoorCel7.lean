/- tabellionref10: Took, Lost, Fits; tabellionlaw10: begin. -/
import Derived.Test.YtapclkjpokbgbaaDoorCel6
set_option linter.unusedSimpArgs false
set_option linter.unusedVariables false
namespace Go.Proofs.YtapclkjpokbgbaaDoor
open Go Go.RowKit Go.Maps

/-- x is what a cell may be. -/
def RefB (w : World) (x : Nat) (h m : Nat × Nat) (ov : Bool) : Prop := Blk w x #[.int .u64 h.1, .int .u64 h.2, .int .u64 m.1, .int .u64 m.2, .bool ov] 70
theorem Blk.five {w : World} {b : Nat} {e : TypeId} {c0 c1 c2 c3 c4 : Value} (h : Blk w b #[c0, c1, c2, c3, c4] e) :
    w.cell? ⟨b, 0, none⟩ = some c0 ∧ w.cell? ⟨b, 1, none⟩ = some c1 ∧ w.cell? ⟨b, 2, none⟩ = some c2 ∧ w.cell? ⟨b, 3, none⟩ = some c3 ∧ w.cell? ⟨b, 4, none⟩ = some c4 := ⟨h.cell 0 rfl, h.cell 1 rfl, h.cell 2 rfl, h.cell 3 rfl, h.cell 4 rfl⟩
theorem Blk.three {w : World} {b : Nat} {e : TypeId} {c0 c1 c2 : Value} (h : Blk w b #[c0, c1, c2] e) :
    w.cell? ⟨b, 0, none⟩ = some c0 ∧ w.cell? ⟨b, 1, none⟩ = some c1 ∧ w.cell? ⟨b, 2, none⟩ = some c2 := ⟨h.cell 0 rfl, h.cell 1 rfl, h.cell 2 rfl⟩
set_option maxRecDepth 100000 in
set_option maxHeartbeats 1000000 in
theorem took_c (x : Nat) (h m : Nat × Nat) (ov : Bool) (t v : Nat) (w : World) (hx : RefB w x h m ov) :
    Calls Tryd.prog 52 #[dptr x, hardV t v] w fun e w' => e = .returned (.tuple #[]) ∧ RefB w' x (t, v) (t, v) false ∧ Chg [x] w w' := by
  have hb : Blk w x #[.int .u64 h.1, .int .u64 h.2, .int .u64 m.1, .int .u64 m.2, .bool ov] 70 := hx
  go_enter Tryd.func52, Tryd.ntmps52
  simp only [hardV]
  obtain ⟨w1, hw1⟩ : ∃ w1, w1 = w.alloc (.cells #[.int .u64 t, .int .u64 v] 24) := ⟨_, rfl⟩
  have hE1 : Ext w w1 := by rw [hw1]; exact Ext.alloc _ _
  have hP : Blk w1 w.heap.size #[.int .u64 t, .int .u64 v] 24 := by rw [hw1]; exact Blk.new _ _ _
  have hlt := hb.lt
  go_upto_region 1 with fail
  rw [← hw1]
  obtain ⟨p, hp⟩ : ∃ p, p = w.heap.size := ⟨_, rfl⟩
  rw [← hp] at hP hlt ⊢
  have hb1 := hb.ext hE1
  obtain ⟨c0, c1, c2, c3, c4⟩ := hb1.five
  have f0 := hb1.free 0; have f1 := hb1.free 1; have f2 := hb1.free 2; have f3 := hb1.free 3; have f4 := hb1.free 4
  have q0 := hP.cell 0 rfl; have q1 := hP.cell 1 rfl
  simp only [List.getElem_toArray, List.getElem_cons_zero, List.getElem_cons_succ] at q0 q1
  have HE1 := Lib.hid hE1; have HB1 := Lib.hid hb1
  clear hE1 hP hw1 hp hb hx hb1
  go_wp2_with fail
  refine bodyPost_end (results_none Tryd.results52 _ _ _) rfl ?_
  have hS := ((((HB1.out.set 0 (.int .u64 t)).set 1 (.int .u64 v)).set 2 (.int .u64 t)).set 3 (.int .u64 v)).set 4 (.bool false)
  refine ⟨rfl, by unfold RefB; simpa using hS, ?_⟩
  exact ((((((Chg.ext HE1.out).setNew _ 0 _ (.inl (by simp))).setNew _ 1 _ (.inl (by simp))).setNew _ 2 _ (.inl (by simp))).setNew _ 3 _ (.inl (by simp))).setNew _ 4 _ (.inl (by simp)))
set_option maxRecDepth 100000 in
set_option maxHeartbeats 1000000 in
theorem lostw_c (x : Nat) (h m : Nat × Nat) (ov : Bool) (t v : Nat) (w : World) (hx : RefB w x h m ov) :
    Calls Tryd.prog 53 #[dptr x, hardV t v] w fun e w' => e = .returned (.tuple #[]) ∧ RefB w' x h (t, v) true ∧ Chg [x] w w' := by
  have hb : Blk w x #[.int .u64 h.1, .int .u64 h.2, .int .u64 m.1, .int .u64 m.2, .bool ov] 70 := hx
  go_enter Tryd.func53, Tryd.ntmps53
  simp only [hardV]
  obtain ⟨w1, hw1⟩ : ∃ w1, w1 = w.alloc (.cells #[.int .u64 t, .int .u64 v] 24) := ⟨_, rfl⟩
  have hE1 : Ext w w1 := by rw [hw1]; exact Ext.alloc _ _
  have hP : Blk w1 w.heap.size #[.int .u64 t, .int .u64 v] 24 := by rw [hw1]; exact Blk.new _ _ _
  have hlt := hb.lt
  go_upto_region 1 with fail
  rw [← hw1]
  obtain ⟨p, hp⟩ : ∃ p, p = w.heap.size := ⟨_, rfl⟩
  rw [← hp] at hP hlt ⊢
  have hb1 := hb.ext hE1
  obtain ⟨c0, c1, c2, c3, c4⟩ := hb1.five
  have f2 := hb1.free 2; have f3 := hb1.free 3; have f4 := hb1.free 4
  have q0 := hP.cell 0 rfl; have q1 := hP.cell 1 rfl
  simp only [List.getElem_toArray, List.getElem_cons_zero, List.getElem_cons_succ] at q0 q1
  have HE1 := Lib.hid hE1; have HB1 := Lib.hid hb1
  clear hE1 hP hw1 hp hb hx hb1
  go_wp2_with fail
  refine bodyPost_end (results_none Tryd.results53 _ _ _) rfl ?_
  have hS := (((HB1.out.set 2 (.int .u64 t)).set 3 (.int .u64 v))).set 4 (.bool true)
  refine ⟨rfl, by unfold RefB; simpa using hS, ?_⟩
  exact ((((Chg.ext HE1.out).setNew _ 2 _ (.inl (by simp))).setNew _ 3 _ (.inl (by simp))).setNew _ 4 _ (.inl (by simp)))
set_option maxRecDepth 100000 in
set_option maxHeartbeats 1000000 in
theorem fits_c (x : Nat) (h m : Nat × Nat) (ov : Bool) (q : Nat × Nat) (w : World) (hx : RefB w x h m ov) (hq : q = h ∨ q = m) :
    Calls Tryd.prog 54 #[dptr x, hardV q.1 q.2] w fun e w' => e = .returned (.bool true) ∧ Ext w w' := by
  have hb : Blk w x #[.int .u64 h.1, .int .u64 h.2, .int .u64 m.1, .int .u64 m.2, .bool ov] 70 := hx
  go_enter Tryd.func54, Tryd.ntmps54
  simp only [hardV]
  obtain ⟨w1, hw1⟩ : ∃ w1, w1 = w.alloc (.cells #[.int .u64 q.1, .int .u64 q.2] 24) := ⟨_, rfl⟩
  have hE1 : Ext w w1 := by rw [hw1]; exact Ext.alloc _ _
  have hP : Blk w1 w.heap.size #[.int .u64 q.1, .int .u64 q.2] 24 := by rw [hw1]; exact Blk.new _ _ _
  have hlt := hb.lt
  go_upto_region 1 with fail
  rw [← hw1]
  obtain ⟨p, hp⟩ : ∃ p, p = w.heap.size := ⟨_, rfl⟩
  rw [← hp] at hP hlt ⊢
  obtain ⟨c0, c1, c2, c3, c4⟩ := (hb.ext hE1).five
  have q0 := hP.cell 0 rfl; have q1 := hP.cell 1 rfl
  simp only [List.getElem_toArray, List.getElem_cons_zero, List.getElem_cons_succ] at q0 q1
  have HE1 := Lib.hid hE1
  clear hE1 hP hw1 hp hb hx
  obtain ⟨a1, a2⟩ := q; obtain ⟨h1, h2⟩ := h; obtain ⟨m1, m2⟩ := m
  dsimp only at c0 c1 c2 c3 q0 q1 ⊢
  by_cases hh : a1 = h1 ∧ a2 = h2
  · obtain ⟨rfl, rfl⟩ := hh
    clear hq
    apply Mono.region1 15 Ext [.is _, .is _, .is _, .is _, .is _, .is _, .is _, .is _, .is _, .is _, .is _, .is _, .is _, .is _, .is _] (by kernel_rfl) Ext.refl (fun _ _ _ => Ext.trans) (by kernel_rfl) rfl rfl trivial
    focus
    iterate 15 (apply Mono.step_is; (· refine Mono.obl_mk fun w5 hE5 _ K hK => ?_; (have j0 := hE5.cell (show w1.drew.cell? _ = _ from c0)); (have j1 := hE5.cell (show w1.drew.cell? _ = _ from c1)); (have j2 := hE5.cell (show w1.drew.cell? _ = _ from c2)); (have j3 := hE5.cell (show w1.drew.cell? _ = _ from c3)); (have i0 := hE5.cell (show w1.drew.cell? _ = _ from q0)); (have i1 := hE5.cell (show w1.drew.cell? _ = _ from q1)); clear hE5; go_wp2_with fail; simp only [Act.put, List.setIfInBounds_toArray, List.set_cons_succ, List.set_cons_zero] at hK; exact hK _ _ (Ext.refl _) (Mono.is_rfl _ _)); simp only [Act.put, List.setIfInBounds_toArray, List.set_cons_succ, List.set_cons_zero])
    refine Mono.step_end fun w5 hE5 hkn => ?_
    simp only [List.drop_succ_cons, List.drop_zero]
    clear hkn
    have HE5 := Lib.hid (HE1.out.trans ((Ext.drew w1).trans hE5))
    clear hE5 c0 c1 c2 c3 c4 q0 q1
    go_wp2_with fail
    go_ret
    exact ⟨rfl, HE5.out⟩
  · have hm : a1 = m1 ∧ a2 = m2 := by
      rcases hq with h | h
      · exact absurd (by simpa using h) hh
      · simpa using h
    obtain ⟨rfl, rfl⟩ := hm
    by_cases he : a1 = h1
    · have hd : ((a2 : Int) == (h2 : Int)) = false := by
        rw [beq_eq_false_iff_ne]; intro e; exact hh ⟨he, by omega⟩
      subst he
      clear hq hh
      apply Mono.region1 15 Ext [.is _, .is _, .is _, .is _, .is _, .is _, .is _, .is _, .is _, .is _, .is _, .is _, .is _, .is _, .is _] (by kernel_rfl) Ext.refl (fun _ _ _ => Ext.trans) (by kernel_rfl) rfl rfl trivial
      focus
      iterate 15 (apply Mono.step_is; (· refine Mono.obl_mk fun w5 hE5 _ K hK => ?_; (have j0 := hE5.cell (show w1.drew.cell? _ = _ from c0)); (have j1 := hE5.cell (show w1.drew.cell? _ = _ from c1)); (have j2 := hE5.cell (show w1.drew.cell? _ = _ from c2)); (have j3 := hE5.cell (show w1.drew.cell? _ = _ from c3)); (have i0 := hE5.cell (show w1.drew.cell? _ = _ from q0)); (have i1 := hE5.cell (show w1.drew.cell? _ = _ from q1)); clear hE5; go_wp2_with fail; simp only [Act.put, List.setIfInBounds_toArray, List.set_cons_succ, List.set_cons_zero] at hK; exact hK _ _ (Ext.refl _) (Mono.is_rfl _ _)); simp only [Act.put, List.setIfInBounds_toArray, List.set_cons_succ, List.set_cons_zero])
      refine Mono.step_end fun w5 hE5 hkn => ?_
      simp only [List.drop_succ_cons, List.drop_zero]
      clear hkn
      have HE5 := Lib.hid (HE1.out.trans ((Ext.drew w1).trans hE5))
      clear hE5 c0 c1 c2 c3 c4 q0 q1
      go_wp2_with fail
      go_ret
      exact ⟨rfl, HE5.out⟩
    · have hd : ((a1 : Int) == (h1 : Int)) = false := by
        rw [beq_eq_false_iff_ne]; intro e; exact he (by omega)
      clear hq hh he
      apply Mono.region1 15 Ext [.is _, .is _, .is _, .is _, .is _, .is _, .is _, .is _, .is _, .is _, .is _, .is _, .is _, .is _, .is _] (by kernel_rfl) Ext.refl (fun _ _ _ => Ext.trans) (by kernel_rfl) rfl rfl trivial
      focus
      iterate 15 (apply Mono.step_is; (· refine Mono.obl_mk fun w5 hE5 _ K hK => ?_; (have j0 := hE5.cell (show w1.drew.cell? _ = _ from c0)); (have j1 := hE5.cell (show w1.drew.cell? _ = _ from c1)); (have j2 := hE5.cell (show w1.drew.cell? _ = _ from c2)); (have j3 := hE5.cell (show w1.drew.cell? _ = _ from c3)); (have i0 := hE5.cell (show w1.drew.cell? _ = _ from q0)); (have i1 := hE5.cell (show w1.drew.cell? _ = _ from q1)); clear hE5; go_wp2_with fail; simp only [Act.put, List.setIfInBounds_toArray, List.set_cons_succ, List.set_cons_zero] at hK; exact hK _ _ (Ext.refl _) (Mono.is_rfl _ _)); simp only [Act.put, List.setIfInBounds_toArray, List.set_cons_succ, List.set_cons_zero])
      refine Mono.step_end fun w5 hE5 hkn => ?_
      simp only [List.drop_succ_cons, List.drop_zero]
      clear hkn
      have HE5 := Lib.hid (HE1.out.trans ((Ext.drew w1).trans hE5))
      clear hE5 c0 c1 c2 c3 c4 q0 q1
      go_wp2_with fail
      go_ret
      exact ⟨rfl, HE5.out⟩
end Go.Proofs.YtapclkjpokbgbaaDoor
