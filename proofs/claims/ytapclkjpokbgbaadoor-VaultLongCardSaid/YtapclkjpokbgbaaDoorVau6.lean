/- tabellionref11: Took, Lost, Fits. -/
import Derived.Test.YtapclkjpokbgbaaDoorVau5
set_option linter.unusedSimpArgs false
set_option linter.unusedVariables false
namespace Go.Proofs.YtapclkjpokbgbaaDoor
open Go Go.RowKit Go.Maps

/-- A text that a vault may have. -/
abbrev Txt := List Int × Bool
/-- x is what a vault may be. -/
def RVauB (w : World) (x : Nat) (h m : Txt) (ov : Bool) : Prop := Blk w x #[.string (strOfNums h.1), .bool h.2, .string (strOfNums m.1), .bool m.2, .bool ov] 52
set_option maxRecDepth 100000 in
set_option maxHeartbeats 1000000 in
theorem vtook_c (x : Nat) (h m q : Txt) (ov : Bool) (w : World) (hx : RVauB w x h m ov) :
    Calls Tryd.prog 47 #[dptr x, textV q.1 q.2] w fun e w' => e = .returned (.tuple #[]) ∧ RVauB w' x q q false ∧ Chg [x] w w' := by
  have hb : Blk w x #[.string (strOfNums h.1), .bool h.2, .string (strOfNums m.1), .bool m.2, .bool ov] 52 := hx
  obtain ⟨s, hs⟩ : ∃ s, s = strOfNums q.1 := ⟨_, rfl⟩
  rw [show textV q.1 q.2 = .agg #[.string s, .bool q.2] from by unfold textV; rw [← hs]]
  have HS := Lib.hid hs
  clear hs
  go_enter Tryd.func47, Tryd.ntmps47
  obtain ⟨w1, hw1⟩ : ∃ w1, w1 = w.alloc (.cells #[.string s, .bool q.2] 45) := ⟨_, rfl⟩
  have hE1 : Ext w w1 := by rw [hw1]; exact Ext.alloc _ _
  have hP : Blk w1 w.heap.size #[.string s, .bool q.2] 45 := by rw [hw1]; exact Blk.new _ _ _
  have hlt := hb.lt
  go_upto_region 1 with fail
  rw [← hw1]
  obtain ⟨p, hp⟩ : ∃ p, p = w.heap.size := ⟨_, rfl⟩
  rw [← hp] at hP hlt ⊢
  have hb1 := hb.ext hE1
  obtain ⟨c0, c1, c2, c3, c4⟩ := hb1.five
  have f0 := hb1.free 0; have f1 := hb1.free 1; have f2 := hb1.free 2; have f3 := hb1.free 3; have f4 := hb1.free 4
  have q0 := hP.cell 0 rfl; have q1 := hP.cell 1 rfl
  simp only [List.getElem_toArray, List.getElem_cons_zero, List.getElem_cons_succ] at q0 q1
  have HE1 := Lib.hid hE1; have HB1 := Lib.hid hb1
  clear hE1 hP hw1 hp hb hx hb1
  go_wp2_with fail
  refine bodyPost_end (results_none Tryd.results47 _ _ _) rfl ?_
  have hS := ((((HB1.out.set 0 (.string s)).set 1 (.bool q.2)).set 2 (.string s)).set 3 (.bool q.2)).set 4 (.bool false)
  refine ⟨rfl, by unfold RVauB; rw [← HS.out]; simpa using hS, ?_⟩
  exact ((((((Chg.ext HE1.out).setNew _ 0 _ (.inl (by simp))).setNew _ 1 _ (.inl (by simp))).setNew _ 2 _ (.inl (by simp))).setNew _ 3 _ (.inl (by simp))).setNew _ 4 _ (.inl (by simp)))
set_option maxRecDepth 100000 in
set_option maxHeartbeats 1000000 in
theorem vlost_c (x : Nat) (h m q : Txt) (ov : Bool) (w : World) (hx : RVauB w x h m ov) :
    Calls Tryd.prog 48 #[dptr x, textV q.1 q.2] w fun e w' => e = .returned (.tuple #[]) ∧ RVauB w' x h q true ∧ Chg [x] w w' := by
  have hb : Blk w x #[.string (strOfNums h.1), .bool h.2, .string (strOfNums m.1), .bool m.2, .bool ov] 52 := hx
  obtain ⟨s, hs⟩ : ∃ s, s = strOfNums q.1 := ⟨_, rfl⟩
  rw [show textV q.1 q.2 = .agg #[.string s, .bool q.2] from by unfold textV; rw [← hs]]
  have HS := Lib.hid hs
  clear hs
  go_enter Tryd.func48, Tryd.ntmps48
  obtain ⟨w1, hw1⟩ : ∃ w1, w1 = w.alloc (.cells #[.string s, .bool q.2] 45) := ⟨_, rfl⟩
  have hE1 : Ext w w1 := by rw [hw1]; exact Ext.alloc _ _
  have hP : Blk w1 w.heap.size #[.string s, .bool q.2] 45 := by rw [hw1]; exact Blk.new _ _ _
  have hlt := hb.lt
  go_upto_region 1 with fail
  rw [← hw1]
  obtain ⟨p, hp⟩ : ∃ p, p = w.heap.size := ⟨_, rfl⟩
  rw [← hp] at hP hlt ⊢
  have hb1 := hb.ext hE1
  obtain ⟨c0, c1, c2, c3, c4⟩ := hb1.five
  have f2 := hb1.free 2; have f3 := hb1.free 3; have f4 := hb1.free 4
  have q0 := hP.cell 0 rfl; have q1 := hP.cell 1 rfl
  simp only [List.getElem_toArray, List.getElem_cons_zero, List.getElem_cons_succ] at q0 q1
  have HE1 := Lib.hid hE1; have HB1 := Lib.hid hb1
  clear hE1 hP hw1 hp hb hx hb1
  go_wp2_with fail
  refine bodyPost_end (results_none Tryd.results48 _ _ _) rfl ?_
  have hS := ((HB1.out.set 2 (.string s)).set 3 (.bool q.2)).set 4 (.bool true)
  refine ⟨rfl, by unfold RVauB; rw [← HS.out]; simpa using hS, ?_⟩
  exact ((((Chg.ext HE1.out).setNew _ 2 _ (.inl (by simp))).setNew _ 3 _ (.inl (by simp))).setNew _ 4 _ (.inl (by simp)))
set_option maxRecDepth 100000 in
set_option maxHeartbeats 2000000 in
theorem vfits_c (x : Nat) (h m q : Txt) (ov : Bool) (w : World) (hx : RVauB w x h m ov) (hq : q = h ∨ q = m) :
    Calls Tryd.prog 51 #[dptr x, textV q.1 q.2] w fun e w' => e = .returned (.bool true) ∧ Ext w w' := by
  have hb : Blk w x #[.string (strOfNums h.1), .bool h.2, .string (strOfNums m.1), .bool m.2, .bool ov] 52 := hx
  obtain ⟨s, hs⟩ : ∃ s, s = strOfNums q.1 := ⟨_, rfl⟩
  obtain ⟨s1, hs1⟩ : ∃ s, s = strOfNums h.1 := ⟨_, rfl⟩
  obtain ⟨s2, hs2⟩ : ∃ s, s = strOfNums m.1 := ⟨_, rfl⟩
  have hq' : (s = s1 ∧ q.2 = h.2) ∨ (s = s2 ∧ q.2 = m.2) := by rw [hs, hs1, hs2]; rcases hq with rfl | rfl <;> simp
  rw [← hs1, ← hs2] at hb
  rw [show textV q.1 q.2 = .agg #[.string s, .bool q.2] from by unfold textV; rw [← hs]]
  clear hq hx hs hs1 hs2
  obtain ⟨b, hbq⟩ : ∃ b, b = q.2 := ⟨_, rfl⟩
  obtain ⟨b1, hb1⟩ : ∃ b, b = h.2 := ⟨_, rfl⟩
  obtain ⟨b2, hb2⟩ : ∃ b, b = m.2 := ⟨_, rfl⟩
  rw [← hbq, ← hb1, ← hb2] at hq'
  rw [← hb1, ← hb2] at hb
  rw [← hbq]
  clear hbq hb1 hb2
  go_enter Tryd.func51, Tryd.ntmps51
  obtain ⟨w1, hw1⟩ : ∃ w1, w1 = w.alloc (.cells #[.string s, .bool b] 45) := ⟨_, rfl⟩
  have hE1 : Ext w w1 := by rw [hw1]; exact Ext.alloc _ _
  have hP : Blk w1 w.heap.size #[.string s, .bool b] 45 := by rw [hw1]; exact Blk.new _ _ _
  have hlt := hb.lt
  go_upto_region 1 with fail
  rw [← hw1]
  obtain ⟨p, hp⟩ : ∃ p, p = w.heap.size := ⟨_, rfl⟩
  rw [← hp] at hP hlt ⊢
  obtain ⟨c0, c1, c2, c3, c4⟩ := (hb.ext hE1).five
  have q0 := hP.cell 0 rfl; have q1 := hP.cell 1 rfl
  simp only [List.getElem_toArray, List.getElem_cons_zero, List.getElem_cons_succ] at q0 q1
  have HE1 := Lib.hid hE1
  clear hE1 hP hw1 hp hb
  by_cases hh : s = s1 ∧ b = b1
  · obtain ⟨rfl, rfl⟩ := hh
    clear hq'
    apply Mono.region1 15 Ext [.is _, .is _, .is _, .is _, .is _, .is _, .is _, .is _, .is _, .is _, .is _, .is _, .is _, .is _, .is _] (by kernel_rfl) Ext.refl (fun _ _ _ => Ext.trans) (by kernel_rfl) rfl rfl trivial
    focus
    iterate 15 (apply Mono.step_is; (· refine Mono.obl_mk fun w5 hE5 _ K hK => ?_; (have j0 := hE5.cell (show w1.drew.cell? _ = _ from c0)); (have j1 := hE5.cell (show w1.drew.cell? _ = _ from c1)); (have j2 := hE5.cell (show w1.drew.cell? _ = _ from c2)); (have j3 := hE5.cell (show w1.drew.cell? _ = _ from c3)); (have i0 := hE5.cell (show w1.drew.cell? _ = _ from q0)); (have i1 := hE5.cell (show w1.drew.cell? _ = _ from q1)); clear hE5; go_wp2_with fail; simp only [Act.put, List.setIfInBounds_toArray, List.set_cons_succ, List.set_cons_zero] at hK; exact hK _ _ (Ext.refl _) (Mono.is_rfl _ _)); simp only [Act.put, List.setIfInBounds_toArray, List.set_cons_succ, List.set_cons_zero])
    refine Mono.step_end fun w5 hE5 hkn => ?_
    simp only [List.drop_succ_cons, List.drop_zero]
    clear hkn
    have HE5 := Lib.hid (HE1.out.trans ((Ext.drew w1).trans hE5))
    clear hE5 c0 c1 c2 c3 c4 q0 q1
    go_wp2_with fail
    go_ret
    exact ⟨rfl, HE5.out⟩
  · have hm : s = s2 ∧ b = b2 := hq'.resolve_left hh
    obtain ⟨rfl, rfl⟩ := hm
    clear hq'
    by_cases hs : s.toList = s1.toList
    · obtain rfl : s = s1 := by
        apply ByteArray.ext; apply Array.ext'; rwa [Lib.toList_data, Lib.toList_data] at hs
      have hb' : b ≠ b1 := fun e => hh ⟨rfl, e⟩
      have hbb : (b == b1) = false := by simpa using hb'
      clear hs hh hb'
      apply Mono.region1 15 Ext [.is _, .is _, .is _, .is _, .is _, .is _, .is _, .is _, .is _, .is _, .is _, .is _, .is _, .is _, .is _] (by kernel_rfl) Ext.refl (fun _ _ _ => Ext.trans) (by kernel_rfl) rfl rfl trivial
      focus
      iterate 15 (apply Mono.step_is; (· refine Mono.obl_mk fun w5 hE5 _ K hK => ?_; (have j0 := hE5.cell (show w1.drew.cell? _ = _ from c0)); (have j1 := hE5.cell (show w1.drew.cell? _ = _ from c1)); (have j2 := hE5.cell (show w1.drew.cell? _ = _ from c2)); (have j3 := hE5.cell (show w1.drew.cell? _ = _ from c3)); (have i0 := hE5.cell (show w1.drew.cell? _ = _ from q0)); (have i1 := hE5.cell (show w1.drew.cell? _ = _ from q1)); clear hE5; go_wp2_with fail; simp only [Act.put, List.setIfInBounds_toArray, List.set_cons_succ, List.set_cons_zero] at hK; exact hK _ _ (Ext.refl _) (Mono.is_rfl _ _)); simp only [Act.put, List.setIfInBounds_toArray, List.set_cons_succ, List.set_cons_zero])
      refine Mono.step_end fun w5 hE5 hkn => ?_
      simp only [List.drop_succ_cons, List.drop_zero]
      clear hkn
      have HE5 := Lib.hid (HE1.out.trans ((Ext.drew w1).trans hE5))
      clear hE5 c0 c1 c2 c3 c4 q0 q1
      go_wp2_with fail
      go_ret
      exact ⟨rfl, HE5.out⟩
    · clear hh
      apply Mono.region1 15 Ext [.is _, .is _, .is _, .is _, .is _, .is _, .is _, .is _, .is _, .is _, .is _, .is _, .is _, .is _, .is _] (by kernel_rfl) Ext.refl (fun _ _ _ => Ext.trans) (by kernel_rfl) rfl rfl trivial
      focus
      iterate 15 (apply Mono.step_is; (· refine Mono.obl_mk fun w5 hE5 _ K hK => ?_; (have j0 := hE5.cell (show w1.drew.cell? _ = _ from c0)); (have j1 := hE5.cell (show w1.drew.cell? _ = _ from c1)); (have j2 := hE5.cell (show w1.drew.cell? _ = _ from c2)); (have j3 := hE5.cell (show w1.drew.cell? _ = _ from c3)); (have i0 := hE5.cell (show w1.drew.cell? _ = _ from q0)); (have i1 := hE5.cell (show w1.drew.cell? _ = _ from q1)); clear hE5; go_wp2_with fail; simp only [Act.put, List.setIfInBounds_toArray, List.set_cons_succ, List.set_cons_zero] at hK; exact hK _ _ (Ext.refl _) (Mono.is_rfl _ _)); simp only [Act.put, List.setIfInBounds_toArray, List.set_cons_succ, List.set_cons_zero])
      refine Mono.step_end fun w5 hE5 hkn => ?_
      simp only [List.drop_succ_cons, List.drop_zero]
      clear hkn
      have HE5 := Lib.hid (HE1.out.trans ((Ext.drew w1).trans hE5))
      clear hE5 c0 c1 c2 c3 c4 q0 q1
      go_wp2_with fail
      go_ret
      exact ⟨rfl, HE5.out⟩
end Go.Proofs.YtapclkjpokbgbaaDoor
