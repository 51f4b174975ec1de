/- The law MsgBack: its walk. -/
import Derived.Test.YtnhfjoelfnmgaaaBun8
import Derived.Deep.CutBlock
import Derived.Deep.DeepCutAuto
set_option linter.unusedSimpArgs false
set_option linter.unusedVariables false
namespace Go.Proofs.Ytnhfjoelfnmgaaa
open Go Go.RowKit

theorem wrM_inv {bs : List Int} {x : Msg} (hb : B8 bs) (h : getM bs = .ok x) : wrM x = some bs := by
  obtain ⟨ys, h1, h2, h3, h4⟩ := getM_inv hb h
  rw [wrM_eq x h4, h1]
  simp only
  rw [if_pos h3, h2]
theorem wrM_some {x : Msg} {bs : List Int} (hok : MsgOk x) (h : wrM x = some bs) : getM bs = .ok x ∧ B8 bs ∧ bs.length ≤ 300000 := by
  rw [wrM_eq x hok] at h
  cases hy : wBody x with
  | none => rw [hy] at h; cases h
  | some ys =>
    rw [hy] at h
    simp only at h
    split at h
    · rename_i hc
      cases h
      have hfine := wBody_fine x hok hy
      refine ⟨by rw [getM_put x hok hy, hc], ?_, by have := hfine.2; simp only [List.length_cons]; omega⟩
      intro z hz
      rcases List.mem_cons.1 hz with rfl | hz
      · omega
      · exact hfine.1 z hz
    · cases h

set_option maxHeartbeats 4000000 in
theorem mback_law (v v1 : Value) (M : Msg) (bs : List Int) (w : World) (hv : MsgV w 0 v M) (hok : MsgOk M) (hR : Rd w v1 (u8s bs)) (hb8 : B8 bs) (hl : bs.length ≤ 140737488355000) :
    Calls Try.prog 7 #[v, v1] w (RetIs (.bool true) w) := by
  have HV := Lib.hid hv
  obtain ⟨a9, am9, ac9, a10, am10, ac10, a11, am11, ac11, rfl⟩ := hv.shape
  obtain ⟨av, nv, cv, rfl⟩ := Rd.shape hR
  have HR := Lib.hid hR
  have HOK := Lib.hid hok
  clear hv hR hok
  go_enter Try.func7, Try.ntmps7
  go_wp2_with fail
  refine (awake18 _).mono ?_
  rintro e w1 ⟨rfl, hE1⟩
  have HB1 := Lib.hid ((Blk.new w #[.int .i64 M.kind, .int .u64 M.src, .int .u64 M.dst, .int .u64 M.term, .int .u64 M.index, .int .u64 M.logTerm, .int .u64 M.commit, .int .u64 M.stamp, .bool M.yes, .slice a9 am9 ac9, .slice a10 am10 ac10, .slice a11 am11 ac11] 28).ext hE1)
  have HE1 := Lib.hid (show Ext w w1 from (Ext.alloc _ _).trans hE1)
  clear hE1
  go_wp2_with (refine wpList_load_row rfl 28 (.tmp 2) rfl w.heap.size rfl 28 _ (0, 0) _ HB1.out Try.underlying28 rfl (by kernel_rfl) ?_)
  refine (mput_c _ M 0 w1 (HV.out.ext HE1.out) HOK.out).mono ?_
  rintro e w2 ⟨hE2, b, eb, rfl, hm⟩
  obtain ⟨X, hX⟩ : ∃ X, X = wrM M := ⟨_, rfl⟩
  rw [← hX] at hm
  have HX := Lib.hid hX
  have HB2 := Lib.hid (HB1.out.ext hE2)
  have HE2 := Lib.hid (HE1.out.trans hE2)
  clear hX hE2
  obtain ⟨ba, bn, bc, rfl⟩ : ∃ a n c, b = .slice a n c := by
    cases X with
    | none => obtain ⟨_, rfl⟩ := hm; exact ⟨_, _, _, rfl⟩
    | some ps => exact Rd.shape hm.2.1
  have heq : (eb == 0) = X.isSome := by
    cases X with
    | none => obtain ⟨rfl, _⟩ := hm; rfl
    | some ps => obtain ⟨rfl, _⟩ := hm; rfl
  have HM := Lib.hid hm
  clear hm
  go_wp2_with (refine wpList_load_row rfl 28 (.tmp 2) rfl w.heap.size rfl 28 _ (0, 0) _ HB2.out Try.underlying28 rfl (by kernel_rfl) ?_)
  refine (mformed_c _ M 0 w2 (HV.out.ext HE2.out) HOK.out).mono ?_
  rintro en w3 ⟨rfl, hE3⟩
  rw [← HX.out]
  have HE3 := Lib.hid (HE2.out.trans hE3)
  have HB3 := Lib.hid (HB2.out.ext hE3)
  have HE23 := Lib.hid hE3
  clear hE3
  have hne : (X.isSome != X.isSome) = false := by simp
  go_upto_if 26 with fail
  go_cut [] (fun wx => Ext w wx)
  case first =>
    cases X with
    | none =>
      go_wp2_with fail
      go_meet
      case rel => exact HE3.out
    | some ps =>
      obtain ⟨rfl, hp, _⟩ := HM.out
      obtain ⟨hgp, hp8, hpl⟩ := wrM_some HOK.out HX.out.symm
      have HP := Lib.hid (hp.ext HE23.out); have HGP := Lib.hid hgp; have HP8 := Lib.hid hp8
      clear hp hgp hp8
      go_wp2_with fail
      refine (mget_c _ ps w3 HP.out HP8.out (by omega)).mono ?_
      rintro en w4 ⟨hE4, v4, e4, x4, rfl, hv4, hm4⟩
      rw [HGP.out] at hm4
      obtain ⟨rfl, rfl⟩ := hm4
      have HV4 := Lib.hid hv4
      obtain ⟨b9, bm9, bc9, b10, bm10, bc10, b11, bm11, bc11, rfl⟩ := hv4.shape
      have HE4 := Lib.hid hE4
      clear hv4 hE4
      go_upto_region 8 with fail
      have hE5 := Ext.alloc w4 (.cells #[.int .i64 x4.kind, .int .u64 x4.src, .int .u64 x4.dst, .int .u64 x4.term, .int .u64 x4.index, .int .u64 x4.logTerm, .int .u64 x4.commit, .int .u64 x4.stamp, .bool x4.yes, .slice b9 bm9 bc9, .slice b10 bm10 bc10, .slice b11 bm11 bc11] 28)
      have HB5 := Lib.hid (Blk.new w4 #[.int .i64 x4.kind, .int .u64 x4.src, .int .u64 x4.dst, .int .u64 x4.term, .int .u64 x4.index, .int .u64 x4.logTerm, .int .u64 x4.commit, .int .u64 x4.stamp, .bool x4.yes, .slice b9 bm9 bc9, .slice b10 bm10 bc10, .slice b11 bm11 bc11] 28)
      generalize w4.alloc (.cells #[.int .i64 x4.kind, .int .u64 x4.src, .int .u64 x4.dst, .int .u64 x4.term, .int .u64 x4.index, .int .u64 x4.logTerm, .int .u64 x4.commit, .int .u64 x4.stamp, .bool x4.yes, .slice b9 bm9 bc9, .slice b10 bm10 bc10, .slice b11 bm11 bc11] 28) = w5 at *
      have HBX := Lib.hid (HB3.out.ext (HE4.out.trans hE5))
      have HV5 := Lib.hid (HV4.out.ext hE5)
      have HVM := Lib.hid (HV.out.ext (HE3.out.trans (HE4.out.trans hE5)))
      have HE5 := Lib.hid (HE3.out.trans (HE4.out.trans hE5))
      clear hE5
      obtain ⟨p0, p1, p2, p3, p4, p5, p6, p7, p8, p9, p10, p11⟩ := HB5.out.twelve
      obtain ⟨q0, q1, q2, q3, q4, q5, q6, q7, q8, q9, q10, q11⟩ := HBX.out.twelve
      go_wp2_with fail
      refine (msame_ret _ _ x4 x4 _ _ w5 HV5.out HVM.out HOK.out HOK.out).mono ?_
      rintro en w6 ⟨rfl, hE6⟩
      rw [decide_eq_true rfl]
      have HE6 := Lib.hid (HE5.out.trans hE6)
      clear p0 p1 p2 p3 p4 p5 p6 p7 p8 p9 p10 p11 q0 q1 q2 q3 q4 q5 q6 q7 q8 q9 q10 q11 hE6
      go_wp2_with fail
      go_meet
      case rel => exact HE6.out
  case rest =>
    have HEW := Lib.hid hcut
    clear hcut
    go_wp2_with fail
    refine (mget_c _ bs wc (HR.out.ext HEW.out) hb8 (by omega)).mono ?_
    rintro en w4 ⟨hE4, v4, e4, x4, rfl, hv4, hm4⟩
    have HV4 := Lib.hid hv4
    obtain ⟨d9, dm9, dc9, d10, dm10, dc10, d11, dm11, dc11, rfl⟩ := hv4.shape
    have HE4 := Lib.hid hE4
    clear hv4 hE4
    go_upto_region 11 with fail
    have hE5 := Ext.alloc w4 (.cells #[.int .i64 x4.kind, .int .u64 x4.src, .int .u64 x4.dst, .int .u64 x4.term, .int .u64 x4.index, .int .u64 x4.logTerm, .int .u64 x4.commit, .int .u64 x4.stamp, .bool x4.yes, .slice d9 dm9 dc9, .slice d10 dm10 dc10, .slice d11 dm11 dc11] 28)
    have HB5 := Lib.hid (Blk.new w4 #[.int .i64 x4.kind, .int .u64 x4.src, .int .u64 x4.dst, .int .u64 x4.term, .int .u64 x4.index, .int .u64 x4.logTerm, .int .u64 x4.commit, .int .u64 x4.stamp, .bool x4.yes, .slice d9 dm9 dc9, .slice d10 dm10 dc10, .slice d11 dm11 dc11] 28)
    generalize w4.alloc (.cells #[.int .i64 x4.kind, .int .u64 x4.src, .int .u64 x4.dst, .int .u64 x4.term, .int .u64 x4.index, .int .u64 x4.logTerm, .int .u64 x4.commit, .int .u64 x4.stamp, .bool x4.yes, .slice d9 dm9 dc9, .slice d10 dm10 dc10, .slice d11 dm11 dc11] 28) = w5 at *
    have HV5 := Lib.hid (HV4.out.ext hE5)
    have HE5 := Lib.hid (HEW.out.trans (HE4.out.trans hE5))
    clear hE5
    rcases hX : getM bs with no | y
    · rw [hX] at hm4
      obtain ⟨rfl, hne4, rfl⟩ := hm4
      have hb4 : (e4 != 0) = true := by simpa using hne4
      clear hX hne4
      obtain ⟨p0, p1, p2, p3, p4, p5, p6, p7, p8, p9, p10, p11⟩ := HB5.out.twelve
      go_wp2_with fail
      refine (msame_ret _ _ Msg.zero Msg.zero _ 0 w5 HV5.out ⟨_, _, _, rfl, EntsV.nil _ _, ⟨Rd.nil _, From.nil _⟩, Rd.nil _, From.nil _⟩ MsgOk.zero MsgOk.zero).mono ?_
      rintro en w9 ⟨rfl, hE9⟩
      rw [decide_eq_true rfl]
      clear p0 p1 p2 p3 p4 p5 p6 p7 p8 p9 p10 p11
      go_wp2_with fail
      go_ret
      exact ⟨rfl, HE5.out.trans hE9⟩
    · rw [hX] at hm4
      obtain ⟨rfl, rfl⟩ := hm4
      have HOK4 := Lib.hid (getM_ok hb8 hX)
      have HWI := Lib.hid (wrM_inv hb8 hX)
      clear hX
      go_wp2_with (refine wpList_load_row rfl 28 (.tmp 9) rfl w4.heap.size rfl 28 _ (0, 0) _ HB5.out Try.underlying28 rfl (by kernel_rfl) ?_)
      refine (mput_c _ x4 _ w5 HV5.out HOK4.out).mono ?_
      rintro en w6 ⟨hE6, q6, qe, rfl, hq6⟩
      rw [HWI.out] at hq6
      obtain ⟨rfl, hr6, _⟩ := hq6
      have cv1 := hr6.convert Try.underlying22 Try.underlying5 Try.underlying9
      have cv2 := (HR.out.ext (HE5.out.trans hE6)).convert Try.underlying22 Try.underlying5 Try.underlying9
      have HB6 := Lib.hid (HB5.out.ext hE6)
      have HV6 := Lib.hid (HV5.out.ext hE6)
      have HE6 := Lib.hid (HE5.out.trans hE6)
      clear hr6 hE6
      obtain ⟨p0, p1, p2, p3, p4, p5, p6, p7, p8, p9, p10, p11⟩ := HB6.out.twelve
      go_wp2_with fail
      refine (mformed_c _ x4 _ w6 HV6.out HOK4.out).mono ?_
      rintro en w9 ⟨rfl, hE9⟩
      rw [HWI.out]
      clear p0 p1 p2 p3 p4 p5 p6 p7 p8 p9 p10 p11
      go_wp2_with fail
      go_ret
      exact ⟨rfl, HE6.out.trans hE9⟩
end Go.Proofs.Ytnhfjoelfnmgaaa
