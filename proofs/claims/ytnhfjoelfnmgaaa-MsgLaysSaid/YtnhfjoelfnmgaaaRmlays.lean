/- The law MsgLays: its walk. -/
import Derived.Test.YtnhfjoelfnmgaaaRputm
import Derived.Test.YtnhfjoelfnmgaaaCp2
set_option linter.unusedSimpArgs false
set_option linter.unusedVariables false
namespace Go.Proofs.Ytnhfjoelfnmgaaa
open Go Go.RowKit

set_option maxHeartbeats 8000000 in
theorem mlays_law (v : Value) (M : Msg) (w : World) (hv : MsgV w 0 v M) (hok : MsgOk M) (hbd : MsgBd M) :
    Calls Try.prog 6 #[v] w (RetIs (.bool true) w) := by
  have HV := Lib.hid hv
  obtain ⟨a9, am9, ac9, a10, am10, ac10, a11, am11, ac11, rfl⟩ := hv.shape
  have HOK := Lib.hid hok; have HBD := Lib.hid hbd
  clear hv hok hbd
  go_enter Try.func6, Try.ntmps6
  go_wp2_with fail
  refine (awake18 _).mono ?_
  rintro e w1 ⟨rfl, hE1⟩
  have HE1 := Lib.hid (show Ext w w1 from (Ext.alloc _ _).trans hE1)
  have HB1 := Lib.hid ((Blk.new w #[.int .i64 M.kind, .int .u64 M.src, .int .u64 M.dst, .int .u64 M.term, .int .u64 M.index, .int .u64 M.logTerm, .int .u64 M.commit, .int .u64 M.stamp, .bool M.yes, .slice a9 am9 ac9, .slice a10 am10 ac10, .slice a11 am11 ac11] 28).ext hE1)
  clear hE1
  go_wp2_with (refine wpList_load_row rfl 28 (.tmp 1) rfl w.heap.size rfl 28 _ (0, 0) _ HB1.out Try.underlying28 rfl (by kernel_rfl) ?_)
  refine (copied18 _ M w1 (HV.out.ext HE1.out) HBD.out).mono ?_
  rintro e w2 ⟨v2, rfl, hv2, hE2⟩
  have HV2 := Lib.hid hv2
  obtain ⟨b9, bm9, bc9, b10, bm10, bc10, b11, bm11, bc11, rfl⟩ := hv2.shape
  have HE2 := Lib.hid (HE1.out.trans hE2); have HB2 := Lib.hid (HB1.out.ext hE2)
  clear hE2 hv2
  go_upto_region 4 with fail
  have hE3 := Ext.alloc w2 (.cells #[.int .i64 M.kind, .int .u64 M.src, .int .u64 M.dst, .int .u64 M.term, .int .u64 M.index, .int .u64 M.logTerm, .int .u64 M.commit, .int .u64 M.stamp, .bool M.yes, .slice b9 bm9 bc9, .slice b10 bm10 bc10, .slice b11 bm11 bc11] 28)
  have HO3 := Lib.hid (Blk.new w2 #[.int .i64 M.kind, .int .u64 M.src, .int .u64 M.dst, .int .u64 M.term, .int .u64 M.index, .int .u64 M.logTerm, .int .u64 M.commit, .int .u64 M.stamp, .bool M.yes, .slice b9 bm9 bc9, .slice b10 bm10 bc10, .slice b11 bm11 bc11] 28)
  generalize w2.alloc (.cells #[.int .i64 M.kind, .int .u64 M.src, .int .u64 M.dst, .int .u64 M.term, .int .u64 M.index, .int .u64 M.logTerm, .int .u64 M.commit, .int .u64 M.stamp, .bool M.yes, .slice b9 bm9 bc9, .slice b10 bm10 bc10, .slice b11 bm11 bc11] 28) = w3 at *
  have HE3 := Lib.hid (HE2.out.trans hE3); have HB3 := Lib.hid (HB2.out.ext hE3); have HV3 := Lib.hid (HV2.out.ext hE3)
  clear hE3
  go_wp2_with (refine wpList_load_row rfl 28 (.tmp 3) rfl w2.heap.size rfl 28 _ (0, 0) _ HO3.out Try.underlying28 rfl (by kernel_rfl) ?_)
  refine (mput_c _ M 0 w3 HV3.out HOK.out).mono ?_
  rintro e w4 ⟨hE4, a, ea, rfl, ha⟩
  have HA4 := Lib.hid ha
  have HE4 := Lib.hid (HE3.out.trans hE4); have HB4 := Lib.hid (HB3.out.ext hE4); have HO4 := Lib.hid (HO3.out.ext hE4); have HV4 := Lib.hid (HV3.out.ext hE4)
  clear hE4 ha
  go_wp2_with (refine wpList_load_row rfl 28 (.tmp 1) rfl w.heap.size rfl 28 _ (0, 0) _ HB4.out Try.underlying28 rfl (by kernel_rfl) ?_)
  refine (rmput_c _ M w4 (HV.out.ext HE4.out) HOK.out HBD.out.members).mono ?_
  rintro e w6 ⟨hE6, b, eb, rfl, hb⟩
  rw [rwrM_eq M HOK.out] at hb
  obtain ⟨X, hX⟩ : ∃ X, X = wrM M := ⟨_, rfl⟩
  have ha := HA4.out
  rw [← hX] at ha hb
  obtain ⟨bs, rfl, hra, hrb⟩ : ∃ bs, eb = ea ∧ Rd w6 a (u8s bs) ∧ Rd w6 b (u8s bs) := by
    cases X with
    | none => obtain ⟨rfl, rfl⟩ := ha; obtain ⟨rfl, rfl⟩ := hb; exact ⟨[], rfl, Rd.nil _, Rd.nil _⟩
    | some bs => obtain ⟨rfl, r1, _⟩ := ha; obtain ⟨rfl, r2, _⟩ := hb; exact ⟨bs, rfl, r1.ext hE6, r2⟩
  obtain ⟨xa, xn, xc, rfl⟩ := Rd.shape hra
  obtain ⟨ya, yn, yc, rfl⟩ := Rd.shape hrb
  have HA := Lib.hid hra; have HB := Lib.hid hrb
  have HE := Lib.hid (HE4.out.trans hE6); have HX := Lib.hid (HB4.out.ext hE6); have HY := Lib.hid (HO4.out.ext hE6); have HVO := Lib.hid (HV4.out.ext hE6)
  have HRF : Hid (rformM M = (wrM M).isSome) := Lib.hid (by
    have h := rwrM_eq M HOK.out
    rw [← h]; unfold rwrM
    cases rformM M <;> rfl)
  clear ha hb hX hra hrb hE6 HA4
  obtain ⟨S, hS⟩ : ∃ S, S = (wrM M).isSome := ⟨_, rfl⟩
  have F1 : Hid (∀ u W, MsgV W 0 u M → Calls Try.prog 16 #[u] W (RetIs (.bool S) W)) := Lib.hid fun u W h => by rw [hS]; exact mformed_c u M 0 W h HOK.out
  have F2 : Hid (∀ u W, MsgV W 0 u M → Calls Try.prog 17 #[u] W (RetIs (.bool S) W)) := Lib.hid fun u W h => by rw [hS, ← HRF.out]; exact rform_c u M W h HOK.out
  have S1 : Hid (∀ u1 u2 W, MsgV W 0 u1 M → MsgV W 0 u2 M → Calls Try.prog 11 #[u1, u2] W (RetIs (.bool true) W)) := Lib.hid fun u1 u2 W a b => by rw [← decide_eq_true (rfl : M = M)]; exact rmsame_ret u1 u2 M M 0 0 W a b HOK.out HOK.out
  have hss : (S == S) = true := by simp
  clear hS
  go_upto_region 6 with fail
  apply Mono.region1 23 Ext [.is _, .is _, .is _, .is _, .is _, .is _, .is _, .is _, .is _, .is _, .is _, .is _, .is _, .is _, .is _, .is _, .is _, .is _, .is _, .is _, .is _, .is _, .is _] (by kernel_rfl) Ext.refl (fun _ _ _ => Ext.trans) (by kernel_rfl) rfl rfl trivial
  focus
    iterate 1 (apply Mono.step_is; (· refine Mono.obl_mk fun w3 hE3 _ K hK => ?_; (obtain ⟨c0, c1, c2, c3, c4, c5, c6, c7, c8, c9, c10, c11⟩ := (HX.out.ext ((Ext.drew _).trans hE3)).twelve); (obtain ⟨d0, d1, d2, d3, d4, d5, d6, d7, d8, d9, d10, d11⟩ := (HY.out.ext ((Ext.drew _).trans hE3)).twelve); (have k3 : Ext w6 w3 := (Ext.drew _).trans hE3); go_wp2_with fail; simp only [Act.put, List.setIfInBounds_toArray, List.set_cons_succ, List.set_cons_zero] at hK; exact hK _ _ (Ext.refl _) (Mono.is_rfl _ _)); simp only [Act.put, List.setIfInBounds_toArray, List.set_cons_succ, List.set_cons_zero])
    apply Mono.step_is
    · refine Mono.obl_mk fun w3 hE3 _ K hK => ?_
      have k3 : Ext w6 w3 := (Ext.drew _).trans hE3
      go_wp2_with fail
      refine (F1.out _ w3 (HVO.out.ext k3)).mono ?_
      rintro e w4 ⟨rfl, hE4⟩
      go_wp2_with fail
      simp only [Act.put, List.setIfInBounds_toArray, List.set_cons_succ, List.set_cons_zero] at hK
      exact hK _ _ hE4 (Mono.is_rfl _ _)
    simp only [Act.put, List.setIfInBounds_toArray, List.set_cons_succ, List.set_cons_zero]
    iterate 1 (apply Mono.step_is; (· refine Mono.obl_mk fun w3 hE3 _ K hK => ?_; (obtain ⟨c0, c1, c2, c3, c4, c5, c6, c7, c8, c9, c10, c11⟩ := (HX.out.ext ((Ext.drew _).trans hE3)).twelve); (obtain ⟨d0, d1, d2, d3, d4, d5, d6, d7, d8, d9, d10, d11⟩ := (HY.out.ext ((Ext.drew _).trans hE3)).twelve); (have k3 : Ext w6 w3 := (Ext.drew _).trans hE3); go_wp2_with fail; simp only [Act.put, List.setIfInBounds_toArray, List.set_cons_succ, List.set_cons_zero] at hK; exact hK _ _ (Ext.refl _) (Mono.is_rfl _ _)); simp only [Act.put, List.setIfInBounds_toArray, List.set_cons_succ, List.set_cons_zero])
    apply Mono.step_is
    · refine Mono.obl_mk fun w3 hE3 _ K hK => ?_
      have k3 : Ext w6 w3 := (Ext.drew _).trans hE3
      go_wp2_with fail
      refine (F2.out _ w3 (HV.out.ext (HE.out.trans k3))).mono ?_
      rintro e w4 ⟨rfl, hE4⟩
      go_wp2_with fail
      simp only [Act.put, List.setIfInBounds_toArray, List.set_cons_succ, List.set_cons_zero] at hK
      exact hK _ _ hE4 (Mono.is_rfl _ _)
    simp only [Act.put, List.setIfInBounds_toArray, List.set_cons_succ, List.set_cons_zero]
    iterate 16 (apply Mono.step_is; (· refine Mono.obl_mk fun w3 hE3 _ K hK => ?_; (obtain ⟨c0, c1, c2, c3, c4, c5, c6, c7, c8, c9, c10, c11⟩ := (HX.out.ext ((Ext.drew _).trans hE3)).twelve); (obtain ⟨d0, d1, d2, d3, d4, d5, d6, d7, d8, d9, d10, d11⟩ := (HY.out.ext ((Ext.drew _).trans hE3)).twelve); (have k3 : Ext w6 w3 := (Ext.drew _).trans hE3); (have cv1 := (HA.out.ext k3).convert Try.underlying22 Try.underlying5 Try.underlying9); (have cv2 := (HB.out.ext k3).convert Try.underlying22 Try.underlying5 Try.underlying9); go_wp2_with fail; simp only [Act.put, List.setIfInBounds_toArray, List.set_cons_succ, List.set_cons_zero] at hK; exact hK _ _ (Ext.refl _) (Mono.is_rfl _ _)); simp only [Act.put, List.setIfInBounds_toArray, List.set_cons_succ, List.set_cons_zero])
    apply Mono.step_is
    · refine Mono.obl_mk fun w3 hE3 _ K hK => ?_
      have k3 : Ext w6 w3 := (Ext.drew _).trans hE3
      go_wp2_with fail
      refine (S1.out _ _ w3 (HVO.out.ext k3) (HV.out.ext (HE.out.trans k3))).mono ?_
      rintro e w4 ⟨rfl, hE4⟩
      go_wp2_with fail
      simp only [Act.put, List.setIfInBounds_toArray, List.set_cons_succ, List.set_cons_zero] at hK
      exact hK _ _ hE4 (Mono.is_rfl _ _)
    simp only [Act.put, List.setIfInBounds_toArray, List.set_cons_succ, List.set_cons_zero]
    iterate 2 (apply Mono.step_is; (· refine Mono.obl_mk fun w3 hE3 _ K hK => ?_; (obtain ⟨c0, c1, c2, c3, c4, c5, c6, c7, c8, c9, c10, c11⟩ := (HX.out.ext ((Ext.drew _).trans hE3)).twelve); (obtain ⟨d0, d1, d2, d3, d4, d5, d6, d7, d8, d9, d10, d11⟩ := (HY.out.ext ((Ext.drew _).trans hE3)).twelve); (have k3 : Ext w6 w3 := (Ext.drew _).trans hE3); go_wp2_with fail; simp only [Act.put, List.setIfInBounds_toArray, List.set_cons_succ, List.set_cons_zero] at hK; exact hK _ _ (Ext.refl _) (Mono.is_rfl _ _)); simp only [Act.put, List.setIfInBounds_toArray, List.set_cons_succ, List.set_cons_zero])
    refine Mono.step_end fun w9 hE9 _ => ?_
    simp only [List.drop_succ_cons, List.drop_zero]
    go_wp2_with fail
    go_ret
    exact ⟨rfl, HE.out.trans ((Ext.drew _).trans hE9)⟩
end Go.Proofs.Ytnhfjoelfnmgaaa
