/- The law MsgSames: its walk. PRINTED BY gen/msames.py -/
import Derived.Test.YtnhfjoelfnmgaaaCp2
import Derived.Test.YtnhfjoelfnmgaaaMback
set_option linter.unusedSimpArgs false
set_option linter.unusedVariables false
namespace Go.Proofs.Ytnhfjoelfnmgaaa
open Go Go.RowKit

set_option maxHeartbeats 8000000 in
theorem msames_law (v1 v2 : Value) (x y : Msg) (w : World) (h1 : MsgV w 0 v1 x) (h2 : MsgV w 0 v2 y) (ox : MsgOk x) (oy : MsgOk y) (hbd : MsgBd x) :
    Calls Try.prog 5 #[v1, v2] w (RetIs (.bool true) w) := by
  have HV1 := Lib.hid h1
  have HV2 := Lib.hid h2
  obtain ⟨a9, am9, ac9, a10, am10, ac10, a11, am11, ac11, rfl⟩ := h1.shape
  obtain ⟨b9, bm9, bc9, b10, bm10, bc10, b11, bm11, bc11, rfl⟩ := h2.shape
  clear h1 h2
  obtain ⟨sv, hsv⟩ : ∃ sv, sv = decide (x = y) := ⟨_, rfl⟩
  have HS := Lib.hid hsv
  have same1 : ∀ u1 u2 W, MsgV W 0 u1 x → MsgV W 0 u2 y → Calls Try.prog 13 #[u1, u2] W (RetIs (.bool sv) W) := fun u1 u2 W a b => by rw [hsv]; exact msame_ret u1 u2 x y 0 0 W a b ox oy
  have same2 : ∀ u1 u2 W, MsgV W 0 u1 y → MsgV W 0 u2 x → Calls Try.prog 13 #[u1, u2] W (RetIs (.bool sv) W) := fun u1 u2 W a b => by rw [hsv, show decide (x = y) = decide (y = x) from decide_eq_decide.2 ⟨Eq.symm, Eq.symm⟩]; exact msame_ret u1 u2 y x 0 0 W a b oy ox
  have same3 : ∀ u1 u2 W, MsgV W 0 u1 x → MsgV W 0 u2 x → Calls Try.prog 13 #[u1, u2] W (RetIs (.bool true) W) := fun u1 u2 W a b => by rw [← decide_eq_true (rfl : x = x)]; exact msame_ret u1 u2 x x 0 0 W a b ox ox
  have rsame1 : ∀ u1 u2 W, MsgV W 0 u1 x → MsgV W 0 u2 y → Calls Try.prog 11 #[u1, u2] W (RetIs (.bool sv) W) := fun u1 u2 W a b => by rw [hsv]; exact rmsame_ret u1 u2 x y 0 0 W a b ox oy
  have S1 := Lib.hid same1; have S2 := Lib.hid same2; have S3 := Lib.hid same3; have R1 := Lib.hid rsame1; have OX := Lib.hid ox; have OY := Lib.hid oy; have BD := Lib.hid hbd
  clear same1 same2 same3 rsame1 hsv ox oy hbd
  go_enter Try.func5, Try.ntmps5
  go_wp2_with fail
  refine (awake18 _).mono ?_
  rintro e w1 ⟨rfl, hE1⟩
  have HE1 := Lib.hid (show Ext w w1 from ((Ext.alloc _ _).trans (Ext.alloc _ _)).trans hE1)
  have HB1 := Lib.hid (((Blk.new w #[.int .i64 x.kind, .int .u64 x.src, .int .u64 x.dst, .int .u64 x.term, .int .u64 x.index, .int .u64 x.logTerm, .int .u64 x.commit, .int .u64 x.stamp, .bool x.yes, .slice a9 am9 ac9, .slice a10 am10 ac10, .slice a11 am11 ac11] 28).alloc (.cells #[.int .i64 y.kind, .int .u64 y.src, .int .u64 y.dst, .int .u64 y.term, .int .u64 y.index, .int .u64 y.logTerm, .int .u64 y.commit, .int .u64 y.stamp, .bool y.yes, .slice b9 bm9 bc9, .slice b10 bm10 bc10, .slice b11 bm11 bc11] 28)).ext hE1)
  have HB2 : Hid (Blk w1 (w.heap.size + 1) #[.int .i64 y.kind, .int .u64 y.src, .int .u64 y.dst, .int .u64 y.term, .int .u64 y.index, .int .u64 y.logTerm, .int .u64 y.commit, .int .u64 y.stamp, .bool y.yes, .slice b9 bm9 bc9, .slice b10 bm10 bc10, .slice b11 bm11 bc11] 28) := by
    have := Blk.new (w.alloc (.cells #[.int .i64 x.kind, .int .u64 x.src, .int .u64 x.dst, .int .u64 x.term, .int .u64 x.index, .int .u64 x.logTerm, .int .u64 x.commit, .int .u64 x.stamp, .bool x.yes, .slice a9 am9 ac9, .slice a10 am10 ac10, .slice a11 am11 ac11] 28)) #[.int .i64 y.kind, .int .u64 y.src, .int .u64 y.dst, .int .u64 y.term, .int .u64 y.index, .int .u64 y.logTerm, .int .u64 y.commit, .int .u64 y.stamp, .bool y.yes, .slice b9 bm9 bc9, .slice b10 bm10 bc10, .slice b11 bm11 bc11] 28
    have h2 := this.ext hE1
    exact Lib.hid (by simpa using h2)
  clear hE1
  go_wp2_with (first | (refine wpList_load_row rfl 28 (.tmp 2) rfl w.heap.size rfl 28 _ (0, 0) _ HB1.out Try.underlying28 rfl (by kernel_rfl) ?_) | (refine wpList_load_row rfl 28 (.tmp 3) rfl (w.heap.size + 1) rfl 28 _ (0, 0) _ HB2.out Try.underlying28 rfl (by kernel_rfl) ?_))
  refine (S1.out _ _ w1 (HV1.out.ext HE1.out) (HV2.out.ext HE1.out)).mono ?_
  rintro e w2 ⟨rfl, hE2⟩
  have HE2 := Lib.hid (HE1.out.trans hE2)
  have HX := Lib.hid (HB1.out.ext hE2); have HY := Lib.hid (HB2.out.ext hE2)
  clear hE2 HB1 HB2
  have hsv : (sv != sv) = false := by simp
  go_upto_region 4 with fail
  apply Mono.region1 19 Ext [.is _, .is _, .is _, .is _, .is _, .is _, .is _, .is _, .is _, .is _, .is _, .is _, .is _, .is _, .is _, .rel (fun v w' => MsgV w' 0 v x), .is _, .is _, .is _]
    (by kernel_rfl) Ext.refl (fun _ _ _ => Ext.trans) (by kernel_rfl) rfl rfl ⟨fun _ _ _ h hE => h.ext hE, trivial⟩
  focus
    iterate 3 (apply Mono.step_is; (· refine Mono.obl_mk fun w3 hE3 _ K hK => ?_; (obtain ⟨c0, c1, c2, c3, c4, c5, c6, c7, c8, c9, c10, c11⟩ := (HX.out.ext ((Ext.drew _).trans hE3)).twelve); (obtain ⟨d0, d1, d2, d3, d4, d5, d6, d7, d8, d9, d10, d11⟩ := (HY.out.ext ((Ext.drew _).trans hE3)).twelve); (have k3 : Ext w2 w3 := (Ext.drew _).trans hE3); go_wp2_with fail; simp only [Act.put, List.setIfInBounds_toArray, List.set_cons_succ, List.set_cons_zero] at hK; exact hK _ _ (Ext.refl _) (Mono.is_rfl _ _)); simp only [Act.put, List.setIfInBounds_toArray, List.set_cons_succ, List.set_cons_zero])
    apply Mono.step_is
    · refine Mono.obl_mk fun w3 hE3 _ K hK => ?_
      have k3 : Ext w2 w3 := (Ext.drew _).trans hE3
      go_wp2_with fail
      refine (R1.out _ _ w3 (HV1.out.ext (HE2.out.trans k3)) (HV2.out.ext (HE2.out.trans k3))).mono ?_
      rintro e w4 ⟨rfl, hE4⟩
      go_wp2_with fail
      simp only [Act.put, List.setIfInBounds_toArray, List.set_cons_succ, List.set_cons_zero] at hK
      exact hK _ _ hE4 (Mono.is_rfl _ _)
    simp only [Act.put, List.setIfInBounds_toArray, List.set_cons_succ, List.set_cons_zero]
    iterate 5 (apply Mono.step_is; (· refine Mono.obl_mk fun w3 hE3 _ K hK => ?_; (obtain ⟨c0, c1, c2, c3, c4, c5, c6, c7, c8, c9, c10, c11⟩ := (HX.out.ext ((Ext.drew _).trans hE3)).twelve); (obtain ⟨d0, d1, d2, d3, d4, d5, d6, d7, d8, d9, d10, d11⟩ := (HY.out.ext ((Ext.drew _).trans hE3)).twelve); (have k3 : Ext w2 w3 := (Ext.drew _).trans hE3); go_wp2_with fail; simp only [Act.put, List.setIfInBounds_toArray, List.set_cons_succ, List.set_cons_zero] at hK; exact hK _ _ (Ext.refl _) (Mono.is_rfl _ _)); simp only [Act.put, List.setIfInBounds_toArray, List.set_cons_succ, List.set_cons_zero])
    apply Mono.step_is
    · refine Mono.obl_mk fun w3 hE3 _ K hK => ?_
      have k3 : Ext w2 w3 := (Ext.drew _).trans hE3
      go_wp2_with fail
      refine (S2.out _ _ w3 (HV2.out.ext (HE2.out.trans k3)) (HV1.out.ext (HE2.out.trans k3))).mono ?_
      rintro e w4 ⟨rfl, hE4⟩
      go_wp2_with fail
      simp only [Act.put, List.setIfInBounds_toArray, List.set_cons_succ, List.set_cons_zero] at hK
      exact hK _ _ hE4 (Mono.is_rfl _ _)
    simp only [Act.put, List.setIfInBounds_toArray, List.set_cons_succ, List.set_cons_zero]
    iterate 5 (apply Mono.step_is; (· refine Mono.obl_mk fun w3 hE3 _ K hK => ?_; (obtain ⟨c0, c1, c2, c3, c4, c5, c6, c7, c8, c9, c10, c11⟩ := (HX.out.ext ((Ext.drew _).trans hE3)).twelve); (obtain ⟨d0, d1, d2, d3, d4, d5, d6, d7, d8, d9, d10, d11⟩ := (HY.out.ext ((Ext.drew _).trans hE3)).twelve); (have k3 : Ext w2 w3 := (Ext.drew _).trans hE3); go_wp2_with fail; simp only [Act.put, List.setIfInBounds_toArray, List.set_cons_succ, List.set_cons_zero] at hK; exact hK _ _ (Ext.refl _) (Mono.is_rfl _ _)); simp only [Act.put, List.setIfInBounds_toArray, List.set_cons_succ, List.set_cons_zero])
    refine Mono.step_rel (Mono.obl_mk fun w3 hE3 _ K hK => ?_) fun v30 => ?_
    · have k3 : Ext w2 w3 := (Ext.drew _).trans hE3
      go_wp2_with fail
      refine (copied18 _ x w3 (HV1.out.ext (HE2.out.trans k3)) BD.out).mono ?_
      rintro e w4 ⟨v4, rfl, hv4, hE4⟩
      have HV4 := Lib.hid hv4; clear hv4
      go_wp2_with fail
      simp only [Act.put, List.setIfInBounds_toArray, List.set_cons_succ, List.set_cons_zero] at hK
      exact hK _ _ hE4 (Mono.rel_mk HV4.out)
    simp only [Act.put, List.setIfInBounds_toArray, List.set_cons_succ, List.set_cons_zero]
    apply Mono.step_is
    · refine Mono.obl_mk fun w3 hE3 hk K hK => ?_
      have k3 : Ext w2 w3 := (Ext.drew _).trans hE3
      obtain ⟨q0, _⟩ := hk
      have Q : Hid (MsgV w3 0 v30 x) := q0 (by kernel_rfl)
      clear q0
      go_wp2_with fail
      refine (S3.out _ _ w3 (HV1.out.ext (HE2.out.trans k3)) Q.out).mono ?_
      rintro e w4 ⟨rfl, hE4⟩
      go_wp2_with fail
      simp only [Act.put, List.setIfInBounds_toArray, List.set_cons_succ, List.set_cons_zero] at hK
      exact hK _ _ hE4 (Mono.is_rfl _ _)
    simp only [Act.put, List.setIfInBounds_toArray, List.set_cons_succ, List.set_cons_zero]
    iterate 2 (apply Mono.step_is; (· refine Mono.obl_mk fun w3 hE3 _ K hK => ?_; (obtain ⟨c0, c1, c2, c3, c4, c5, c6, c7, c8, c9, c10, c11⟩ := (HX.out.ext ((Ext.drew _).trans hE3)).twelve); (obtain ⟨d0, d1, d2, d3, d4, d5, d6, d7, d8, d9, d10, d11⟩ := (HY.out.ext ((Ext.drew _).trans hE3)).twelve); (have k3 : Ext w2 w3 := (Ext.drew _).trans hE3); go_wp2_with fail; simp only [Act.put, List.setIfInBounds_toArray, List.set_cons_succ, List.set_cons_zero] at hK; exact hK _ _ (Ext.refl _) (Mono.is_rfl _ _)); simp only [Act.put, List.setIfInBounds_toArray, List.set_cons_succ, List.set_cons_zero])
    refine Mono.step_end fun w3 hE3 _ => ?_
    have k3 : Ext w2 w3 := (Ext.drew _).trans hE3
    have HE3 := Lib.hid (HE2.out.trans k3)
    have HX3 := Lib.hid (HX.out.ext k3); have HY3 := Lib.hid (HY.out.ext k3)
    clear hE3 k3
    simp only [List.drop_succ_cons, List.drop_zero]
    go_wp2_with (refine wpList_load_row rfl 28 (.tmp 2) rfl w.heap.size rfl 28 _ (0, 0) _ HX3.out Try.underlying28 rfl (by kernel_rfl) ?_)
    refine (mput_c _ x 0 w3 (HV1.out.ext HE3.out) OX.out).mono ?_
    rintro e w4 ⟨hE4, a, ea, rfl, ha⟩
    have HE4 := Lib.hid (HE3.out.trans hE4)
    have HY4 := Lib.hid (HY3.out.ext hE4)
    have HA := Lib.hid ha
    clear hE4 ha
    go_wp2_with (refine wpList_load_row rfl 28 (.tmp 3) rfl (w.heap.size + 1) rfl 28 _ (0, 0) _ HY4.out Try.underlying28 rfl (by kernel_rfl) ?_)
    refine (mput_c _ y 0 w4 (HV2.out.ext HE4.out) OY.out).mono ?_
    rintro e w5 ⟨hE5, b, eb, rfl, hb⟩
    have HE5 := Lib.hid (HE4.out.trans hE5)
    have HB := Lib.hid hb
    have HE45 := Lib.hid hE5
    clear hb hE5
    obtain ⟨X1, hX1⟩ : ∃ X1, X1 = wrM x := ⟨_, rfl⟩
    obtain ⟨X2, hX2⟩ : ∃ X2, X2 = wrM y := ⟨_, rfl⟩
    have ha := HA.out; have hb := HB.out
    rw [← hX1] at ha
    rw [← hX2] at hb
    have HX1 := Lib.hid hX1; have HX2 := Lib.hid hX2
    clear HA HB hX1 hX2
    cases X1 with
    | none =>
      obtain ⟨rfl, _⟩ := ha
      clear hb
      go_wp2_with fail
      go_ret
      exact ⟨rfl, HE5.out⟩
    | some xa =>
      obtain ⟨rfl, ra, _⟩ := ha
      cases X2 with
      | none =>
        obtain ⟨rfl, _⟩ := hb
        clear ra
        go_wp2_with fail
        go_ret
        exact ⟨rfl, HE5.out⟩
      | some xb =>
        obtain ⟨rfl, rb, _⟩ := hb
        obtain ⟨g1, b81, _⟩ := wrM_some OX.out HX1.out.symm
        obtain ⟨g2, b82, _⟩ := wrM_some OY.out HX2.out.symm
        have cv1 := (ra.ext HE45.out).convert Try.underlying22 Try.underlying5 Try.underlying9
        have cv2 := rb.convert Try.underlying22 Try.underlying5 Try.underlying9
        have hfin : (((strOfNums xa).toList == (strOfNums xb).toList) == sv) = true := by
          rw [str_beq _ _ b81 b82, HS.out, beq_iff_eq, Bool.eq_iff_iff, decide_eq_true_eq, decide_eq_true_eq]
          refine ⟨fun h => ?_, fun h => ?_⟩
          · rw [h, g2] at g1; cases g1; rfl
          · have h1 := HX1.out; have h2 := HX2.out
            rw [h, ← h2] at h1; cases h1; rfl
        have HF := Lib.hid hfin
        clear ra rb g1 g2 b81 b82 hfin
        go_wp2_with fail
        go_ret
        exact ⟨ret_eq (congrArg Value.bool HF.out), HE5.out⟩
end Go.Proofs.Ytnhfjoelfnmgaaa
