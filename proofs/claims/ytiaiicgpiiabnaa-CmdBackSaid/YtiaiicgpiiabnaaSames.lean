/- The law CmdSames: its walk. -/
import Derived.Test.YtiaiicgpiiabnaaLays
import Derived.Test.YtiaiicgpiiabnaaCmdL
namespace Go.Proofs.Ytiaiicgpiiabnaa
open Go Go.RowKit

theorem EntOk.fit {x : Ent} (h : EntOk x) : EntFit x := by
  obtain ⟨_, _, ⟨c0, c1⟩, ⟨s0, s1⟩, _, _⟩ := h
  exact ⟨⟨c0, by omega⟩, s0, by omega⟩
theorem B8.append {a b : List Int} (h : B8 a) (k : B8 b) : B8 (a ++ b) := fun x hx => by rcases List.mem_append.1 hx with hx | hx; exact h x hx; exact k x hx
theorem putB_B8 (x : Ent) (h : EntOk x) : B8 (putB x) := by
  unfold putB
  refine B8.append (B8.append (numB_bound _) (by intro y hy; simp at hy; omega)) ?_
  split
  · exact B8.append (B8.append (numB_bound _) (numB_bound _)) (B8.append (numB_bound _) h.data)
  · split
    · refine B8.append (numB_bound _) fun y hy => ?_
      obtain ⟨m, _, hm⟩ := List.mem_flatMap.1 hy
      exact numB_bound _ y hm
    · intro y hy; simp at hy
theorem bytesB_B8 (x : Ent) (h : EntOk x) : B8 (bytesB x) := by
  unfold bytesB
  split
  · exact putB_B8 x h
  · intro y hy; simp at hy
theorem sameB_comm (x y : Ent) : sameB y x = sameB x y := by
  rw [Bool.eq_iff_iff, sameB_iff, sameB_iff]; exact eq_comm
theorem sameB_self (x : Ent) : sameB x x = true := (sameB_iff x x).2 rfl

set_option maxHeartbeats 2000000 in
theorem sames_law (v1 v2 : Value) (x y : Ent) (w : World) (h1 : EntV w v1 x) (h2 : EntV w v2 y) (ox : EntOk x) (oy : EntOk y) (hd : x.data.length ≤ 140737488355328) (hm : x.members.length ≤ 17592186044416) :
    Calls Try.prog 4 #[v1, v2] w (RetIs (.bool true) w) := by
  have HV1 := Lib.hid h1
  have HV2 := Lib.hid h2
  obtain ⟨dv1, mv1, rfl, _, _⟩ := h1
  obtain ⟨dv2, mv2, rfl, _, _⟩ := h2
  obtain ⟨sv, hsv⟩ : ∃ sv, sv = sameB x y := ⟨_, rfl⟩
  have HS := Lib.hid hsv
  have same1 : ∀ u1 u2 W, EntV W u1 x → EntV W u2 y → Calls Try.prog 17 #[u1, u2] W (RetIs (.bool sv) W) := fun u1 u2 W a b => by rw [hsv]; exact same_ret u1 u2 x y W a b ox oy
  have same2 : ∀ u1 u2 W, EntV W u1 y → EntV W u2 x → Calls Try.prog 17 #[u1, u2] W (RetIs (.bool sv) W) := fun u1 u2 W a b => by rw [hsv, ← sameB_comm]; exact same_ret u1 u2 y x W a b oy ox
  have same3 : ∀ u1 u2 W, EntV W u1 x → EntV W u2 x → Calls Try.prog 17 #[u1, u2] W (RetIs (.bool true) W) := fun u1 u2 W a b => by rw [← sameB_self x]; exact same_ret u1 u2 x x W a b ox ox
  have rsame1 : ∀ u1 u2 W, EntV W u1 x → EntV W u2 y → Calls Try.prog 16 #[u1, u2] W (RetIs (.bool sv) W) := fun u1 u2 W a b => by rw [hsv]; exact rsame_ret u1 u2 x y W a b ox oy
  have S1 := Lib.hid same1; have S2 := Lib.hid same2; have S3 := Lib.hid same3; have R1 := Lib.hid rsame1
  clear same1 same2 same3 rsame1 hsv
  go_enter Try.func4, Try.ntmps4
  go_wp2_with fail
  refine (awake12 _).mono ?_
  rintro e w1 ⟨rfl, hE1⟩
  have hEw1 : Ext w w1 := ((Ext.alloc _ _).trans (Ext.alloc _ _)).trans hE1
  have HB1 : Hid (Blk w1 w.heap.size #[Value.int .u64 x.term, .int .i64 x.kind, .int .u64 x.client, .int .u64 x.seq, dv1, mv1] 26) := ((Blk.new w _ _).alloc _).ext hE1
  have HB2 : Hid (Blk w1 (w.heap.size + 1) #[Value.int .u64 y.term, .int .i64 y.kind, .int .u64 y.client, .int .u64 y.seq, dv2, mv2] 26) := by
    have := Blk.new (w.alloc (.cells #[Value.int .u64 x.term, .int .i64 x.kind, .int .u64 x.client, .int .u64 x.seq, dv1, mv1] 26)) #[Value.int .u64 y.term, .int .i64 y.kind, .int .u64 y.client, .int .u64 y.seq, dv2, mv2] 26
    have h2 := this.ext hE1
    exact Lib.hid (by simpa using h2)
  obtain ⟨c0, c1, c2, c3, c4, c5⟩ := HB1.out.six
  obtain ⟨d0, d1, d2, d3, d4, d5⟩ := HB2.out.six
  go_wp2_with fail
  refine (S1.out _ _ w1 (HV1.out.ext hEw1) (HV2.out.ext hEw1)).mono ?_
  rintro e w2 ⟨rfl, hE2⟩
  clear c0 c1 c2 c3 c4 c5 d0 d1 d2 d3 d4 d5
  have hEw2 : Ext w w2 := hEw1.trans hE2
  have FF : ∀ w3, Ext w2 w3 → (w3.cell? ⟨w.heap.size, 0, none⟩ = some (.int .u64 x.term) ∧ w3.cell? ⟨w.heap.size, 1, none⟩ = some (.int .i64 x.kind) ∧ w3.cell? ⟨w.heap.size, 2, none⟩ = some (.int .u64 x.client) ∧ w3.cell? ⟨w.heap.size, 3, none⟩ = some (.int .u64 x.seq) ∧ w3.cell? ⟨w.heap.size, 4, none⟩ = some dv1 ∧ w3.cell? ⟨w.heap.size, 5, none⟩ = some mv1) ∧
      (w3.cell? ⟨w.heap.size + 1, 0, none⟩ = some (.int .u64 y.term) ∧ w3.cell? ⟨w.heap.size + 1, 1, none⟩ = some (.int .i64 y.kind) ∧ w3.cell? ⟨w.heap.size + 1, 2, none⟩ = some (.int .u64 y.client) ∧ w3.cell? ⟨w.heap.size + 1, 3, none⟩ = some (.int .u64 y.seq) ∧ w3.cell? ⟨w.heap.size + 1, 4, none⟩ = some dv2 ∧ w3.cell? ⟨w.heap.size + 1, 5, none⟩ = some mv2) := fun w3 h3 => ⟨(HB1.out.ext (hE2.trans h3)).six, (HB2.out.ext (hE2.trans h3)).six⟩
  have F : Hid (∀ w3, Ext w2.drew w3 → _) := Lib.hid fun w3 (h3 : Ext w2.drew w3) => FF w3 ((Ext.drew _).trans h3)
  have FH := Lib.hid FF; clear FF
  go_wp2_with fail
  apply Mono.region1 19 Ext [.is _, .is _, .is _, .is _, .is _, .is _, .is _, .is _, .is _, .is _, .is _, .is _, .is _, .is _, .is _, .rel (fun v w' => EntV w' v x), .is _, .is _, .is _]
    (by kernel_rfl) Ext.refl (fun _ _ _ => Ext.trans) (by kernel_rfl) rfl rfl ⟨fun _ _ _ => EntV.ext, trivial⟩
  focus
    iterate 3 (apply Mono.step_is; (· refine Mono.obl_mk fun w3 hE3 _ K hK => ?_; obtain ⟨⟨c0, c1, c2, c3, c4, c5⟩, ⟨d0, d1, d2, d3, d4, d5⟩⟩ := F.out w3 hE3; have k3 : Ext w2 w3 := (Ext.drew _).trans hE3; go_wp2_with fail; simp only [Act.put, List.setIfInBounds_toArray, List.set_cons_succ, List.set_cons_zero] at hK; exact hK _ _ (Ext.refl _) (Mono.is_rfl _ _)); simp only [Act.put, List.setIfInBounds_toArray, List.set_cons_succ, List.set_cons_zero])
    apply Mono.step_is
    · refine Mono.obl_mk fun w3 hE3 _ K hK => ?_
      obtain ⟨⟨c0, c1, c2, c3, c4, c5⟩, ⟨d0, d1, d2, d3, d4, d5⟩⟩ := F.out w3 hE3; have k3 : Ext w2 w3 := (Ext.drew _).trans hE3
      go_wp2_with fail
      refine (R1.out _ _ w3 (HV1.out.ext (hEw2.trans k3)) (HV2.out.ext (hEw2.trans k3))).mono ?_
      rintro e w4 ⟨rfl, hE4⟩
      go_wp2_with fail
      simp only [Act.put, List.setIfInBounds_toArray, List.set_cons_succ, List.set_cons_zero] at hK
      exact hK _ _ hE4 (Mono.is_rfl _ _)
    simp only [Act.put, List.setIfInBounds_toArray, List.set_cons_succ, List.set_cons_zero]
    iterate 5 (apply Mono.step_is; (· refine Mono.obl_mk fun w3 hE3 _ K hK => ?_; obtain ⟨⟨c0, c1, c2, c3, c4, c5⟩, ⟨d0, d1, d2, d3, d4, d5⟩⟩ := F.out w3 hE3; have k3 : Ext w2 w3 := (Ext.drew _).trans hE3; go_wp2_with fail; simp only [Act.put, List.setIfInBounds_toArray, List.set_cons_succ, List.set_cons_zero] at hK; exact hK _ _ (Ext.refl _) (Mono.is_rfl _ _)); simp only [Act.put, List.setIfInBounds_toArray, List.set_cons_succ, List.set_cons_zero])
    apply Mono.step_is
    · refine Mono.obl_mk fun w3 hE3 _ K hK => ?_
      obtain ⟨⟨c0, c1, c2, c3, c4, c5⟩, ⟨d0, d1, d2, d3, d4, d5⟩⟩ := F.out w3 hE3; have k3 : Ext w2 w3 := (Ext.drew _).trans hE3
      go_wp2_with fail
      refine (S2.out _ _ w3 (HV2.out.ext (hEw2.trans k3)) (HV1.out.ext (hEw2.trans k3))).mono ?_
      rintro e w4 ⟨rfl, hE4⟩
      go_wp2_with fail
      simp only [Act.put, List.setIfInBounds_toArray, List.set_cons_succ, List.set_cons_zero] at hK
      exact hK _ _ hE4 (Mono.is_rfl _ _)
    simp only [Act.put, List.setIfInBounds_toArray, List.set_cons_succ, List.set_cons_zero]
    iterate 5 (apply Mono.step_is; (· refine Mono.obl_mk fun w3 hE3 _ K hK => ?_; obtain ⟨⟨c0, c1, c2, c3, c4, c5⟩, ⟨d0, d1, d2, d3, d4, d5⟩⟩ := F.out w3 hE3; have k3 : Ext w2 w3 := (Ext.drew _).trans hE3; go_wp2_with fail; simp only [Act.put, List.setIfInBounds_toArray, List.set_cons_succ, List.set_cons_zero] at hK; exact hK _ _ (Ext.refl _) (Mono.is_rfl _ _)); simp only [Act.put, List.setIfInBounds_toArray, List.set_cons_succ, List.set_cons_zero])
    refine Mono.step_rel (Mono.obl_mk fun w3 hE3 _ K hK => ?_) fun v30 => ?_
    · obtain ⟨⟨c0, c1, c2, c3, c4, c5⟩, ⟨d0, d1, d2, d3, d4, d5⟩⟩ := F.out w3 hE3; have k3 : Ext w2 w3 := (Ext.drew _).trans hE3
      go_wp2_with fail
      refine (copied12 _ x w3 (HV1.out.ext (hEw2.trans k3)) hd hm).mono ?_
      rintro e w4 ⟨v4, rfl, hv4, hE4⟩
      have HV4 := Lib.hid hv4; clear hv4
      go_wp2_with fail
      simp only [Act.put, List.setIfInBounds_toArray, List.set_cons_succ, List.set_cons_zero] at hK
      exact hK _ _ hE4 (Mono.rel_mk HV4.out)
    simp only [Act.put, List.setIfInBounds_toArray, List.set_cons_succ, List.set_cons_zero]
    apply Mono.step_is
    · refine Mono.obl_mk fun w3 hE3 hk K hK => ?_
      obtain ⟨⟨c0, c1, c2, c3, c4, c5⟩, ⟨d0, d1, d2, d3, d4, d5⟩⟩ := F.out w3 hE3; have k3 : Ext w2 w3 := (Ext.drew _).trans hE3
      obtain ⟨q0, _⟩ := hk
      have Q : Hid (EntV w3 v30 x) := q0 (by kernel_rfl)
      clear q0
      go_wp2_with fail
      refine (S3.out _ _ w3 (HV1.out.ext (hEw2.trans k3)) Q.out).mono ?_
      rintro e w4 ⟨rfl, hE4⟩
      go_wp2_with fail
      simp only [Act.put, List.setIfInBounds_toArray, List.set_cons_succ, List.set_cons_zero] at hK
      exact hK _ _ hE4 (Mono.is_rfl _ _)
    simp only [Act.put, List.setIfInBounds_toArray, List.set_cons_succ, List.set_cons_zero]
    iterate 2 (apply Mono.step_is; (· refine Mono.obl_mk fun w3 hE3 _ K hK => ?_; obtain ⟨⟨c0, c1, c2, c3, c4, c5⟩, ⟨d0, d1, d2, d3, d4, d5⟩⟩ := F.out w3 hE3; have k3 : Ext w2 w3 := (Ext.drew _).trans hE3; go_wp2_with fail; simp only [Act.put, List.setIfInBounds_toArray, List.set_cons_succ, List.set_cons_zero] at hK; exact hK _ _ (Ext.refl _) (Mono.is_rfl _ _)); simp only [Act.put, List.setIfInBounds_toArray, List.set_cons_succ, List.set_cons_zero])
    refine Mono.step_end fun w3 hE3 _ => ?_
    have k3 : Ext w2 w3 := (Ext.drew _).trans hE3
    have hEw3 : Ext w w3 := hEw2.trans k3
    obtain ⟨⟨c0, c1, c2, c3, c4, c5⟩, _⟩ := FH.out w3 k3
    simp only [List.drop_succ_cons, List.drop_zero]
    go_wp2_with fail
    refine (put_any _ x w3 (HV1.out.ext hEw3) ox).mono ?_
    rintro e w4 ⟨a, rfl, ha, hE4⟩
    have HA := Lib.hid ha
    have hEw4 : Ext w w4 := hEw3.trans hE4
    clear ha c0 c1 c2 c3 c4 c5
    obtain ⟨_, ⟨c0, c1, c2, c3, c4, c5⟩⟩ := FH.out w4 (k3.trans hE4)
    go_wp2_with fail
    refine (put_any _ y w4 (HV2.out.ext hEw4) oy).mono ?_
    rintro e w5 ⟨b, rfl, hb, hE5⟩
    have HB := Lib.hid hb
    have hEw5 : Ext w w5 := hEw4.trans hE5
    clear hb c0 c1 c2 c3 c4 c5
    have cv1 := (HA.out.ext hE5).convert Try.underlying23 Try.underlying5 Try.underlying9
    have cv2 := HB.out.convert Try.underlying23 Try.underlying5 Try.underlying9
    cases hfx : formedB x with
    | false =>
      have e1 : errB x = 1 := by simp [errB, hfx]
      rw [e1]
      clear hfx e1
      go_wp2_with fail
      go_ret
      exact ⟨rfl, hEw5⟩
    | true =>
      have e1 : errB x = 0 := by simp [errB, hfx]
      rw [e1]
      cases hfy : formedB y with
      | false =>
        have e2 : errB y = 1 := by simp [errB, hfy]
        rw [e2]
        clear hfx hfy e1 e2
        go_wp2_with fail
        go_ret
        exact ⟨rfl, hEw5⟩
      | true =>
        have e2 : errB y = 0 := by simp [errB, hfy]
        rw [e2]
        have hfin : (((strOfNums (bytesB x)).toList == (strOfNums (bytesB y)).toList) == sv) = true := by
          rw [str_beq _ _ (bytesB_B8 x ox) (bytesB_B8 y oy), HS.out, beq_iff_eq, Bool.eq_iff_iff, decide_eq_true_eq, sameB_iff]
          simp only [bytesB, hfx, hfy, if_true]
          exact ⟨putB_inj x y hfx hfy ox.fit oy.fit, fun h => by rw [h]⟩
        have HF := Lib.hid hfin
        clear hfx hfy e1 e2 hfin
        go_wp2_with fail
        go_ret
        exact ⟨ret_eq (congrArg Value.bool HF.out), hEw5⟩
end Go.Proofs.Ytiaiicgpiiabnaa
