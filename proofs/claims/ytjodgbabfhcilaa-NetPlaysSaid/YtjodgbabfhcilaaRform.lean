/- tabellionref18.Formed. PRINTED BY gen/rform.py -/
import Derived.Test.YtjodgbabfhcilaaRbare
set_option linter.unusedSimpArgs false
set_option linter.unusedVariables false
namespace Go.Proofs.Ytjodgbabfhcilaa
open Go Go.RowKit

/-- Which messages the document calls formed. -/
def rformM (M : Msg) : Bool :=
  decide (1 ≤ M.kind ∧ M.kind ≤ 5 ∧ 1 ≤ M.src ∧ M.src ≤ 7 ∧ 1 ≤ M.dst ∧ M.dst ≤ 7 ∧ 1 ≤ M.term ∧ M.term ≤ 4611686018427387904) && decide (M = bareM M) && decide (M.index ≤ 4611686018427387904 ∧ M.logTerm ≤ 4611686018427387904 ∧ M.commit ≤ 4611686018427387904 ∧ M.entries.length ≤ 4 ∧ M.image.length ≤ 16384) && M.entries.all formedB && (decide (M.kind ≠ 5) || membersB M.members)
theorem bareM_ok (M : Msg) (h : MsgOk M) : MsgOk (bareM M) := by
  obtain ⟨h0, h1, h2, h3, h4, h5, h6, h7, h8, h9, h10⟩ := h
  have z64 : U64 0 := by unfold U64; omega
  have n64 : B64 [] := fun y hy => by cases hy
  have n8 : B8 [] := fun y hy => by cases hy
  have nE : ∀ x ∈ ([] : List Ent), EntOk x := fun y hy => by cases hy
  unfold bareM
  repeat' split
  all_goals constructor
  all_goals first | assumption

set_option maxRecDepth 100000 in
set_option maxHeartbeats 16000000 in
theorem rform_c (v : Value) (M : Msg) (w : World) (hv : MsgV w 0 v M) (hok : MsgOk M) : Calls Try.prog 31 #[v] w (RetIs (.bool (rformM M)) w) := by
  have HV0 := Lib.hid hv
  obtain ⟨ev, mv, iv, rfl, he, ⟨hms, _⟩, hi, _⟩ := hv
  obtain ⟨a9, c9, rfl, hlc, hcm, hat⟩ := he.open
  obtain ⟨a10, n10, c10, rfl⟩ := Rd.shape hms
  obtain ⟨a11, n11, c11, rfl⟩ := Rd.shape hi
  have hn11 : n11 = M.image.length := by obtain ⟨_, _, h, _⟩ := hi; cases h; exact u8s_len _
  subst hn11
  have HAT := Lib.hid hat; have HMS := Lib.hid hms; have HOK := Lib.hid hok
  have SM : Hid (∀ u1 u2 W, MsgV W 0 u1 M → MsgV W 0 u2 (bareM M) → Calls Try.prog 11 #[u1, u2] W (RetIs (.bool (decide (M = bareM M))) W)) := Lib.hid fun u1 u2 W a b => rmsame_ret u1 u2 M (bareM M) 0 0 W a b hok (bareM_ok M hok)
  have hel : M.entries.length ≤ 9223372036854775807 := by unfold maxLen at hcm; omega
  have hE0 := Ext.alloc w (.cells #[.int .i64 M.kind, .int .u64 M.src, .int .u64 M.dst, .int .u64 M.term, .int .u64 M.index, .int .u64 M.logTerm, .int .u64 M.commit, .int .u64 M.stamp, .bool M.yes, .slice a9 M.entries.length c9, .slice a10 n10 c10, .slice a11 M.image.length c11] 34)
  have HX0 := Lib.hid (Blk.new w #[.int .i64 M.kind, .int .u64 M.src, .int .u64 M.dst, .int .u64 M.term, .int .u64 M.index, .int .u64 M.logTerm, .int .u64 M.commit, .int .u64 M.stamp, .bool M.yes, .slice a9 M.entries.length c9, .slice a10 n10 c10, .slice a11 M.image.length c11] 34)
  have HV1 := Lib.hid (HV0.out.ext hE0)
  have HE0 := Lib.hid hE0
  clear hat he hms hi hok hlc hcm hE0 HV0
  obtain ⟨X, hX⟩ : ∃ X, X = rformM M := ⟨_, rfl⟩
  have HR := Lib.hid hX
  rw [← hX]
  clear hX
  simp only [mCells] at HV1 ⊢
  by_cases h0 : M.kind < 1
  case pos =>
    have HF : Hid (X = false) := Lib.hid (by rw [HR.out]; simp only [rformM]; rw [decide_eq_false (by omega)]; rfl)
    go_enter Try.func31, Try.ntmps31
    go_wp2_with fail
    go_ret
    exact ⟨by rw [HF.out]; rfl, HE0.out⟩
  by_cases h1 : 5 < M.kind
  case pos =>
    have HF : Hid (X = false) := Lib.hid (by rw [HR.out]; simp only [rformM]; rw [decide_eq_false (by omega)]; rfl)
    go_enter Try.func31, Try.ntmps31
    go_wp2_with fail
    go_ret
    exact ⟨by rw [HF.out]; rfl, HE0.out⟩
  by_cases h2 : M.src < 1
  case pos =>
    have HF : Hid (X = false) := Lib.hid (by rw [HR.out]; simp only [rformM]; rw [decide_eq_false (by omega)]; rfl)
    go_enter Try.func31, Try.ntmps31
    go_wp2_with fail
    go_ret
    exact ⟨by rw [HF.out]; rfl, HE0.out⟩
  by_cases h3 : 7 < M.src
  case pos =>
    have HF : Hid (X = false) := Lib.hid (by rw [HR.out]; simp only [rformM]; rw [decide_eq_false (by omega)]; rfl)
    go_enter Try.func31, Try.ntmps31
    go_wp2_with fail
    go_ret
    exact ⟨by rw [HF.out]; rfl, HE0.out⟩
  by_cases h4 : M.dst < 1
  case pos =>
    have HF : Hid (X = false) := Lib.hid (by rw [HR.out]; simp only [rformM]; rw [decide_eq_false (by omega)]; rfl)
    go_enter Try.func31, Try.ntmps31
    go_wp2_with fail
    go_ret
    exact ⟨by rw [HF.out]; rfl, HE0.out⟩
  by_cases h5 : 7 < M.dst
  case pos =>
    have HF : Hid (X = false) := Lib.hid (by rw [HR.out]; simp only [rformM]; rw [decide_eq_false (by omega)]; rfl)
    go_enter Try.func31, Try.ntmps31
    go_wp2_with fail
    go_ret
    exact ⟨by rw [HF.out]; rfl, HE0.out⟩
  by_cases h6 : M.term < 1
  case pos =>
    have HF : Hid (X = false) := Lib.hid (by rw [HR.out]; simp only [rformM]; rw [decide_eq_false (by omega)]; rfl)
    go_enter Try.func31, Try.ntmps31
    go_wp2_with fail
    go_ret
    exact ⟨by rw [HF.out]; rfl, HE0.out⟩
  by_cases h7 : 4611686018427387904 < M.term
  case pos =>
    have HF : Hid (X = false) := Lib.hid (by rw [HR.out]; simp only [rformM]; rw [decide_eq_false (by omega)]; rfl)
    go_enter Try.func31, Try.ntmps31
    go_wp2_with fail
    go_ret
    exact ⟨by rw [HF.out]; rfl, HE0.out⟩
  have HR1 : Hid (X = (decide (M = bareM M) && decide (M.index ≤ 4611686018427387904 ∧ M.logTerm ≤ 4611686018427387904 ∧ M.commit ≤ 4611686018427387904 ∧ M.entries.length ≤ 4 ∧ M.image.length ≤ 16384) && M.entries.all formedB && (decide (M.kind ≠ 5) || membersB M.members))) := Lib.hid (by rw [HR.out]; simp only [rformM]; rw [decide_eq_true (by omega)]; simp)
  go_enter Try.func31, Try.ntmps31
  go_upto_region 3 with fail
  clear h0 h1 h2 h3 h4 h5 h6 h7
  generalize w.alloc (.cells #[.int .i64 M.kind, .int .u64 M.src, .int .u64 M.dst, .int .u64 M.term, .int .u64 M.index, .int .u64 M.logTerm, .int .u64 M.commit, .int .u64 M.stamp, .bool M.yes, .slice a9 M.entries.length c9, .slice a10 n10 c10, .slice a11 M.image.length c11] 34) = w0 at *
  have HX := HX0; have HV := HV1
  clear HX0 HV1
  obtain ⟨S, hS⟩ : ∃ S, S = decide (M = bareM M) := ⟨_, rfl⟩
  rw [← hS] at SM HR1
  cases S with
  | false =>
    have HF : Hid (X = false) := Lib.hid (by rw [HR1.out]; rfl)
    clear hS
    skip
    apply Mono.region1 32 Ext [.is _, .is _, .rel (fun v w' => MsgV w' 0 v (bareM M)), .is _, .is _, .is _, .is _, .is _, .is _, .is _, .is _, .is _, .is _, .is _, .is _, .is _, .is _, .is _, .is _, .is _, .is _, .is _, .is _, .is _, .is _, .is _, .is _, .is _, .is _, .is _, .is _, .is _] (by kernel_rfl) Ext.refl (fun _ _ _ => Ext.trans) (by kernel_rfl) rfl rfl ⟨fun _ _ _ h hE => h.ext hE, trivial⟩
    focus
      iterate 2 (apply Mono.step_is; (· refine Mono.obl_mk fun w3 hE3 _ K hK => ?_; (obtain ⟨c0, c1, c2, c3, c4, c5, c6, c7, c8, c9, c10, c11⟩ := (HX.out.ext ((Ext.drew _).trans hE3)).twelve); go_wp2_with fail; simp only [Act.put, List.setIfInBounds_toArray, List.set_cons_succ, List.set_cons_zero] at hK; exact hK _ _ (Ext.refl _) (Mono.is_rfl _ _)); simp only [Act.put, List.setIfInBounds_toArray, List.set_cons_succ, List.set_cons_zero])
      refine Mono.step_rel (Mono.obl_mk fun w3 hE3 _ K hK => ?_) fun v44 => ?_
      · have k3 : Ext w0 w3 := (Ext.drew _).trans hE3
        go_wp2_with fail
        refine (rbare_c _ M w3 (HV.out.ext k3)).mono ?_
        rintro e w4 ⟨v4, rfl, hv4, hE4⟩
        have HV4 := Lib.hid hv4; clear hv4
        go_wp2_with fail
        simp only [Act.put, List.setIfInBounds_toArray, List.set_cons_succ, List.set_cons_zero] at hK
        exact hK _ _ hE4 (Mono.rel_mk HV4.out)
      simp only [Act.put, List.setIfInBounds_toArray, List.set_cons_succ, List.set_cons_zero]
      apply Mono.step_is
      · refine Mono.obl_mk fun w3 hE3 hk K hK => ?_
        have k3 : Ext w0 w3 := (Ext.drew _).trans hE3
        obtain ⟨q0, _⟩ := hk
        have Q : Hid (MsgV w3 0 v44 (bareM M)) := q0 (by kernel_rfl)
        clear q0
        go_wp2_with fail
        refine (SM.out _ _ w3 (HV.out.ext k3) Q.out).mono ?_
        rintro e w4 ⟨rfl, hE4⟩
        go_wp2_with fail
        simp only [Act.put, List.setIfInBounds_toArray, List.set_cons_succ, List.set_cons_zero] at hK
        exact hK _ _ hE4 (Mono.is_rfl _ _)
      simp only [Act.put, List.setIfInBounds_toArray, List.set_cons_succ, List.set_cons_zero]
      iterate 28 (apply Mono.step_is; (· refine Mono.obl_mk fun w3 hE3 _ K hK => ?_; (obtain ⟨c0, c1, c2, c3, c4, c5, c6, c7, c8, c9, c10, c11⟩ := (HX.out.ext ((Ext.drew _).trans hE3)).twelve); go_wp2_with fail; simp only [Act.put, List.setIfInBounds_toArray, List.set_cons_succ, List.set_cons_zero] at hK; exact hK _ _ (Ext.refl _) (Mono.is_rfl _ _)); simp only [Act.put, List.setIfInBounds_toArray, List.set_cons_succ, List.set_cons_zero])
      refine Mono.step_end fun w3 hE3 _ => ?_
      have HE3 := Lib.hid ((Ext.drew w0).trans hE3)
      clear hE3
      simp only [List.drop_succ_cons, List.drop_zero]
      go_wp2_with fail
      go_ret
      exact ⟨by rw [HF.out]; rfl, HE0.out.trans HE3.out⟩
  | true =>
    clear hS
    by_cases g0 : 4611686018427387904 < M.index
    case pos =>
      have HF : Hid (X = false) := Lib.hid (by have hh : decide (M.index ≤ 4611686018427387904 ∧ M.logTerm ≤ 4611686018427387904 ∧ M.commit ≤ 4611686018427387904 ∧ M.entries.length ≤ 4 ∧ M.image.length ≤ 16384) = false := decide_eq_false (by omega); rw [HR1.out, hh, Bool.and_false, Bool.false_and, Bool.false_and])
      have b0 : decide (4611686018427387904 < M.index) = true := decide_eq_true g0
      clear g0
      skip
      apply Mono.region1 32 Ext [.is _, .is _, .rel (fun v w' => MsgV w' 0 v (bareM M)), .is _, .is _, .is _, .is _, .is _, .is _, .is _, .is _, .is _, .is _, .is _, .is _, .is _, .is _, .is _, .is _, .is _, .is _, .is _, .is _, .is _, .is _, .is _, .is _, .is _, .is _, .is _, .is _, .is _] (by kernel_rfl) Ext.refl (fun _ _ _ => Ext.trans) (by kernel_rfl) rfl rfl ⟨fun _ _ _ h hE => h.ext hE, trivial⟩
      focus
        iterate 2 (apply Mono.step_is; (· refine Mono.obl_mk fun w3 hE3 _ K hK => ?_; (obtain ⟨c0, c1, c2, c3, c4, c5, c6, c7, c8, c9, c10, c11⟩ := (HX.out.ext ((Ext.drew _).trans hE3)).twelve); go_wp2_with fail; simp only [Act.put, List.setIfInBounds_toArray, List.set_cons_succ, List.set_cons_zero] at hK; exact hK _ _ (Ext.refl _) (Mono.is_rfl _ _)); simp only [Act.put, List.setIfInBounds_toArray, List.set_cons_succ, List.set_cons_zero])
        refine Mono.step_rel (Mono.obl_mk fun w3 hE3 _ K hK => ?_) fun v44 => ?_
        · have k3 : Ext w0 w3 := (Ext.drew _).trans hE3
          go_wp2_with fail
          refine (rbare_c _ M w3 (HV.out.ext k3)).mono ?_
          rintro e w4 ⟨v4, rfl, hv4, hE4⟩
          have HV4 := Lib.hid hv4; clear hv4
          go_wp2_with fail
          simp only [Act.put, List.setIfInBounds_toArray, List.set_cons_succ, List.set_cons_zero] at hK
          exact hK _ _ hE4 (Mono.rel_mk HV4.out)
        simp only [Act.put, List.setIfInBounds_toArray, List.set_cons_succ, List.set_cons_zero]
        apply Mono.step_is
        · refine Mono.obl_mk fun w3 hE3 hk K hK => ?_
          have k3 : Ext w0 w3 := (Ext.drew _).trans hE3
          obtain ⟨q0, _⟩ := hk
          have Q : Hid (MsgV w3 0 v44 (bareM M)) := q0 (by kernel_rfl)
          clear q0
          go_wp2_with fail
          refine (SM.out _ _ w3 (HV.out.ext k3) Q.out).mono ?_
          rintro e w4 ⟨rfl, hE4⟩
          go_wp2_with fail
          simp only [Act.put, List.setIfInBounds_toArray, List.set_cons_succ, List.set_cons_zero] at hK
          exact hK _ _ hE4 (Mono.is_rfl _ _)
        simp only [Act.put, List.setIfInBounds_toArray, List.set_cons_succ, List.set_cons_zero]
        iterate 28 (apply Mono.step_is; (· refine Mono.obl_mk fun w3 hE3 _ K hK => ?_; (obtain ⟨c0, c1, c2, c3, c4, c5, c6, c7, c8, c9, c10, c11⟩ := (HX.out.ext ((Ext.drew _).trans hE3)).twelve); go_wp2_with fail; simp only [Act.put, List.setIfInBounds_toArray, List.set_cons_succ, List.set_cons_zero] at hK; exact hK _ _ (Ext.refl _) (Mono.is_rfl _ _)); simp only [Act.put, List.setIfInBounds_toArray, List.set_cons_succ, List.set_cons_zero])
        refine Mono.step_end fun w3 hE3 _ => ?_
        have HE3 := Lib.hid ((Ext.drew w0).trans hE3)
        clear hE3
        simp only [List.drop_succ_cons, List.drop_zero]
        go_wp2_with fail
        go_ret
        exact ⟨by rw [HF.out]; rfl, HE0.out.trans HE3.out⟩
    have b0 : decide (4611686018427387904 < M.index) = false := decide_eq_false g0
    have G0 := Lib.hid (Int.not_lt.mp g0)
    clear g0
    by_cases g1 : 4611686018427387904 < M.logTerm
    case pos =>
      have HF : Hid (X = false) := Lib.hid (by have hh : decide (M.index ≤ 4611686018427387904 ∧ M.logTerm ≤ 4611686018427387904 ∧ M.commit ≤ 4611686018427387904 ∧ M.entries.length ≤ 4 ∧ M.image.length ≤ 16384) = false := decide_eq_false (by omega); rw [HR1.out, hh, Bool.and_false, Bool.false_and, Bool.false_and])
      have b1 : decide (4611686018427387904 < M.logTerm) = true := decide_eq_true g1
      clear g1
      skip
      apply Mono.region1 32 Ext [.is _, .is _, .rel (fun v w' => MsgV w' 0 v (bareM M)), .is _, .is _, .is _, .is _, .is _, .is _, .is _, .is _, .is _, .is _, .is _, .is _, .is _, .is _, .is _, .is _, .is _, .is _, .is _, .is _, .is _, .is _, .is _, .is _, .is _, .is _, .is _, .is _, .is _] (by kernel_rfl) Ext.refl (fun _ _ _ => Ext.trans) (by kernel_rfl) rfl rfl ⟨fun _ _ _ h hE => h.ext hE, trivial⟩
      focus
        iterate 2 (apply Mono.step_is; (· refine Mono.obl_mk fun w3 hE3 _ K hK => ?_; (obtain ⟨c0, c1, c2, c3, c4, c5, c6, c7, c8, c9, c10, c11⟩ := (HX.out.ext ((Ext.drew _).trans hE3)).twelve); go_wp2_with fail; simp only [Act.put, List.setIfInBounds_toArray, List.set_cons_succ, List.set_cons_zero] at hK; exact hK _ _ (Ext.refl _) (Mono.is_rfl _ _)); simp only [Act.put, List.setIfInBounds_toArray, List.set_cons_succ, List.set_cons_zero])
        refine Mono.step_rel (Mono.obl_mk fun w3 hE3 _ K hK => ?_) fun v44 => ?_
        · have k3 : Ext w0 w3 := (Ext.drew _).trans hE3
          go_wp2_with fail
          refine (rbare_c _ M w3 (HV.out.ext k3)).mono ?_
          rintro e w4 ⟨v4, rfl, hv4, hE4⟩
          have HV4 := Lib.hid hv4; clear hv4
          go_wp2_with fail
          simp only [Act.put, List.setIfInBounds_toArray, List.set_cons_succ, List.set_cons_zero] at hK
          exact hK _ _ hE4 (Mono.rel_mk HV4.out)
        simp only [Act.put, List.setIfInBounds_toArray, List.set_cons_succ, List.set_cons_zero]
        apply Mono.step_is
        · refine Mono.obl_mk fun w3 hE3 hk K hK => ?_
          have k3 : Ext w0 w3 := (Ext.drew _).trans hE3
          obtain ⟨q0, _⟩ := hk
          have Q : Hid (MsgV w3 0 v44 (bareM M)) := q0 (by kernel_rfl)
          clear q0
          go_wp2_with fail
          refine (SM.out _ _ w3 (HV.out.ext k3) Q.out).mono ?_
          rintro e w4 ⟨rfl, hE4⟩
          go_wp2_with fail
          simp only [Act.put, List.setIfInBounds_toArray, List.set_cons_succ, List.set_cons_zero] at hK
          exact hK _ _ hE4 (Mono.is_rfl _ _)
        simp only [Act.put, List.setIfInBounds_toArray, List.set_cons_succ, List.set_cons_zero]
        iterate 28 (apply Mono.step_is; (· refine Mono.obl_mk fun w3 hE3 _ K hK => ?_; (obtain ⟨c0, c1, c2, c3, c4, c5, c6, c7, c8, c9, c10, c11⟩ := (HX.out.ext ((Ext.drew _).trans hE3)).twelve); go_wp2_with fail; simp only [Act.put, List.setIfInBounds_toArray, List.set_cons_succ, List.set_cons_zero] at hK; exact hK _ _ (Ext.refl _) (Mono.is_rfl _ _)); simp only [Act.put, List.setIfInBounds_toArray, List.set_cons_succ, List.set_cons_zero])
        refine Mono.step_end fun w3 hE3 _ => ?_
        have HE3 := Lib.hid ((Ext.drew w0).trans hE3)
        clear hE3
        simp only [List.drop_succ_cons, List.drop_zero]
        go_wp2_with fail
        go_ret
        exact ⟨by rw [HF.out]; rfl, HE0.out.trans HE3.out⟩
    have b1 : decide (4611686018427387904 < M.logTerm) = false := decide_eq_false g1
    have G1 := Lib.hid (Int.not_lt.mp g1)
    clear g1
    by_cases g2 : 4611686018427387904 < M.commit
    case pos =>
      have HF : Hid (X = false) := Lib.hid (by have hh : decide (M.index ≤ 4611686018427387904 ∧ M.logTerm ≤ 4611686018427387904 ∧ M.commit ≤ 4611686018427387904 ∧ M.entries.length ≤ 4 ∧ M.image.length ≤ 16384) = false := decide_eq_false (by omega); rw [HR1.out, hh, Bool.and_false, Bool.false_and, Bool.false_and])
      have b2 : decide (4611686018427387904 < M.commit) = true := decide_eq_true g2
      clear g2
      skip
      apply Mono.region1 32 Ext [.is _, .is _, .rel (fun v w' => MsgV w' 0 v (bareM M)), .is _, .is _, .is _, .is _, .is _, .is _, .is _, .is _, .is _, .is _, .is _, .is _, .is _, .is _, .is _, .is _, .is _, .is _, .is _, .is _, .is _, .is _, .is _, .is _, .is _, .is _, .is _, .is _, .is _] (by kernel_rfl) Ext.refl (fun _ _ _ => Ext.trans) (by kernel_rfl) rfl rfl ⟨fun _ _ _ h hE => h.ext hE, trivial⟩
      focus
        iterate 2 (apply Mono.step_is; (· refine Mono.obl_mk fun w3 hE3 _ K hK => ?_; (obtain ⟨c0, c1, c2, c3, c4, c5, c6, c7, c8, c9, c10, c11⟩ := (HX.out.ext ((Ext.drew _).trans hE3)).twelve); go_wp2_with fail; simp only [Act.put, List.setIfInBounds_toArray, List.set_cons_succ, List.set_cons_zero] at hK; exact hK _ _ (Ext.refl _) (Mono.is_rfl _ _)); simp only [Act.put, List.setIfInBounds_toArray, List.set_cons_succ, List.set_cons_zero])
        refine Mono.step_rel (Mono.obl_mk fun w3 hE3 _ K hK => ?_) fun v44 => ?_
        · have k3 : Ext w0 w3 := (Ext.drew _).trans hE3
          go_wp2_with fail
          refine (rbare_c _ M w3 (HV.out.ext k3)).mono ?_
          rintro e w4 ⟨v4, rfl, hv4, hE4⟩
          have HV4 := Lib.hid hv4; clear hv4
          go_wp2_with fail
          simp only [Act.put, List.setIfInBounds_toArray, List.set_cons_succ, List.set_cons_zero] at hK
          exact hK _ _ hE4 (Mono.rel_mk HV4.out)
        simp only [Act.put, List.setIfInBounds_toArray, List.set_cons_succ, List.set_cons_zero]
        apply Mono.step_is
        · refine Mono.obl_mk fun w3 hE3 hk K hK => ?_
          have k3 : Ext w0 w3 := (Ext.drew _).trans hE3
          obtain ⟨q0, _⟩ := hk
          have Q : Hid (MsgV w3 0 v44 (bareM M)) := q0 (by kernel_rfl)
          clear q0
          go_wp2_with fail
          refine (SM.out _ _ w3 (HV.out.ext k3) Q.out).mono ?_
          rintro e w4 ⟨rfl, hE4⟩
          go_wp2_with fail
          simp only [Act.put, List.setIfInBounds_toArray, List.set_cons_succ, List.set_cons_zero] at hK
          exact hK _ _ hE4 (Mono.is_rfl _ _)
        simp only [Act.put, List.setIfInBounds_toArray, List.set_cons_succ, List.set_cons_zero]
        iterate 28 (apply Mono.step_is; (· refine Mono.obl_mk fun w3 hE3 _ K hK => ?_; (obtain ⟨c0, c1, c2, c3, c4, c5, c6, c7, c8, c9, c10, c11⟩ := (HX.out.ext ((Ext.drew _).trans hE3)).twelve); go_wp2_with fail; simp only [Act.put, List.setIfInBounds_toArray, List.set_cons_succ, List.set_cons_zero] at hK; exact hK _ _ (Ext.refl _) (Mono.is_rfl _ _)); simp only [Act.put, List.setIfInBounds_toArray, List.set_cons_succ, List.set_cons_zero])
        refine Mono.step_end fun w3 hE3 _ => ?_
        have HE3 := Lib.hid ((Ext.drew w0).trans hE3)
        clear hE3
        simp only [List.drop_succ_cons, List.drop_zero]
        go_wp2_with fail
        go_ret
        exact ⟨by rw [HF.out]; rfl, HE0.out.trans HE3.out⟩
    have b2 : decide (4611686018427387904 < M.commit) = false := decide_eq_false g2
    have G2 := Lib.hid (Int.not_lt.mp g2)
    clear g2
    by_cases g3 : 4 < (M.entries.length : Int)
    case pos =>
      have HF : Hid (X = false) := Lib.hid (by have hh : decide (M.index ≤ 4611686018427387904 ∧ M.logTerm ≤ 4611686018427387904 ∧ M.commit ≤ 4611686018427387904 ∧ M.entries.length ≤ 4 ∧ M.image.length ≤ 16384) = false := decide_eq_false (by omega); rw [HR1.out, hh, Bool.and_false, Bool.false_and, Bool.false_and])
      have b3 : decide (4 < (M.entries.length : Int)) = true := decide_eq_true g3
      have d3 : decide (4 < M.entries.length) = true := decide_eq_true (by omega)
      clear g3
      skip
      apply Mono.region1 32 Ext [.is _, .is _, .rel (fun v w' => MsgV w' 0 v (bareM M)), .is _, .is _, .is _, .is _, .is _, .is _, .is _, .is _, .is _, .is _, .is _, .is _, .is _, .is _, .is _, .is _, .is _, .is _, .is _, .is _, .is _, .is _, .is _, .is _, .is _, .is _, .is _, .is _, .is _] (by kernel_rfl) Ext.refl (fun _ _ _ => Ext.trans) (by kernel_rfl) rfl rfl ⟨fun _ _ _ h hE => h.ext hE, trivial⟩
      focus
        iterate 2 (apply Mono.step_is; (· refine Mono.obl_mk fun w3 hE3 _ K hK => ?_; (obtain ⟨c0, c1, c2, c3, c4, c5, c6, c7, c8, c9, c10, c11⟩ := (HX.out.ext ((Ext.drew _).trans hE3)).twelve); go_wp2_with fail; simp only [Act.put, List.setIfInBounds_toArray, List.set_cons_succ, List.set_cons_zero] at hK; exact hK _ _ (Ext.refl _) (Mono.is_rfl _ _)); simp only [Act.put, List.setIfInBounds_toArray, List.set_cons_succ, List.set_cons_zero])
        refine Mono.step_rel (Mono.obl_mk fun w3 hE3 _ K hK => ?_) fun v44 => ?_
        · have k3 : Ext w0 w3 := (Ext.drew _).trans hE3
          go_wp2_with fail
          refine (rbare_c _ M w3 (HV.out.ext k3)).mono ?_
          rintro e w4 ⟨v4, rfl, hv4, hE4⟩
          have HV4 := Lib.hid hv4; clear hv4
          go_wp2_with fail
          simp only [Act.put, List.setIfInBounds_toArray, List.set_cons_succ, List.set_cons_zero] at hK
          exact hK _ _ hE4 (Mono.rel_mk HV4.out)
        simp only [Act.put, List.setIfInBounds_toArray, List.set_cons_succ, List.set_cons_zero]
        apply Mono.step_is
        · refine Mono.obl_mk fun w3 hE3 hk K hK => ?_
          have k3 : Ext w0 w3 := (Ext.drew _).trans hE3
          obtain ⟨q0, _⟩ := hk
          have Q : Hid (MsgV w3 0 v44 (bareM M)) := q0 (by kernel_rfl)
          clear q0
          go_wp2_with fail
          refine (SM.out _ _ w3 (HV.out.ext k3) Q.out).mono ?_
          rintro e w4 ⟨rfl, hE4⟩
          go_wp2_with fail
          simp only [Act.put, List.setIfInBounds_toArray, List.set_cons_succ, List.set_cons_zero] at hK
          exact hK _ _ hE4 (Mono.is_rfl _ _)
        simp only [Act.put, List.setIfInBounds_toArray, List.set_cons_succ, List.set_cons_zero]
        iterate 28 (apply Mono.step_is; (· refine Mono.obl_mk fun w3 hE3 _ K hK => ?_; (obtain ⟨c0, c1, c2, c3, c4, c5, c6, c7, c8, c9, c10, c11⟩ := (HX.out.ext ((Ext.drew _).trans hE3)).twelve); go_wp2_with fail; simp only [Act.put, List.setIfInBounds_toArray, List.set_cons_succ, List.set_cons_zero] at hK; exact hK _ _ (Ext.refl _) (Mono.is_rfl _ _)); simp only [Act.put, List.setIfInBounds_toArray, List.set_cons_succ, List.set_cons_zero])
        refine Mono.step_end fun w3 hE3 _ => ?_
        have HE3 := Lib.hid ((Ext.drew w0).trans hE3)
        clear hE3
        simp only [List.drop_succ_cons, List.drop_zero]
        go_wp2_with fail
        go_ret
        exact ⟨by rw [HF.out]; rfl, HE0.out.trans HE3.out⟩
    have b3 : decide (4 < (M.entries.length : Int)) = false := decide_eq_false g3
    have d3 : decide (4 < M.entries.length) = false := decide_eq_false (by omega)
    have G3 := Lib.hid (Int.not_lt.mp g3)
    clear g3
    by_cases g4 : 16384 < (M.image.length : Int)
    case pos =>
      have HF : Hid (X = false) := Lib.hid (by have hh : decide (M.index ≤ 4611686018427387904 ∧ M.logTerm ≤ 4611686018427387904 ∧ M.commit ≤ 4611686018427387904 ∧ M.entries.length ≤ 4 ∧ M.image.length ≤ 16384) = false := decide_eq_false (by omega); rw [HR1.out, hh, Bool.and_false, Bool.false_and, Bool.false_and])
      have b4 : decide (16384 < (M.image.length : Int)) = true := decide_eq_true g4
      have d4 : decide (16384 < M.image.length) = true := decide_eq_true (by omega)
      clear g4
      skip
      apply Mono.region1 32 Ext [.is _, .is _, .rel (fun v w' => MsgV w' 0 v (bareM M)), .is _, .is _, .is _, .is _, .is _, .is _, .is _, .is _, .is _, .is _, .is _, .is _, .is _, .is _, .is _, .is _, .is _, .is _, .is _, .is _, .is _, .is _, .is _, .is _, .is _, .is _, .is _, .is _, .is _] (by kernel_rfl) Ext.refl (fun _ _ _ => Ext.trans) (by kernel_rfl) rfl rfl ⟨fun _ _ _ h hE => h.ext hE, trivial⟩
      focus
        iterate 2 (apply Mono.step_is; (· refine Mono.obl_mk fun w3 hE3 _ K hK => ?_; (obtain ⟨c0, c1, c2, c3, c4, c5, c6, c7, c8, c9, c10, c11⟩ := (HX.out.ext ((Ext.drew _).trans hE3)).twelve); go_wp2_with fail; simp only [Act.put, List.setIfInBounds_toArray, List.set_cons_succ, List.set_cons_zero] at hK; exact hK _ _ (Ext.refl _) (Mono.is_rfl _ _)); simp only [Act.put, List.setIfInBounds_toArray, List.set_cons_succ, List.set_cons_zero])
        refine Mono.step_rel (Mono.obl_mk fun w3 hE3 _ K hK => ?_) fun v44 => ?_
        · have k3 : Ext w0 w3 := (Ext.drew _).trans hE3
          go_wp2_with fail
          refine (rbare_c _ M w3 (HV.out.ext k3)).mono ?_
          rintro e w4 ⟨v4, rfl, hv4, hE4⟩
          have HV4 := Lib.hid hv4; clear hv4
          go_wp2_with fail
          simp only [Act.put, List.setIfInBounds_toArray, List.set_cons_succ, List.set_cons_zero] at hK
          exact hK _ _ hE4 (Mono.rel_mk HV4.out)
        simp only [Act.put, List.setIfInBounds_toArray, List.set_cons_succ, List.set_cons_zero]
        apply Mono.step_is
        · refine Mono.obl_mk fun w3 hE3 hk K hK => ?_
          have k3 : Ext w0 w3 := (Ext.drew _).trans hE3
          obtain ⟨q0, _⟩ := hk
          have Q : Hid (MsgV w3 0 v44 (bareM M)) := q0 (by kernel_rfl)
          clear q0
          go_wp2_with fail
          refine (SM.out _ _ w3 (HV.out.ext k3) Q.out).mono ?_
          rintro e w4 ⟨rfl, hE4⟩
          go_wp2_with fail
          simp only [Act.put, List.setIfInBounds_toArray, List.set_cons_succ, List.set_cons_zero] at hK
          exact hK _ _ hE4 (Mono.is_rfl _ _)
        simp only [Act.put, List.setIfInBounds_toArray, List.set_cons_succ, List.set_cons_zero]
        iterate 28 (apply Mono.step_is; (· refine Mono.obl_mk fun w3 hE3 _ K hK => ?_; (obtain ⟨c0, c1, c2, c3, c4, c5, c6, c7, c8, c9, c10, c11⟩ := (HX.out.ext ((Ext.drew _).trans hE3)).twelve); go_wp2_with fail; simp only [Act.put, List.setIfInBounds_toArray, List.set_cons_succ, List.set_cons_zero] at hK; exact hK _ _ (Ext.refl _) (Mono.is_rfl _ _)); simp only [Act.put, List.setIfInBounds_toArray, List.set_cons_succ, List.set_cons_zero])
        refine Mono.step_end fun w3 hE3 _ => ?_
        have HE3 := Lib.hid ((Ext.drew w0).trans hE3)
        clear hE3
        simp only [List.drop_succ_cons, List.drop_zero]
        go_wp2_with fail
        go_ret
        exact ⟨by rw [HF.out]; rfl, HE0.out.trans HE3.out⟩
    have b4 : decide (16384 < (M.image.length : Int)) = false := decide_eq_false g4
    have d4 : decide (16384 < M.image.length) = false := decide_eq_false (by omega)
    have G4 := Lib.hid (Int.not_lt.mp g4)
    clear g4
    have HR2 : Hid (X = (M.entries.all formedB && (decide (M.kind ≠ 5) || membersB M.members))) := Lib.hid (by have hh : decide (M.index ≤ 4611686018427387904 ∧ M.logTerm ≤ 4611686018427387904 ∧ M.commit ≤ 4611686018427387904 ∧ M.entries.length ≤ 4 ∧ M.image.length ≤ 16384) = true := decide_eq_true (by have := G0.out; have := G1.out; have := G2.out; have := G3.out; have := G4.out; omega); rw [HR1.out, hh, Bool.and_true, Bool.true_and])
    skip
    apply Mono.region1 32 Ext [.is _, .is _, .rel (fun v w' => MsgV w' 0 v (bareM M)), .is _, .is _, .is _, .is _, .is _, .is _, .is _, .is _, .is _, .is _, .is _, .is _, .is _, .is _, .is _, .is _, .is _, .is _, .is _, .is _, .is _, .is _, .is _, .is _, .is _, .is _, .is _, .is _, .is _] (by kernel_rfl) Ext.refl (fun _ _ _ => Ext.trans) (by kernel_rfl) rfl rfl ⟨fun _ _ _ h hE => h.ext hE, trivial⟩
    focus
      iterate 2 (apply Mono.step_is; (· refine Mono.obl_mk fun w3 hE3 _ K hK => ?_; (obtain ⟨c0, c1, c2, c3, c4, c5, c6, c7, c8, c9, c10, c11⟩ := (HX.out.ext ((Ext.drew _).trans hE3)).twelve); go_wp2_with fail; simp only [Act.put, List.setIfInBounds_toArray, List.set_cons_succ, List.set_cons_zero] at hK; exact hK _ _ (Ext.refl _) (Mono.is_rfl _ _)); simp only [Act.put, List.setIfInBounds_toArray, List.set_cons_succ, List.set_cons_zero])
      refine Mono.step_rel (Mono.obl_mk fun w3 hE3 _ K hK => ?_) fun v44 => ?_
      · have k3 : Ext w0 w3 := (Ext.drew _).trans hE3
        go_wp2_with fail
        refine (rbare_c _ M w3 (HV.out.ext k3)).mono ?_
        rintro e w4 ⟨v4, rfl, hv4, hE4⟩
        have HV4 := Lib.hid hv4; clear hv4
        go_wp2_with fail
        simp only [Act.put, List.setIfInBounds_toArray, List.set_cons_succ, List.set_cons_zero] at hK
        exact hK _ _ hE4 (Mono.rel_mk HV4.out)
      simp only [Act.put, List.setIfInBounds_toArray, List.set_cons_succ, List.set_cons_zero]
      apply Mono.step_is
      · refine Mono.obl_mk fun w3 hE3 hk K hK => ?_
        have k3 : Ext w0 w3 := (Ext.drew _).trans hE3
        obtain ⟨q0, _⟩ := hk
        have Q : Hid (MsgV w3 0 v44 (bareM M)) := q0 (by kernel_rfl)
        clear q0
        go_wp2_with fail
        refine (SM.out _ _ w3 (HV.out.ext k3) Q.out).mono ?_
        rintro e w4 ⟨rfl, hE4⟩
        go_wp2_with fail
        simp only [Act.put, List.setIfInBounds_toArray, List.set_cons_succ, List.set_cons_zero] at hK
        exact hK _ _ hE4 (Mono.is_rfl _ _)
      simp only [Act.put, List.setIfInBounds_toArray, List.set_cons_succ, List.set_cons_zero]
      iterate 28 (apply Mono.step_is; (· refine Mono.obl_mk fun w3 hE3 _ K hK => ?_; (obtain ⟨c0, c1, c2, c3, c4, c5, c6, c7, c8, c9, c10, c11⟩ := (HX.out.ext ((Ext.drew _).trans hE3)).twelve); go_wp2_with fail; simp only [Act.put, List.setIfInBounds_toArray, List.set_cons_succ, List.set_cons_zero] at hK; exact hK _ _ (Ext.refl _) (Mono.is_rfl _ _)); simp only [Act.put, List.setIfInBounds_toArray, List.set_cons_succ, List.set_cons_zero])
      refine Mono.step_end fun w3 hE3 _ => ?_
      have HE3 := Lib.hid ((Ext.drew w0).trans hE3)
      clear hE3
      simp only [List.drop_succ_cons, List.drop_zero]
      have HXX := Lib.hid (HX.out.ext HE3.out)
      have HEE := Lib.hid (HE0.out.trans HE3.out)
      clear b0 b1 b2 b3 b4 d3 d4 G0 G1 G2 G3 G4
      clear HX HV HE3 HE0 HR1 HR SM
      go_wp2_with fail
      go_loopg [3] M.entries.length (fun g i wr => ∃ (r : Nat), r + g = M.entries.length ∧ i = .int .i64 (r : Int) ∧ Ext w3 wr ∧ (M.entries.take r).all formedB = true)
      case atStart => exact ⟨0, by omega, rfl, Ext.refl _, by simp⟩
      case round =>
        obtain ⟨r, hg, rfl, hE, hall⟩ := hrel
        have HE := Lib.hid (HEE.out.trans hE); have HALL := Lib.hid hall; have HXR := Lib.hid (HXX.out.ext hE); have HE3R := Lib.hid hE
        have k9 := HXR.out.cell 9 rfl
        clear hE hall
        by_cases hlt : r < M.entries.length
        · obtain ⟨x, hxx⟩ : ∃ x, M.entries[r]? = some x := ⟨_, List.getElem?_eq_getElem hlt⟩
          obtain ⟨b, f, a4, n4, e4, a5, n5, e5, rfl, p0, p1, p2, p3, p4, p5, hvx⟩ := (HAT.out r x hxx).ext HE.out
          have HOX := Lib.hid (HOK.out.entries x (List.mem_of_getElem? hxx))
          have tx : M.entries.take (r + 1) = M.entries.take r ++ [x] := by rw [List.take_add_one, hxx]; rfl
          have TX := Lib.hid tx; have HXM := Lib.hid (List.mem_of_getElem? hxx); have HVX := Lib.hid hvx
          clear hxx tx hvx
          go_wp2_with fail
          refine (rformed_ret _ x wr HVX.out HOX.out).mono ?_
          rintro e w4 ⟨rfl, hE4⟩
          have HE4 := Lib.hid (HE.out.trans hE4); have HE34 := Lib.hid (HE3R.out.trans hE4)
          clear hE4 p0 p1 p2 p3 p4 p5 k9
          cases hf : formedB x with
          | false =>
            have HF : Hid (X = false) := Lib.hid (by
              rw [HR2.out]
              have : M.entries.all formedB = false := by
                cases hh : M.entries.all formedB with
                | false => rfl
                | true => have := List.all_eq_true.1 hh x HXM.out; rw [hf] at this; cases this
              rw [this]; rfl)
            clear hf
            go_wp2_with fail
            go_ret
            exact ⟨by rw [HF.out]; rfl, HE4.out⟩
          | true =>
            have HF := Lib.hid hf
            clear hf
            go_wp2_with fail
            go_roundg (gk - 1)
            case measure => omega
            case rel => exact ⟨r + 1, by omega, by go_num, HE34.out, by rw [TX.out, List.all_append, HALL.out]; simp [HF.out]⟩
        · have hrn : r = M.entries.length := by omega
          have hms := HMS.out.ext HE.out
          have HMR := Lib.hid hms
          have HA : Hid (M.entries.all formedB = true) := Lib.hid (by have h := HALL.out; rwa [hrn, List.take_length] at h)
          clear hrn hms
          have k0 := HXR.out.cell 0 rfl
          have k10 := HXR.out.cell 10 rfl
          by_cases h5 : M.kind = 5
          · have hb5 : (M.kind != 5) = false := by simp [h5]
            have HF : Hid (X = membersB M.members) := Lib.hid (by rw [HR2.out, HA.out]; simp [h5])
            clear h5
            go_wp2_with fail
            refine (rmembers_ret _ M.members wr HMR.out).mono ?_
            rintro e w4 ⟨rfl, hE4⟩
            go_wp2_with fail
            go_ret
            exact ⟨by rw [HF.out]; rfl, HE.out.trans hE4⟩
          · have hb5 : (M.kind != 5) = true := by simpa using h5
            have HF : Hid (X = true) := Lib.hid (by rw [HR2.out, HA.out]; simp [h5])
            clear h5
            go_wp2_with fail
            go_ret
            exact ⟨by rw [HF.out]; rfl, HE.out⟩
end Go.Proofs.Ytjodgbabfhcilaa
