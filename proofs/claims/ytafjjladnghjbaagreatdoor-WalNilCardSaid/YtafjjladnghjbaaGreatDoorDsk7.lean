/- disk: Write. -/
import Derived.Test.YtafjjladnghjbaaGreatDoorDsk6
namespace Go.Proofs.YtafjjladnghjbaaGreatDoor
open Go Go.RowKit Go.Maps

def growsB (L : FL) (name : ByteArray) (at_ : Int) (b : List Int) : Int := if b = [] then 0 else max 0 (at_ + b.length - ((getG (nmOf name) L).getD []).length)
def writeS (S : Dk) (name : ByteArray) (at_ : Int) (b : List Int) : Int × Dk :=
  if S.off then (6, S) else if !namedB name then (1, S) else if at_ < 0 ∨ 1048576 < at_ then (9, S)
  else if max S.room 0 < usedF S.now + growsB S.now name at_ b then (7, S) else waitS S ⟨119, name, ⟨#[]⟩, at_, b⟩
theorem write_nil (name : ByteArray) (at_ : Int) (bv : Value) (w : World) : Calls Tryz.prog 43 #[.pointer none, .string name, .int .i64 at_, bv] w fun e w' => e = .returned (.int .i64 6) ∧ w' = w := by
  go_enter Tryz.func43, Tryz.ntmps43
  go_wp2_with fail
  refine (lost_nil w).mono ?_
  rintro e w1 ⟨rfl, rfl⟩
  go_wp2_with fail
  go_ret
  exact ⟨rfl, rfl⟩
set_option maxRecDepth 100000 in
set_option maxHeartbeats 4000000 in
theorem write_c (d n M : Nat) (O F : List Nat) (S : Dk) (name : ByteArray) (at_ : Int) (b : List Int) (bv : Value) (w : World) (h : DkS w d n M O F S) (hn : n < 1000000000) (hwl : S.waits.length < 1000000000) (hM : M ≤ 70368744177664) (hnM : n * M ≤ 4611686018427387904)
    (hname : name.size ≤ maxLen) (hat : at_ ≤ 9223372036854775807) (hat0 : -9223372036854775808 ≤ at_) (hbv : Rd w bv (u8s b)) (hb8 : B8 b) (hb1 : 0 ≤ at_ → at_ ≤ 1048576 → at_ + b.length ≤ M) :
    Calls Tryz.prog 43 #[dptr d, .string name, .int .i64 at_, bv] w fun e w' => e = .returned (.int .i64 (writeS S name at_ b).1) ∧ ∃ O', DkS w' d (n + 1) M O' F (writeS S name at_ b).2 ∧ DkTo O w w' O' := by
  obtain ⟨X, hX⟩ : ∃ X, X = writeS S name at_ b := ⟨_, rfl⟩
  rw [← hX]
  have hbl := hbv.len
  rw [u8s_len] at hbl
  have hbv' := hbv.open
  obtain ⟨ba, bc, rfl, hbc1, hbc2, -⟩ := hbv'
  have HX := Lib.hid hX; have HD := Lib.hid h; have HBV := Lib.hid hbv; have HB8 := Lib.hid hb8; have HB1 := Lib.hid hb1
  clear hX h hbv hb8 hb1
  go_enter Tryz.func43, Tryz.ntmps43
  go_wp2_with fail
  refine (lost_c d n M O F S w HD.out).mono ?_
  rintro e w0 ⟨rfl, rfl⟩
  cases hoff : S.off with
  | true =>
    have HX2 : Hid (X = (6, S)) := Lib.hid (by rw [HX.out]; simp only [writeS, hoff, if_true])
    clear HX hoff
    go_wp2_with fail
    go_ret
    rw [HX2.out]
    exact ⟨rfl, O, HD.out.more (Nat.le_succ n), DkTo.refl HD.out.low⟩
  | false =>
    have HX2 : Hid (X = (if !namedB name then (1, S) else if at_ < 0 ∨ 1048576 < at_ then (9, S)
      else if max S.room 0 < usedF S.now + growsB S.now name at_ b then (7, S) else waitS S ⟨119, name, ⟨#[]⟩, at_, b⟩)) := Lib.hid (by rw [HX.out]; simp only [writeS, hoff, Bool.false_eq_true, if_false])
    clear HX hoff
    go_wp2_with fail
    refine (named_c name w0).mono ?_
    rintro e w1 ⟨rfl, hE1⟩
    have HE1 := Lib.hid hE1
    clear hE1
    cases hnm : namedB name with
    | false =>
      have HX3 : Hid (X = (1, S)) := Lib.hid (by rw [HX2.out, hnm]; rfl)
      clear HX2 hnm
      go_wp2_with fail
      go_ret
      rw [HX3.out]
      exact ⟨rfl, O, (HD.out.ext HE1.out).more (Nat.le_succ n), DkTo.ext HE1.out HD.out.low⟩
    | true =>
      have HX3 : Hid (X = (if at_ < 0 ∨ 1048576 < at_ then (9, S)
        else if max S.room 0 < usedF S.now + growsB S.now name at_ b then (7, S) else waitS S ⟨119, name, ⟨#[]⟩, at_, b⟩)) := Lib.hid (by rw [HX2.out, hnm]; rfl)
      clear HX2 hnm
      by_cases hneg : at_ < 0
      · have HX4 : Hid (X = (9, S)) := Lib.hid (by rw [HX3.out, if_pos (.inl hneg)])
        clear HX3
        go_wp2_with fail
        go_ret
        rw [HX4.out]
        exact ⟨rfl, O, (HD.out.ext HE1.out).more (Nat.le_succ n), DkTo.ext HE1.out HD.out.low⟩
      · by_cases hbig : 1048576 < at_
        · have HX4 : Hid (X = (9, S)) := Lib.hid (by rw [HX3.out, if_pos (.inr hbig)])
          have hnn : 0 ≤ at_ := by omega
          clear HX3 hneg
          go_wp2_with fail
          go_ret
          rw [HX4.out]
          exact ⟨rfl, O, (HD.out.ext HE1.out).more (Nat.le_succ n), DkTo.ext HE1.out HD.out.low⟩
        · have hnn : 0 ≤ at_ := by omega
          have hle : at_ ≤ 1048576 := by omega
          have HX4 : Hid (X = (if max S.room 0 < usedF S.now + growsB S.now name at_ b then (7, S) else waitS S ⟨119, name, ⟨#[]⟩, at_, b⟩)) := Lib.hid (by rw [HX3.out, if_neg (by omega)])
          clear HX3 hneg hbig
          have hbM := HB1.out hnn hle
          have hD1 := HD.out.ext HE1.out
          have hr0 := hD1.room0; have hr1 := hD1.room1
          obtain ⟨bn, bs, wv, hBd, hF, hAl, -⟩ := hD1.openNow
          obtain ⟨c0, c1, c2, c3, c4, c5⟩ := hBd.six
          obtain ⟨v, -, hlk, hv, hv8, -⟩ := hF.look Tryz.underlying72 hname
          have hUle := Nat.le_trans (usedF_le hF.len hD1.now) hnM
          obtain ⟨ol, hol⟩ : ∃ ol, ol = ((getG (nmOf name) S.now).getD []).length := ⟨_, rfl⟩
          have holM : ol ≤ M := by rw [hol]; exact hD1.now.get _
          obtain ⟨va, vc, hve, -, -, -⟩ := hv.open
          rw [← hol] at hve
          obtain ⟨G, hG⟩ : ∃ G, G = growsB S.now name at_ b := ⟨_, rfl⟩
          obtain ⟨U, hU⟩ : ∃ U, U = usedF S.now := ⟨_, rfl⟩
          rw [← hU] at hUle
          rw [← hG, ← hU] at HX4
          subst hve
          have HBD := Lib.hid hBd; have HD1 := Lib.hid hD1; have HU := Lib.hid hU
          clear hBd hF hAl hv hv8 hD1 hU
          have hG0 : 0 ≤ G ∧ G ≤ 70368744177664 := by
            rw [hG]; unfold growsB; rw [← hol]; split <;> omega
          have hcase : (b.length = 0 ∧ G = 0) ∨ ((0 : Int) < b.length ∧ max 0 (at_ + b.length - ol) = G) := by
            rcases Nat.eq_zero_or_pos b.length with h0 | h0
            · left; refine ⟨h0, ?_⟩; rw [hG, List.eq_nil_of_length_eq_zero h0]; rfl
            · right; refine ⟨by omega, ?_⟩; rw [hG]; unfold growsB; rw [if_neg (by intro e; subst e; simp at h0), ← hol]
          clear hG hol
          obtain ⟨hG0, hG1⟩ := hG0
          have H9 := Lib.hid (And.intro hbM (And.intro hnn hle))
          go_upto_if 26 with fail
          go_cut [9] (fun v wc => v = .int .i64 G ∧ wc = w1)
          case first =>
            rcases hcase with ⟨hb0, hGz⟩ | ⟨hb0, hGe⟩
            · clear hG0 hG1
              have hb0' : (0 < b.length) = False := by simp [hb0]
              go_wp2_with fail
              go_meet
              exact ⟨by rw [hGz], rfl⟩
            · go_wp2_with fail
              go_meet
              exact ⟨rfl, rfl⟩
          case rest =>
          obtain ⟨rfl, rfl⟩ := hcut
          go_upto_region 10 with fail
          clear c0 c1 c2 c4 c5 hlk holM hbM hnn hle hat hat0 hcase
          apply Mono.region1 10 Ext [.is _, .is _, .is _, .is _, .is _, .is _, .is _, .is _, .is _, .is _] (by kernel_rfl) Ext.refl (fun _ _ _ => Ext.trans) (by kernel_rfl) rfl rfl trivial
          focus
            iterate 1 (apply Mono.step_is; (· refine Mono.obl_mk fun w2 hE2 _ K hK => ?_; (have k3 : w2.cell? ⟨d, 3, none⟩ = some (.int .i64 S.room) := (hE2.cell (show wc.drew.cell? _ = _ from c3))); clear hE2; go_wp2_with fail; simp only [Act.put, List.setIfInBounds_toArray, List.set_cons_succ, List.set_cons_zero] at hK; exact hK _ _ (Ext.refl _) (Mono.is_rfl _ _)); simp only [Act.put, List.setIfInBounds_toArray, List.set_cons_succ, List.set_cons_zero])
            apply Mono.step_is
            · refine Mono.obl_mk fun w2 hE2 _ K hK => ?_
              go_wp2_with fail
              refine (used_c d n M O F S w2 ((HD1.out.ext (Ext.drew _)).ext hE2) hnM).mono ?_
              rintro e w3 ⟨rfl, hE3⟩
              rw [← HU.out]
              go_wp2_with fail
              simp only [Act.put, List.setIfInBounds_toArray, List.set_cons_succ, List.set_cons_zero] at hK
              exact hK _ _ hE3 (Mono.is_rfl _ _)
            simp only [Act.put, List.setIfInBounds_toArray, List.set_cons_succ, List.set_cons_zero]
            iterate 8 (apply Mono.step_is; (· refine Mono.obl_mk fun w2 hE2 _ K hK => ?_; (have k3 : w2.cell? ⟨d, 3, none⟩ = some (.int .i64 S.room) := (hE2.cell (show wc.drew.cell? _ = _ from c3))); clear hE2; go_wp2_with fail; simp only [Act.put, List.setIfInBounds_toArray, List.set_cons_succ, List.set_cons_zero] at hK; exact hK _ _ (Ext.refl _) (Mono.is_rfl _ _)); simp only [Act.put, List.setIfInBounds_toArray, List.set_cons_succ, List.set_cons_zero])
            refine Mono.step_end fun w2 hE2 hkn => ?_
            simp only [List.drop_succ_cons, List.drop_zero]
            clear hkn
            replace hE2 : Ext wc w2 := (Ext.drew _).trans hE2
            have HE2 := Lib.hid hE2
            clear hE2
            by_cases hfull : max S.room 0 < (U : Int) + G
            · have HX5 : Hid (X = (7, S)) := Lib.hid (by rw [HX4.out, if_pos hfull])
              clear HX4
              go_wp2_with fail
              go_ret
              rw [HX5.out]
              exact ⟨rfl, O, (HD1.out.ext HE2.out).more (Nat.le_succ n), DkTo.ext (HE1.out.trans HE2.out) HD.out.low⟩
            · have HX5 : Hid (X = waitS S ⟨119, name, ⟨#[]⟩, at_, b⟩) := Lib.hid (by rw [HX4.out, if_neg hfull])
              have hfit : (U : Int) + G ≤ max S.room 0 := by omega
              have hb47 : b.length ≤ 140737488355328 := by have := H9.out; omega
              clear HX4 hfull
              go_wp2_with fail
              refine (clone8 _ b w2 (HBV.out.ext (HE1.out.trans HE2.out)) hb47).mono ?_
              rintro e w3 ⟨cv, rfl, hcv, hE3⟩
              obtain ⟨x1, x3, rfl⟩ := own_shapeL hcv
              have hE03 : Ext w0 w3 := HE1.out.trans (HE2.out.trans hE3)
              have hfr := From.own hcv
              have hrd := Rd.of_own hcv
              have hof : OffL _ (u8s b) (O ++ F) := hfr.off fun t ht => Nat.lt_of_lt_of_le ((List.mem_append.1 ht).elim (HD.out.low t) (HD.out.lowF t)) (HE1.out.trans HE2.out).size
              have HE03 := Lib.hid hE03; have HRD := Lib.hid hrd; have HOF := Lib.hid hof; have HE3 := Lib.hid hE3
              clear hE03 hfr hrd hof hcv hE3
              go_wp2_with fail
              refine (wait_c d n M O F S ⟨119, name, ⟨#[]⟩, at_, b⟩ _ w3 ((HD1.out.ext HE2.out).ext HE3.out) hn hwl ⟨hname, Nat.zero_le _, H9.out.2.1, fun _ => H9.out.1, (show at_ ≤ 9223372036854775807 by have := H9.out; omega), HB8.out⟩ HRD.out HOF.out hM).mono ?_
              rintro e w4 ⟨rfl, O', hd4, ht4⟩
              rw [← HX5.out] at hd4 ⊢
              have HD4 := Lib.hid hd4; have HT4 := Lib.hid ((DkTo.ext HE03.out HD.out.low).trans ht4)
              clear hd4 ht4
              go_wp2_with fail
              go_ret
              exact ⟨rfl, O', HD4.out, HT4.out⟩
end Go.Proofs.YtafjjladnghjbaaGreatDoor
