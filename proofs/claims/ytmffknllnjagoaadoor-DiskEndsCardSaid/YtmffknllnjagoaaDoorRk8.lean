/- tabellionref08: Sync, Write. -/
import Derived.Test.YtmffknllnjagoaaDoorRk7
set_option linter.unusedSimpArgs false
set_option linter.unusedVariables false
namespace Go.Proofs.YtmffknllnjagoaaDoor
open Go Go.RowKit Go.Maps
open Go.Proofs (encStr)

set_option maxRecDepth 100000 in
set_option maxHeartbeats 1000000 in
theorem rsync_c (r n M : Nat) (O F : List Nat) (S : Dk) (w : World) (h : RkS w r n M O F S) :
    Calls Tryd.prog 40 #[dptr r] w fun e w' => e = .returned (.int .i64 (syncS S).1) ∧ ∃ O', RkS w' r n M O' F (syncS S).2 ∧ DkTo O w w' O' := by
  obtain ⟨X, hX⟩ : ∃ X, X = syncS S := ⟨_, rfl⟩
  rw [← hX]
  obtain ⟨fv, sv, ov, _, _, _, hB, _⟩ := h.turn
  obtain ⟨c0, c1, c2, c3, c4, c5⟩ := hB.rsix
  have HX := Lib.hid hX; have HD := Lib.hid h
  clear hX h hB c0 c1 c2 c3 c4
  go_enter Tryd.func40, Tryd.ntmps40
  cases hoff : S.off with
  | true =>
    have HX2 : Hid (X = (6, S)) := Lib.hid (by rw [HX.out]; simp only [syncS, hoff, if_true])
    rw [hoff] at c5
    clear HX hoff
    go_wp2_with fail
    go_ret
    rw [HX2.out]
    exact ⟨rfl, O, HD.out, DkTo.refl HD.out.lowO⟩
  | false =>
    rw [hoff] at c5
    have HX2 : Hid (X = if S.fuse = 0 then (6, { S with off := true }) else (0, { burnS S with sure := S.now, waits := [] })) := Lib.hid (by rw [HX.out]; simp only [syncS, hoff, Bool.false_eq_true, if_false])
    clear HX hoff
    go_wp2_with fail
    refine (rburn_c r n M O F S w HD.out).mono ?_
    rintro e w1 ⟨rfl, hd1, ht1⟩
    have HT1 := Lib.hid ht1
    clear ht1 c5
    by_cases hz : S.fuse = 0
    · rw [if_pos hz]
      have HX3 : Hid (X = (6, { S with off := true })) := Lib.hid (by rw [HX2.out, if_pos hz])
      have HDz : Hid (RkS w1 r n M O F { S with off := true }) := Lib.hid (by have := hd1; unfold burnS at this; rwa [if_pos hz] at this)
      clear hz HX2 hd1
      go_wp2_with fail
      go_ret
      rw [HX3.out]
      exact ⟨rfl, O, HDz.out, HT1.out⟩
    · rw [if_neg hz]
      obtain ⟨S1, hS1⟩ : ∃ S1, S1 = burnS S := ⟨_, rfl⟩
      have hS1w : S1.now = S.now := by
        rw [hS1]; unfold burnS
        split
        · rfl
        · split <;> rfl
      have HX3 : Hid (X = (0, { S1 with sure := S1.now, waits := [] })) := Lib.hid (by rw [HX2.out, if_neg hz, ← hS1, hS1w])
      rw [← hS1] at hd1
      clear hz HX2 hS1 hS1w
      obtain ⟨fv, sv, ov, cells, hBd, hF1, hF2, hown, hdds, hov⟩ := hd1.body
      obtain ⟨fa, fc, rfl⟩ := hF1.shape
      obtain ⟨c0, c1, c2, c3, c4, c5⟩ := hBd.rsix
      have q1 := hBd.free 1; have q2 := hBd.free 2
      have hg : Chg O w1 ((w1.setCell ⟨r, 1, none⟩ (.slice fa S1.now.length fc)).setCell ⟨r, 2, none⟩ (.slice none 0 0)) := (Chg.set r 1 _ hd1.rO).trans (Chg.set r 2 _ hd1.rO)
      have hnew : ∀ t ∈ r :: (Value.slice none 0 0).ownBlock.toList, t ∈ O ∨ w1.heap.size ≤ t := fun t ht => by
        simp [Value.ownBlock] at ht; subst ht; exact .inl hd1.rO
      have R := hd1.step (S' := { S1 with sure := S1.now, waits := [] }) (n' := n) (ov := .slice none 0 0) (cs := []) hg (by have := (hBd.set 1 (.slice fa S1.now.length fc)).set 2 (.slice none 0 0); simpa [rB] using this) rfl (hF1.step hg hnew) (hF1.step hg hnew) (World.ownsRow_nil _ _ _ _) rfl (by simp [Value.ownBlock])
        hd1.now hd1.now hd1.rnow hd1.rnow hd1.lnow hd1.lnow (by simp) hd1.fuse0 hd1.fuse1 rfl
      have HR := Lib.hid R
      clear R hg hnew hBd hF1 hF2 hown hdds hov hd1 c3 c4 c5
      go_wp2_with fail
      go_ret
      rw [HX3.out]
      exact ⟨rfl, _, HR.out.1, HT1.out.trans HR.out.2⟩
set_option maxRecDepth 100000 in
set_option maxHeartbeats 4000000 in
theorem rwrite_c (r n M : Nat) (O F : List Nat) (S : Dk) (name : ByteArray) (at_ : Int) (b : List Int) (bv : Value) (w : World) (h : RkS w r n M O F S) (hn : n < 800000000) (hwl : S.waits.length < 1000000000) (hM : M ≤ 70368744177664) (hnM : (n + 1) * M ≤ 4611686018427387904)
    (hname : name.size ≤ maxLen) (hat : at_ ≤ 9223372036854775807) (hat0 : -9223372036854775808 ≤ at_) (hbv : Rd w bv (u8s b)) (hb8 : B8 b) (hb1 : 0 ≤ at_ → at_ ≤ 1048576 → at_ + b.length ≤ M) :
    Calls Tryd.prog 36 #[dptr r, .string name, .int .i64 at_, bv] w fun e w' => e = .returned (.int .i64 (writeS S name at_ b).1) ∧ ∃ O', RkS w' r (n + 1) M O' F (writeS S name at_ b).2 ∧ DkTo O w w' O' := by
  obtain ⟨X, hX⟩ : ∃ X, X = writeS S name at_ b := ⟨_, rfl⟩
  rw [← hX]
  obtain ⟨fv, sv, ov, _, _, hF, hB, _⟩ := h.turn
  obtain ⟨c0, c1, c2, c3, c4, c5⟩ := hB.rsix
  obtain ⟨fa, fc, rfl⟩ := hF.shape
  obtain ⟨ba, bc, rfl, hbc1, hbc2, -⟩ := hbv.open
  have HX := Lib.hid hX; have HD := Lib.hid h; have HF := Lib.hid hF; have HB := Lib.hid hB; have HBV := Lib.hid hbv; have HB8 := Lib.hid hb8; have HB1 := Lib.hid hb1; have HNM := Lib.hid hnM
  clear hX h hB hF c0 c1 c2 c4 hbv hb8 hb1 hnM
  go_enter Tryd.func36, Tryd.ntmps36
  cases hoff : S.off with
  | true =>
    have HX2 : Hid (X = (6, S)) := Lib.hid (by rw [HX.out]; simp only [writeS, hoff, if_true])
    rw [hoff] at c5
    clear HX hoff
    go_wp2_with fail
    go_ret
    rw [HX2.out]
    exact ⟨rfl, O, HD.out.more (Nat.le_succ n), DkTo.refl HD.out.lowO⟩
  | false =>
    have HX2 : Hid (X = (if !namedB name then (1, S) else if at_ < 0 ∨ 1048576 < at_ then (9, S)
      else if max S.room 0 < usedF S.now + growsB S.now name at_ b then (7, S) else waitS S ⟨119, name, ⟨#[]⟩, at_, b⟩)) := Lib.hid (by rw [HX.out]; simp only [writeS, hoff, Bool.false_eq_true, if_false])
    rw [hoff] at c5
    clear HX hoff
    go_wp2_with fail
    refine (rnamed_c name w).mono ?_
    rintro e w1 ⟨rfl, hE1⟩
    have HE1 := Lib.hid hE1
    clear hE1 c3 c5
    cases hnm : namedB name with
    | false =>
      have HX3 : Hid (X = (1, S)) := Lib.hid (by rw [HX2.out, hnm]; rfl)
      clear HX2 hnm
      go_wp2_with fail
      go_ret
      rw [HX3.out]
      exact ⟨rfl, O, (HD.out.ext HE1.out).more (Nat.le_succ n), DkTo.ext HE1.out HD.out.lowO⟩
    | true =>
      have HX3 : Hid (X = (if at_ < 0 ∨ 1048576 < at_ then (9, S)
        else if max S.room 0 < usedF S.now + growsB S.now name at_ b then (7, S) else waitS S ⟨119, name, ⟨#[]⟩, at_, b⟩)) := Lib.hid (by rw [HX2.out, hnm]; rfl)
      clear HX2 hnm
      by_cases hneg : at_ < 0
      · have HX4 : Hid (X = (9, S)) := Lib.hid (by rw [HX3.out, if_pos (.inl hneg)])
        clear HX3
        go_wp2_with fail
        go_ret
        rw [HX4.out]
        exact ⟨rfl, O, (HD.out.ext HE1.out).more (Nat.le_succ n), DkTo.ext HE1.out HD.out.lowO⟩
      · by_cases hbig : 1048576 < at_
        · have HX4 : Hid (X = (9, S)) := Lib.hid (by rw [HX3.out, if_pos (.inr hbig)])
          have hnn : 0 ≤ at_ := by omega
          clear HX3 hneg
          go_wp2_with fail
          go_ret
          rw [HX4.out]
          exact ⟨rfl, O, (HD.out.ext HE1.out).more (Nat.le_succ n), DkTo.ext HE1.out HD.out.lowO⟩
        · have hnn : 0 ≤ at_ := by omega
          have hle : at_ ≤ 1048576 := by omega
          have HX4 : Hid (X = (if max S.room 0 < usedF S.now + growsB S.now name at_ b then (7, S) else waitS S ⟨119, name, ⟨#[]⟩, at_, b⟩)) := Lib.hid (by rw [HX3.out, if_neg (by omega)])
          have hbl := HB1.out hnn hle
          have hbM : b.length ≤ M := by omega
          have HOK : Hid (DdOk M ⟨119, name, ⟨#[]⟩, at_, b⟩) := Lib.hid ⟨hname, Nat.zero_le _, hnn, fun _ => hbl, hat, HB8.out⟩
          clear HX3 hneg hbig HB1
          have hem := (EmpR.new w1 (Nat.le_refl _)).2
          have hrd1 := (HBV.out.ext HE1.out).ext (Ext.alloc w1 (.cells #[] 5))
          have HEM := Lib.hid hem; have HRD1 := Lib.hid hrd1
          clear hem hrd1
          go_upto_region 8 with (at_builtin; refine wpList_append_rd rfl (.tmp 25) (.tmp 26) _ rfl el8 w1.heap.size (.slice (some ⟨w1.heap.size, 0, none⟩) 0 0) 0 [] (u8s b) rfl HEM.out _ rfl HRD1.out (u8s_one _) (by rw [u8s_len]; omega) (by rw [u8s_len]; unfold maxLen; omega) (Ext.alloc w1 (.cells #[] 5)).size ?_; intro v5 w5 g1 g2; rw [List.nil_append, Nat.zero_add, u8s_len] at g1; obtain ⟨va, vc, rfl⟩ := own_shapeL g1; have hE5 : Ext w1 w5 := Below.grown (Ext.alloc w1 (.cells #[] 5)) g2 (Ext.alloc w1 (.cells #[] 5)).size (own_from HEM.out))
          have hE6 : Ext w1 (w5.alloc (.cells #[.int .i64 1, .string name, .string ⟨#[]⟩, .int .i64 at_, .slice va b.length vc] 83)) := hE5.trans (Ext.alloc _ _)
          have hop : Blk (w5.alloc (.cells #[.int .i64 1, .string name, .string ⟨#[]⟩, .int .i64 at_, .slice va b.length vc] 83)) w5.heap.size #[.int .i64 1, .string name, .string ⟨#[]⟩, .int .i64 at_, .slice va b.length vc] 83 := Blk.new _ _ _
          obtain ⟨pb, hpb⟩ : ∃ pb, pb = w5.heap.size := ⟨_, rfl⟩
          rw [← hpb] at hop ⊢
          have hown6 := own_ext g1 (Ext.alloc w5 (.cells #[.int .i64 1, .string name, .string ⟨#[]⟩, .int .i64 at_, .slice va b.length vc] 83))
          revert hE6 hop hown6
          generalize w5.alloc (.cells #[.int .i64 1, .string name, .string ⟨#[]⟩, .int .i64 at_, .slice va b.length vc] 83) = w6
          intro hE6 hop hown6
          have hEw : Ext w w6 := HE1.out.trans hE6
          have hB6 := HB.out.ext hEw
          have c0 : w6.cell? ⟨r, 0, none⟩ = some (.slice fa S.now.length fc) := hB6.cell 0 rfl
          have c3 : w6.cell? ⟨r, 3, none⟩ = some (.int .i64 S.room) := hB6.cell 3 rfl
          have e0 : w6.cell? ⟨pb, 0, none⟩ = some (.int .i64 1) := hop.cell 0 rfl
          have e1 : w6.cell? ⟨pb, 1, none⟩ = some (.string name) := hop.cell 1 rfl
          have e2 : w6.cell? ⟨pb, 2, none⟩ = some (.string ⟨#[]⟩) := hop.cell 2 rfl
          have e3 : w6.cell? ⟨pb, 3, none⟩ = some (.int .i64 at_) := hop.cell 3 rfl
          have e4 : w6.cell? ⟨pb, 4, none⟩ = some (.slice va b.length vc) := hop.cell 4 rfl
          obtain ⟨hru, hou⟩ := own_ownRd hown6 (A := O ++ F) (fun t ht => Nat.lt_of_lt_of_le (by
            rcases List.mem_append.1 ht with ht | ht
            · exact HD.out.lowO t ht
            · exact HD.out.lowF t ht) HE1.out.size)
          obtain ⟨U, hU⟩ : ∃ U, U = usedF (doF ⟨119, name, ⟨#[]⟩, at_, b⟩ S.now) := ⟨_, rfl⟩
          have hUe : (U : Int) = usedF S.now + growsB S.now name at_ b := by rw [hU]; exact usedF_write S.now name ⟨#[]⟩ at_ b HD.out.rnow hnn
          have hlen : (doF ⟨119, name, ⟨#[]⟩, at_, b⟩ S.now).length ≤ n + 1 := Nat.le_trans (length_doF _ _) (by have := HD.out.lnow; omega)
          have hUb : U ≤ 4611686018427387904 := by
            rw [hU]; exact Nat.le_trans (usedF_le hlen (HD.out.now.do HOK.out)) HNM.out
          have HX5 : Hid (X = (if max S.room 0 < (U : Int) then (7, S) else waitS S ⟨119, name, ⟨#[]⟩, at_, b⟩)) := Lib.hid (by rw [HX4.out, hUe])
          have HEW := Lib.hid hEw; have HRU := Lib.hid hru; have HOU := Lib.hid hou; have HU := Lib.hid hU; have HLEN := Lib.hid hlen; have HOP := Lib.hid hop
          have hr0 := HD.out.room0; have hr1 := HD.out.room1
          clear hE6 hop hown6 hEw hB6 hru hou hU hUe hlen HX4 HEM HRD1 g1 g2 hE5 hpb
          apply Mono.region1 12 Ext [.is _, .is _, .is _, .is _, .is _, .rel (fun v w' => RFv w' (O ++ F) v (doF ⟨119, name, ⟨#[]⟩, at_, b⟩ S.now)), .is (.int .i64 (U : Int)), .is _, .is _, .is _, .is _, .is _] (by kernel_rfl) Ext.refl (fun _ _ _ => Ext.trans) (by kernel_rfl) rfl rfl ⟨fun v wa wb hv hE => hv.ext hE, trivial⟩
          focus
            iterate 5 (apply Mono.step_is; (· refine Mono.obl_mk fun w3 hE3 _ K hK => ?_; (replace c0 := hE3.cell (show w6.drew.cell? _ = _ from c0)); (replace e0 := hE3.cell (show w6.drew.cell? _ = _ from e0)); (replace e1 := hE3.cell (show w6.drew.cell? _ = _ from e1)); (replace e2 := hE3.cell (show w6.drew.cell? _ = _ from e2)); (replace e3 := hE3.cell (show w6.drew.cell? _ = _ from e3)); (replace e4 := hE3.cell (show w6.drew.cell? _ = _ from e4)); clear hE3; go_wp2_with fail; simp only [Act.put, List.setIfInBounds_toArray, List.set_cons_succ, List.set_cons_zero] at hK; exact hK _ _ (Ext.refl _) (Mono.is_rfl _ _)); simp only [Act.put, List.setIfInBounds_toArray, List.set_cons_succ, List.set_cons_zero])
            refine Mono.step_rel (Mono.obl_mk fun w3 hE3 _ K hK => ?_) fun v34 => ?_
            · have hE3' : Ext w6 w3 := (Ext.drew _).trans hE3
              have hdo := rdo_c (O ++ F) (.slice fa S.now.length fc) S.now ⟨119, name, ⟨#[]⟩, at_, b⟩ M (.slice va b.length vc) w3 (HF.out.ext (HEW.out.trans hE3')) (by have := HD.out.lnow; omega) HD.out.rnow (fun t ht => Nat.lt_of_lt_of_le (by
                rcases List.mem_append.1 ht with ht | ht
                · exact HD.out.lowO t ht
                · exact HD.out.lowF t ht) (HEW.out.trans hE3').size) HOK.out (HRU.out.ext hE3') HD.out.now hM (.inl rfl)
              rw [rC_1] at hdo
              have HDO := Lib.hid hdo
              clear hdo
              go_wp2_with fail
              refine HDO.out.mono ?_
              rintro en w4 ⟨v4, rfl, hf4, hE4⟩
              go_wp2_with fail
              simp only [Act.put, List.setIfInBounds_toArray, List.set_cons_succ, List.set_cons_zero] at hK
              exact hK _ _ hE4 (Mono.rel_mk hf4)
            simp only [Act.put, List.setIfInBounds_toArray, List.set_cons_succ, List.set_cons_zero]
            apply Mono.step_is
            · refine Mono.obl_mk fun w3 hE3 hkn K hK => ?_
              have hf9 := hkn.1 (by kernel_rfl)
              have HF9 := Lib.hid hf9
              clear hf9
              go_wp2_with fail
              refine (rused_c (O ++ F) v34 _ w3 HF9.out (by have := HLEN.out; omega) (by rw [← HU.out]; exact hUb)).mono ?_
              rintro en w4 ⟨rfl, rfl⟩
              rw [← HU.out]
              go_wp2_with fail
              simp only [Act.put, List.setIfInBounds_toArray, List.set_cons_succ, List.set_cons_zero] at hK
              exact hK _ _ (Ext.refl _) (Mono.is_rfl _ _)
            simp only [Act.put, List.setIfInBounds_toArray, List.set_cons_succ, List.set_cons_zero]
            iterate 5 (apply Mono.step_is; (· refine Mono.obl_mk fun w3 hE3 _ K hK => ?_; (replace c3 := hE3.cell (show w6.drew.cell? _ = _ from c3)); clear hE3; go_wp2_with fail; simp only [Act.put, List.setIfInBounds_toArray, List.set_cons_succ, List.set_cons_zero] at hK; exact hK _ _ (Ext.refl _) (Mono.is_rfl _ _)); simp only [Act.put, List.setIfInBounds_toArray, List.set_cons_succ, List.set_cons_zero])
            refine Mono.step_end fun w9 hE9 hkn => ?_
            simp only [List.drop_succ_cons, List.drop_zero]
            have hE9' : Ext w6 w9 := (Ext.drew _).trans hE9
            replace e0 := hE9'.cell e0; replace e1 := hE9'.cell e1; replace e2 := hE9'.cell e2; replace e3 := hE9'.cell e3; replace e4 := hE9'.cell e4
            have HE9 := Lib.hid hE9'
            clear hE9 hE9' c0 c3 hkn
            by_cases hfull : max S.room 0 < (U : Int)
            · have HX6 : Hid (X = (7, S)) := Lib.hid (by rw [HX5.out, if_pos hfull])
              clear HX5
              go_wp2_with fail
              go_ret
              rw [HX6.out]
              exact ⟨rfl, O, (HD.out.ext (HEW.out.trans HE9.out)).more (Nat.le_succ n), DkTo.ext (HEW.out.trans HE9.out) HD.out.lowO⟩
            · have HX6 : Hid (X = waitS S ⟨119, name, ⟨#[]⟩, at_, b⟩) := Lib.hid (by rw [HX5.out, if_neg hfull])
              have hle2 : (U : Int) ≤ max S.room 0 := by omega
              clear HX5 hfull
              have htry := rtry_c r n M O F S ⟨119, name, ⟨#[]⟩, at_, b⟩ (.slice va b.length vc) w9 (HD.out.ext (HEW.out.trans HE9.out)) hn hwl HOK.out (.inl rfl) (HRU.out.ext HE9.out) HOU.out hM
              rw [rC_1] at htry
              have HTRY := Lib.hid htry
              clear htry
              go_wp2_with fail
              refine HTRY.out.mono ?_
              rintro e w4 ⟨rfl, O', hd4, ht4⟩
              rw [← HX6.out] at hd4 ⊢
              have HD4 := Lib.hid hd4; have HT4 := Lib.hid ht4
              clear hd4 ht4
              go_wp2_with fail
              go_ret
              exact ⟨rfl, O', HD4.out, (DkTo.ext (HEW.out.trans HE9.out) HD.out.lowO).trans HT4.out⟩
end Go.Proofs.YtmffknllnjagoaaDoor
