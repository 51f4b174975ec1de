/- tabellionlaw11: run.open. -/
import Derived.Test.YtapclkjpokbgbaaDoorVaub
set_option linter.unusedSimpArgs false
set_option linter.unusedVariables false
namespace Go.Proofs.YtapclkjpokbgbaaDoor
open Go Go.RowKit Go.Maps

/-- What an opening of a run leaves. -/
def OpnFin (w0 w : World) (r d v x n : Nat) (room fuse : Int) (q : Txt) : Prop :=
  ∃ v' n' O' S' bv', n' ≤ n ∧ v' ≠ v ∧ RunV w0 w r d v' x n' O' S' q q q false false bv' ∧ VInv snapN S' q ∧ S'.room = room ∧ (fuse = -1 → S'.fuse = -1)
set_option maxRecDepth 100000 in
set_option maxHeartbeats 4000000 in
/-- A run's vault is opened anew, on a disk where nothing waits. -/
theorem vropen_c (w0 : World) (r d v x n : Nat) (O : List Nat) (S : Dk) (tv ti m q : Txt) (vov ov : Bool) (bv kv : Value) (keep : List Bool) (torn : Int) (w : World) (H : RunV w0 w r d v x n O S tv ti m vov ov bv) (hV : VOpn snapN S q) (hq : q = ti ∨ q = m) (hql : q.1.length ≤ 32768) (hn : n ≤ 1000)
    (hkv : Rd w0 kv (keep.map Value.bool)) (ht0 : -9223372036854775808 ≤ torn) (ht1 : torn ≤ 9223372036854775807) :
    Calls Tryd.prog 23 #[dptr r, kv, .int .i64 torn] w fun e w' => e = .returned (.bool true) ∧ OpnFin w0 w' r d v x (n + 4) S.room S.fuse q := by
  have HH := Lib.hid H; have HV := Lib.hid hV; have HQ := Lib.hid hq; have HKV := Lib.hid hkv
  have hvl : v < w.heap.size := Blk.lt H.vs.vb
  obtain ⟨rm, hrm⟩ : ∃ rm, rm = S.room := ⟨_, rfl⟩
  obtain ⟨fu, hfu⟩ : ∃ fu, fu = S.fuse := ⟨_, rfl⟩
  rw [← hrm, ← hfu]
  have HRM := Lib.hid hrm.symm; have HFU := Lib.hid hfu.symm
  obtain ⟨ka, kl, kc, rfl⟩ := hkv.shape
  clear H hV hq hkv hrm hfu
  go_enter Tryd.func23, Tryd.ntmps23
  go_wp2_with fail
  go_loopg [7, 8, 9] 2 (fun g v7 v8 v9 wr => ∃ (i n' : Nat) (O' : List Nat) (S' : Dk), v7 = .int .i64 (i : Int) ∧ i + g = 2 ∧ 1 ≤ g ∧ n' ≤ n + 2 * i ∧ RunV w0 wr r d v x n' O' S' tv ti m vov ov bv ∧ VOpn snapN S' q ∧ S'.room = rm ∧ (fu = -1 → S'.fuse = -1) ∧ (i = 1 → S'.fuse = -1) ∧ v < wr.heap.size)
  case atStart => exact ⟨0, n, O, S, rfl, rfl, by omega, by omega, HH.out, HV.out, HRM.out, fun e => by rw [HFU.out]; exact e, by omega, hvl⟩
  case round =>
    obtain ⟨i, n1, O1, S1, rfl, hi, hg1, hn1, hR1, hV1, hr1, hf1, hfi, hvr⟩ := hrel
    have HR1 := Lib.hid hR1; have HV1 := Lib.hid hV1; have HRM1 := Lib.hid hr1; have HF1 := Lib.hid hf1; have HFI := Lib.hid hfi
    have hi8 : (i : Int) < 8 := by omega
    have HOP := Lib.hid (vopen_s w0 d n1 O1 S1 snapN q wr hR1.vs.dk (by omega) snap4 hV1 hql hR1.vs.old hR1.vs.newO)
    obtain ⟨c0, c1, c2⟩ := hR1.rb.three
    clear hR1 hV1 hr1 hf1 hfi HH HV
    go_wp2_with fail
    refine HOP.out.mono ?_
    rintro e w1 ⟨hO, hE1, O2, ht2, hd2, hnO2, h⟩
    obtain ⟨X, hX⟩ : ∃ X, X = openV S1 snapN := ⟨_, rfl⟩
    rw [← hX] at hO hd2 h
    clear hX HOP
    obtain ⟨X1, S2⟩ := X
    dsimp only at hO hd2 h
    have HR2 := Lib.hid (HR1.out.disk hd2 ht2)
    have HT2 := Lib.hid ht2
    rcases hO with ⟨rfl, hI2, hr2, hf2, _⟩ | ⟨rfl, hf2, hoff, hwl, hcr⟩
    · rcases h with ⟨h6, _⟩ | ⟨_, v', bv', rfl, hvn, hVS⟩
      · exact absurd h6 (by decide)
      have HI2 := Lib.hid hI2; have HVS := Lib.hid hVS
      have HRM2 := Lib.hid (show S2.room = rm from hr2.trans HRM1.out); have HF2 := Lib.hid (show fu = -1 → S2.fuse = -1 from fun e => hf2 (HF1.out e))
      have hv'v : v' ≠ v := by omega
      have hv'r : v' ≠ r := by have := HR1.out.rb.lt; omega
      have hv'x : v' ≠ x := by have := Blk.lt HR1.out.xb; omega
      obtain ⟨c0, c1, c2⟩ := HR2.out.rb.three
      clear hI2 hVS hr2 hf2 hvn hd2 ht2 hE1 hnO2 HT2
      go_upto_region 9 with fail
      apply Mono.region1 16 Ext [.is _, .is _, .is _, .is _, .is _, .is _, .is _, .is _, .is _, .is _, .is _, .is _, .is _, .is _, .is _, .is _] (by kernel_rfl) Ext.refl (fun _ _ _ => Ext.trans) (by kernel_rfl) rfl rfl trivial
      focus
        iterate 12 (apply Mono.step_is; (· refine Mono.obl_mk fun w5 hE5 _ K hK => ?_; (have j2 := hE5.cell (show w1.drew.cell? _ = _ from c2)); clear hE5; go_wp2_with fail; simp only [Act.put, List.setIfInBounds_toArray, List.set_cons_succ, List.set_cons_zero] at hK; exact hK _ _ (Ext.refl _) (Mono.is_rfl _ _)); simp only [Act.put, List.setIfInBounds_toArray, List.set_cons_succ, List.set_cons_zero])
        apply Mono.step_is
        · refine Mono.obl_mk fun w5 hE5 _ K hK => ?_
          have HVS5 := Lib.hid (HVS.out.ext ((Ext.drew _).trans hE5))
          clear hE5
          go_wp2_with fail
          refine (text_c v' d snapN bv' q.1 q.2 false w5 HVS5.out.vb HVS5.out.rd (by omega)).mono ?_
          rintro e w6 ⟨rfl, hE6⟩
          go_wp2_with fail
          simp only [Act.put, List.setIfInBounds_toArray, List.set_cons_succ, List.set_cons_zero] at hK
          exact hK _ _ hE6 (Mono.is_rfl _ _)
        simp only [Act.put, List.setIfInBounds_toArray, List.set_cons_succ, List.set_cons_zero]
        apply Mono.step_is
        · refine Mono.obl_mk fun w5 hE5 _ K hK => ?_
          have HX5 := Lib.hid (Blk.ext HR2.out.xb ((Ext.drew _).trans hE5))
          clear hE5
          go_wp2_with fail
          refine (vfits_c x ti m q ov w5 HX5.out HQ.out).mono ?_
          rintro e w6 ⟨rfl, hE6⟩
          go_wp2_with fail
          simp only [Act.put, List.setIfInBounds_toArray, List.set_cons_succ, List.set_cons_zero] at hK
          exact hK _ _ hE6 (Mono.is_rfl _ _)
        simp only [Act.put, List.setIfInBounds_toArray, List.set_cons_succ, List.set_cons_zero]
        iterate 2 (apply Mono.step_is; (· refine Mono.obl_mk fun w5 hE5 _ K hK => ?_; clear hE5; go_wp2_with fail; simp only [Act.put, List.setIfInBounds_toArray, List.set_cons_succ, List.set_cons_zero] at hK; exact hK _ _ (Ext.refl _) (Mono.is_rfl _ _)); simp only [Act.put, List.setIfInBounds_toArray, List.set_cons_succ, List.set_cons_zero])
        refine Mono.step_end fun w5 hE5 hkn => ?_
        simp only [List.drop_succ_cons, List.drop_zero]
        clear hkn
        have hE15 := (Ext.drew w1).trans hE5
        have HR5 := Lib.hid (HR2.out.ext hE15); have HVS5 := Lib.hid (HVS.out.ext hE15)
        replace c1 := hE15.cell c1
        have hfz := HR5.out.rb.free 1
        clear hE5 hE15 c0 c2 HR2 HVS
        go_upto_region 12 with fail
        have hT6 := HR5.out.turn HVS5.out hv'r hv'x
        obtain ⟨w6, hw6⟩ : ∃ w6, w6 = w5.setCell ⟨r, 1, none⟩ (dptr v') := ⟨_, rfl⟩
        rw [← hw6] at hT6
        rw [show w5.setCell ⟨r, 1, none⟩ (.pointer (some ⟨v', 0, none⟩)) = w6 from hw6.symm]
        have HT6 := Lib.hid hT6
        obtain ⟨e0, e1, e2⟩ := hT6.rb.three
        clear hw6 hT6 hfz c1 e0 e1 HR5 HVS5
        apply Mono.region1 6 Ext [.is _, .is _, .is _, .is _, .is _, .is _] (by kernel_rfl) Ext.refl (fun _ _ _ => Ext.trans) (by kernel_rfl) rfl rfl trivial
        focus
          iterate 5 (apply Mono.step_is; (· refine Mono.obl_mk fun w7 hE7 _ K hK => ?_; (have j2 := hE7.cell (show w6.drew.cell? _ = _ from e2)); clear hE7; go_wp2_with fail; simp only [Act.put, List.setIfInBounds_toArray, List.set_cons_succ, List.set_cons_zero] at hK; exact hK _ _ (Ext.refl _) (Mono.is_rfl _ _)); simp only [Act.put, List.setIfInBounds_toArray, List.set_cons_succ, List.set_cons_zero])
          apply Mono.step_is
          · refine Mono.obl_mk fun w7 hE7 _ K hK => ?_
            have HVS7 := Lib.hid (HT6.out.vs.ext ((Ext.drew _).trans hE7))
            clear hE7
            go_wp2_with fail
            refine (text_c v' d snapN bv' q.1 q.2 false w7 HVS7.out.vb HVS7.out.rd (by omega)).mono ?_
            rintro e w8 ⟨rfl, hE8⟩
            go_wp2_with fail
            simp only [Act.put, List.setIfInBounds_toArray, List.set_cons_succ, List.set_cons_zero] at hK
            exact hK _ _ hE8 (Mono.is_rfl _ _)
          simp only [Act.put, List.setIfInBounds_toArray, List.set_cons_succ, List.set_cons_zero]
          refine Mono.step_end fun w7 hE7 hkn => ?_
          simp only [List.drop_succ_cons, List.drop_zero]
          clear hkn
          have HT7 := Lib.hid (HT6.out.ext ((Ext.drew w6).trans hE7))
          clear hE7 e2 HT6
          go_wp2_with fail
          refine (vtook_c x ti m q ov w7 HT7.out.xb).mono ?_
          rintro e w8 ⟨rfl, hx8, hg8⟩
          have HF := Lib.hid (HT7.out.ref hx8 hg8)
          clear hx8 hg8
          go_wp2_with fail
          go_ret
          exact ⟨rfl, v', n1 + 1, O2, S2, bv', by omega, hv'v, HF.out, HI2.out, HRM2.out, HF2.out⟩
    · rcases h with ⟨_, rfl⟩ | ⟨h0, _⟩
      rotate_left
      · exact absurd h0 (by decide)
      have hi0 : i = 0 := by
        rcases Nat.lt_or_ge i 1 with h | h
        · omega
        · exact absurd (HFI.out (by omega)) hf2
      have hcr' := hcr keep torn
      have hfu1 : fu ≠ -1 := fun e => hf2 (HF1.out e)
      have HCR := Lib.hid hcr'; have HOF := Lib.hid hoff; have HFU1 := Lib.hid hfu1; have HE1 := Lib.hid hE1
      have hv1 : v < w1.heap.size := Nat.lt_of_lt_of_le hvr HT2.out.1.size
      obtain ⟨c0, c1, c2⟩ := HR2.out.rb.three
      clear hcr hcr' hoff hfu1 hf2 hd2 ht2 hE1 hnO2 HT2 hvr
      go_wp2_with fail
      refine (down_c d (n1 + 1) 32768 O2 [] S2 w1 HR2.out.vs.dk).mono ?_
      rintro e w2 ⟨rfl, rfl⟩
      rw [HOF.out]
      go_wp2_with fail
      refine (crash_c d (n1 + 1) 32768 O2 [] S2 keep torn (.slice ka kl kc) w2 HR2.out.vs.dk (by omega) (by omega) (HKV.out.ext HE1.out) (by omega) (by omega)).mono ?_
      rintro e w3 ⟨rfl, O3, hd3, ht3⟩
      have HR3 := Lib.hid (HR2.out.disk hd3 ht3)
      have hv3 : v < w3.heap.size := Nat.lt_of_lt_of_le hv1 ht3.1.size
      obtain ⟨S3, hS3⟩ : ∃ S3, S3 = crashS S2 keep torn := ⟨_, rfl⟩
      rw [← hS3] at HR3 HCR
      clear hd3 ht3 c0 c1 c2 hv1 hS3
      go_wp2_with fail
      go_roundg 1
      case measure => omega
      case rel =>
        subst hi0
        exact ⟨1, _, O3, S3, by go_num, rfl, Nat.le_refl _, by omega, HR3.out, HCR.out.1, HCR.out.2.2.trans HRM1.out, fun e => absurd e HFU1.out, fun _ => HCR.out.2.1, hv3⟩
end Go.Proofs.YtapclkjpokbgbaaDoor
