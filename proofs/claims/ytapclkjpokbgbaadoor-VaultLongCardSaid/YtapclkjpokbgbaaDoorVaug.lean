/- tabellionlaw11: VaultLong (printed by wip/gen/vlongm.py). -/
import Derived.Test.YtapclkjpokbgbaaDoorVaua
import Derived.Test.YtapclkjpokbgbaaDoorVauf
set_option linter.unusedSimpArgs false
set_option linter.unusedVariables false
namespace Go.Proofs.YtapclkjpokbgbaaDoor
open Go Go.RowKit Go.Maps

theorem rem5 (a : Int) : ∃ m : Nat, wrap64 ((IntKind.u64.wrap a).tmod 5) = (m : Int) ∧ m < 5 := by
  have h0 : 0 ≤ IntKind.u64.wrap a ∧ IntKind.u64.wrap a < 18446744073709551616 := by
    rw [IntKind.wrap_u64]; omega
  generalize IntKind.u64.wrap a = u at *
  rw [Int.tmod_eq_emod_of_nonneg h0.1]
  obtain ⟨m, hm⟩ := Int.eq_ofNat_of_zero_le (show 0 ≤ u % 5 by omega)
  refine ⟨m, ?_, by omega⟩
  rw [hm]
  exact IntWalk.wrap64_in _ ⟨by omega, by omega⟩
/-- Behind the second put: the text is the long one, or the empty one. -/
def LongFin (w0 w : World) (r d v x : Nat) (b : List Int) (bv : Value) : Prop :=
  ∃ n O S t m cv, n ≤ 10 ∧ RunV w0 w r d v x n O S t t m false false cv ∧ VInv snapN S t ∧ Rd w bv (u8s b) ∧ OffL bv (u8s b) O ∧ t.1.length ≤ 32768 ∧ (t.1 = b ∧ b.length ≤ 32768 ∨ t.1 = [] ∧ 32768 < b.length)
theorem vlong_put (w0 : World) (r d v x n : Nat) (O : List Nat) (S : Dk) (m : Txt) (cv bv : Value) (b : List Int) (w : World) (H : RunV w0 w r d v x n O S ([], true) ([], true) m false false cv) (hn : n ≤ 8) (hV : VInv snapN S ([], true)) (hf : S.fuse = -1) (hu : (usedF S.now : Int) + 32768 ≤ S.room) (hb : Rd w bv (u8s b)) (hbO : OffL bv (u8s b) O) (hb8 : B8 b) (hbl : b.length ≤ 40000) :
    Calls Tryd.prog 21 #[dptr r, bv] w fun e w' => e = .returned (.bool true) ∧ LongFin w0 w' r d v x b bv := by
  by_cases hl : b.length ≤ 32768
  · refine (vrput_c w0 r d v x n O S ([], true) m cv bv b w H (by omega) hV (by omega) hb hbO hb8 hl).mono ?_
    rintro e w' ⟨rfl, hP, h0, O', cv', hO', hF⟩
    rcases hP with ⟨p0, hI, _⟩ | ⟨_, h, _⟩
    · rcases hF with ⟨_, hR⟩ | ⟨h6, _⟩
      · exact ⟨rfl, _, O', _, _, _, cv', by omega, hR, hI, h0, hO', hl, .inl ⟨rfl, hl⟩⟩
      · exact absurd (p0.symm.trans h6) (by decide)
    · exact absurd hf h
  · refine (vrput_long w0 r d v x n O S ([], true) m cv bv b w H hb (by omega) hbl).mono ?_
    rintro e w' ⟨rfl, hE⟩
    exact ⟨rfl, _, O, _, _, _, cv, by omega, H.ext hE, hV, hb.ext hE, hbO, by simp, .inr ⟨rfl, by omega⟩⟩
set_option maxRecDepth 100000 in
set_option maxHeartbeats 4000000 in
/-- VaultLong is true. -/
theorem vaultlong_c (more c : Int) (w : World) (hc0 : 0 ≤ c) (hc1 : c ≤ 255) :
    Calls Tryd.prog 5 #[.int .i64 more, .int .u8 c] w fun e w' => e = .returned (.bool true) ∧ Ext w w' := by
  have HCV := Lib.hid (fun (w : World) (v : Value) (xs : List Int) (h : Rd w v (u8s xs)) => h.convert (P := Tryd.prog) Tryd.underlying36 Tryd.underlying5 Tryd.underlying9)
  obtain ⟨k, hk, hk5⟩ := rem5 more
  obtain ⟨L, hL⟩ : ∃ L, L = 32766 + k := ⟨_, rfl⟩
  have hLi : (32766 : Int) + (k : Int) = (L : Int) := by omega
  have hL1 : 32766 ≤ L := by omega
  have hL2 : L ≤ 32770 := by omega
  have HK := Lib.hid hk; have HLI := Lib.hid hLi
  clear hk hL hLi hk5
  go_enter Tryd.func5, Tryd.ntmps5
  go_wp2_with fail
  refine (awake11_c w).mono ?_
  rintro e w1 ⟨rfl, hE1⟩
  have HE1 := Lib.hid hE1
  clear hE1
  go_wp2_with fail
  refine (vbegin_c w1).mono ?_
  rintro e w3 ⟨r, d, v, x, O, S, cv, rfl, hR3, hI3, hf3, hm3⟩
  have HR3 := Lib.hid hR3; have HI3 := Lib.hid hI3; have HF3 := Lib.hid hf3; have HM3 := Lib.hid hm3
  clear hR3 hI3 hf3 hm3
  go_wp2_with fail
  refine (vrput_c w1 r d v x 1 O S ([], false) ([], false) cv (.slice none 0 0) [] w3 HR3.out (by omega) HI3.out (by rw [HM3.out]; have := HR3.out.vs.dk.usedN; simp; omega) (Rd.nil w3) (fun _ _ _ h => by cases h) (fun _ h => by cases h) (by simp)).mono ?_
  rintro e w4 ⟨rfl, hP4, hF4⟩
  obtain ⟨hI4, hf4, hm4, O4, cv4, hR4⟩ := put_ok HF3.out hP4 hF4
  obtain ⟨S4, hS4⟩ : ∃ S4, S4 = (putV S snapN []).2 := ⟨_, rfl⟩
  rw [← hS4] at hI4 hf4 hm4 hR4
  have HR4 := Lib.hid hR4; have HI4 := Lib.hid hI4; have HM4 := Lib.hid (hm4.trans HM3.out); have HF4 := Lib.hid hf4
  obtain ⟨c0, c1, c2⟩ := hR4.rb.three
  obtain ⟨y0, y1, y2, y3, y4⟩ := Blk.five hR4.xb
  clear hP4 hF4 hI4 hf4 hm4 hR4 hS4 HR3 HI3 HF3 HM3 y0 y2 y3 y4
  go_upto_region 6 with fail
  clear c0 c1 c2 y1
  have hk := HK.out; have hLi := HLI.out
  go_upto_region 7 with (refine wpList_makeN rfl (.tmp 32) (.tmp 32) 36 rfl el8 w4.heap.size .i64 .i64 (L : Int) (L : Int) L rfl rfl rfl rfl (by omega) (by unfold maxLen; omega) (Nat.le_refl _) ?_; intro w5 ho5 hg5)
  rw [made8] at ho5
  clear hk hLi HK HLI
  obtain ⟨G, hG⟩ : ∃ G, G = w4.heap.size := ⟨_, rfl⟩
  rw [← hG] at ho5 ⊢
  have hE5 : Ext w4 w5 := Below.grown (Ext.refl _) hg5 (Nat.le_refl _) (by intro k hk; cases hk)
  obtain ⟨q, hq⟩ : ∃ q, q = L / 2 := ⟨_, rfl⟩
  have hqL : q < L := by omega
  have hq1 : (L : Int) / 2 = (q : Int) := by omega
  obtain ⟨g, hgg, _, hfz, c8⟩ := own_at8 ho5 (by simp) hqL
  injection hgg with hgg
  injection hgg with hgg _ _
  rw [← hgg] at hfz c8
  obtain ⟨z, hz⟩ : ∃ z, z = (List.replicate L (0 : Int)).getD q 0 := ⟨_, rfl⟩
  rw [← hz] at c8
  have ho6 := own_set8 ho5 q c
  have hEx : Ext w4 (w5.setCell ⟨G, q, none⟩ (.int .u8 c)) := ((Chg.ext hE5 : Chg [G] w4 w5).trans (Chg.set G q _ (by simp))).toExt (fun t ht => by simp at ht; omega)
  have HO6 := Lib.hid ho6; have HEX := Lib.hid hEx
  have HG := Lib.hid hG
  clear hz hgg ho5 hg5 hE5 hq ho6 hEx hG
  go_upto_region 8 with fail
  obtain ⟨w6, hw6⟩ : ∃ w6, w6 = w5.setCell ⟨G, q, none⟩ (.int .u8 c) := ⟨_, rfl⟩
  rw [← hw6] at HO6 HEX ⊢
  obtain ⟨B, hB⟩ : ∃ B, B = (List.replicate L (0 : Int)).set q c := ⟨_, rfl⟩
  rw [← hB] at HO6
  have hBl : B.length = L := by rw [hB]; simp
  have HBL := Lib.hid hBl
  have HB8 := Lib.hid (show B8 B from by
    rw [hB]
    intro y hy
    rcases List.mem_or_eq_of_mem_set hy with h | h
    · rw [List.mem_replicate] at h; rw [h.2]; omega
    · rw [h]; omega)
  have HRD := Lib.hid (Rd.of_own HO6.out)
  have HR6 := Lib.hid (HR4.out.ext HEX.out)
  have HOFF := Lib.hid (show OffL (.slice (some ⟨G, 0, none⟩) L L) (u8s B) O4 from fun a n c e hne hm => by
    injection e with e1 _ _
    injection e1 with e1
    have := HR4.out.vs.dk.low _ hm
    rw [← e1] at this
    simp only at this
    have := HG.out
    omega)
  have HU := Lib.hid (show (usedF S4.now : Int) + 32768 ≤ S4.room from by rw [HM4.out]; have := HR4.out.vs.dk.usedN; omega)
  have HPUT := Lib.hid (vlong_put w1 r d v x (1 + 2) O4 S4 ([], true) cv4 _ B w6 HR6.out (by omega) HI4.out HF4.out HU.out HRD.out HOFF.out HB8.out (by rw [hBl]; omega))
  clear hw6 hB hBl c8 hfz hq1 HO6 HEX HR6 HOFF HU HRD HR4 HI4 HM4 HF4 hqL
  go_wp2_with fail
  refine HPUT.out.mono ?_
  rintro e w7 ⟨rfl, n7, O7, S7, t7, m7, cv7, hn7, hR7, hI7, hrd7, hof7, htl, hcase⟩
  have HR7 := Lib.hid hR7; have HI7 := Lib.hid hI7; have HRD7 := Lib.hid hrd7; have HOF7 := Lib.hid hof7; have HTL := Lib.hid htl; have HC := Lib.hid hcase
  obtain ⟨c0, c1, c2⟩ := hR7.rb.three
  clear hR7 hI7 hrd7 hof7 htl hcase HPUT
  go_wp2_with fail
  refine (crash_c d n7 32768 O7 [] S7 [] 0 (.slice none 0 0) w7 HR7.out.vs.dk (by rw [HI7.out.waits]; show n7 + 0 < _; omega) (by omega) (Rd.nil w7) (by omega) (by omega)).mono ?_
  rintro e w8 ⟨rfl, O8, hd8, ht8⟩
  have HV8 := Lib.hid (HI7.out.toVOpn.crash [] 0)
  have HRD8 := Lib.hid (HRD7.out.chgA HOF7.out ht8.1 (fun t ht => .inr (.inl ht))); have HOF8 := Lib.hid (HOF7.out.more HRD7.out ht8.2.1)
  obtain ⟨S8, hS8⟩ : ∃ S8, S8 = crashS S7 [] 0 := ⟨_, rfl⟩
  rw [← hS8] at hd8 HV8
  obtain ⟨n8, hn8⟩ : ∃ n8, n8 = n7 + S7.waits.length := ⟨_, rfl⟩
  rw [← hn8] at hd8
  have hn8b : n8 ≤ 12 := by rw [HI7.out.waits] at hn8; simp at hn8; omega
  have HR8 := Lib.hid (HR7.out.disk hd8 ht8)
  clear hd8 ht8 hS8 hn8 c0 c1 c2 HR7 HI7 HRD7 HOF7
  obtain ⟨ts, hts⟩ : ∃ ts, ts = strOfNums t7.1 := ⟨_, rfl⟩
  obtain ⟨bs, hbs⟩ : ∃ bs, bs = strOfNums B := ⟨_, rfl⟩
  obtain ⟨p, hp1, hp2⟩ : ∃ p : Bool, (ts.toList == bs.toList) = p ∧ decide ((L : Int) ≤ 32768) = p := by
    rw [hts, hbs]
    rcases HC.out with ⟨h1, h2⟩ | ⟨h1, h2⟩
    · refine ⟨true, by rw [h1]; simp, ?_⟩
      rw [HBL.out] at h2
      exact decide_eq_true (by omega)
    · refine ⟨false, ?_, ?_⟩
      · rw [h1, str_beq _ _ (fun _ h => by cases h) HB8.out]
        exact decide_eq_false (fun e => by rw [← e] at h2; simp at h2)
      · rw [HBL.out] at h2
        exact decide_eq_false (by omega)
  have HTS := Lib.hid hts; have HBS := Lib.hid hbs; have HP1 := Lib.hid hp1; have HP2 := Lib.hid hp2
  clear hts hbs hp1 hp2
  obtain ⟨BV, hBV⟩ : ∃ BV : World → Prop, BV = fun w => ∃ v' n' O' S' cv', RunV w1 w r d v' x n' O' S' t7 t7 t7 false false cv' ∧ Rd w (.slice (some ⟨G, 0, none⟩) L L) (u8s B) := ⟨_, rfl⟩
  have HBM := Lib.hid (show ∀ w, BV w ↔ ∃ v' n' O' S' cv', RunV w1 w r d v' x n' O' S' t7 t7 t7 false false cv' ∧ Rd w (.slice (some ⟨G, 0, none⟩) L L) (u8s B) from fun w => by rw [hBV])
  have HBE := Lib.hid (show ∀ w w', Ext w w' → BV w → BV w' from fun w w' hE h => by
    rw [hBV] at h ⊢
    obtain ⟨v', n', O', S', cv', h1, h2⟩ := h
    exact ⟨v', n', O', S', cv', h1.ext hE, h2.ext hE⟩)
  clear hBV
  go_upto_region 11 with fail
  apply Mono.region2 20 1 Ext (fun _ _ => True) [.is _, .rel (fun u w => u = .bool true ∧ BV w), .is _, .is _, .is _, .is _, .is _, .is _, .is _, .is _, .is _, .is _, .is _, .is _, .is _, .is _, .is _, .is _, .is _, .is _] (by kernel_rfl) ⟨fun _ _ _ => trivial, fun _ _ _ => Ext.trans, fun _ _ _ _ _ => trivial⟩ (Ext.refl _) (by kernel_rfl) rfl rfl ⟨fun u w w' h hE => ⟨h.1, HBE.out _ _ (show Ext w w' from hE) h.2⟩, trivial⟩
  focus
    iterate 1 (apply Mono.step_is; (· refine Mono.obl_quiet (by decide) fun w12 hE12 hkn K hK => ?_; clear hE12 hkn; go_wp2_with fail; simp only [Act.put, List.setIfInBounds_toArray, List.set_cons_succ, List.set_cons_zero] at hK; exact hK _ _ (Ext.refl _) (Mono.is_rfl _ _)); simp only [Act.put, List.setIfInBounds_toArray, List.set_cons_succ, List.set_cons_zero])
    refine Mono.step_rel (Mono.obl_loud fun w12 hE12 hkn K hK => ?_) fun v84 => ?_
    · have hE1 := (Ext.drew w8).trans hE12
      have HR12 := Lib.hid (HR8.out.ext hE1); have HRD12 := Lib.hid (HRD8.out.ext hE1)
      clear hE12 hkn hE1
      go_wp2_with fail
      refine (vropen_f w1 r d v x n8 O8 S8 t7 t7 m7 t7 false false cv7 (.slice none 0 0) [] 0 w12 HR12.out HV8.out.1 (.inl rfl) HTL.out (by omega) (Rd.nil w1) (by omega) (by omega) _ B HRD12.out HOF8.out).mono ?_
      rintro e w13 ⟨rfl, ⟨v', n', O', S', bv', _, _, hR13, _⟩, hrd13⟩
      have HBV := Lib.hid ((HBM.out w13).2 ⟨v', n', O', S', bv', hR13, hrd13⟩)
      clear hR13 hrd13
      go_wp2_with fail
      simp only [Act.put, List.setIfInBounds_toArray, List.set_cons_succ, List.set_cons_zero] at hK
      exact hK _ _ trivial (Mono.rel_mk ⟨rfl, HBV.out⟩)
    simp only [Act.put, List.setIfInBounds_toArray, List.set_cons_succ, List.set_cons_zero]
    iterate 1 (apply Mono.step_is; (· refine Mono.obl_quiet (by decide) fun w12 hE12 hkn K hK => ?_; (obtain ⟨rfl, _⟩ := hkn.1 (by kernel_rfl)); clear hE12 hkn; go_wp2_with fail; simp only [Act.put, List.setIfInBounds_toArray, List.set_cons_succ, List.set_cons_zero] at hK; exact hK _ _ (Ext.refl _) (Mono.is_rfl _ _)); simp only [Act.put, List.setIfInBounds_toArray, List.set_cons_succ, List.set_cons_zero])
    iterate 3 (apply Mono.step_is; (· refine Mono.obl_quiet (by decide) fun w12 hE12 hkn K hK => ?_; clear hE12 hkn; go_wp2_with fail; simp only [Act.put, List.setIfInBounds_toArray, List.set_cons_succ, List.set_cons_zero] at hK; exact hK _ _ (Ext.refl _) (Mono.is_rfl _ _)); simp only [Act.put, List.setIfInBounds_toArray, List.set_cons_succ, List.set_cons_zero])
    iterate 1 (apply Mono.step_is; (· refine Mono.obl_quiet (by decide) fun w12 hE12 hkn K hK => ?_; (obtain ⟨rfl, hp⟩ := hkn.1 (by kernel_rfl)); (obtain ⟨v', n', O', S', cv', hR, hrd⟩ := (HBM.out w12).1 hp); (have j2 := hR.rb.three.2.2); clear hp hR hrd; clear hE12 hkn; go_wp2_with fail; simp only [Act.put, List.setIfInBounds_toArray, List.set_cons_succ, List.set_cons_zero] at hK; exact hK _ _ (Ext.refl _) (Mono.is_rfl _ _)); simp only [Act.put, List.setIfInBounds_toArray, List.set_cons_succ, List.set_cons_zero])
    iterate 3 (apply Mono.step_is; (· refine Mono.obl_quiet (by decide) fun w12 hE12 hkn K hK => ?_; clear hE12 hkn; go_wp2_with fail; simp only [Act.put, List.setIfInBounds_toArray, List.set_cons_succ, List.set_cons_zero] at hK; exact hK _ _ (Ext.refl _) (Mono.is_rfl _ _)); simp only [Act.put, List.setIfInBounds_toArray, List.set_cons_succ, List.set_cons_zero])
    iterate 1 (apply Mono.step_is; (· refine Mono.obl_quiet (by decide) fun w12 hE12 hkn K hK => ?_; (obtain ⟨rfl, hp⟩ := hkn.1 (by kernel_rfl)); (obtain ⟨v', n', O', S', cv', hR, hrd⟩ := (HBM.out w12).1 hp); (have j0 := (Blk.five hR.xb).1); (rw [← HTS.out] at j0); clear hp hR hrd; clear hE12 hkn; go_wp2_with fail; simp only [Act.put, List.setIfInBounds_toArray, List.set_cons_succ, List.set_cons_zero] at hK; exact hK _ _ (Ext.refl _) (Mono.is_rfl _ _)); simp only [Act.put, List.setIfInBounds_toArray, List.set_cons_succ, List.set_cons_zero])
    iterate 1 (apply Mono.step_is; (· refine Mono.obl_quiet (by decide) fun w12 hE12 hkn K hK => ?_; clear hE12 hkn; go_wp2_with fail; simp only [Act.put, List.setIfInBounds_toArray, List.set_cons_succ, List.set_cons_zero] at hK; exact hK _ _ (Ext.refl _) (Mono.is_rfl _ _)); simp only [Act.put, List.setIfInBounds_toArray, List.set_cons_succ, List.set_cons_zero])
    iterate 1 (apply Mono.step_is; (· refine Mono.obl_quiet (by decide) fun w12 hE12 hkn K hK => ?_; (obtain ⟨rfl, hp⟩ := hkn.1 (by kernel_rfl)); (obtain ⟨v', n', O', S', cv', hR, hrd⟩ := (HBM.out w12).1 hp); (have jc := HCV.out w12 _ _ hrd); (rw [← HBS.out] at jc); clear hp hR hrd; clear hE12 hkn; go_wp2_with fail; simp only [Act.put, List.setIfInBounds_toArray, List.set_cons_succ, List.set_cons_zero] at hK; exact hK _ _ (Ext.refl _) (Mono.is_rfl _ _)); simp only [Act.put, List.setIfInBounds_toArray, List.set_cons_succ, List.set_cons_zero])
    iterate 1 (apply Mono.step_is; (· refine Mono.obl_quiet (by decide) fun w12 hE12 hkn K hK => ?_; (have hp1 := HP1.out); clear hE12 hkn; go_wp2_with fail; simp only [Act.put, List.setIfInBounds_toArray, List.set_cons_succ, List.set_cons_zero] at hK; exact hK _ _ (Ext.refl _) (Mono.is_rfl _ _)); simp only [Act.put, List.setIfInBounds_toArray, List.set_cons_succ, List.set_cons_zero])
    iterate 2 (apply Mono.step_is; (· refine Mono.obl_quiet (by decide) fun w12 hE12 hkn K hK => ?_; clear hE12 hkn; go_wp2_with fail; simp only [Act.put, List.setIfInBounds_toArray, List.set_cons_succ, List.set_cons_zero] at hK; exact hK _ _ (Ext.refl _) (Mono.is_rfl _ _)); simp only [Act.put, List.setIfInBounds_toArray, List.set_cons_succ, List.set_cons_zero])
    iterate 1 (apply Mono.step_is; (· refine Mono.obl_quiet (by decide) fun w12 hE12 hkn K hK => ?_; (have hp2 := HP2.out); clear hE12 hkn; go_wp2_with fail; simp only [Act.put, List.setIfInBounds_toArray, List.set_cons_succ, List.set_cons_zero] at hK; exact hK _ _ (Ext.refl _) (Mono.is_rfl _ _)); simp only [Act.put, List.setIfInBounds_toArray, List.set_cons_succ, List.set_cons_zero])
    iterate 3 (apply Mono.step_is; (· refine Mono.obl_quiet (by decide) fun w12 hE12 hkn K hK => ?_; clear hE12 hkn; go_wp2_with fail; simp only [Act.put, List.setIfInBounds_toArray, List.set_cons_succ, List.set_cons_zero] at hK; exact hK _ _ (Ext.refl _) (Mono.is_rfl _ _)); simp only [Act.put, List.setIfInBounds_toArray, List.set_cons_succ, List.set_cons_zero])
    refine Mono.step_end fun w12 hE12 hkn => ?_
    simp only [List.drop_succ_cons, List.drop_zero]
    obtain ⟨rfl, hp⟩ := hkn.1
    obtain ⟨v', n', O', S', cv', hR, _⟩ := (HBM.out w12).1 hp
    have HF := Lib.hid (HE1.out.trans hR.vs.old)
    clear hE12 hkn hp hR
    go_wp2_with fail
    go_ret
    exact ⟨rfl, HF.out⟩
end Go.Proofs.YtapclkjpokbgbaaDoor
