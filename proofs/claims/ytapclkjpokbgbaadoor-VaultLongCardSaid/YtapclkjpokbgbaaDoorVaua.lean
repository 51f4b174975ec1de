/- tabellionlaw11: VaultAll (printed by wip/gen/vall.py). -/
import Derived.Test.YtapclkjpokbgbaaDoorBun2
set_option linter.unusedSimpArgs false
set_option linter.unusedVariables false
namespace Go.Proofs.YtapclkjpokbgbaaDoor
open Go Go.RowKit Go.Maps

/-- A run behind a put: what a crash leaves has one of its two texts. -/
def Torn (wb w : World) (r d v x : Nat) (keep : List Bool) (torn : Int) (X2 : Dk) : Prop :=
  ∃ n O ti m vov ov cv q, n ≤ 5 ∧ RunV wb w r d v x n O X2 ti ti m vov ov cv ∧ X2.waits.length ≤ 1 ∧ (q = ti ∨ q = m) ∧ q.1.length ≤ 32768 ∧ VOpn snapN (crashS X2 keep torn) q ∧ (crashS X2 keep torn).room = 1073741824
theorem put_torn {wb w : World} {r d v x n : Nat} {S : Dk} {t : Txt} {b : List Int} {bv : Value} {X : Int × Dk} (keep : List Bool) (torn : Int) (hn : n ≤ 3) (ht : t.1.length ≤ 32768) (hb : b.length ≤ 32768) (hr : S.room = 1073741824) (hP : PutOut snapN S t b X) (hF : PutFin wb w r d v x n t b bv X) : Torn wb w r d v x keep torn X.2 := by
  obtain ⟨_, O', cv, _, hF⟩ := hF
  rcases hF with ⟨h0, hR⟩ | ⟨h6, hR⟩
  · rcases hP with ⟨_, hI, hr', _⟩ | ⟨h6, _⟩
    · have hc := hI.toVOpn.crash keep torn
      exact ⟨n + 2, O', (b, true), (b, true), false, false, cv, (b, true), by omega, hR, by rw [hI.waits]; simp, .inl rfl, hb, hc.1, hc.2.2.trans (hr'.trans hr)⟩
    · exact absurd (h0.symm.trans h6) (by decide)
  · rcases hP with ⟨h0, _⟩ | ⟨_, _, _, hw, hc⟩
    · exact absurd (h0.symm.trans h6) (by decide)
    · obtain ⟨q, hq, hV, _, hr'⟩ := hc keep torn
      refine ⟨n + 2, O', t, (b, true), true, true, cv, q, by omega, hR, hw, hq, ?_, hV, hr'.trans hr⟩
      rcases hq with rfl | rfl
      · exact ht
      · exact hb
theorem put_ok {wb w : World} {r d v x n : Nat} {S : Dk} {t : Txt} {b : List Int} {bv : Value} {X : Int × Dk} (hf : S.fuse = -1) (hP : PutOut snapN S t b X) (hF : PutFin wb w r d v x n t b bv X) :
    VInv snapN X.2 (b, true) ∧ X.2.fuse = -1 ∧ X.2.room = S.room ∧ ∃ O' cv, RunV wb w r d v x (n + 2) O' X.2 (b, true) (b, true) (b, true) false false cv := by
  rcases hP with ⟨h0, hI, hr, hf', _⟩ | ⟨_, h, _⟩
  · obtain ⟨_, O', cv, _, hF⟩ := hF
    rcases hF with ⟨_, hR⟩ | ⟨h6, _⟩
    · exact ⟨hI, hf' hf, hr, O', cv, hR⟩
    · exact absurd (h0.symm.trans h6) (by decide)
  · exact absurd hf h
set_option maxRecDepth 100000 in
set_option maxHeartbeats 8000000 in
/-- VaultAll is true. -/
theorem vaultall_c (ov bv mv kv : Value) (old b more : List Int) (keep : List Bool) (torn : Int) (w : World) (ho : Rd w ov (u8s old)) (hb : Rd w bv (u8s b)) (hm : Rd w mv (u8s more)) (ho8 : B8 old) (hb8 : B8 b) (hm8 : B8 more) (hk : Rd w kv (keep.map Value.bool)) (ht0 : -9223372036854775808 ≤ torn) (ht1 : torn ≤ 9223372036854775807) :
    Calls Tryd.prog 7 #[ov, bv, mv, kv, .int .i64 torn] w fun e w' => e = .returned (.bool true) ∧ Ext w w' := by
  have HCV := Lib.hid (fun (w : World) (v : Value) (xs : List Int) (h : Rd w v (u8s xs)) => h.convert (P := Tryd.prog) Tryd.underlying36 Tryd.underlying5 Tryd.underlying9)
  have hoff : ∀ {v : Value} {xs : List Int}, Rd w v (u8s xs) → ∀ (wb : World) (O : List Nat), Ext w wb → (∀ k ∈ O, wb.heap.size ≤ k) → OffL v (u8s xs) O := fun h wb O hE hO a n c e hne hm => by
    have h1 := h.ltB e hne
    have h2 := hO _ hm
    have h3 := hE.size
    omega
  have HOO := Lib.hid (hoff ho); have HBO := Lib.hid (hoff hb); have HMO := Lib.hid (hoff hm)
  have HO := Lib.hid ho; have HB := Lib.hid hb; have HM := Lib.hid hm; have HO8 := Lib.hid ho8; have HB8 := Lib.hid hb8; have HM8 := Lib.hid hm8; have HK := Lib.hid hk
  obtain ⟨ka, kl, kc, rfl⟩ := hk.shape
  obtain ⟨oa, oc, rfl, _, _, _⟩ := ho
  rw [u8s_len] at HO HOO ⊢
  have hom := HO.out.len
  rw [u8s_len] at hom
  obtain ⟨Lo, hLo⟩ : ∃ Lo, Lo = old.length := ⟨_, rfl⟩
  rw [← hLo] at HO HOO hom ⊢
  replace hom : Lo ≤ 9223372036854775807 := by unfold maxLen at hom; omega
  have HLO := Lib.hid hLo
  clear hLo
  obtain ⟨ba, bc, rfl, _, _, _⟩ := hb
  rw [u8s_len] at HB HBO ⊢
  have hbm := HB.out.len
  rw [u8s_len] at hbm
  obtain ⟨Lb, hLb⟩ : ∃ Lb, Lb = b.length := ⟨_, rfl⟩
  rw [← hLb] at HB HBO hbm ⊢
  replace hbm : Lb ≤ 9223372036854775807 := by unfold maxLen at hbm; omega
  have HLB := Lib.hid hLb
  clear hLb
  obtain ⟨ma, mc, rfl, _, _, _⟩ := hm
  rw [u8s_len] at HM HMO ⊢
  have hmm := HM.out.len
  rw [u8s_len] at hmm
  obtain ⟨Lm, hLm⟩ : ∃ Lm, Lm = more.length := ⟨_, rfl⟩
  rw [← hLm] at HM HMO hmm ⊢
  replace hmm : Lm ≤ 9223372036854775807 := by unfold maxLen at hmm; omega
  have HLM := Lib.hid hLm
  clear hLm
  clear ho8 hb8 hm8 hk hoff
  go_enter Tryd.func7, Tryd.ntmps7
  go_wp2_with fail
  refine (awake11_c w).mono ?_
  rintro e w1 ⟨rfl, hE1⟩
  have HE1 := Lib.hid hE1
  clear hE1
  by_cases h1 : 3000 < Lo
  · have hi : (3000 : Int) < Lo := by omega
    clear h1
    go_wp2_with fail
    refine (awake11_c w1).mono ?_
    rintro e w2 ⟨rfl, hE2⟩
    have HE2 := Lib.hid (HE1.out.trans hE2)
    clear hE2
    go_wp2_with fail
    go_ret
    exact ⟨rfl, HE2.out⟩
  have hi1 : (Lo : Int) ≤ 3000 := by omega
  clear h1
  by_cases h2 : 3000 < Lb
  · have hi : (3000 : Int) < Lb := by omega
    clear h2
    go_wp2_with fail
    refine (awake11_c w1).mono ?_
    rintro e w2 ⟨rfl, hE2⟩
    have HE2 := Lib.hid (HE1.out.trans hE2)
    clear hE2
    go_wp2_with fail
    go_ret
    exact ⟨rfl, HE2.out⟩
  have hi2 : (Lb : Int) ≤ 3000 := by omega
  clear h2
  by_cases h3 : 3000 < Lm
  · have hi : (3000 : Int) < Lm := by omega
    clear h3
    go_wp2_with fail
    refine (awake11_c w1).mono ?_
    rintro e w2 ⟨rfl, hE2⟩
    have HE2 := Lib.hid (HE1.out.trans hE2)
    clear hE2
    go_wp2_with fail
    go_ret
    exact ⟨rfl, HE2.out⟩
  have hi3 : (Lm : Int) ≤ 3000 := by omega
  clear h3
  go_wp2_with fail
  go_loopg [11, 12, 13] 8 (fun g v11 v12 v13 wr => ∃ k : Nat, v11 = .int .i64 (k : Int) ∧ k + g = 8 ∧ Ext w1 wr)
  case atStart => exact ⟨0, rfl, by omega, Ext.refl _⟩
  case round =>
    obtain ⟨k, rfl, hk8, hER⟩ := hrel
    have HER := Lib.hid hER
    clear hER
    by_cases hk : k < 8
    · have hk' : (k : Int) < 8 := by omega
      go_wp2_with fail
      go_loopg [12, 13] 4 (fun g v12 v13 wr => ∃ j : Nat, v12 = .int .i64 (j : Int) ∧ j + g = 4 ∧ Ext w1 wr)
      case atStart => exact ⟨0, rfl, by omega, HER.out⟩
      case round =>
        obtain ⟨j, rfl, hj4, hEB⟩ := hrel
        have HEB := Lib.hid hEB
        clear hEB
        by_cases hj : j < 4
        · have hj' : (j : Int) < 4 := by omega
          obtain ⟨wb, hwb⟩ : ∃ wb, wb = wr := ⟨_, rfl⟩
          subst hwb
          have HWB := Lib.hid (HE1.out.trans HEB.out)
          go_wp2_with fail
          refine (vbegin_c wb).mono ?_
          rintro e w3 ⟨r, d, v, x, O, S, cv, rfl, hR3, hI3, hf3, hm3⟩
          have HR3 := Lib.hid hR3; have HI3 := Lib.hid hI3; have HF3 := Lib.hid hf3; have HM3 := Lib.hid hm3
          clear hR3 hI3 hf3 hm3
          go_wp2_with fail
          refine (vrput_c wb r d v x 1 O S ([], false) ([], false) cv (.slice oa Lo oc) old w3 HR3.out (by omega) HI3.out (by rw [HM3.out]; have := HR3.out.vs.dk.usedN; have := HLO.out; omega) (HO.out.ext (HWB.out.trans HR3.out.vs.old)) (HOO.out _ _ HWB.out HR3.out.vs.newO) HO8.out (by have := HLO.out; omega)).mono ?_
          rintro e w4 ⟨rfl, hP4, hF4⟩
          obtain ⟨hI4, hf4, hm4, O4, cv4, hR4⟩ := put_ok HF3.out hP4 hF4
          obtain ⟨S4, hS4⟩ : ∃ S4, S4 = (putV S snapN old).2 := ⟨_, rfl⟩
          rw [← hS4] at hI4 hf4 hm4 hR4
          have HR4 := Lib.hid hR4; have HI4 := Lib.hid hI4; have HM4 := Lib.hid (hm4.trans HM3.out)
          obtain ⟨c0, c1, c2⟩ := hR4.rb.three
          clear hP4 hF4 hI4 hf4 hm4 hR4 hS4 HR3 HI3 HF3 HM3
          go_wp2_with fail
          refine (fuse_c d (1 + 2) 32768 O4 [] S4 w4 (k : Int) (by omega) HR4.out.vs.dk).mono ?_
          rintro e w5 ⟨rfl, hd5, ht5⟩
          obtain ⟨S5, hS5⟩ : ∃ S5, S5 = { S4 with fuse := max (k : Int) (-1) } := ⟨_, rfl⟩
          rw [← hS5] at hd5
          have HR5 := Lib.hid (HR4.out.disk hd5 ht5); have HI5 := Lib.hid (show VInv snapN S5 (old, true) from by rw [hS5]; exact HI4.out.fused _); have HM5 := Lib.hid (show S5.room = 1073741824 from by rw [hS5]; exact HM4.out)
          clear hd5 ht5 hS5 HR4 HI4 HM4 c0 c1 c2
          go_wp2_with fail
          refine (vrput_c wb r d v x (1 + 2) O4 S5 (old, true) (old, true) cv4 (.slice ba Lb bc) b w5 HR5.out (by omega) HI5.out (by rw [HM5.out]; have := HR5.out.vs.dk.usedN; have := HLB.out; omega) (HB.out.ext (HWB.out.trans HR5.out.vs.old)) (HBO.out _ _ HWB.out HR5.out.vs.newO) HB8.out (by have := HLB.out; omega)).mono ?_
          rintro e w6 ⟨rfl, hP6, hF6⟩
          have hT6 := put_torn keep torn (by omega) (by have := HLO.out; simp; omega) (by have := HLB.out; omega) HM5.out hP6 hF6
          obtain ⟨X2, hX2⟩ : ∃ X2, X2 = (putV S5 snapN b).2 := ⟨_, rfl⟩
          rw [← hX2] at hT6
          obtain ⟨n6, O6, ti, m, vov, ov, cv6, q, hn6, hR6, hw6, hq, hql, hV6, hm6⟩ := hT6
          have HR6 := Lib.hid hR6; have HQ := Lib.hid hq; have HV6 := Lib.hid hV6; have HM6 := Lib.hid hm6
          obtain ⟨c0, c1, c2⟩ := hR6.rb.three
          clear hP6 hF6 hX2 hR6 hq hV6 hm6 HR5 HI5 HM5
          go_wp2_with fail
          refine (crash_c d n6 32768 O6 [] X2 keep torn (.slice ka kl kc) w6 HR6.out.vs.dk (by omega) (by omega) (HK.out.ext (HWB.out.trans HR6.out.vs.old)) (by omega) (by omega)).mono ?_
          rintro e w7 ⟨rfl, O7, hd7, ht7⟩
          obtain ⟨S7, hS7⟩ : ∃ S7, S7 = crashS X2 keep torn := ⟨_, rfl⟩
          rw [← hS7] at hd7 HV6 HM6
          obtain ⟨n7, hn7⟩ : ∃ n7, n7 = n6 + X2.waits.length := ⟨_, rfl⟩
          rw [← hn7] at hd7
          have hn7b : n7 ≤ 6 := by omega
          have HR7 := Lib.hid (HR6.out.disk hd7 ht7)
          replace c0 := HR7.out.rb.three.1
          clear hd7 ht7 hS7 hn7 hn6 hw6 c1 c2 HR6
          go_wp2_with fail
          refine (fuse_c d n7 32768 O7 [] S7 w7 (j : Int) (by omega) HR7.out.vs.dk).mono ?_
          rintro e w8 ⟨rfl, hd8, ht8⟩
          obtain ⟨S7f, hS7f⟩ : ∃ S7f, S7f = { S7 with fuse := max (j : Int) (-1) } := ⟨_, rfl⟩
          rw [← hS7f] at hd8
          have HR8 := Lib.hid (HR7.out.disk hd8 ht8); have HV8 := Lib.hid (show VOpn snapN S7f q from by rw [hS7f]; exact HV6.out.fused _); have HM8r := Lib.hid (show S7f.room = 1073741824 from by rw [hS7f]; exact HM6.out)
          clear hd8 ht8 hS7f HR7 HV6 HM6 c0
          go_wp2_with fail
          refine (vropen_c wb r d v x n7 O7 S7f ti ti m q vov ov cv6 (.slice ka kl kc) keep torn w8 HR8.out HV8.out HQ.out hql (by omega) (HK.out.ext HWB.out) ht0 ht1).mono ?_
          rintro e w9a ⟨rfl, v5, n5, O5, S5, cv5, hn5, _, hR9, hI9, hm9, _⟩
          have HR9a := Lib.hid hR9; have HI9 := Lib.hid hI9; have HM9 := Lib.hid (hm9.trans HM8r.out)
          obtain ⟨c0, c1, c2⟩ := hR9.rb.three
          have hn5b : n5 ≤ 10 := by omega
          clear hR9 hI9 hm9 hn5 HR8 HV8 HM8r HQ
          go_wp2_with fail
          refine (fuse_c d n5 32768 O5 [] S5 w9a (-1) (by omega) HR9a.out.vs.dk).mono ?_
          rintro e w9 ⟨rfl, hd9, ht9⟩
          obtain ⟨S6, hS6⟩ : ∃ S6, S6 = { S5 with fuse := max (-1) (-1) } := ⟨_, rfl⟩
          rw [← hS6] at hd9
          have HR9 := Lib.hid (HR9a.out.disk hd9 ht9); have HI6 := Lib.hid (show VInv snapN S6 q from by rw [hS6]; exact HI9.out.fused _); have HM6 := Lib.hid (show S6.room = 1073741824 from by rw [hS6]; exact HM9.out); have HF6 := Lib.hid (show S6.fuse = -1 from by rw [hS6]; rfl)
          clear hd9 ht9 hS6 HR9a HI9 HM9 c0 c1 c2
          obtain ⟨S8a, hS8a⟩ : ∃ S8a, S8a = (putV S6 snapN more).2 := ⟨_, rfl⟩
          obtain ⟨P7, hP7⟩ : ∃ P7 : World → Prop, P7 = fun w => (VInv snapN S8a (more, true) ∧ S8a.fuse = -1) ∧ ∃ O' cv, RunV wb w r d v5 x (n5 + 2) O' S8a (more, true) (more, true) (more, true) false false cv := ⟨_, rfl⟩
          have HP7E := Lib.hid (show ∀ w w', Ext w w' → P7 w → P7 w' from fun w w' hE h => by rw [hP7] at h ⊢; exact ⟨h.1, h.2.imp fun O' h => h.imp fun cv h => h.ext hE⟩)
          have HP7O := Lib.hid (show ∀ w, P7 w → ∃ O' cv, RunV wb w r d v5 x (n5 + 2) O' S8a (more, true) (more, true) (more, true) false false cv from fun w h => by rw [hP7] at h; exact h.2)
          have HP7I := Lib.hid (show ∀ w, P7 w → VInv snapN S8a (more, true) ∧ S8a.fuse = -1 from fun w h => by rw [hP7] at h; exact h.1)
          have HP7M := Lib.hid (show ∀ w, PutOut snapN S6 q more (putV S6 snapN more) → PutFin wb w r d v5 x n5 q more (.slice ma Lm mc) (putV S6 snapN more) → P7 w from fun w h1 h2 => by
            obtain ⟨k1, k2, _, k4⟩ := put_ok HF6.out h1 h2
            rw [hP7, hS8a]
            exact ⟨⟨k1, k2⟩, k4⟩)
          clear hP7
          go_upto_region 20 with fail
          apply Mono.region2 17 2 Ext (fun _ _ => True) [.is _, .is _, .rel (fun u w => u = .bool true ∧ P7 w), .is _, .is _, .is _, .is _, .is _, .is _, .is _, .is _, .is _, .is _, .is _, .is _, .is _, .is _] (by kernel_rfl) ⟨fun _ _ _ => trivial, fun _ _ _ => Ext.trans, fun _ _ _ _ _ => trivial⟩ (Ext.refl _) (by kernel_rfl) rfl rfl ⟨fun u w w' h hE => ⟨h.1, HP7E.out _ _ (show Ext w w' from hE) h.2⟩, trivial⟩
          focus
            iterate 2 (apply Mono.step_is; (· refine Mono.obl_quiet (by decide) fun w12 hE12 hkn K hK => ?_; clear hE12 hkn; go_wp2_with fail; simp only [Act.put, List.setIfInBounds_toArray, List.set_cons_succ, List.set_cons_zero] at hK; exact hK _ _ (Ext.refl _) (Mono.is_rfl _ _)); simp only [Act.put, List.setIfInBounds_toArray, List.set_cons_succ, List.set_cons_zero])
            refine Mono.step_rel (Mono.obl_loud fun w12 hE12 hkn K hK => ?_) fun v84 => ?_
            · have hE1 := (Ext.drew w9).trans hE12
              have HR12 := Lib.hid (HR9.out.ext hE1)
              clear hE12 hkn hE1
              go_wp2_with fail
              refine (vrput_c wb r d v5 x n5 O5 S6 q q cv5 (.slice ma Lm mc) more w12 HR12.out (by omega) HI6.out (by rw [HM6.out]; have := HR12.out.vs.dk.usedN; have := HLM.out; omega) (HM.out.ext (HWB.out.trans HR12.out.vs.old)) (HMO.out _ _ HWB.out HR12.out.vs.newO) HM8.out (by have := HLM.out; omega)).mono ?_
              rintro e w13 ⟨rfl, hP, hF⟩
              have hp7 := HP7M.out w13 hP hF
              have HP13 := Lib.hid hp7
              clear hP hF hp7
              go_wp2_with fail
              simp only [Act.put, List.setIfInBounds_toArray, List.set_cons_succ, List.set_cons_zero] at hK
              exact hK _ _ trivial (Mono.rel_mk ⟨rfl, HP13.out⟩)
            simp only [Act.put, List.setIfInBounds_toArray, List.set_cons_succ, List.set_cons_zero]
            iterate 1 (apply Mono.step_is; (· refine Mono.obl_quiet (by decide) fun w12 hE12 hkn K hK => ?_; (obtain ⟨rfl, _⟩ := hkn.1 (by kernel_rfl)); clear hE12 hkn; go_wp2_with fail; simp only [Act.put, List.setIfInBounds_toArray, List.set_cons_succ, List.set_cons_zero] at hK; exact hK _ _ (Ext.refl _) (Mono.is_rfl _ _)); simp only [Act.put, List.setIfInBounds_toArray, List.set_cons_succ, List.set_cons_zero])
            iterate 4 (apply Mono.step_is; (· refine Mono.obl_quiet (by decide) fun w12 hE12 hkn K hK => ?_; clear hE12 hkn; go_wp2_with fail; simp only [Act.put, List.setIfInBounds_toArray, List.set_cons_succ, List.set_cons_zero] at hK; exact hK _ _ (Ext.refl _) (Mono.is_rfl _ _)); simp only [Act.put, List.setIfInBounds_toArray, List.set_cons_succ, List.set_cons_zero])
            iterate 1 (apply Mono.step_is; (· refine Mono.obl_quiet (by decide) fun w12 hE12 hkn K hK => ?_; (obtain ⟨rfl, hp⟩ := hkn.1 (by kernel_rfl)); (obtain ⟨_, _, hR⟩ := HP7O.out _ hp); (have j2 := hR.rb.three.2.2); clear hp hR; clear hE12 hkn; go_wp2_with fail; simp only [Act.put, List.setIfInBounds_toArray, List.set_cons_succ, List.set_cons_zero] at hK; exact hK _ _ (Ext.refl _) (Mono.is_rfl _ _)); simp only [Act.put, List.setIfInBounds_toArray, List.set_cons_succ, List.set_cons_zero])
            iterate 3 (apply Mono.step_is; (· refine Mono.obl_quiet (by decide) fun w12 hE12 hkn K hK => ?_; clear hE12 hkn; go_wp2_with fail; simp only [Act.put, List.setIfInBounds_toArray, List.set_cons_succ, List.set_cons_zero] at hK; exact hK _ _ (Ext.refl _) (Mono.is_rfl _ _)); simp only [Act.put, List.setIfInBounds_toArray, List.set_cons_succ, List.set_cons_zero])
            iterate 1 (apply Mono.step_is; (· refine Mono.obl_quiet (by decide) fun w12 hE12 hkn K hK => ?_; (obtain ⟨rfl, hp⟩ := hkn.1 (by kernel_rfl)); (obtain ⟨_, _, hR⟩ := HP7O.out _ hp); (have j0 := (Blk.five hR.xb).1); clear hp hR; clear hE12 hkn; go_wp2_with fail; simp only [Act.put, List.setIfInBounds_toArray, List.set_cons_succ, List.set_cons_zero] at hK; exact hK _ _ (Ext.refl _) (Mono.is_rfl _ _)); simp only [Act.put, List.setIfInBounds_toArray, List.set_cons_succ, List.set_cons_zero])
            iterate 1 (apply Mono.step_is; (· refine Mono.obl_quiet (by decide) fun w12 hE12 hkn K hK => ?_; clear hE12 hkn; go_wp2_with fail; simp only [Act.put, List.setIfInBounds_toArray, List.set_cons_succ, List.set_cons_zero] at hK; exact hK _ _ (Ext.refl _) (Mono.is_rfl _ _)); simp only [Act.put, List.setIfInBounds_toArray, List.set_cons_succ, List.set_cons_zero])
            iterate 1 (apply Mono.step_is; (· refine Mono.obl_quiet (by decide) fun w12 hE12 hkn K hK => ?_; (obtain ⟨rfl, hp⟩ := hkn.1 (by kernel_rfl)); (obtain ⟨_, _, hR⟩ := HP7O.out _ hp); (have jc := HCV.out w12 _ _ (HM.out.ext (HWB.out.trans hR.vs.old))); clear hp hR; clear hE12 hkn; go_wp2_with fail; simp only [Act.put, List.setIfInBounds_toArray, List.set_cons_succ, List.set_cons_zero] at hK; exact hK _ _ (Ext.refl _) (Mono.is_rfl _ _)); simp only [Act.put, List.setIfInBounds_toArray, List.set_cons_succ, List.set_cons_zero])
            iterate 2 (apply Mono.step_is; (· refine Mono.obl_quiet (by decide) fun w12 hE12 hkn K hK => ?_; clear hE12 hkn; go_wp2_with fail; simp only [Act.put, List.setIfInBounds_toArray, List.set_cons_succ, List.set_cons_zero] at hK; exact hK _ _ (Ext.refl _) (Mono.is_rfl _ _)); simp only [Act.put, List.setIfInBounds_toArray, List.set_cons_succ, List.set_cons_zero])
            refine Mono.step_end fun w12 hE12 hkn => ?_
            simp only [List.drop_succ_cons, List.drop_zero]
            obtain ⟨rfl, hp12⟩ := hkn.1
            have HI8 := Lib.hid (HP7I.out _ hp12)
            obtain ⟨O12, cv8, hR12⟩ := HP7O.out _ hp12
            have HR12 := Lib.hid hR12
            obtain ⟨c0, c1, c2⟩ := hR12.rb.three
            clear hkn hE12 hp12 hR12 hS8a
            go_wp2_with fail
            refine (crash_c d (n5 + 2) 32768 O12 [] S8a keep torn (.slice ka kl kc) w12 HR12.out.vs.dk (by rw [HI8.out.1.waits]; show n5 + 2 + 0 < _; omega) (by omega) (HK.out.ext (HWB.out.trans HR12.out.vs.old)) (by omega) (by omega)).mono ?_
            rintro e w13 ⟨rfl, O13, hd13, ht13⟩
            have HV8 := Lib.hid (HI8.out.1.toVOpn.crash keep torn)
            obtain ⟨S8, hS8⟩ : ∃ S8, S8 = crashS S8a keep torn := ⟨_, rfl⟩
            rw [← hS8] at hd13 HV8
            obtain ⟨n8, hn8⟩ : ∃ n8, n8 = n5 + 2 + S8a.waits.length := ⟨_, rfl⟩
            rw [← hn8] at hd13
            have hn8b : n8 ≤ 12 := by rw [HI8.out.1.waits] at hn8; simp at hn8; omega
            have HR13 := Lib.hid (HR12.out.disk hd13 ht13)
            clear hd13 ht13 hS8 hn8 c0 c1 c2
            obtain ⟨B8V, hB8V⟩ : ∃ B8V : Nat → World → Prop, B8V = fun c w => c ≠ v5 ∧ ∃ n' O' S' bv', RunV wb w r d c x n' O' S' (more, true) (more, true) (more, true) false false bv' := ⟨_, rfl⟩
            have HBM := Lib.hid (show ∀ c w, B8V c w ↔ c ≠ v5 ∧ ∃ n' O' S' bv', RunV wb w r d c x n' O' S' (more, true) (more, true) (more, true) false false bv' from fun c w => by rw [hB8V])
            have HBE := Lib.hid (show ∀ c w w', Ext w w' → B8V c w → B8V c w' from fun c w w' hE h => by
              rw [hB8V] at h ⊢
              obtain ⟨h1, n', O', S', bv', h2⟩ := h
              exact ⟨h1, n', O', S', bv', h2.ext hE⟩)
            clear hB8V
            obtain ⟨ts, hts⟩ : ∃ ts, ts = strOfNums more := ⟨_, rfl⟩
            have HTX := Lib.hid (show textV more true = .agg #[.string ts, .bool true] from by unfold textV; rw [hts])
            have HTS := Lib.hid hts
            clear hts
            have hfd : ∀ w : World, (Instr.field 45 (.agg #[.string ts, .bool true]) 0).run Tryd.prog w = .ok (.string ts) w := fun _ => by kernel_rfl
            go_upto_region 23 with fail
            apply Mono.region2 16 3 Ext (fun w w' => ∀ c, B8V c w → B8V c w') [.is _, .is _, .is _, .rel (fun u w => u = .bool true ∧ ∃ c, B8V c w), .is _, .is _, .is _, .is _, .is _, .rel (fun u w => ∃ c, u = dptr c ∧ B8V c w), .is _, .is _, .is _, .is _, .is _, .is _] (by kernel_rfl) ⟨fun _ _ hE c hb => HBE.out c _ _ hE hb, fun _ _ _ => Ext.trans, fun _ _ _ h k c hb => k c (h c hb)⟩ (Ext.refl _) (by kernel_rfl) rfl rfl ⟨fun u w w' h hE => ⟨h.1, h.2.imp fun c hb => HBE.out c _ _ (show Ext w w' from hE) hb⟩, fun u w w' h hE => h.imp fun c hb => ⟨hb.1, (show ∀ c, B8V c w → B8V c w' from hE) c hb.2⟩, trivial⟩
            focus
              iterate 3 (apply Mono.step_is; (· refine Mono.obl_quiet (by decide) fun w12 hE12 hkn K hK => ?_; clear hE12 hkn; go_wp2_with fail; simp only [Act.put, List.setIfInBounds_toArray, List.set_cons_succ, List.set_cons_zero] at hK; exact hK _ _ (Ext.refl _) (Mono.is_rfl _ _)); simp only [Act.put, List.setIfInBounds_toArray, List.set_cons_succ, List.set_cons_zero])
              refine Mono.step_rel (Mono.obl_loud fun w14 hE14 hkn K hK => ?_) fun v109 => ?_
              · have hE1 := (Ext.drew w13).trans hE14
                have HR14 := Lib.hid (HR13.out.ext hE1)
                clear hE14 hkn hE1
                go_wp2_with fail
                refine (vropen_c wb r d v5 x n8 O13 S8 (more, true) (more, true) (more, true) (more, true) false false cv8 (.slice ka kl kc) keep torn w14 HR14.out HV8.out.1 (.inl rfl) (by have := HLM.out; simp; omega) (by omega) (HK.out.ext HWB.out) ht0 ht1).mono ?_
                rintro e w15 ⟨rfl, hF⟩
                obtain ⟨v', n', O', S', bv', hn', hv', hR', _⟩ := hF
                have hb15 : B8V v' w15 := (HBM.out v' w15).2 ⟨hv', n', O', S', bv', hR'⟩
                have HB15 := Lib.hid (show ∃ c, B8V c w15 from ⟨v', hb15⟩)
                have HBB := Lib.hid (show ∀ c, B8V c w14 → B8V c w15 from fun c hb => by
                  obtain ⟨hc, _, _, _, _, hRc⟩ := (HBM.out c w14).1 hb
                  have h1 := HR14.out.rb.three.2.1
                  rw [hRc.rb.three.2.1] at h1
                  exact absurd (Addr.mk.inj (Option.some.inj (Value.pointer.inj (Option.some.inj h1)))).1 hc)
                clear hb15 hR' hv' hn'
                go_wp2_with fail
                simp only [Act.put, List.setIfInBounds_toArray, List.set_cons_succ, List.set_cons_zero] at hK
                exact hK _ _ HBB.out (Mono.rel_mk ⟨rfl, HB15.out⟩)
              simp only [Act.put, List.setIfInBounds_toArray, List.set_cons_succ, List.set_cons_zero]
              iterate 1 (apply Mono.step_is; (· refine Mono.obl_quiet (by decide) fun w12 hE12 hkn K hK => ?_; (obtain ⟨rfl, _⟩ := hkn.1 (by kernel_rfl)); clear hE12 hkn; go_wp2_with fail; simp only [Act.put, List.setIfInBounds_toArray, List.set_cons_succ, List.set_cons_zero] at hK; exact hK _ _ (Ext.refl _) (Mono.is_rfl _ _)); simp only [Act.put, List.setIfInBounds_toArray, List.set_cons_succ, List.set_cons_zero])
              iterate 4 (apply Mono.step_is; (· refine Mono.obl_quiet (by decide) fun w12 hE12 hkn K hK => ?_; clear hE12 hkn; go_wp2_with fail; simp only [Act.put, List.setIfInBounds_toArray, List.set_cons_succ, List.set_cons_zero] at hK; exact hK _ _ (Ext.refl _) (Mono.is_rfl _ _)); simp only [Act.put, List.setIfInBounds_toArray, List.set_cons_succ, List.set_cons_zero])
              refine Mono.step_rel (Mono.obl_quiet (by decide) fun w14 hE14 hkn K hK => ?_) fun v115 => ?_
              · obtain ⟨rfl, c', hbc⟩ := hkn.1 (by kernel_rfl)
                obtain ⟨_, _, _, _, _, hRc⟩ := (HBM.out c' w14).1 hbc
                have j1 := hRc.rb.three.2.1
                have HBC := Lib.hid hbc
                clear hkn hE14 hbc hRc
                go_wp2_with fail
                simp only [Act.put, List.setIfInBounds_toArray, List.set_cons_succ, List.set_cons_zero] at hK
                exact hK _ _ (Ext.refl _) (Mono.rel_mk ⟨c', rfl, HBC.out⟩)
              simp only [Act.put, List.setIfInBounds_toArray, List.set_cons_succ, List.set_cons_zero]
              apply Mono.step_is
              · refine Mono.obl_quiet (by decide) fun w14 hE14 hkn K hK => ?_
                obtain ⟨c', rfl, hbc⟩ := hkn.2.1 (by kernel_rfl)
                obtain ⟨_, _, _, _, bv', hRc⟩ := (HBM.out c' w14).1 hbc
                have HRC := Lib.hid hRc.vs
                clear hkn hE14 hbc hRc
                go_wp2_with fail
                refine (text_c c' d snapN bv' more true false w14 HRC.out.vb HRC.out.rd (by have := HLM.out; omega)).mono ?_
                rintro e w15 ⟨rfl, hE15⟩
                rw [HTX.out]
                go_wp2_with fail
                simp only [Act.put, List.setIfInBounds_toArray, List.set_cons_succ, List.set_cons_zero] at hK
                exact hK _ _ hE15 (Mono.is_rfl _ _)
              simp only [Act.put, List.setIfInBounds_toArray, List.set_cons_succ, List.set_cons_zero]
              iterate 2 (apply Mono.step_is; (· refine Mono.obl_quiet (by decide) fun w12 hE12 hkn K hK => ?_; clear hE12 hkn; go_wp2_with fail; simp only [Act.put, List.setIfInBounds_toArray, List.set_cons_succ, List.set_cons_zero] at hK; exact hK _ _ (Ext.refl _) (Mono.is_rfl _ _)); simp only [Act.put, List.setIfInBounds_toArray, List.set_cons_succ, List.set_cons_zero])
              iterate 1 (apply Mono.step_is; (· refine Mono.obl_quiet (by decide) fun w12 hE12 hkn K hK => ?_; (obtain ⟨rfl, c', hbc⟩ := hkn.1 (by kernel_rfl)); (obtain ⟨_, _, _, _, _, hRc⟩ := (HBM.out c' w12).1 hbc); (have jc := HCV.out w12 _ _ (HM.out.ext (HWB.out.trans hRc.vs.old))); (rw [← HTS.out] at jc); clear hbc hRc; clear hE12 hkn; go_wp2_with fail; simp only [Act.put, List.setIfInBounds_toArray, List.set_cons_succ, List.set_cons_zero] at hK; exact hK _ _ (Ext.refl _) (Mono.is_rfl _ _)); simp only [Act.put, List.setIfInBounds_toArray, List.set_cons_succ, List.set_cons_zero])
              iterate 2 (apply Mono.step_is; (· refine Mono.obl_quiet (by decide) fun w12 hE12 hkn K hK => ?_; clear hE12 hkn; go_wp2_with fail; simp only [Act.put, List.setIfInBounds_toArray, List.set_cons_succ, List.set_cons_zero] at hK; exact hK _ _ (Ext.refl _) (Mono.is_rfl _ _)); simp only [Act.put, List.setIfInBounds_toArray, List.set_cons_succ, List.set_cons_zero])
              refine Mono.step_end fun w14 hE14 hkn => ?_
              simp only [List.drop_succ_cons, List.drop_zero]
              obtain ⟨rfl, c', hbc⟩ := hkn.1
              obtain ⟨_, _, _, _, _, hRc⟩ := (HBM.out c' w14).1 hbc
              have HF := Lib.hid hRc.vs.old
              clear hkn hE14 hbc hRc HR13 HV8 HBM HBE
              go_wp2_with fail
              go_roundg (4 - (j + 1))
              case measure => omega
              case rel => exact ⟨j + 1, by go_num, by omega, HEB.out.trans HF.out⟩
        · have hge : (4 : Int) ≤ (j : Int) := by omega
          clear hj
          go_wp2_with fail
          go_roundg (8 - (k + 1))
          case measure => omega
          case rel => exact ⟨k + 1, by go_num, by omega, HEB.out⟩
    · have hge : (8 : Int) ≤ (k : Int) := by omega
      clear hk
      go_wp2_with fail
      go_ret
      exact ⟨rfl, HE1.out.trans HER.out⟩
end Go.Proofs.YtapclkjpokbgbaaDoor
