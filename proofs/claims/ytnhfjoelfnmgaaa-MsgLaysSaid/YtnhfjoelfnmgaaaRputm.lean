/- tabellionref18.Put. PRINTED BY gen/rputm.py -/
import Derived.Test.YtnhfjoelfnmgaaaRpl

import Derived.Test.YtnhfjoelfnmgaaaMback
set_option linter.unusedSimpArgs false
set_option linter.unusedVariables false
namespace Go.Proofs.Ytnhfjoelfnmgaaa
open Go Go.RowKit


set_option maxRecDepth 100000 in
set_option maxHeartbeats 16000000 in
theorem rmput_c (v : Value) (M : Msg) (w : World) (hv : MsgV w 0 v M) (hok : MsgOk M) (hbd : M.members.length ≤ 17592186044416) : Calls Try.prog 15 #[v] w (MPutOut (rwrM M) w) := by
  have HV0 := Lib.hid hv
  obtain ⟨ev, mv, iv, rfl, he, ⟨hms, _⟩, hi, _⟩ := hv
  obtain ⟨a9, c9, rfl, hlc, hcm, hat⟩ := he.open
  obtain ⟨a10, n10, c10, rfl⟩ := Rd.shape hms
  obtain ⟨a11, n11, c11, rfl⟩ := Rd.shape hi
  have hn11 : n11 = M.image.length := by obtain ⟨_, _, h, _⟩ := hi; cases h; exact u8s_len _
  have hn10 : n10 = M.members.length := by obtain ⟨_, _, h, _⟩ := hms; cases h; exact u64s_len _
  subst hn11 hn10
  have HAT := Lib.hid hat; have HMS := Lib.hid hms; have HI := Lib.hid hi; have HOK := Lib.hid hok
  have HX0 := Lib.hid (Blk.new w #[.int .i64 M.kind, .int .u64 M.src, .int .u64 M.dst, .int .u64 M.term, .int .u64 M.index, .int .u64 M.logTerm, .int .u64 M.commit, .int .u64 M.stamp, .bool M.yes, .slice a9 M.entries.length c9, .slice a10 M.members.length c10, .slice a11 M.image.length c11] 28)
  have HE0 := Lib.hid (Ext.alloc w (.cells #[.int .i64 M.kind, .int .u64 M.src, .int .u64 M.dst, .int .u64 M.term, .int .u64 M.index, .int .u64 M.logTerm, .int .u64 M.commit, .int .u64 M.stamp, .bool M.yes, .slice a9 M.entries.length c9, .slice a10 M.members.length c10, .slice a11 M.image.length c11] 28))
  have HV1 := Lib.hid (HV0.out.ext HE0.out)
  have hs0 : (w.alloc (.cells #[.int .i64 M.kind, .int .u64 M.src, .int .u64 M.dst, .int .u64 M.term, .int .u64 M.index, .int .u64 M.logTerm, .int .u64 M.commit, .int .u64 M.stamp, .bool M.yes, .slice a9 M.entries.length c9, .slice a10 M.members.length c10, .slice a11 M.image.length c11] 28)).heap.size = w.heap.size + 1 := by simp
  clear hat he hms hi hok hlc hcm HV0
  obtain ⟨X, hX⟩ : ∃ X, X = rwrM M := ⟨_, rfl⟩
  have HR := Lib.hid hX
  rw [← hX]
  clear hX
  simp only [mCells] at HV1 ⊢
  go_enter Try.func15, Try.ntmps15
  go_upto_region 1 with fail
  generalize w.alloc (.cells #[.int .i64 M.kind, .int .u64 M.src, .int .u64 M.dst, .int .u64 M.term, .int .u64 M.index, .int .u64 M.logTerm, .int .u64 M.commit, .int .u64 M.stamp, .bool M.yes, .slice a9 M.entries.length c9, .slice a10 M.members.length c10, .slice a11 M.image.length c11] 28) = w0 at *
  go_wp2_with (refine wpList_load_row rfl 28 (.tmp 1) rfl w.heap.size rfl 28 _ (0, 0) _ HX0.out Try.underlying28 rfl (by kernel_rfl) ?_)
  refine (rform_c _ M w0 HV1.out HOK.out).mono ?_
  rintro e w1 ⟨rfl, hE1⟩
  have HE := Lib.hid (HE0.out.trans hE1); have HX := Lib.hid (HX0.out.ext hE1)
  have hB1 : w.heap.size + 1 ≤ w1.heap.size := by have := hE1.size; omega
  clear hE1 HE0 HX0 HV1 hs0
  cases hf : rformM M with
  | false =>
    have HF : Hid (X = none) := Lib.hid (by rw [HR.out]; simp [rwrM, hf])
    clear hf
    go_wp2_with fail
    go_ret2
    exact ⟨HE.out, _, 1, rfl, by rw [HF.out]; exact ⟨rfl, rfl⟩⟩
  | true =>
    obtain ⟨⟨k1, k5, _⟩, _, ⟨_, _, _, e4, im⟩, hall, hmm⟩ := rform_facts M hf
    have HF : Hid (X = some (M.kind % 256 :: refB M)) := Lib.hid (by rw [HR.out]; simp [rwrM, hf])
    have HALL := Lib.hid hall; have HMM := Lib.hid hmm
    have hwk : IntKind.u8.wrap M.kind = M.kind % 256 := IntKind.wrap_u8 _
    clear hf hall hmm
    go_upto_region 3 with fail
    apply Mono.region1 12 Ext [.is _, .is _, .is _, .rel (fun v w' => w'.ownsRow (w.heap.size + 1) 5 1 v 1 (u8s [M.kind % 256])), .is _, .is _, .is _, .is _, .is _, .is _, .rel (fun v w' => Rd w' v (u64s [M.src, M.dst, M.term])), .rel (fun v w' => w'.ownsRow (w.heap.size + 1) 5 1 v (numsB [M.src, M.dst, M.term]).length (u8s (numsB [M.src, M.dst, M.term])))] (by kernel_rfl) Ext.refl (fun _ _ _ => Ext.trans) (by kernel_rfl) rfl rfl ⟨fun _ _ _ h hE => own_ext h hE, fun _ _ _ h hE => h.ext hE, fun _ _ _ h hE => own_ext h hE, trivial⟩
    focus
      iterate 3 (apply Mono.step_is; (· refine Mono.obl_mk fun w3 hE3 _ K hK => ?_; (have hx3 := HX.out.ext ((Ext.drew _).trans hE3)); (have q0 := hx3.cell 0 rfl); (have q1 := hx3.cell 1 rfl); (have q2 := hx3.cell 2 rfl); (have q3 := hx3.cell 3 rfl); go_wp2_with fail; simp only [Act.put, List.setIfInBounds_toArray, List.set_cons_succ, List.set_cons_zero] at hK; exact hK _ _ (Ext.refl _) (Mono.is_rfl _ _)); simp only [Act.put, List.setIfInBounds_toArray, List.set_cons_succ, List.set_cons_zero])
      refine Mono.step_rel (Mono.obl_mk fun w3 hE3 _ K hK => ?_) fun v14 => ?_
      · go_wp2_with fail
        simp only [Act.put, List.setIfInBounds_toArray, List.set_cons_succ, List.set_cons_zero] at hK
        exact hK _ _ (Ext.alloc _ _) (Mono.rel_mk (own_base (own_lit w3 [.int .u8 (M.kind % 256)] 5 (by unfold maxLen; simp)) (Nat.le_trans hB1 hE3.size)))
      simp only [Act.put, List.setIfInBounds_toArray, List.set_cons_succ, List.set_cons_zero]
      iterate 6 (apply Mono.step_is; (· refine Mono.obl_mk fun w3 hE3 _ K hK => ?_; (have hx3 := HX.out.ext ((Ext.drew _).trans hE3)); (have q0 := hx3.cell 0 rfl); (have q1 := hx3.cell 1 rfl); (have q2 := hx3.cell 2 rfl); (have q3 := hx3.cell 3 rfl); go_wp2_with fail; simp only [Act.put, List.setIfInBounds_toArray, List.set_cons_succ, List.set_cons_zero] at hK; exact hK _ _ (Ext.refl _) (Mono.is_rfl _ _)); simp only [Act.put, List.setIfInBounds_toArray, List.set_cons_succ, List.set_cons_zero])
      refine Mono.step_rel (Mono.obl_mk fun w3 hE3 _ K hK => ?_) fun v21 => ?_
      · go_wp2_with fail
        simp only [Act.put, List.setIfInBounds_toArray, List.set_cons_succ, List.set_cons_zero] at hK
        exact hK _ _ (Ext.alloc _ _) (Mono.rel_mk (Rd.of_own (own_lit w3 [.int .u64 M.src, .int .u64 M.dst, .int .u64 M.term] 24 (by unfold maxLen; simp))))
      simp only [Act.put, List.setIfInBounds_toArray, List.set_cons_succ, List.set_cons_zero]
      refine Mono.step_rel (Mono.obl_mk fun w3 hE3 hk K hK => ?_) fun v22 => ?_
      · obtain ⟨_, q21, _⟩ := hk
        have Q := Lib.hid (q21 (by kernel_rfl))
        clear q21
        go_wp2_with fail
        refine (nums_c _ [M.src, M.dst, M.term] w3 Q.out (by intro z hz; simp only [List.mem_cons, List.not_mem_nil, or_false] at hz; rcases hz with rfl | rfl | rfl; exact HOK.out.src; exact HOK.out.dst; exact HOK.out.term) (by simp)).mono ?_
        rintro e w4 ⟨v4, rfl, ho4, hE4⟩
        rw [u8s_len] at ho4
        have HO4 := Lib.hid ho4; clear ho4
        go_wp2_with fail
        simp only [Act.put, List.setIfInBounds_toArray, List.set_cons_succ, List.set_cons_zero] at hK
        exact hK _ _ hE4 (Mono.rel_mk (own_base HO4.out (Nat.le_trans hB1 hE3.size)))
      simp only [Act.put, List.setIfInBounds_toArray, List.set_cons_succ, List.set_cons_zero]
      refine Mono.step_end fun w3 hE3 hkn => ?_
      obtain ⟨ho14, _, ho22, _⟩ := hkn
      replace hE3 := (Ext.drew _).trans hE3
      have HO14 := Lib.hid ho14; have HO22 := Lib.hid ho22
      have HEN := Lib.hid (HE.out.trans hE3); have HXN := Lib.hid (HX.out.ext hE3)
      have hBn := Nat.le_trans hB1 hE3.size
      clear hE3 ho14 ho22 HE HX
      have h27 : (numsB [M.src, M.dst, M.term]).length ≤ 27 := by have := flat_len [M.src, M.dst, M.term]; simpa [numsB] using this
      simp only [List.drop_succ_cons, List.drop_zero]
      go_wp2_with (at_builtin; refine wpList_append_rd rfl (.tmp 14) (.tmp 22) _ rfl el8 (w.heap.size + 1) _ _ _ (u8s (numsB [M.src, M.dst, M.term])) rfl HO14.out _ rfl (Rd.of_own HO22.out) (u8s_one _) (by rw [u8s_len]; omega) (by rw [u8s_len]; unfold maxLen; omega) hBn ?_)
      intro v6 W6 g1 g2
      obtain ⟨ws, hws⟩ : ∃ ws, ws = [M.kind % 256] ++ numsB [M.src, M.dst, M.term] := ⟨_, rfl⟩
      have ho6 : W6.ownsRow (w.heap.size + 1) 5 1 v6 ws.length (u8s ws) := by
        rw [u8s_len] at g1
        rw [hws, List.length_append, ← u8s_app]; exact g1
      have hwl : ws.length ≤ 1000000 := by rw [hws, List.length_append]; simp only [List.length_cons, List.length_nil]; omega
      have hE6 : Ext w W6 := Below.grown HEN.out g2 HEN.out.size fun k hk => by have := own_block HO14.out k hk; omega
      have hX6 := HXN.out.grown g2 (by intro e; have := own_block HO14.out _ e.symm; omega)
      have hB := Nat.le_trans hBn g2.size
      have HWS := Lib.hid hws
      obtain ⟨va, vn, vc, rfl⟩ := own_shape ho6
      have HO := Lib.hid ho6; have HX := Lib.hid hX6; have HE := Lib.hid hE6
      have hmlen := hbd
      clear g1 g2 hws ho6 hE6 hX6 HO14 HO22 HEN HXN hBn hB1 hbd hwk
      have q0 := HX.out.cell 0 rfl
      have hlen64 : U64 (M.entries.length : Int) := ⟨by omega, by omega⟩
      have hlenm64 : U64 (M.members.length : Int) := ⟨by omega, by omega⟩
      by_cases hk1 : M.kind = 1
      · skip
        have HK : Hid (M.kind = 1) := Lib.hid hk1
        have hb1 : (M.kind == 1) = true := by simp [hk1]
        clear hk1 
        go_upto_region 6 with fail
        have q4 := HX.out.cell 4 rfl
        have q5 := HX.out.cell 5 rfl
        have hl := own_lit W6 [.int .u64 M.index, .int .u64 M.logTerm] 24 (by unfold maxLen; simp)
        have HLN := Lib.hid (Rd.of_own hl)
        clear hl
        go_wp2_with fail
        refine (nums_c _ [M.index, M.logTerm] _ HLN.out (by intro z hz; simp only [List.mem_cons, List.not_mem_nil, or_false] at hz; rcases hz with rfl | rfl; all_goals (first | exact HOK.out.src | exact HOK.out.dst | exact HOK.out.term | exact HOK.out.index | exact HOK.out.logTerm | exact HOK.out.commit | exact HOK.out.stamp | exact hlen64 | exact hlenm64)) (by simp)).mono ?_
        rintro e U6 ⟨nv, rfl, hn, hE'⟩
        have hEE := (Ext.alloc W6 (.cells [.int .u64 M.index, .int .u64 M.logTerm].toArray 24)).trans hE'
        have HOW := Lib.hid (own_ext HO.out hEE); have HXN := Lib.hid (HX.out.ext hEE); have HEN := Lib.hid (HE.out.trans hEE); have HN := Lib.hid hn
        have hBn := Nat.le_trans hB hEE.size
        have hnl : (numsB [M.index, M.logTerm]).length ≤ 9 * 2 := by have := flat_len [M.index, M.logTerm]; simpa [numsB] using this
        clear hn hE' hEE HO HX HE hB HLN q4 q5
        go_wp2_with (at_builtin; refine wpList_append_rd rfl (.tmp 28) (.tmp 34) _ rfl el8 (w.heap.size + 1) _ _ _ (u8s (numsB [M.index, M.logTerm])) rfl HOW.out _ rfl (Rd.of_own HN.out) (u8s_one _) (by rw [u8s_len]; omega) (by rw [u8s_len]; unfold maxLen; omega) hBn ?_)
        intro v6 W6 g1 g2
        have HOB := Lib.hid g1; have HGB := Lib.hid g2
        clear g1 g2 HN
        have hE6 : Ext w W6 := Below.grown HEN.out HGB.out HEN.out.size fun k hk => by have := own_block HOW.out k hk; omega
        have hX6 := HXN.out.grown HGB.out (by intro e; have := own_block HOW.out _ e.symm; omega)
        have hB6 := Nat.le_trans hBn HGB.out.size
        have ho6 : W6.ownsRow (w.heap.size + 1) 5 1 v6 (ws ++ (numsB [M.index, M.logTerm])).length (u8s (ws ++ (numsB [M.index, M.logTerm]))) := by
          have h := HOB.out
          rw [u8s_len] at h
          rw [List.length_append, ← u8s_app]; exact h
        have hl6 : (ws ++ (numsB [M.index, M.logTerm])).length ≤ 1000000 + 18 := by rw [List.length_append]; omega
        clear hX6 HXN HEN hBn HOW HGB
        have HO := Lib.hid ho6; have HE := Lib.hid hE6
        obtain ⟨va', vn', vc', rfl⟩ := own_shape ho6
        clear ho6 hE6
        go_wp2_with fail
        go_ret2
        refine ⟨HE.out, _, 0, rfl, ?_⟩
        rw [HF.out]
        have heq : ws ++ numsB [M.index, M.logTerm] = M.kind % 256 :: refB M := by rw [HWS.out]; simp [refB, HK.out]
        rw [← heq]
        exact ⟨rfl, Rd.of_own HO.out, (From.own HO.out).mono (by omega)⟩
      by_cases hk2 : M.kind = 2
      · skip
        have HK : Hid (M.kind = 2) := Lib.hid hk2
        have hb1 : (M.kind == 1) = false := by simp [hk2]
        have hb2 : (M.kind == 2) = true := by simp [hk2]
        clear hk2 hk1
        go_upto_region 8 with fail
        have q8 := HX.out.cell 8 rfl
        go_wp2_with fail
        refine (flag_c M.yes W6).mono ?_
        rintro e U6 ⟨rfl, rfl⟩
        obtain ⟨fb, hfb⟩ : ∃ fb, fb = (if M.yes then 1 else 0 : Int) := ⟨_, rfl⟩
        rw [← hfb]
        have HFB := Lib.hid hfb
        clear hfb
        go_wp2_with (at_builtin; refine wpList_push rfl (.tmp 38) (.tmp 42) _ rfl el8 (w.heap.size + 1) _ _ _ (.int .u8 fb) rfl HO.out 5 rfl rfl (by omega) (by unfold maxLen; omega) hB ?_)
        intro v6 W7 g1 g2
        have hE6 : Ext w W7 := Below.grown HE.out g2 HE.out.size fun k hk => by have := own_block HO.out k hk; omega
        have ho6 : W7.ownsRow (w.heap.size + 1) 5 1 v6 (ws ++ [fb]).length (u8s (ws ++ [fb])) := by
          rw [List.length_append, ← u8s_app]; exact g1
        clear g1 g2 HO HE HX
        have HO := Lib.hid ho6; have HE := Lib.hid hE6
        obtain ⟨va', vn', vc', rfl⟩ := own_shape ho6
        clear ho6 hE6
        go_wp2_with fail
        go_ret2
        refine ⟨HE.out, _, 0, rfl, ?_⟩
        rw [HF.out]
        have heq : ws ++ [fb] = M.kind % 256 :: refB M := by rw [HWS.out, HFB.out]; simp [refB, HK.out]
        rw [← heq]
        exact ⟨rfl, Rd.of_own HO.out, (From.own HO.out).mono (by omega)⟩
      by_cases hk3 : M.kind = 3
      · skip
        have HK : Hid (M.kind = 3) := Lib.hid hk3
        have hb1 : (M.kind == 1) = false := by simp [hk3]
        have hb2 : (M.kind == 2) = false := by simp [hk3]
        have hb3 : (M.kind == 3) = true := by simp [hk3]
        clear hk3 hk1 hk2
        have hwm : IntKind.u64.wrap (M.entries.length : Int) = (M.entries.length : Int) := by rw [IntKind.wrap_u64]; omega
        go_upto_region 10 with fail
        have q4 := HX.out.cell 4 rfl
        have q5 := HX.out.cell 5 rfl
        have q6 := HX.out.cell 6 rfl
        have q7 := HX.out.cell 7 rfl
        have q9 := HX.out.cell 9 rfl
        have hl := own_lit W6 [.int .u64 M.index, .int .u64 M.logTerm, .int .u64 M.commit, .int .u64 M.stamp, .int .u64 (M.entries.length : Int)] 24 (by unfold maxLen; simp)
        have HLN := Lib.hid (Rd.of_own hl)
        clear hl
        go_wp2_with fail
        refine (nums_c _ [M.index, M.logTerm, M.commit, M.stamp, (M.entries.length : Int)] _ HLN.out (by intro z hz; simp only [List.mem_cons, List.not_mem_nil, or_false] at hz; rcases hz with rfl | rfl | rfl | rfl | rfl; all_goals (first | exact HOK.out.src | exact HOK.out.dst | exact HOK.out.term | exact HOK.out.index | exact HOK.out.logTerm | exact HOK.out.commit | exact HOK.out.stamp | exact hlen64 | exact hlenm64)) (by simp)).mono ?_
        rintro e U6 ⟨nv, rfl, hn, hE'⟩
        have hEE := (Ext.alloc W6 (.cells [.int .u64 M.index, .int .u64 M.logTerm, .int .u64 M.commit, .int .u64 M.stamp, .int .u64 (M.entries.length : Int)].toArray 24)).trans hE'
        have HOW := Lib.hid (own_ext HO.out hEE); have HXN := Lib.hid (HX.out.ext hEE); have HEN := Lib.hid (HE.out.trans hEE); have HN := Lib.hid hn
        have hBn := Nat.le_trans hB hEE.size
        have hnl : (numsB [M.index, M.logTerm, M.commit, M.stamp, (M.entries.length : Int)]).length ≤ 9 * 5 := by have := flat_len [M.index, M.logTerm, M.commit, M.stamp, (M.entries.length : Int)]; simpa [numsB] using this
        clear hn hE' hEE HO HX HE hB HLN q4 q5 q6 q7 q9
        go_wp2_with (at_builtin; refine wpList_append_rd rfl (.tmp 46) (.tmp 60) _ rfl el8 (w.heap.size + 1) _ _ _ (u8s (numsB [M.index, M.logTerm, M.commit, M.stamp, (M.entries.length : Int)])) rfl HOW.out _ rfl (Rd.of_own HN.out) (u8s_one _) (by rw [u8s_len]; omega) (by rw [u8s_len]; unfold maxLen; omega) hBn ?_)
        intro v6 W6 g1 g2
        have HOB := Lib.hid g1; have HGB := Lib.hid g2
        clear g1 g2 HN
        have hE6 : Ext w W6 := Below.grown HEN.out HGB.out HEN.out.size fun k hk => by have := own_block HOW.out k hk; omega
        have hX6 := HXN.out.grown HGB.out (by intro e; have := own_block HOW.out _ e.symm; omega)
        have hB6 := Nat.le_trans hBn HGB.out.size
        have ho6 : W6.ownsRow (w.heap.size + 1) 5 1 v6 (ws ++ (numsB [M.index, M.logTerm, M.commit, M.stamp, (M.entries.length : Int)])).length (u8s (ws ++ (numsB [M.index, M.logTerm, M.commit, M.stamp, (M.entries.length : Int)]))) := by
          have h := HOB.out
          rw [u8s_len] at h
          rw [List.length_append, ← u8s_app]; exact h
        have hl6 : (ws ++ (numsB [M.index, M.logTerm, M.commit, M.stamp, (M.entries.length : Int)])).length ≤ 1000000 + 45 := by rw [List.length_append]; omega
        obtain ⟨ws2, hws2⟩ : ∃ z, z = ws ++ (numsB [M.index, M.logTerm, M.commit, M.stamp, (M.entries.length : Int)]) := ⟨_, rfl⟩
        rw [← hws2] at ho6 hl6
        have Hws2 := Lib.hid hws2
        clear hws2
        obtain ⟨va, vn, vc, rfl⟩ := own_shape ho6
        have HO := Lib.hid ho6; have HX := Lib.hid hX6; have HE := Lib.hid hE6
        have hB := hB6
        clear hwl
        have hwl := hl6
        clear hE6 hX6 ho6 HOB HGB HOW HXN HEN hBn hB6 hl6
        clear hwm hnl
        go_wp2_with fail
        go_loopg [4, 5] M.entries.length (fun g b i wr => ∃ (r : Nat) (ws3 : List Int), r + g = M.entries.length ∧ i = .int .i64 (r : Int) ∧ wr.ownsRow (w.heap.size + 1) 5 1 b ws3.length (u8s ws3) ∧ Ext w wr ∧ Blk wr w.heap.size #[.int .i64 M.kind, .int .u64 M.src, .int .u64 M.dst, .int .u64 M.term, .int .u64 M.index, .int .u64 M.logTerm, .int .u64 M.commit, .int .u64 M.stamp, .bool M.yes, .slice a9 M.entries.length c9, .slice a10 M.members.length c10, .slice a11 M.image.length c11] 28 ∧ ws3 = ws2 ++ (M.entries.take r).flatMap rawE ∧ ws3.length ≤ 1000100 + 300 * r ∧ w.heap.size + 1 ≤ wr.heap.size)
        case atStart => exact ⟨0, ws2, by omega, rfl, HO.out, HE.out, HX.out, by simp, by omega, hB⟩
        case round =>
          clear HO HE HX hB hwl q0
          obtain ⟨r, ws3, hg, rfl, ho, hE, hX, hws, hwl, hB⟩ := hrel
          have HO := Lib.hid ho; have HE := Lib.hid hE; have HX := Lib.hid hX; have HW3 := Lib.hid hws
          have q9 := hX.cell 9 rfl
          clear ho hE hX hws
          by_cases hlt : r < M.entries.length
          · obtain ⟨x, hxx⟩ : ∃ x, M.entries[r]? = some x := ⟨_, List.getElem?_eq_getElem hlt⟩
            obtain ⟨b, f, a4, n4, e4', a5, n5, e5, rfl, p0, p1, p2, p3, p4, p5, hvx⟩ := (HAT.out r x hxx).ext HE.out
            have HOX := Lib.hid (HOK.out.entries x (List.mem_of_getElem? hxx))
            have HFX := Lib.hid (List.all_eq_true.1 HALL.out x (List.mem_of_getElem? hxx))
            have tx : M.entries.take (r + 1) = M.entries.take r ++ [x] := by rw [List.take_add_one, hxx]; rfl
            have TX := Lib.hid tx; have HVX := Lib.hid hvx
            obtain ⟨_, hpl⟩ := putB_len x HFX.out
            clear hxx tx hvx
            obtain ⟨va, vn, vc, rfl⟩ := own_shape HO.out
            go_wp2_with fail
            refine (rput_ret _ x wr HVX.out HOX.out HFX.out).mono ?_
            rintro e U5 ⟨pv, rfl, hp, hE'⟩
            have HP := Lib.hid (Rd.of_own hp)
            obtain ⟨pa, pn, pc, rfl⟩ := own_shape hp
            have HO5 := Lib.hid (own_ext HO.out hE'); have HX5 := Lib.hid (HX.out.ext hE'); have HE5 := Lib.hid (HE.out.trans hE')
            have hB5 := Nat.le_trans hB hE'.size
            clear hp hE' p0 p1 p2 p3 p4 p5 q9 HO HX HE hB
            go_wp2_with fail
            refine (rraw_ret _ (putB x) U5 HP.out (by omega)).mono ?_
            rintro e U6 ⟨nv, rfl, hn, hE'⟩
            have HOW := Lib.hid (own_ext HO5.out hE'); have HXN := Lib.hid (HX5.out.ext hE'); have HEN := Lib.hid (HE5.out.trans hE'); have HN := Lib.hid hn
            have hBn := Nat.le_trans hB5 hE'.size
            have hnl3 : (numB (putB x).length ++ putB x).length ≤ 209 := by have := numB_len_le (putB x).length; rw [List.length_append]; omega
            clear hn hE' HO5 HX5 HE5 hB5
            go_wp2_with (at_builtin; refine wpList_append_rd rfl (.tmp 78) (.tmp 80) _ rfl el8 (w.heap.size + 1) _ _ _ (u8s (numB (putB x).length ++ putB x)) rfl HOW.out _ rfl (Rd.of_own HN.out) (u8s_one _) (by rw [u8s_len]; omega) (by rw [u8s_len]; unfold maxLen; omega) hBn ?_)
            intro v6 W6 g1 g2
            have HOB := Lib.hid g1; have HGB := Lib.hid g2
            clear g1 g2 HN
            have hE6 : Ext w W6 := Below.grown HEN.out HGB.out HEN.out.size fun k hk => by have := own_block HOW.out k hk; omega
            have hX6 := HXN.out.grown HGB.out (by intro e; have := own_block HOW.out _ e.symm; omega)
            have hB6 := Nat.le_trans hBn HGB.out.size
            have ho6 : W6.ownsRow (w.heap.size + 1) 5 1 v6 (ws3 ++ (numB (putB x).length ++ putB x)).length (u8s (ws3 ++ (numB (putB x).length ++ putB x))) := by
              have h := HOB.out
              rw [u8s_len] at h
              rw [List.length_append, ← u8s_app]; exact h
            have HO6 := Lib.hid ho6; have HE6 := Lib.hid hE6; have HX6 := Lib.hid hX6
            clear ho6 hE6 hX6 HOB HGB HOW HXN HEN hBn
            go_wp2_with fail
            go_roundg (gk - 1)
            case measure => omega
            case rel => exact ⟨r + 1, _, by omega, by go_num, HO6.out, HE6.out, HX6.out, by rw [TX.out, HW3.out]; simp [rawE], by rw [List.length_append]; omega, hB6⟩
          · have hrn : r = M.entries.length := by omega
            have HW4 : Hid (ws3 = ws2 ++ M.entries.flatMap rawE) := Lib.hid (by have h := HW3.out; rwa [hrn, List.take_length] at h)
            clear hrn
            obtain ⟨va, vn, vc, rfl⟩ := own_shape HO.out
            go_wp2_with fail
            go_ret2
            refine ⟨HE.out, _, 0, rfl, ?_⟩
            rw [HF.out]
            have heq : ws3 = M.kind % 256 :: refB M := by rw [HW4.out, Hws2.out, HWS.out]; simp [refB, HK.out]
            rw [← heq]
            exact ⟨rfl, Rd.of_own HO.out, (From.own HO.out).mono (by omega)⟩
      by_cases hk4 : M.kind = 4
      · skip
        have HK : Hid (M.kind = 4) := Lib.hid hk4
        have hb1 : (M.kind == 1) = false := by simp [hk4]
        have hb2 : (M.kind == 2) = false := by simp [hk4]
        have hb3 : (M.kind == 3) = false := by simp [hk4]
        have hb4 : (M.kind == 4) = true := by simp [hk4]
        clear hk4 hk1 hk2 hk3
        obtain ⟨fb, hfb⟩ : ∃ fb, fb = (if M.yes then 1 else 0 : Int) := ⟨_, rfl⟩
        have FL : Hid (∀ W, Calls Try.prog 40 #[.bool M.yes] W fun en w' => en = .returned (.int .u8 fb) ∧ w' = W) := Lib.hid fun W => by rw [hfb]; exact flag_c M.yes W
        have HFB := Lib.hid hfb
        clear hfb
        obtain ⟨rowb, hrowb⟩ : ∃ o, o = (Value.slice va vn vc).ownBlock := ⟨_, rfl⟩
        have hown2 : ∀ t ∈ rowb.toList, w.heap.size + 1 ≤ t := by
          intro t ht
          rw [hrowb] at ht
          cases hmv : (Value.slice va vn vc).ownBlock with
          | none => rw [hmv] at ht; cases ht
          | some q => rw [hmv] at ht; simp at ht; subst ht; exact own_block HO.out _ hmv
        have hown3 : ∀ t ∈ rowb.toList, t < W6.heap.size := own_lt hrowb (fun q hq => (HO.out.lt _ hq).2)
        have hp0 : w.heap.size ∉ rowb.toList := fun hm => by have := hown2 _ hm; omega
        have HROW := Lib.hid hrowb
        clear hrowb
        go_upto_region 17 with fail
        clear q0
        apply Mono.region2 12 5 Ext (Chg rowb.toList) [.is _, .is _, .is _, .is _, .rel (NewB W6.heap.size [fb]), .rel (fun v w' => w'.ownsRow (w.heap.size + 1) 5 1 v (ws.length + (u8s [fb]).length) (u8s ws ++ u8s [fb])), .is _, .is _, .is _, .is _, .rel (fun v w' => Rd w' v (u64s [M.index, M.stamp]) ∧ From W6.heap.size v), .rel (NewB W6.heap.size (numsB [M.index, M.stamp]))] (by kernel_rfl) ⟨fun _ _ h => Chg.ext h, fun _ _ _ => Ext.trans, fun _ _ _ => Chg.trans⟩ (Ext.refl _) (by kernel_rfl) rfl rfl ⟨fun v wa wc hv hE => newB_chg hv hE hown3, fun v wa wc hv hE => own_ext hv hE, fun v wa wc hv hE => ⟨hv.1.chg hE (hv.2.off hown3), hv.2⟩, fun v wa wc hv hE => newB_chg hv hE hown3, trivial⟩
        focus
          iterate 3 (apply Mono.step_is; (· refine Mono.obl_quiet (by decide) fun w9 hE9 _ K hK => ?_; (have hx9 := (HX.out.drew.chg hE9 hp0)); (have q4 := hx9.cell 4 rfl); (have q7 := hx9.cell 7 rfl); (have q8 := hx9.cell 8 rfl); go_wp2_with fail; simp only [Act.put, List.setIfInBounds_toArray, List.set_cons_succ, List.set_cons_zero] at hK; exact hK _ _ (Ext.refl _) (Mono.is_rfl _ _)); simp only [Act.put, List.setIfInBounds_toArray, List.set_cons_succ, List.set_cons_zero])
          apply Mono.step_is
          · refine Mono.obl_quiet (by decide) fun w9 hE9 _ K hK => ?_
            go_wp2_with fail
            refine (FL.out w9).mono ?_
            rintro e w10 ⟨rfl, rfl⟩
            go_wp2_with fail
            simp only [Act.put, List.setIfInBounds_toArray, List.set_cons_succ, List.set_cons_zero] at hK
            exact hK _ _ (Ext.refl _) (Mono.is_rfl _ _)
          simp only [Act.put, List.setIfInBounds_toArray, List.set_cons_succ, List.set_cons_zero]
          refine Mono.step_rel (Mono.obl_quiet (by decide) fun w9 hE9 _ K hK => ?_) fun v88 => ?_
          · have hs9 := hE9.size
            go_wp2_with fail
            simp only [Act.put, List.setIfInBounds_toArray, List.set_cons_succ, List.set_cons_zero] at hK
            have ho := own_lit w9 [.int .u8 fb] 5 (by unfold maxLen; simp)
            exact hK _ _ (Ext.alloc _ _) (Mono.rel_mk ⟨Rd.of_own ho, (From.own ho).mono hs9⟩)
          simp only [Act.put, List.setIfInBounds_toArray, List.set_cons_succ, List.set_cons_zero]
          refine Mono.step_rel (Mono.obl_loud fun w9 hE9 hkn K hK => ?_) fun v89 => ?_
          · have HN := Lib.hid (hkn.1 (by kernel_rfl))
            clear hkn
            have HOW := Lib.hid (own_ext (HO.out.drew) hE9)
            go_wp2_with (at_builtin; refine wpList_append_rd rfl (.tmp 84) (.tmp 88) _ rfl el8 (w.heap.size + 1) (.slice va vn vc) ws.length (u8s ws) (u8s [fb]) rfl HOW.out _ rfl HN.out.1 (u8s_one _) (by rw [u8s_len]; simp; omega) (by rw [u8s_len]; unfold maxLen; simp; omega) (Nat.le_trans hB hE9.size) ?_)
            intro v' w' g1 g2
            simp only [Act.put, List.setIfInBounds_toArray, List.set_cons_succ, List.set_cons_zero] at hK
            rw [← HROW.out] at g2
            exact hK _ _ (Chg.grown g2) (Mono.rel_mk g1)
          simp only [Act.put, List.setIfInBounds_toArray, List.set_cons_succ, List.set_cons_zero]
          iterate 4 (apply Mono.step_is; (· refine Mono.obl_quiet (by decide) fun w9 hE9 _ K hK => ?_; (have hx9 := (HX.out.drew.chg hE9 hp0)); (have q4 := hx9.cell 4 rfl); (have q7 := hx9.cell 7 rfl); (have q8 := hx9.cell 8 rfl); go_wp2_with fail; simp only [Act.put, List.setIfInBounds_toArray, List.set_cons_succ, List.set_cons_zero] at hK; exact hK _ _ (Ext.refl _) (Mono.is_rfl _ _)); simp only [Act.put, List.setIfInBounds_toArray, List.set_cons_succ, List.set_cons_zero])
          refine Mono.step_rel (Mono.obl_quiet (by decide) fun w9 hE9 _ K hK => ?_) fun v94 => ?_
          · have hs9 := hE9.size
            go_wp2_with fail
            simp only [Act.put, List.setIfInBounds_toArray, List.set_cons_succ, List.set_cons_zero] at hK
            have ho := own_lit w9 [.int .u64 M.index, .int .u64 M.stamp] 24 (by unfold maxLen; simp)
            exact hK _ _ (Ext.alloc _ _) (Mono.rel_mk ⟨Rd.of_own ho, (From.own ho).mono hs9⟩)
          simp only [Act.put, List.setIfInBounds_toArray, List.set_cons_succ, List.set_cons_zero]
          refine Mono.step_rel (Mono.obl_quiet (by decide) fun w9 hE9 hkn K hK => ?_) fun v95 => ?_
          · obtain ⟨_, _, q94, _⟩ := hkn
            have Q := Lib.hid (q94 (by kernel_rfl))
            have hs9 := hE9.size
            clear q94
            go_wp2_with fail
            refine (nums_c _ [M.index, M.stamp] w9 Q.out.1 (by intro z hz; simp only [List.mem_cons, List.not_mem_nil, or_false] at hz; rcases hz with rfl | rfl; exact HOK.out.index; exact HOK.out.stamp) (by simp)).mono ?_
            rintro e w10 ⟨v4, rfl, ho4, hE4⟩
            have HO4 := Lib.hid ho4; clear ho4
            go_wp2_with fail
            simp only [Act.put, List.setIfInBounds_toArray, List.set_cons_succ, List.set_cons_zero] at hK
            exact hK _ _ hE4 (Mono.rel_mk ⟨Rd.of_own HO4.out, (From.own HO4.out).mono hs9⟩)
          simp only [Act.put, List.setIfInBounds_toArray, List.set_cons_succ, List.set_cons_zero]
          refine Mono.step_end fun w9 hE9 hkn => ?_
          obtain ⟨_, h89, _, h95, _⟩ := hkn
          replace hE9 : Chg rowb.toList W6 w9 := Chg.drew.trans hE9
          have HOW := Lib.hid h89; have HN := Lib.hid h95
          have HEN := Lib.hid (show Ext w w9 from hE9.below HE.out HE.out.size (fun t ht => by have := hown2 t ht; omega))
          have hBn := Nat.le_trans hB hE9.size
          have hnl : (numsB [M.index, M.stamp]).length ≤ 18 := by have := flat_len [M.index, M.stamp]; simpa [numsB] using this
          clear hE9 h89 h95 HO HX HE hB
          simp only [List.drop_succ_cons, List.drop_zero]
          go_wp2_with (at_builtin; refine wpList_append_rd rfl (.tmp 89) (.tmp 95) _ rfl el8 (w.heap.size + 1) _ _ _ (u8s (numsB [M.index, M.stamp])) rfl HOW.out _ rfl HN.out.1 (u8s_one _) (by rw [u8s_len, u8s_len]; simp; omega) (by rw [u8s_len, u8s_len]; unfold maxLen; simp; omega) hBn ?_)
          intro v6 W7 g1 g2
          have hE6 : Ext w W7 := Below.grown HEN.out g2 HEN.out.size fun k hk => by have := own_block HOW.out k hk; omega
          have ho6 : W7.ownsRow (w.heap.size + 1) 5 1 v6 (ws ++ [fb] ++ numsB [M.index, M.stamp]).length (u8s (ws ++ [fb] ++ numsB [M.index, M.stamp])) := by
            rw [u8s_len, u8s_len] at g1
            rw [List.length_append, List.length_append, ← u8s_app, ← u8s_app, List.append_assoc]; exact g1
          clear g1 g2
          have HO := Lib.hid ho6; have HE := Lib.hid hE6
          obtain ⟨va', vn', vc', rfl⟩ := own_shape ho6
          clear ho6 hE6
          go_wp2_with fail
          go_ret2
          refine ⟨HE.out, _, 0, rfl, ?_⟩
          rw [HF.out]
          have heq : ws ++ [fb] ++ numsB [M.index, M.stamp] = M.kind % 256 :: refB M := by rw [HWS.out, HFB.out]; simp [refB, HK.out]
          rw [← heq]
          exact ⟨rfl, Rd.of_own HO.out, (From.own HO.out).mono (by omega)⟩
      by_cases hk5 : M.kind = 5
      · skip
        have HK : Hid (M.kind = 5) := Lib.hid hk5
        have hb1 : (M.kind == 1) = false := by simp [hk5]
        have hb2 : (M.kind == 2) = false := by simp [hk5]
        have hb3 : (M.kind == 3) = false := by simp [hk5]
        have hb4 : (M.kind == 4) = false := by simp [hk5]
        have hb5 : (M.kind == 5) = true := by simp [hk5]
        clear hk5 hk1 hk2 hk3 hk4
        have hm7 : M.members.length ≤ 7 := by
          rcases memGo_len M.members 0 (by omega) (HMM.out HK.out) with h | h
          · omega
          · rw [h]; simp
        have hwm : IntKind.u64.wrap (M.members.length : Int) = (M.members.length : Int) := by rw [IntKind.wrap_u64]; omega
        go_upto_region 19 with fail
        have q4 := HX.out.cell 4 rfl
        have q5 := HX.out.cell 5 rfl
        have q7 := HX.out.cell 7 rfl
        have q10 := HX.out.cell 10 rfl
        have hl := own_lit W6 [.int .u64 M.index, .int .u64 M.logTerm, .int .u64 M.stamp, .int .u64 (M.members.length : Int)] 24 (by unfold maxLen; simp)
        have HLN := Lib.hid (Rd.of_own hl)
        clear hl
        go_wp2_with fail
        refine (nums_c _ [M.index, M.logTerm, M.stamp, (M.members.length : Int)] _ HLN.out (by intro z hz; simp only [List.mem_cons, List.not_mem_nil, or_false] at hz; rcases hz with rfl | rfl | rfl | rfl; all_goals (first | exact HOK.out.src | exact HOK.out.dst | exact HOK.out.term | exact HOK.out.index | exact HOK.out.logTerm | exact HOK.out.commit | exact HOK.out.stamp | exact hlen64 | exact hlenm64)) (by simp)).mono ?_
        rintro e U6 ⟨nv, rfl, hn, hE'⟩
        have hEE := (Ext.alloc W6 (.cells [.int .u64 M.index, .int .u64 M.logTerm, .int .u64 M.stamp, .int .u64 (M.members.length : Int)].toArray 24)).trans hE'
        have HOW := Lib.hid (own_ext HO.out hEE); have HXN := Lib.hid (HX.out.ext hEE); have HEN := Lib.hid (HE.out.trans hEE); have HN := Lib.hid hn
        have hBn := Nat.le_trans hB hEE.size
        have hnl : (numsB [M.index, M.logTerm, M.stamp, (M.members.length : Int)]).length ≤ 9 * 4 := by have := flat_len [M.index, M.logTerm, M.stamp, (M.members.length : Int)]; simpa [numsB] using this
        clear hn hE' hEE HO HX HE hB HLN q4 q5 q7 q10
        go_wp2_with (at_builtin; refine wpList_append_rd rfl (.tmp 99) (.tmp 111) _ rfl el8 (w.heap.size + 1) _ _ _ (u8s (numsB [M.index, M.logTerm, M.stamp, (M.members.length : Int)])) rfl HOW.out _ rfl (Rd.of_own HN.out) (u8s_one _) (by rw [u8s_len]; omega) (by rw [u8s_len]; unfold maxLen; omega) hBn ?_)
        intro v6 W6 g1 g2
        have HOB := Lib.hid g1; have HGB := Lib.hid g2
        clear g1 g2 HN
        have hE6 : Ext w W6 := Below.grown HEN.out HGB.out HEN.out.size fun k hk => by have := own_block HOW.out k hk; omega
        have hX6 := HXN.out.grown HGB.out (by intro e; have := own_block HOW.out _ e.symm; omega)
        have hB6 := Nat.le_trans hBn HGB.out.size
        have ho6 : W6.ownsRow (w.heap.size + 1) 5 1 v6 (ws ++ (numsB [M.index, M.logTerm, M.stamp, (M.members.length : Int)])).length (u8s (ws ++ (numsB [M.index, M.logTerm, M.stamp, (M.members.length : Int)]))) := by
          have h := HOB.out
          rw [u8s_len] at h
          rw [List.length_append, ← u8s_app]; exact h
        have hl6 : (ws ++ (numsB [M.index, M.logTerm, M.stamp, (M.members.length : Int)])).length ≤ 1000000 + 36 := by rw [List.length_append]; omega
        obtain ⟨ws2, hws2⟩ : ∃ z, z = ws ++ (numsB [M.index, M.logTerm, M.stamp, (M.members.length : Int)]) := ⟨_, rfl⟩
        rw [← hws2] at ho6 hl6
        have Hws2 := Lib.hid hws2
        clear hws2
        obtain ⟨va, vn, vc, rfl⟩ := own_shape ho6
        have HO := Lib.hid ho6; have HX := Lib.hid hX6; have HE := Lib.hid hE6
        have hB := hB6
        clear hwl
        have hwl := hl6
        clear hE6 hX6 ho6 HOB HGB HOW HXN HEN hBn hB6 hl6
        clear hwm
        go_upto_region 20 with fail
        have q10 := HX.out.cell 10 rfl
        go_wp2_with fail
        refine (nums_c _ M.members W6 (HMS.out.ext HE.out) HOK.out.members (by omega)).mono ?_
        rintro e U6 ⟨nv, rfl, hn, hE'⟩
        have HOW := Lib.hid (own_ext HO.out hE'); have HXN := Lib.hid (HX.out.ext hE'); have HEN := Lib.hid (HE.out.trans hE'); have HN := Lib.hid hn
        have hBn := Nat.le_trans hB hE'.size
        have hnl : (numsB M.members).length ≤ 63 := by have := flat_len M.members; simp only [numsB]; omega
        clear hn hE' HO HX HE hB q10
        go_wp2_with (at_builtin; refine wpList_append_rd rfl (.tmp 113) (.tmp 116) _ rfl el8 (w.heap.size + 1) _ _ _ (u8s (numsB M.members)) rfl HOW.out _ rfl (Rd.of_own HN.out) (u8s_one _) (by rw [u8s_len]; omega) (by rw [u8s_len]; unfold maxLen; omega) hBn ?_)
        intro v6 W6 g1 g2
        have HOB := Lib.hid g1; have HGB := Lib.hid g2
        clear g1 g2 HN
        have hE6 : Ext w W6 := Below.grown HEN.out HGB.out HEN.out.size fun k hk => by have := own_block HOW.out k hk; omega
        have hX6 := HXN.out.grown HGB.out (by intro e; have := own_block HOW.out _ e.symm; omega)
        have hB6 := Nat.le_trans hBn HGB.out.size
        have ho6 : W6.ownsRow (w.heap.size + 1) 5 1 v6 (ws2 ++ (numsB M.members)).length (u8s (ws2 ++ (numsB M.members))) := by
          have h := HOB.out
          rw [u8s_len] at h
          rw [List.length_append, ← u8s_app]; exact h
        have hl6 : (ws2 ++ (numsB M.members)).length ≤ 1000000 + 100 := by rw [List.length_append]; omega
        obtain ⟨ws3, hws2⟩ : ∃ z, z = ws2 ++ (numsB M.members) := ⟨_, rfl⟩
        rw [← hws2] at ho6 hl6
        have Hws3 := Lib.hid hws2
        clear hws2
        obtain ⟨va, vn, vc, rfl⟩ := own_shape ho6
        have HO := Lib.hid ho6; have HX := Lib.hid hX6; have HE := Lib.hid hE6
        have hB := hB6
        clear hwl
        have hwl := hl6
        clear hE6 hX6 ho6 HOB HGB HOW HXN HEN hBn hB6 hl6
        go_upto_region 21 with fail
        have q11 := HX.out.cell 11 rfl
        go_wp2_with fail
        refine (rraw_ret _ M.image W6 (HI.out.ext HE.out) (by omega)).mono ?_
        rintro e U6 ⟨nv, rfl, hn, hE'⟩
        have HOW := Lib.hid (own_ext HO.out hE'); have HXN := Lib.hid (HX.out.ext hE'); have HEN := Lib.hid (HE.out.trans hE'); have HN := Lib.hid hn
        have hBn := Nat.le_trans hB hE'.size
        have hnl2 : (numB M.image.length ++ M.image).length ≤ 17000 := by have := numB_len_le M.image.length; rw [List.length_append]; omega
        clear hn hE' HO HX HE hB q11
        go_wp2_with (at_builtin; refine wpList_append_rd rfl (.tmp 118) (.tmp 121) _ rfl el8 (w.heap.size + 1) _ _ _ (u8s (numB M.image.length ++ M.image)) rfl HOW.out _ rfl (Rd.of_own HN.out) (u8s_one _) (by rw [u8s_len]; omega) (by rw [u8s_len]; unfold maxLen; omega) hBn ?_)
        intro v6 W6 g1 g2
        have HOB := Lib.hid g1; have HGB := Lib.hid g2
        clear g1 g2 HN
        have hE6 : Ext w W6 := Below.grown HEN.out HGB.out HEN.out.size fun k hk => by have := own_block HOW.out k hk; omega
        have hX6 := HXN.out.grown HGB.out (by intro e; have := own_block HOW.out _ e.symm; omega)
        have hB6 := Nat.le_trans hBn HGB.out.size
        have ho6 : W6.ownsRow (w.heap.size + 1) 5 1 v6 (ws3 ++ (numB M.image.length ++ M.image)).length (u8s (ws3 ++ (numB M.image.length ++ M.image))) := by
          have h := HOB.out
          rw [u8s_len] at h
          rw [List.length_append, ← u8s_app]; exact h
        have hl6 : (ws3 ++ (numB M.image.length ++ M.image)).length ≤ 1000000 + 18000 := by rw [List.length_append]; omega
        clear hX6 HXN HEN hBn HOW HGB
        have HO := Lib.hid ho6; have HE := Lib.hid hE6
        obtain ⟨va', vn', vc', rfl⟩ := own_shape ho6
        clear ho6 hE6
        go_wp2_with fail
        go_ret2
        refine ⟨HE.out, _, 0, rfl, ?_⟩
        rw [HF.out]
        have heq : ws3 ++ (numB M.image.length ++ M.image) = M.kind % 256 :: refB M := by rw [Hws3.out, Hws2.out, HWS.out]; simp [refB, HK.out]
        rw [← heq]
        exact ⟨rfl, Rd.of_own HO.out, (From.own HO.out).mono (by omega)⟩
      exfalso; omega
end Go.Proofs.Ytnhfjoelfnmgaaa
