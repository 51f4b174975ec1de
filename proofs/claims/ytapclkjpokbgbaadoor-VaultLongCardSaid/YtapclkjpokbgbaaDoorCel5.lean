/- cell: Get, Set. -/
import Derived.Test.YtapclkjpokbgbaaDoorCel4
set_option linter.unusedSimpArgs false
set_option linter.unusedVariables false
namespace Go.Proofs.YtapclkjpokbgbaaDoor
open Go Go.RowKit Go.Maps

def hardV (t v : Int) : Value := .agg #[.int .u64 t, .int .u64 v]
set_option maxRecDepth 100000 in
theorem get_nil (w : World) : Calls Tryd.prog 13 #[.pointer none] w fun e w' => e = .returned (hardV 0 0) ∧ Ext w w' := by
  go_enter Tryd.func13, Tryd.ntmps13
  go_wp2_with fail
  have hB : Blk (w.alloc (.cells #[.int .u64 0, .int .u64 0] 24)) w.heap.size #[.int .u64 0, .int .u64 0] 24 := Blk.new _ _ _
  have k0 := hB.cell 0 rfl; have k1 := hB.cell 1 rfl
  simp only [List.getElem_toArray, List.getElem_cons_zero, List.getElem_cons_succ] at k0 k1
  refine bodyPost_ret (v := hardV 0 0) (by simp [results, Tryd.results13, go_sem, k0, k1, hardV]) rfl ⟨rfl, Ext.alloc _ _⟩
set_option maxRecDepth 100000 in
theorem get_c (c d : Nat) (name : ByteArray) (cnt t v : Nat) (ov : Bool) (w : World) (h : CelB w c d name cnt t v ov) : Calls Tryd.prog 13 #[dptr c] w fun e w' => e = .returned (hardV t v) ∧ Ext w w' := by
  have hb : Blk w c #[dptr d, .string name, .int .u64 cnt, .int .u64 t, .int .u64 v, .bool ov] 75 := h
  obtain ⟨c0, c1, c2, c3, c4, c5⟩ := hb.six
  have hlt := Blk.lt hb
  clear h hb
  go_enter Tryd.func13, Tryd.ntmps13
  go_wp2_with fail
  have hB : Blk (w.alloc (.cells #[.int .u64 t, .int .u64 v] 24)) w.heap.size #[.int .u64 t, .int .u64 v] 24 := Blk.new _ _ _
  have k0 := hB.cell 0 rfl; have k1 := hB.cell 1 rfl
  simp only [List.getElem_toArray, List.getElem_cons_zero, List.getElem_cons_succ] at k0 k1
  refine bodyPost_ret (v := hardV t v) (by simp [results, Tryd.results13, go_sem, k0, k1, hardV]) rfl ⟨rfl, Ext.alloc _ _⟩
set_option maxRecDepth 100000 in
theorem set_nil (hv : Value) (w : World) (h : ∃ t v : Int, hv = hardV t v) : Calls Tryd.prog 12 #[.pointer none, hv] w fun e w' => e = .returned (.int .i64 6) ∧ Ext w w' := by
  obtain ⟨t, v, rfl⟩ := h
  go_enter Tryd.func12, Tryd.ntmps12
  simp only [hardV]
  go_wp2_with fail
  go_ret
  exact ⟨rfl, Ext.alloc _ _⟩
set_option maxRecDepth 100000 in
set_option maxHeartbeats 2000000 in
/-- A set on a disk where nothing waits. -/
theorem set_c (c d n : Nat) (O : List Nat) (S : Dk) (name : ByteArray) (cnt ct cv t v0 : Nat) (w : World) (h : DkS w d n 48 O [] S) (hc : CelB w c d name cnt ct cv false) (hcO : c ∉ O) (hn : named4 name = true) (hn1 : n ≤ 1000) (hw : S.waits = []) (h1 : cnt + 1 < 18446744073709551616) (h2 : t < 18446744073709551616) (h3 : v0 < 18446744073709551616) :
    Calls Tryd.prog 12 #[dptr c, hardV t v0] w fun e w' => e = .returned (.int .i64 (setS name S cnt t v0).1) ∧ ∃ O', DkS w' d (n + 1) 48 O' [] (setS name S cnt t v0).2 ∧ c ∉ O' ∧ (∀ t ∈ O', t ∈ O ∨ w.heap.size ≤ t) ∧ Chg (c :: O) w w' ∧
      ((setS name S cnt t v0).1 = 0 → CelB w' c d name (cnt + 1) t v0 false) ∧ ((setS name S cnt t v0).1 = 6 → CelB w' c d name cnt ct cv true) := by
  obtain ⟨X, hX⟩ : ∃ X, X = setS name S cnt t v0 := ⟨_, rfl⟩
  rw [← hX]
  obtain ⟨g0, g4, gt⟩ := named4_parts hn
  have hb : Blk w c #[dptr d, .string name, .int .u64 cnt, .int .u64 ct, .int .u64 cv, .bool false] 75 := hc
  have hlt := Blk.lt hb
  have HX := Lib.hid hX; have HD := Lib.hid h; have HC := Lib.hid hb
  clear hX h hc hb gt hn
  go_enter Tryd.func12, Tryd.ntmps12
  simp only [hardV]
  obtain ⟨w1, hw1⟩ : ∃ w1, w1 = w.alloc (.cells #[.int .u64 t, .int .u64 v0] 24) := ⟨_, rfl⟩
  have hE1 : Ext w w1 := by rw [hw1]; exact Ext.alloc _ _
  have hP : Blk w1 w.heap.size #[.int .u64 t, .int .u64 v0] 24 := by rw [hw1]; exact Blk.new _ _ _
  obtain ⟨c0, c1, c2, c3, c4, c5⟩ := HC.out.six
  go_upto_region 1 with fail
  rw [← hw1]
  obtain ⟨p, hp⟩ : ∃ p, p = w.heap.size := ⟨_, rfl⟩
  rw [← hp] at hP hlt ⊢
  replace c0 := hE1.cell c0; replace c1 := hE1.cell c1; replace c2 := hE1.cell c2; replace c5 := hE1.cell c5
  have q0 := hP.cell 0 rfl; have q1 := hP.cell 1 rfl
  simp only [List.getElem_toArray, List.getElem_cons_zero, List.getElem_cons_succ] at q0 q1
  have HE1 := Lib.hid hE1; have HP := Lib.hid hP
  have HPP := Lib.hid hp
  clear hE1 hP hw1 c3 c4 hp
  go_upto_region 3 with fail
  apply Mono.region1 22 Ext [.is _, .is _, .is _, .is _, .is _, .is _, .is _, .is _, .is _, .is _, .is _, .is _, .is _, .is _, .is _, .is _, .is _, .is _, .is _, .is _, .is _, .rel (fun v w => Rd w v (u8s (layC (cnt + 1) t v0)))] (by kernel_rfl) Ext.refl (fun _ _ _ => Ext.trans) (by kernel_rfl) rfl rfl ⟨fun v w w' h hE => Rd.ext h hE, trivial⟩
  focus
    iterate 10 (apply Mono.step_is; (· refine Mono.obl_mk fun w5 hE5 _ K hK => ?_; (have j0 := hE5.cell (show w1.drew.cell? _ = _ from c0)); (have j2 := hE5.cell (show w1.drew.cell? _ = _ from c2)); (have i0 := hE5.cell (show w1.drew.cell? _ = _ from q0)); (have i1 := hE5.cell (show w1.drew.cell? _ = _ from q1)); clear hE5; go_wp2_with fail; simp only [Act.put, List.setIfInBounds_toArray, List.set_cons_succ, List.set_cons_zero] at hK; exact hK _ _ (Ext.refl _) (Mono.is_rfl _ _)); simp only [Act.put, List.setIfInBounds_toArray, List.set_cons_succ, List.set_cons_zero])
    apply Mono.step_is
    · refine Mono.obl_mk fun w5 hE5 _ K hK => ?_
      go_wp2_with fail
      refine (file_c c d name cnt ct cv (cnt + 1) false w5 (Blk.ext HC.out (HE1.out.trans ((Ext.drew _).trans hE5))) h1 g4).mono ?_
      rintro e w6 ⟨rfl, hE6⟩
      go_wp2_with fail
      simp only [Act.put, List.setIfInBounds_toArray, List.set_cons_succ, List.set_cons_zero] at hK
      exact hK _ _ hE6 (Mono.is_rfl _ _)
    simp only [Act.put, List.setIfInBounds_toArray, List.set_cons_succ, List.set_cons_zero]
    iterate 10 (apply Mono.step_is; (· refine Mono.obl_mk fun w5 hE5 _ K hK => ?_; (have j0 := hE5.cell (show w1.drew.cell? _ = _ from c0)); (have j2 := hE5.cell (show w1.drew.cell? _ = _ from c2)); (have i0 := hE5.cell (show w1.drew.cell? _ = _ from q0)); (have i1 := hE5.cell (show w1.drew.cell? _ = _ from q1)); clear hE5; go_wp2_with fail; simp only [Act.put, List.setIfInBounds_toArray, List.set_cons_succ, List.set_cons_zero] at hK; exact hK _ _ (Ext.refl _) (Mono.is_rfl _ _)); simp only [Act.put, List.setIfInBounds_toArray, List.set_cons_succ, List.set_cons_zero])
    apply Mono.step_rel
    · refine Mono.obl_mk fun w5 hE5 _ K hK => ?_
      go_wp2_with fail
      refine (lay_c (cnt + 1) t v0 w5 h1 h2 h3).mono ?_
      rintro e w6 ⟨lv, rfl, hlo, hE6⟩
      have hlr := Rd.of_own hlo
      clear hlo
      go_wp2_with fail
      simp only [Act.put, List.setIfInBounds_toArray, List.set_cons_succ, List.set_cons_zero] at hK
      exact hK _ _ hE6 (Mono.rel_mk hlr)
    intro lv
    simp only [Act.put, List.setIfInBounds_toArray, List.set_cons_succ, List.set_cons_zero]
    refine Mono.step_end fun w5 hE5 hkn => ?_
    simp only [List.drop_succ_cons, List.drop_zero]
    have hlr : Rd w5 lv (u8s (layC (cnt + 1) t v0)) := hkn.1
    have hE15 := (Ext.drew w1).trans hE5
    replace c0 := hE15.cell c0; replace c2 := hE15.cell c2; replace q0 := hE15.cell q0; replace q1 := hE15.cell q1
    have HE5 := Lib.hid (HE1.out.trans hE15); have HLR := Lib.hid hlr; have HC5 := Lib.hid (Blk.ext HC.out (HE1.out.trans hE15)); have HP5 := Lib.hid (HP.out.ext hE15)
    clear hkn hE5 hE15 hlr c5 HP
    obtain ⟨R, hR⟩ : ∃ R, R = writeS S (cfile name (cnt + 1)) 0 (layC (cnt + 1) t v0) := ⟨_, rfl⟩
    have hXR : X = if R.1 = 0 then syncS R.2 else R := by rw [HX.out, hR]; rfl
    go_wp2_with fail
    refine (write_c d n 48 O [] S (cfile name (cnt + 1)) 0 (layC (cnt + 1) t v0) lv w5 (HD.out.ext HE5.out) (by omega) (by rw [hw]; simp) (by omega) (by omega) (by rw [cfile_size]; unfold maxLen; omega) (by omega) (by omega) HLR.out (layC_b8 _ _ _) (by intro _ _; rw [layC_len]; omega)).mono ?_
    rintro e w6 ⟨rfl, O6, hd6, ht6⟩
    rw [← hR] at hd6 ⊢
    have hcO6 : c ∉ O6 := fun hm => by
      rcases ht6.2.1 c hm with h | h
      · exact hcO h
      · have := HE5.out.size; have := HPP.out; omega
    have hpO : p ∉ O := fun hm => by have := HD.out.low p hm; have := HPP.out; omega
    have hpO6 : p ∉ O6 := fun hm => by
      rcases ht6.2.1 p hm with h | h
      · exact hpO h
      · have := Blk.lt HP5.out; omega
    have hC6 := Blk.chg HC5.out ht6.1 hcO
    have hP6 := HP5.out.chg ht6.1 hpO
    replace c0 := cell_chg ht6.1 c0 hcO; replace q0 := cell_chg ht6.1 q0 hpO; replace q1 := cell_chg ht6.1 q1 hpO
    have HD6 := Lib.hid hd6; have HT6 := Lib.hid ht6; have HC6 := Lib.hid hC6; have HP6 := Lib.hid hP6; have HXR := Lib.hid hXR
    obtain ⟨R1, R2⟩ := R
    dsimp only at HXR HD6 ⊢
    clear hd6 ht6 hC6 hP6 hXR hR HP5 HC5 HLR c2
    go_upto_if 38 with fail
    go_cut [5] (fun v5 wc => v5 = .int .i64 X.1 ∧ ∃ Oc, DkS wc d (n + 1) 48 Oc [] X.2 ∧ DkTo O w5 wc Oc ∧ c ∉ Oc ∧ p ∉ Oc ∧ Blk wc c #[dptr d, .string name, .int .u64 cnt, .int .u64 ct, .int .u64 cv, .bool false] 75 ∧ Blk wc p #[.int .u64 t, .int .u64 v0] 24)
    case first =>
      by_cases hR1 : R1 = 0
      · subst hR1
        have hX2 : X = syncS R2 := HXR.out
        have HX2 := Lib.hid hX2
        clear HXR hX2
        go_wp2_with fail
        refine (sync_c d (n + 1) 48 O6 [] R2 w6 HD6.out).mono ?_
        rintro e w7 ⟨rfl, O7, hd7, ht7⟩
        rw [← HX2.out] at hd7 ⊢
        have HD7 := Lib.hid hd7; have HT7 := Lib.hid ht7
        clear hd7 ht7
        go_wp2_with fail
        go_meet
        refine ⟨rfl, O7, HD7.out, HT6.out.trans HT7.out, fun hm => ?_, fun hm => ?_, Blk.chg HC6.out HT7.out.1 hcO6, HP6.out.chg HT7.out.1 hpO6⟩
        · rcases HT7.out.2.1 c hm with h | h
          · exact hcO6 h
          · have := Blk.lt HC6.out; omega
        · rcases HT7.out.2.1 p hm with h | h
          · exact hpO6 h
          · have := HP6.out.lt; omega
      · have hne : (R1 == 0) = false := by simpa using hR1
        have HX2 : Hid (X = (R1, R2)) := Lib.hid (by rw [HXR.out]; exact if_neg hR1)
        clear HXR hR1
        go_wp2_with fail
        go_meet
        rw [HX2.out]
        exact ⟨rfl, O6, HD6.out, HT6.out, hcO6, hpO6, HC6.out, HP6.out⟩
    case rest =>
    obtain ⟨rfl, Oc, hdc, htc, hcc, hpc, hBc, hPc⟩ := hcut
    have k0 := hBc.cell 0 rfl; have k2 := hBc.cell 2 rfl; have k3 := hBc.cell 3 rfl; have k4 := hBc.cell 4 rfl; have k5 := hBc.cell 5 rfl
    have r0 := hPc.cell 0 rfl; have r1 := hPc.cell 1 rfl
    simp only [List.getElem_toArray, List.getElem_cons_zero, List.getElem_cons_succ] at k0 k2 k3 k4 k5 r0 r1
    have f2 := hBc.free 2; have f3 := hBc.free 3; have f4 := hBc.free 4; have f5 := hBc.free 5
    have hnb : NoB wc c := NoB.blk hBc (by intro x hx y; simp [dptr] at hx; rcases hx with rfl | rfl | rfl | rfl | rfl | rfl <;> simp)
    have hnew : ∀ t ∈ Oc, t ∈ O ∨ w.heap.size ≤ t := fun t ht => (htc.2.1 t ht).imp id fun h => by have := HE5.out.size; omega
    have hchg : Chg (c :: O) w wc := ((Chg.ext HE5.out).trans' htc.1 fun t ht => .inl (List.mem_cons_of_mem _ ht))
    have HDc := Lib.hid hdc; have HBc := Lib.hid hBc; have HNB := Lib.hid hnb; have HNEW := Lib.hid hnew; have HCHG := Lib.hid hchg
    clear hdc htc hBc hPc hnb hnew hchg HT6 HC6 HP6 HD6 HXR c0 c1 q0 q1
    obtain ⟨X1, X2⟩ := X
    dsimp only at HDc ⊢
    by_cases hX0 : X1 = 0
    · subst hX0
      clear k5 f5
      go_upto_region 8 with fail
      go_region
      all_goals
        have hS := ((HBc.out.set 2 (.int .u64 ((cnt : Int) + 1))).set 3 (.int .u64 t)).set 4 (.int .u64 v0)
        have hg : Chg [c] wc (((wc.setCell ⟨c, 2, none⟩ (.int .u64 ((cnt : Int) + 1))).setCell ⟨c, 3, none⟩ (.int .u64 t)).setCell ⟨c, 4, none⟩ (.int .u64 v0)) := ((Chg.set _ 2 _ (by simp)).setNew _ 3 _ (.inl (by simp))).setNew _ 4 _ (.inl (by simp))
        obtain ⟨w9, hw9⟩ : ∃ w9, w9 = (((wc.setCell ⟨c, 2, none⟩ (.int .u64 ((cnt : Int) + 1))).setCell ⟨c, 3, none⟩ (.int .u64 t)).setCell ⟨c, 4, none⟩ (.int .u64 v0)) := ⟨_, rfl⟩
        rw [← hw9] at hS hg ⊢
        have HS := Lib.hid (show CelB w9.drew c d name (cnt + 1) t v0 false by have := Blk.drew hS; unfold CelB; simpa using this)
        have HDE := Lib.hid ((HDc.out.chg hg (fun x hx => by simp at hx; subst hx; exact ⟨hcc, .inl HNB.out⟩)).ext (Ext.drew w9))
        have HCE := Lib.hid ((HCHG.out.trans' hg fun x hx => .inl (by simp at hx; subst hx; simp)).trans' (T := []) (Chg.ext (Ext.drew w9)) (by simp))
        clear hw9 hS hg k0 k2 k3 k4 r0 r1 f2 f3 f4
        go_wp2_with fail
        go_ret
        exact ⟨rfl, Oc, HDE.out, hcc, HNEW.out, HCE.out, HS.out⟩
    · by_cases hX6 : X1 = 6
      · subst hX6
        clear k2 k3 k4 f2 f3 f4 r0 r1
        go_wp2_with fail
        go_ret
        have hS := HBc.out.set 5 (.bool true)
        have hg : Chg [c] wc (wc.setCell ⟨c, 5, none⟩ (.bool true)) := Chg.set _ 5 _ (by simp)
        exact ⟨rfl, Oc, HDc.out.chg hg (fun x hx => by simp at hx; subst hx; exact ⟨hcc, .inl HNB.out⟩), hcc, HNEW.out, HCHG.out.trans' hg fun x hx => .inl (by simp at hx; subst hx; simp), by unfold CelB; simpa using hS⟩
      · have hb0 : (X1 == 0) = false := by simpa using hX0
        have hb6 : (X1 == 6) = false := by simpa using hX6
        have HX0 := Lib.hid hb0; have HX6 := Lib.hid hb6
        clear hX0 hX6 k2 k3 k4 k5 f2 f3 f4 f5 r0 r1 k0
        go_wp2_with fail
        go_ret
        exact ⟨rfl, Oc, HDc.out, hcc, HNEW.out, HCHG.out, fun h => by rw [h] at HX0; exact absurd HX0.out (by decide), fun h => by rw [h] at HX6; exact absurd HX6.out (by decide)⟩
end Go.Proofs.YtapclkjpokbgbaaDoor
