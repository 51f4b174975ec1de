/- tabellionlaw10: CellAll. -/
import Derived.Test.YtapclkjpokbgbaaDoorCelb
set_option linter.unusedSimpArgs false
set_option linter.unusedVariables false
namespace Go.Proofs.YtapclkjpokbgbaaDoor
open Go Go.RowKit Go.Maps

/-- A quiet run behind k sets. -/
def Quiet (wb w : World) (r d c x k : Nat) (O : List Nat) (S : Dk) (hh : Nat × Nat) : Prop := RunS wb w r d c x k O S k hh hh false false ∧ CInv voteN S (k, hh) ∧ CForm voteN S.now ∧ S.fuse = -1
set_option maxRecDepth 100000 in
set_option maxHeartbeats 8000000 in
/-- CellAll is true. -/
theorem cellall_c (lv : Value) (xs : List (Nat × Nat)) (h more : Nat × Nat) (kv : Value) (keep : List Bool) (w : World) (hl : HardsV w lv xs) (hx : ∀ y ∈ xs, HOk y) (hh : HOk h) (hm : HOk more) (hk : Rd w kv (keep.map Value.bool)) (hkl : keep.length ≤ 140737488351232) :
    Calls Tryd.prog 6 #[lv, hardV h.1 h.2, hardV more.1 more.2, kv] w fun e w' => e = .returned (.bool true) ∧ Ext w w' := by
  have HHO := Lib.hid hh; have HMO := Lib.hid hm; have HXO := Lib.hid hx; have HKL := Lib.hid hkl
  obtain ⟨a, c, rfl, hl1, hl2, hl3⟩ := hl
  replace hl2 : c ≤ 9223372036854775807 := by unfold maxLen at hl2; omega
  obtain ⟨N, hN⟩ : ∃ N, N = xs.length := ⟨_, rfl⟩
  rw [← hN] at hl1 ⊢
  have HN := Lib.hid hN; have HL := Lib.hid hl3; have HK := Lib.hid hk
  clear hh hm hx hN hl3 hk hkl
  go_enter Tryd.func6, Tryd.ntmps6
  simp only [hardV]
  obtain ⟨wa, hwa⟩ : ∃ wa, wa = w.alloc (.cells #[.int .u64 h.1, .int .u64 h.2] 24) := ⟨_, rfl⟩
  have hEa : Ext w wa := by rw [hwa]; exact Ext.alloc _ _
  have hPa : Blk wa w.heap.size #[.int .u64 h.1, .int .u64 h.2] 24 := by rw [hwa]; exact Blk.new _ _ _
  have hsa : wa.heap.size = w.heap.size + 1 := by rw [hwa]; simp
  obtain ⟨w1, hw1⟩ : ∃ w1, w1 = wa.alloc (.cells #[.int .u64 more.1, .int .u64 more.2] 24) := ⟨_, rfl⟩
  have hE1 : Ext wa w1 := by rw [hw1]; exact Ext.alloc _ _
  have hP1 : Blk w1 (w.heap.size + 1) #[.int .u64 more.1, .int .u64 more.2] 24 := by rw [hw1, ← hsa]; exact Blk.new _ _ _
  go_upto_region 1 with fail
  rw [← hwa, ← hw1]
  obtain ⟨p, hp⟩ : ∃ p, p = w.heap.size := ⟨_, rfl⟩
  obtain ⟨q, hq⟩ : ∃ q, q = w.heap.size + 1 := ⟨_, rfl⟩
  rw [← hq, ← hp]
  rw [← hp] at hPa
  rw [← hq] at hP1
  have HP := Lib.hid (hPa.ext hE1); have HQ := Lib.hid hP1; have HE1 := Lib.hid (hEa.trans hE1)
  clear hwa hw1 hEa hE1 hPa hP1 hsa hp hq
  go_wp2_with fail
  refine (awake10_c w1).mono ?_
  rintro e w2 ⟨rfl, hE2⟩
  have HE2 := Lib.hid (HE1.out.trans hE2); have HP2 := Lib.hid (HP.out.ext hE2); have HQ2 := Lib.hid (HQ.out.ext hE2)
  clear hE2 HE1 HP HQ
  go_upto_if 17 with fail
  go_cut [0] (fun v0 wc => ∃ (L : Nat), v0 = .slice a L c ∧ L ≤ 6 ∧ L ≤ N ∧ wc = w2)
  case first =>
    by_cases h6 : (N : Int) ≤ 6
    · go_wp2_with fail
      go_meet
      exact ⟨N, rfl, by omega, Nat.le_refl _, rfl⟩
    · have h6' : (6 : Int) < (N : Int) := by omega
      clear h6
      go_wp2_with fail
      go_meet
      exact ⟨6, rfl, Nat.le_refl _, by omega, rfl⟩
  case rest =>
  obtain ⟨L, rfl, hL6, hLN, hw2⟩ := hcut
  have hw2' := hw2.symm
  subst hw2'
  go_wp2_with fail
  go_loopg [9, 10, 11, 12] 5 (fun g v9 v10 v11 v12 wr => ∃ k : Nat, v9 = .int .i64 (k : Int) ∧ k + g = 5 ∧ Ext w2 wr)
  case atStart => exact ⟨0, rfl, by omega, Ext.refl _⟩
  case round =>
    obtain ⟨k, rfl, hk5, hER⟩ := hrel
    have HER := Lib.hid hER
    clear hER
    by_cases hk : k < 5
    · have hk' : (k : Int) < 5 := by omega
      go_wp2_with fail
      go_loopg [10, 11, 12] 70 (fun g v10 v11 v12 wr => ∃ j : Nat, v10 = .int .i64 (j : Int) ∧ j + g = 70 ∧ Ext w2 wr)
      case atStart => exact ⟨0, rfl, by omega, HER.out⟩
      case round =>
        obtain ⟨j, rfl, hj70, hEB⟩ := hrel
        have HEB := Lib.hid hEB
        clear hEB
        by_cases hj : j < 70
        · have hj' : (j : Int) < 70 := by omega
          obtain ⟨wb, hwb⟩ : ∃ wb, wb = wr := ⟨_, rfl⟩
          subst hwb
          have HPB := Lib.hid (HP2.out.ext HEB.out); have HQB := Lib.hid (HQ2.out.ext HEB.out); have HWB := Lib.hid (HE2.out.trans HEB.out)
          have hpl : p < wb.heap.size := HPB.out.lt
          have hql : q < wb.heap.size := HQB.out.lt
          go_wp2_with fail
          refine (begin_c wb).mono ?_
          rintro e w3 ⟨r, d, cc, xx, O, rfl, hR3⟩
          have HR3 := Lib.hid hR3
          clear hR3
          go_upto_block 4 with fail
          go_cut [12] (fun v12 wc => ∃ (k' : Nat) (S : Dk) (O : List Nat) (hh : Nat × Nat), k' ≤ 6 ∧ Quiet wb wc r d cc xx k' O S hh)
          case first =>
            go_wp2_with fail
            go_loopg [12] L (fun g v12 wq => ∃ (i : Nat) (S : Dk) (O : List Nat) (hh : Nat × Nat), v12 = .int .i64 (i : Int) ∧ i + g = L ∧ Quiet wb wq r d cc xx i O S hh)
            case atStart => exact ⟨0, _, _, _, rfl, by omega, HR3.out, (CInv.new voteN).1, (CInv.new voteN).2, rfl⟩
            case round =>
              obtain ⟨i, S, O', hh, rfl, hiL, hRun, hCI, hCF, hfu⟩ := hrel
              have HRun := Lib.hid hRun; have HCI := Lib.hid hCI; have HCF := Lib.hid hCF; have HFU := Lib.hid hfu
              by_cases hi : i < L
              · obtain ⟨y, hy⟩ : ∃ y, xs[i]? = some y := ⟨_, List.getElem?_eq_getElem (by rw [← HN.out]; omega)⟩
                obtain ⟨lb, lo, rfl, hcell⟩ := HL.out.resolve_left (by intro e; rw [e] at hy; simp at hy)
                have l0 := (HWB.out.trans hRun.old).cell (hcell i y hy).1
                have l1 := (HWB.out.trans hRun.old).cell (hcell i y hy).2
                have hyo := HXO.out y (List.mem_of_getElem? hy)
                obtain ⟨S', hset, hI', hF', hfz'⟩ := hCI.set_ok (t := y.1) (v := y.2) vote_named (by have := hRun.dk.usedN; omega) hRun.dk.now (.inl hfu) (by show i + 1 < _; omega) hyo.1 hyo.2
                have HSET := Lib.hid hset; have HI' := Lib.hid hI'; have HF' := Lib.hid (hF' hCF); have HFZ := Lib.hid (hfz' hfu); have HYO := Lib.hid hyo
                clear hy hcell hset hI' hF' hfz' hRun hCI hCF hfu hyo
                go_wp2_with fail
                refine (rset_c wb r d cc xx i i O' S hh hh y.1 y.2 wr HRun.out (by omega) HCI.out.waits (by omega) HYO.out.1 HYO.out.2 (.inl (by rw [HSET.out]))).mono ?_
                rintro e w5 ⟨rfl, _, O5, hc | hc⟩
                · have hR5 := hc.2
                  rw [HSET.out] at hR5
                  have HR5 := Lib.hid hR5
                  clear hc hR5 l0 l1
                  go_wp2_with fail
                  go_roundg (L - (i + 1))
                  case measure => omega
                  case rel => exact ⟨i + 1, S', O5, (y.1, y.2), by go_num, by omega, HR5.out, HI'.out, HF'.out, HFZ.out⟩
                · rw [HSET.out] at hc
                  exact absurd (show (0 : Int) = 6 from hc.1) (by decide)
              · have hge : (L : Int) ≤ (i : Int) := by omega
                clear hi hRun hCI hCF hfu
                go_wp2_with fail
                go_meet
                exact ⟨i, S, O', hh, by omega, HRun.out, HCI.out, HCF.out, HFU.out⟩
          case rest =>
          obtain ⟨k', S, O1, hh, hk6, hRun, hCI, hCF, hfu⟩ := hcut
          have HRun := Lib.hid hRun; have HCI := Lib.hid hCI; have HCF := Lib.hid hCF
          obtain ⟨c0, c1, c2⟩ := hRun.rb.three
          clear hRun hCI hCF hfu HR3
          go_wp2_with fail
          refine (fuse_c d k' 48 O1 [] S wc (k : Int) (by omega) HRun.out.dk).mono ?_
          rintro e w6 ⟨rfl, hd6, ht6⟩
          obtain ⟨S1, hS1⟩ : ∃ S1, S1 = { S with fuse := max (k : Int) (-1) } := ⟨_, rfl⟩
          rw [← hS1] at hd6
          have HR6 := Lib.hid (HRun.out.disk hd6 ht6)
          have hC1 : CInv voteN S1 (k', hh) := by rw [hS1]; exact HCI.out.fused _
          have hF1 : CForm voteN S1.now := by rw [hS1]; exact HCF.out
          have hf1 : 0 ≤ S1.fuse := by rw [hS1]; show 0 ≤ max (k : Int) (-1); omega
          have hT := hC1.torn (t := h.1) (v := h.2) hF1 vote_named (by have := HR6.out.dk.usedN; omega) HR6.out.dk.now hf1 (by show k' + 1 < _; omega) HHO.out.1 HHO.out.2 keep (j : Int) (by omega)
          obtain ⟨R, hRe⟩ : ∃ R, R = setS voteN S1 k' h.1 h.2 := ⟨_, rfl⟩
          have hT' := hT
          rw [show setS voteN S1 (k', hh).1 h.1 h.2 = R from hRe.symm] at hT'
          have HT := Lib.hid hT'; have HRE := Lib.hid hRe; have HC1 := Lib.hid hC1
          obtain ⟨e0, e1, e2⟩ := HR6.out.rb.three
          have p0 := (HPB.out.ext HR6.out.old).cell 0 rfl; have p1 := (HPB.out.ext HR6.out.old).cell 1 rfl
          simp only [List.getElem_toArray, List.getElem_cons_zero, List.getElem_cons_succ] at p0 p1
          clear hd6 ht6 hS1 hC1 hF1 hf1 hT hT' hRe c0 c1 c2 HRun HCI HCF
          go_wp2_with fail
          refine (rset_c wb r d cc xx k' k' O1 S1 hh hh h.1 h.2 w6 HR6.out (by omega) HC1.out.waits (by omega) HHO.out.1 HHO.out.2 (by rw [← HRE.out]; exact HT.out.1.imp (fun z => z.1) id)).mono ?_
          rintro e w7 ⟨rfl, hfin⟩
          rw [← HRE.out] at hfin
          obtain ⟨n7, O7, cn7, has, may, cov, ov, cv, hR7, hcv, hcI, hcf, hwt⟩ : ∃ (n7 : Nat) (O7 : List Nat) (cn7 : Nat) (has may : Nat × Nat) (cov ov : Bool) (cv : Nat × Nat × Nat), (RunS wb w7 r d cc xx n7 O7 R.2 cn7 has may cov ov ∧ n7 ≤ 7) ∧ (cv.2 = has ∨ cv.2 = may) ∧ (CInv voteN (crashS R.2 (true :: keep) (j : Int)) cv ∧ cv.1 ≤ 7) ∧ (crashS R.2 (true :: keep) (j : Int)).fuse = -1 ∧ R.2.waits.length ≤ 1 := by
            have hwt : R.2.waits.length ≤ 1 := by rw [HRE.out]; have := setS_waits voteN S1 k' h.1 h.2; rw [HC1.out.waits] at this; exact this
            obtain ⟨_, cv, hcv, hcI, hcf⟩ := HT.out
            have hle : cv.1 ≤ 7 := by rcases hcv with ⟨e, _⟩ | e <;> rw [e] <;> show _ ≤ 7 <;> omega
            obtain ⟨_, O7, hc | hc⟩ := hfin
            · refine ⟨_, O7, _, _, _, _, _, cv, ⟨hc.2, by omega⟩, ?_, ⟨hcI, hle⟩, hcf, hwt⟩
              rcases hcv with ⟨_, e⟩ | e
              · rw [hc.1] at e; exact absurd e (by decide)
              · left; rw [e]
            · refine ⟨_, O7, _, _, _, _, _, cv, ⟨hc.2, by omega⟩, ?_, ⟨hcI, hle⟩, hcf, hwt⟩
              rcases hcv with ⟨e, _⟩ | e
              · left; rw [e]
              · right; rw [e]
          have HR7 := Lib.hid hR7.1; have hn7 := hR7.2; have HCV := Lib.hid hcv; have HCI7 := Lib.hid hcI.1; have hcv7 := hcI.2; have HCF7 := Lib.hid hcf
          have HK7 := Lib.hid (HK.out.ext (HWB.out.trans hR7.1.old))
          obtain ⟨c0, c1, c2⟩ := hR7.1.rb.three
          clear hR7 hcv hcI hcf hfin e0 e1 e2 p0 p1 HT HRE HC1 HR6
          go_upto_region 22 with fail
          apply Mono.region1 8 Ext [.is _, .is _, .is _, .is _, .rel (New1 w7.heap.size (.bool true)), .is _, .rel (fun v w => Rd w v (Value.bool true :: keep.map Value.bool)), .is _] (by kernel_rfl) Ext.refl (fun _ _ _ => Ext.trans) (by kernel_rfl) rfl rfl ⟨fun v w w' h hE => New1.ext h hE, fun v w w' h hE => Rd.ext h hE, trivial⟩
          focus
            iterate 4 (apply Mono.step_is; (· refine Mono.obl_mk fun w8 hE8 _ K hK => ?_; (have j0 := hE8.cell (show w7.drew.cell? _ = _ from c0)); clear hE8; go_wp2_with fail; simp only [Act.put, List.setIfInBounds_toArray, List.set_cons_succ, List.set_cons_zero] at hK; exact hK _ _ (Ext.refl _) (Mono.is_rfl _ _)); simp only [Act.put, List.setIfInBounds_toArray, List.set_cons_succ, List.set_cons_zero])
            apply Mono.step_rel
            · refine Mono.obl_mk fun w8 hE8 _ K hK => ?_
              go_wp2_with fail
              simp only [Act.put, List.setIfInBounds_toArray, List.set_cons_succ, List.set_cons_zero] at hK
              exact hK _ _ (Ext.alloc _ _) (Mono.rel_mk (New1.new _ _ hE8.size))
            intro v58
            simp only [Act.put, List.setIfInBounds_toArray, List.set_cons_succ, List.set_cons_zero]
            iterate 1 (apply Mono.step_is; (· refine Mono.obl_mk fun w8 hE8 _ K hK => ?_; (have j0 := hE8.cell (show w7.drew.cell? _ = _ from c0)); clear hE8; go_wp2_with fail; simp only [Act.put, List.setIfInBounds_toArray, List.set_cons_succ, List.set_cons_zero] at hK; exact hK _ _ (Ext.refl _) (Mono.is_rfl _ _)); simp only [Act.put, List.setIfInBounds_toArray, List.set_cons_succ, List.set_cons_zero])
            apply Mono.step_rel
            · refine Mono.obl_mk fun w8 hE8 hkn K hK => ?_
              obtain ⟨g8, rfl, hg8, hc8⟩ := hkn.1 (by kernel_rfl)
              refine wpList_append_one rfl (.tmp 58) (.tmp 59) _ rfl elBool g8 (.bool true) rfl hc8 kv (keep.map Value.bool) rfl (HK7.out.ext ((Ext.drew w7).trans hE8)) (by rw [List.length_map]; have := HKL.out; unfold maxLen; omega) (by rw [List.length_map]; have := HKL.out; omega) ?_
              intro v9 w9 hrd9 hE9
              simp only [Act.put, List.setIfInBounds_toArray, List.set_cons_succ, List.set_cons_zero] at hK
              exact hK _ _ hE9 (Mono.rel_mk hrd9)
            intro v60
            simp only [Act.put, List.setIfInBounds_toArray, List.set_cons_succ, List.set_cons_zero]
            iterate 1 (apply Mono.step_is; (· refine Mono.obl_mk fun w8 hE8 _ K hK => ?_; (have j0 := hE8.cell (show w7.drew.cell? _ = _ from c0)); clear hE8; go_wp2_with fail; simp only [Act.put, List.setIfInBounds_toArray, List.set_cons_succ, List.set_cons_zero] at hK; exact hK _ _ (Ext.refl _) (Mono.is_rfl _ _)); simp only [Act.put, List.setIfInBounds_toArray, List.set_cons_succ, List.set_cons_zero])
            refine Mono.step_end fun w8 hE8 hkn => ?_
            simp only [List.drop_succ_cons, List.drop_zero]
            have hkr : Rd w8 v60 (Value.bool true :: keep.map Value.bool) := hkn.2.1
            have hE78 := (Ext.drew w7).trans hE8
            have HR8 := Lib.hid (HR7.out.ext hE78)
            have HKR := Lib.hid (show Rd w8 v60 ((true :: keep).map Value.bool) from hkr)
            clear hkn hkr hE8 hE78 c0 c1 c2 HR7 HK7
            go_wp2_with fail
            refine (crash_c d n7 48 O7 [] R.2 (true :: keep) (j : Int) v60 w8 HR8.out.dk (by omega) (by omega) HKR.out (by omega) (by omega)).mono ?_
            rintro e w10 ⟨rfl, O10, hd10, ht10⟩
            obtain ⟨S3, hS3⟩ : ∃ S3, S3 = crashS R.2 (true :: keep) (j : Int) := ⟨_, rfl⟩
            rw [← hS3] at hd10 HCI7 HCF7
            obtain ⟨n10, hn10⟩ : ∃ n10, n10 = n7 + R.2.waits.length := ⟨_, rfl⟩
            rw [← hn10] at hd10
            have hn10b : n10 ≤ 8 := by omega
            have HR10 := Lib.hid (HR8.out.disk hd10 ht10)
            clear hd10 ht10 hS3 hn10 HR8 HKR hwt
            go_upto_region 23 with fail
            obtain ⟨S4, hset, hI4, _, hfz4⟩ := HCI7.out.set_ok (t := more.1) (v := more.2) vote_named (by have := HR10.out.dk.usedN; omega) HR10.out.dk.now (.inl HCF7.out) (by omega) HMO.out.1 HMO.out.2
            have HSET := Lib.hid hset; have HI4 := Lib.hid hI4; have HF4 := Lib.hid (hfz4 HCF7.out)
            clear hset hI4 hfz4
            obtain ⟨A, hA⟩ : ∃ A : World → Prop, A = fun w => RunS wb w r d cc xx n10 O10 S3 cn7 has may cov ov := ⟨_, rfl⟩
            obtain ⟨B, hB⟩ : ∃ B : World → Prop, B = fun w => cc < w.heap.size ∧ ∃ c', c' ≠ cc ∧ RunS wb w r d c' xx n10 O10 S3 cv.1 cv.2 cv.2 false false := ⟨_, rfl⟩
            obtain ⟨C, hC⟩ : ∃ C : World → Prop, C = fun w => cc < w.heap.size ∧ ∃ c' O', c' ≠ cc ∧ RunS wb w r d c' xx (n10 + 1) O' S4 (cv.1 + 1) (more.1, more.2) (more.1, more.2) false false := ⟨_, rfl⟩
            have hAm : ∀ w, A w ↔ RunS wb w r d cc xx n10 O10 S3 cn7 has may cov ov := fun w => by rw [hA]
            have hBm : ∀ w, B w ↔ cc < w.heap.size ∧ ∃ c', c' ≠ cc ∧ RunS wb w r d c' xx n10 O10 S3 cv.1 cv.2 cv.2 false false := fun w => by rw [hB]
            have hCm : ∀ w, C w ↔ cc < w.heap.size ∧ ∃ c' O', c' ≠ cc ∧ RunS wb w r d c' xx (n10 + 1) O' S4 (cv.1 + 1) (more.1, more.2) (more.1, more.2) false false := fun w => by rw [hC]
            clear hA hB hC
            have hAB : ∀ w, A w → B w → False := fun w h1 h2 => by
              obtain ⟨_, c', hne, hR⟩ := (hBm w).1 h2
              exact hne (runs_cell ((hAm w).1 h1) hR).1.symm
            have hAC : ∀ w, A w → C w → False := fun w h1 h2 => by
              obtain ⟨_, c', O', hne, hR⟩ := (hCm w).1 h2
              exact hne (runs_cell ((hAm w).1 h1) hR).1.symm
            have hBC : ∀ w, B w → C w → False := fun w h1 h2 => by
              obtain ⟨_, c', _, hR⟩ := (hBm w).1 h1
              obtain ⟨_, c'', O', _, hR'⟩ := (hCm w).1 h2
              have := (runs_cell hR hR').2; omega
            have hQ1 : ∀ w w', Ext w w' → Sq1 A B C w w' := fun w w' hE => ⟨fun x => .inl ((hAm w').2 (((hAm w).1 x).ext hE)), fun x => by
              obtain ⟨h1, c', h2, h3⟩ := (hBm w).1 x
              exact (hBm w').2 ⟨Nat.lt_of_lt_of_le h1 hE.size, c', h2, h3.ext hE⟩, fun x => by
              obtain ⟨h1, c', O', h2, h3⟩ := (hCm w).1 x
              exact (hCm w').2 ⟨Nat.lt_of_lt_of_le h1 hE.size, c', O', h2, h3.ext hE⟩⟩
            have hqc : ∀ w, (A w ∨ B w ∨ C w) → w.cell? ⟨q, 0, none⟩ = some (.int .u64 more.1) ∧ w.cell? ⟨q, 1, none⟩ = some (.int .u64 more.2) := fun w x => by
              have hold : Ext wb w := by
                rcases x with x | x | x
                · exact ((hAm w).1 x).old
                · obtain ⟨_, _, _, h3⟩ := (hBm w).1 x; exact h3.old
                · obtain ⟨_, _, _, _, h3⟩ := (hCm w).1 x; exact h3.old
              have hb := HQB.out.ext hold
              exact ⟨hb.cell 0 rfl, hb.cell 1 rfl⟩
            have HQ1 := Lib.hid hQ1; have HQC := Lib.hid hqc
            have HA10 := Lib.hid ((hAm w10.drew).2 (HR10.out.ext (Ext.drew w10)))
            have HAM := Lib.hid hAm; have HBM := Lib.hid hBm; have HCM := Lib.hid hCm; have HAB := Lib.hid hAB; have HAC := Lib.hid hAC; have HBC := Lib.hid hBC
            clear hAm hBm hCm hAB hAC hBC hQ1 hqc
            apply Mono.region2 22 8 (Sq1 A B C) (Sq2 A B C) (.is _ :: .is _ :: .is _ :: .rel (fun v w => v = .bool true ∧ (B w ∨ C w)) :: .is _ :: .is _ :: .is _ :: .is _ :: .rel (fun v w => v = .bool true ∧ C w) :: .is _ :: .is _ :: .is _ :: .is _ :: .is _ :: .is _ :: .is _ :: .is _ :: .is _ :: .is _ :: .is _ :: .is _ :: .is _ :: []) (by kernel_rfl) (sq_pre A B C) (HQ1.out _ _ (Ext.refl _)) (by kernel_rfl) rfl rfl ⟨fun v w w' h hE => ⟨h.1, h.2.elim (show Sq2 A B C w w' from hE).2.1 (fun z => .inr ((show Sq2 A B C w w' from hE).2.2 z))⟩, fun v w w' h hE => ⟨h.1, (show Sq1 A B C w w' from hE).2.2 h.2⟩, trivial⟩
            focus
            iterate 3 (apply Mono.step_is; (· refine Mono.obl_quiet (by decide) fun w12 hE12 hkn K hK => ?_; clear hE12 hkn; go_wp2_with fail; simp only [Act.put, List.setIfInBounds_toArray, List.set_cons_succ, List.set_cons_zero] at hK; exact hK _ _ (HQ1.out _ _ (Ext.refl _)) (Mono.is_rfl _ _)); simp only [Act.put, List.setIfInBounds_toArray, List.set_cons_succ, List.set_cons_zero])
            refine Mono.step_rel (Mono.obl_quiet (by decide) fun w12 hE12 hkn K hK => ?_) fun v66 => ?_
            · have hop : Calls Tryd.prog 27 #[dptr r, kv, .int .i64 (j : Int)] w12 fun e w' => e = .returned (.bool true) ∧ Sq1 A B C w12 w' ∧ (B w' ∨ C w') := by
                rcases hE12.1 HA10.out with x | x | x
                · have hR := (HAM.out w12).1 x
                  refine (ropen_c wb r d cc xx n10 cn7 cv.1 O10 S3 has may cv.2 cov ov kv (j : Int) w12 hR HCI7.out.off HCI7.out.waits HCI7.out.pick HCV.out).mono ?_
                  rintro e w13 ⟨rfl, c', hR', hnew, hg⟩
                  have hlt := Blk.lt hR.cel
                  have hB' : B w13 := (HBM.out w13).2 ⟨Nat.lt_of_lt_of_le hlt hg.size, c', by omega, hR'⟩
                  exact ⟨rfl, ⟨fun _ => .inr hB', fun y => absurd y (HAB.out _ x), fun y => absurd y (HAC.out _ x)⟩, .inl hB'⟩
                · obtain ⟨hlt, c1, hne, hR⟩ := (HBM.out w12).1 x
                  refine (ropen_c wb r d c1 xx n10 cv.1 cv.1 O10 S3 cv.2 cv.2 cv.2 false false kv (j : Int) w12 hR HCI7.out.off HCI7.out.waits HCI7.out.pick (.inl rfl)).mono ?_
                  rintro e w13 ⟨rfl, c', hR', hnew, hg⟩
                  have hB' : B w13 := (HBM.out w13).2 ⟨Nat.lt_of_lt_of_le hlt hg.size, c', by omega, hR'⟩
                  exact ⟨rfl, ⟨fun y => absurd x (HAB.out _ y), fun _ => hB', fun y => absurd y (HBC.out _ x)⟩, .inl hB'⟩
                · obtain ⟨hlt, c1, O', hne, hR⟩ := (HCM.out w12).1 x
                  refine (ropen_c wb r d c1 xx (n10 + 1) (cv.1 + 1) (cv.1 + 1) O' S4 (more.1, more.2) (more.1, more.2) (more.1, more.2) false false kv (j : Int) w12 hR HI4.out.off HI4.out.waits HI4.out.pick (.inl rfl)).mono ?_
                  rintro e w13 ⟨rfl, c', hR', hnew, hg⟩
                  have hC' : C w13 := (HCM.out w13).2 ⟨Nat.lt_of_lt_of_le hlt hg.size, c', O', by omega, hR'⟩
                  exact ⟨rfl, ⟨fun y => absurd x (HAC.out _ y), fun y => absurd x (HBC.out _ y), fun _ => hC'⟩, .inr hC'⟩
              clear hkn
              go_wp2_with fail
              refine hop.mono ?_
              rintro e w13 ⟨rfl, hE13, hbc⟩
              clear hop
              go_wp2_with fail
              simp only [Act.put, List.setIfInBounds_toArray, List.set_cons_succ, List.set_cons_zero] at hK
              exact hK _ _ hE13 (Mono.rel_mk ⟨rfl, hbc⟩)
            simp only [Act.put, List.setIfInBounds_toArray, List.set_cons_succ, List.set_cons_zero]
            iterate 1 (apply Mono.step_is; (· refine Mono.obl_quiet (by decide) fun w12 hE12 hkn K hK => ?_; (obtain ⟨rfl, _⟩ := hkn.1 (by kernel_rfl)); clear hE12 hkn; go_wp2_with fail; simp only [Act.put, List.setIfInBounds_toArray, List.set_cons_succ, List.set_cons_zero] at hK; exact hK _ _ (HQ1.out _ _ (Ext.refl _)) (Mono.is_rfl _ _)); simp only [Act.put, List.setIfInBounds_toArray, List.set_cons_succ, List.set_cons_zero])
            iterate 2 (apply Mono.step_is; (· refine Mono.obl_quiet (by decide) fun w12 hE12 hkn K hK => ?_; clear hE12 hkn; go_wp2_with fail; simp only [Act.put, List.setIfInBounds_toArray, List.set_cons_succ, List.set_cons_zero] at hK; exact hK _ _ (HQ1.out _ _ (Ext.refl _)) (Mono.is_rfl _ _)); simp only [Act.put, List.setIfInBounds_toArray, List.set_cons_succ, List.set_cons_zero])
            iterate 1 (apply Mono.step_is; (· refine Mono.obl_quiet (by decide) fun w12 hE12 hkn K hK => ?_; obtain ⟨i0, i1⟩ := HQC.out w12 (hE12.1 HA10.out); clear hE12 hkn; go_wp2_with fail; simp only [Act.put, List.setIfInBounds_toArray, List.set_cons_succ, List.set_cons_zero] at hK; exact hK _ _ (HQ1.out _ _ (Ext.refl _)) (Mono.is_rfl _ _)); simp only [Act.put, List.setIfInBounds_toArray, List.set_cons_succ, List.set_cons_zero])
            refine Mono.step_rel (Mono.obl_loud fun w12 hE12 hkn K hK => ?_) fun v71 => ?_
            · obtain ⟨rfl, hbc⟩ := hkn.1 (by kernel_rfl)
              have hBw : B w12 := by
                rcases hE12.1 HA10.out with x | x
                · rcases hbc with y | y
                  · exact y
                  · exact absurd y (HAC.out _ x)
                · exact x
              obtain ⟨hlt, c1, hne, hR⟩ := (HBM.out w12).1 hBw
              have hst : Calls Tryd.prog 25 #[dptr r, hardV more.1 more.2] w12 fun e w' => e = .returned (.bool true) ∧ Sq2 A B C w12 w' ∧ C w' := by
                refine (rset_c wb r d c1 xx n10 cv.1 O10 S3 cv.2 cv.2 more.1 more.2 w12 hR (by omega) HCI7.out.waits (by omega) HMO.out.1 HMO.out.2 (.inl (by rw [HSET.out]))).mono ?_
                rintro e w13 ⟨rfl, hsz, O', hc | hc⟩
                · have hR' := hc.2
                  rw [HSET.out] at hR'
                  have hC' : C w13 := (HCM.out w13).2 ⟨Nat.lt_of_lt_of_le hlt hsz, c1, O', hne, hR'⟩
                  exact ⟨rfl, ⟨fun y => absurd hBw (HAB.out _ y), fun _ => .inr hC', fun _ => hC'⟩, hC'⟩
                · rw [HSET.out] at hc
                  exact absurd (show (0 : Int) = 6 from hc.1) (by decide)
              clear hkn
              go_wp2_with fail
              refine hst.mono ?_
              rintro e w13 ⟨rfl, hE13, hcc⟩
              clear hst
              go_wp2_with fail
              simp only [Act.put, List.setIfInBounds_toArray, List.set_cons_succ, List.set_cons_zero] at hK
              exact hK _ _ hE13 (Mono.rel_mk ⟨rfl, hcc⟩)
            simp only [Act.put, List.setIfInBounds_toArray, List.set_cons_succ, List.set_cons_zero]
            iterate 1 (apply Mono.step_is; (· refine Mono.obl_quiet (by decide) fun w12 hE12 hkn K hK => ?_; (obtain ⟨rfl, _⟩ := hkn.2.1 (by kernel_rfl)); clear hE12 hkn; go_wp2_with fail; simp only [Act.put, List.setIfInBounds_toArray, List.set_cons_succ, List.set_cons_zero] at hK; exact hK _ _ (HQ1.out _ _ (Ext.refl _)) (Mono.is_rfl _ _)); simp only [Act.put, List.setIfInBounds_toArray, List.set_cons_succ, List.set_cons_zero])
            iterate 5 (apply Mono.step_is; (· refine Mono.obl_quiet (by decide) fun w12 hE12 hkn K hK => ?_; clear hE12 hkn; go_wp2_with fail; simp only [Act.put, List.setIfInBounds_toArray, List.set_cons_succ, List.set_cons_zero] at hK; exact hK _ _ (HQ1.out _ _ (Ext.refl _)) (Mono.is_rfl _ _)); simp only [Act.put, List.setIfInBounds_toArray, List.set_cons_succ, List.set_cons_zero])
            iterate 1 (apply Mono.step_is; (· refine Mono.obl_quiet (by decide) fun w12 hE12 hkn K hK => ?_; (obtain ⟨rfl, hcw⟩ := hkn.2.1 (by kernel_rfl)); (obtain ⟨_, _, _, _, hRc⟩ := (HCM.out w12).1 hcw); (have j2 := hRc.rb.three.2.2); clear hcw hRc; clear hE12 hkn; go_wp2_with fail; simp only [Act.put, List.setIfInBounds_toArray, List.set_cons_succ, List.set_cons_zero] at hK; exact hK _ _ (HQ1.out _ _ (Ext.refl _)) (Mono.is_rfl _ _)); simp only [Act.put, List.setIfInBounds_toArray, List.set_cons_succ, List.set_cons_zero])
            iterate 2 (apply Mono.step_is; (· refine Mono.obl_quiet (by decide) fun w12 hE12 hkn K hK => ?_; clear hE12 hkn; go_wp2_with fail; simp only [Act.put, List.setIfInBounds_toArray, List.set_cons_succ, List.set_cons_zero] at hK; exact hK _ _ (HQ1.out _ _ (Ext.refl _)) (Mono.is_rfl _ _)); simp only [Act.put, List.setIfInBounds_toArray, List.set_cons_succ, List.set_cons_zero])
            iterate 1 (apply Mono.step_is; (· refine Mono.obl_quiet (by decide) fun w12 hE12 hkn K hK => ?_; (obtain ⟨rfl, hcw⟩ := hkn.2.1 (by kernel_rfl)); (obtain ⟨_, _, _, _, hRc⟩ := (HCM.out w12).1 hcw); (obtain ⟨y0, y1, _⟩ := Blk.five hRc.xb); clear hcw hRc; clear hE12 hkn; go_wp2_with fail; simp only [Act.put, List.setIfInBounds_toArray, List.set_cons_succ, List.set_cons_zero] at hK; exact hK _ _ (HQ1.out _ _ (Ext.refl _)) (Mono.is_rfl _ _)); simp only [Act.put, List.setIfInBounds_toArray, List.set_cons_succ, List.set_cons_zero])
            iterate 1 (apply Mono.step_is; (· refine Mono.obl_quiet (by decide) fun w12 hE12 hkn K hK => ?_; obtain ⟨i0, i1⟩ := HQC.out w12 (hE12.1 HA10.out); clear hE12 hkn; go_wp2_with fail; simp only [Act.put, List.setIfInBounds_toArray, List.set_cons_succ, List.set_cons_zero] at hK; exact hK _ _ (HQ1.out _ _ (Ext.refl _)) (Mono.is_rfl _ _)); simp only [Act.put, List.setIfInBounds_toArray, List.set_cons_succ, List.set_cons_zero])
            iterate 2 (apply Mono.step_is; (· refine Mono.obl_quiet (by decide) fun w12 hE12 hkn K hK => ?_; clear hE12 hkn; go_wp2_with fail; simp only [Act.put, List.setIfInBounds_toArray, List.set_cons_succ, List.set_cons_zero] at hK; exact hK _ _ (HQ1.out _ _ (Ext.refl _)) (Mono.is_rfl _ _)); simp only [Act.put, List.setIfInBounds_toArray, List.set_cons_succ, List.set_cons_zero])
            refine Mono.step_end fun w12 hE12 hkn => ?_
            simp only [List.drop_succ_cons, List.drop_zero]
            have hCw : C w12 := hkn.2.1.2
            obtain ⟨_, c4, O4, _, hR12⟩ := (HCM.out w12).1 hCw
            have HR12 := Lib.hid hR12
            obtain ⟨c0, c1, c2⟩ := hR12.rb.three
            clear hkn hE12 hCw hR12 HQ1 HQC HA10 HAM HBM HCM HAB HAC HBC HR10
            go_wp2_with fail
            refine (crash_c d (n10 + 1) 48 O4 [] S4 keep (j : Int) kv w12 HR12.out.dk (by rw [HI4.out.waits]; show n10 + 1 + 0 < _; omega) (by omega) (HK.out.ext (HWB.out.trans HR12.out.old)) (by omega) (by omega)).mono ?_
            rintro e w13 ⟨rfl, O13, hd13, ht13⟩
            have hcr := HI4.out.crash keep (j : Int)
            obtain ⟨S5, hS5⟩ : ∃ S5, S5 = crashS S4 keep (j : Int) := ⟨_, rfl⟩
            rw [← hS5] at hd13 hcr
            obtain ⟨n13, hn13⟩ : ∃ n13, n13 = n10 + 1 + S4.waits.length := ⟨_, rfl⟩
            rw [← hn13] at hd13
            have HR13 := Lib.hid (HR12.out.disk hd13 ht13); have HI5 := Lib.hid hcr.1
            clear hd13 ht13 hS5 hn13 hcr c0 c1 c2 HR12 HI4 HF4 HSET HCI7 HCF7 HCV
            obtain ⟨cn, hcn⟩ : ∃ cn, cn = cv.1 + 1 := ⟨_, rfl⟩
            rw [← hcn] at HR13 HI5
            clear hcn
            go_upto_region 26 with fail
            obtain ⟨A, hA⟩ : ∃ A : World → Prop, A = fun w => RunS wb w r d c4 xx n13 O13 S5 cn (more.1, more.2) (more.1, more.2) false false := ⟨_, rfl⟩
            obtain ⟨B, hB⟩ : ∃ B : Nat → World → Prop, B = fun c' w => c' ≠ c4 ∧ RunS wb w r d c' xx n13 O13 S5 cn (more.1, more.2) (more.1, more.2) false false := ⟨_, rfl⟩
            have hAm : ∀ w, A w ↔ RunS wb w r d c4 xx n13 O13 S5 cn (more.1, more.2) (more.1, more.2) false false := fun w => by rw [hA]
            have hBm : ∀ c' w, B c' w ↔ c' ≠ c4 ∧ RunS wb w r d c' xx n13 O13 S5 cn (more.1, more.2) (more.1, more.2) false false := fun c' w => by rw [hB]
            clear hA hB
            have hold : ∀ w, (A w ∨ ∃ c', B c' w) → Ext wb w := fun w x => by
              rcases x with x | ⟨c', x⟩
              · exact ((hAm w).1 x).old
              · exact ((hBm c' w).1 x).2.old
            have hEA : ∀ w w', Ext w w' → A w → A w' := fun w w' hE x => (hAm w').2 (((hAm w).1 x).ext hE)
            have hEB : ∀ c' w w', Ext w w' → B c' w → B c' w' := fun c' w w' hE x => (hBm c' w').2 ⟨((hBm c' w).1 x).1, ((hBm c' w).1 x).2.ext hE⟩
            have HA13 := Lib.hid ((hAm w13.drew).2 (HR13.out.ext (Ext.drew w13)))
            have HAM := Lib.hid hAm; have HBM := Lib.hid hBm; have HOLD := Lib.hid hold; have HEA := Lib.hid hEA; have HEB2 := Lib.hid hEB
            clear hAm hBm hold hEA hEB
            apply Mono.region2 14 3 Ext (Tq A B) [.is _, .is _, .is _, .rel (fun v w => v = .bool true ∧ ∃ c', B c' w), .is _, .is _, .is _, .is _, .is _, .rel (fun v w => ∃ c', v = dptr c' ∧ B c' w), .is _, .is _, .is _, .is _] (by kernel_rfl) (tq_pre A B HEA.out HEB2.out) (Ext.refl _) (by kernel_rfl) rfl rfl ⟨fun v w w' h hE => ⟨h.1, h.2.imp fun c' x => HEB2.out c' w w' (show Ext w w' from hE) x⟩, fun v w w' h hE => h.imp fun c' x => ⟨x.1, (show Tq A B w w' from hE).2 c' x.2⟩, trivial⟩
            focus
              iterate 3 (apply Mono.step_is; (· refine Mono.obl_quiet (by decide) fun w14 hE14 hkn K hK => ?_; clear hE14 hkn; go_wp2_with fail; simp only [Act.put, List.setIfInBounds_toArray, List.set_cons_succ, List.set_cons_zero] at hK; exact hK _ _ (Ext.refl _) (Mono.is_rfl _ _)); simp only [Act.put, List.setIfInBounds_toArray, List.set_cons_succ, List.set_cons_zero])
              refine Mono.step_rel (Mono.obl_loud fun w14 hE14 hkn K hK => ?_) fun v95 => ?_
              · have hA14 := HEA.out _ _ hE14 HA13.out
                have hR := (HAM.out w14).1 hA14
                have hop : Calls Tryd.prog 27 #[dptr r, kv, .int .i64 (j : Int)] w14 fun e w' => e = .returned (.bool true) ∧ Tq A B w14 w' ∧ ∃ c', B c' w' := by
                  refine (ropen_c wb r d c4 xx n13 cn cn O13 S5 (more.1, more.2) (more.1, more.2) (more.1, more.2) false false kv (j : Int) w14 hR HI5.out.off HI5.out.waits HI5.out.pick (.inl rfl)).mono ?_
                  rintro e w15 ⟨rfl, c', hR', hnew, hg⟩
                  have hlt := Blk.lt hR.cel
                  have hB' : B c' w15 := (HBM.out c' w15).2 ⟨by omega, hR'⟩
                  exact ⟨rfl, ⟨fun _ => .inr ⟨c', hB'⟩, fun c2 y => absurd (runs_cell hR ((HBM.out c2 w14).1 y).2).1.symm ((HBM.out c2 w14).1 y).1⟩, c', hB'⟩
                clear hkn hR hA14
                go_wp2_with fail
                refine hop.mono ?_
                rintro e w15 ⟨rfl, hE15, hbc⟩
                clear hop
                go_wp2_with fail
                simp only [Act.put, List.setIfInBounds_toArray, List.set_cons_succ, List.set_cons_zero] at hK
                exact hK _ _ hE15 (Mono.rel_mk ⟨rfl, hbc⟩)
              simp only [Act.put, List.setIfInBounds_toArray, List.set_cons_succ, List.set_cons_zero]
              iterate 1 (apply Mono.step_is; (· refine Mono.obl_quiet (by decide) fun w14 hE14 hkn K hK => ?_; (obtain ⟨rfl, _⟩ := hkn.1 (by kernel_rfl)); clear hE14 hkn; go_wp2_with fail; simp only [Act.put, List.setIfInBounds_toArray, List.set_cons_succ, List.set_cons_zero] at hK; exact hK _ _ (Ext.refl _) (Mono.is_rfl _ _)); simp only [Act.put, List.setIfInBounds_toArray, List.set_cons_succ, List.set_cons_zero])
              iterate 4 (apply Mono.step_is; (· refine Mono.obl_quiet (by decide) fun w14 hE14 hkn K hK => ?_; clear hE14 hkn; go_wp2_with fail; simp only [Act.put, List.setIfInBounds_toArray, List.set_cons_succ, List.set_cons_zero] at hK; exact hK _ _ (Ext.refl _) (Mono.is_rfl _ _)); simp only [Act.put, List.setIfInBounds_toArray, List.set_cons_succ, List.set_cons_zero])
              refine Mono.step_rel (Mono.obl_quiet (by decide) fun w14 hE14 hkn K hK => ?_) fun v101 => ?_
              · obtain ⟨rfl, c', hbc⟩ := hkn.1 (by kernel_rfl)
                have j1 := ((HBM.out c' w14).1 hbc).2.rb.three.2.1
                have HBC := Lib.hid hbc
                clear hkn hE14 hbc
                go_wp2_with fail
                simp only [Act.put, List.setIfInBounds_toArray, List.set_cons_succ, List.set_cons_zero] at hK
                exact hK _ _ (Ext.refl _) (Mono.rel_mk ⟨c', rfl, HBC.out⟩)
              simp only [Act.put, List.setIfInBounds_toArray, List.set_cons_succ, List.set_cons_zero]
              apply Mono.step_is
              · refine Mono.obl_quiet (by decide) fun w14 hE14 hkn K hK => ?_
                obtain ⟨c', rfl, hbc⟩ := hkn.2.1 (by kernel_rfl)
                have HBC := Lib.hid ((HBM.out c' w14).1 hbc).2.cel
                clear hkn hE14 hbc
                go_wp2_with fail
                refine (get_c c' d voteN cn more.1 more.2 false w14 HBC.out).mono ?_
                rintro e w15 ⟨rfl, hE15⟩
                simp only [hardV]
                go_wp2_with fail
                simp only [Act.put, List.setIfInBounds_toArray, List.set_cons_succ, List.set_cons_zero] at hK
                exact hK _ _ hE15 (Mono.is_rfl _ _)
              simp only [Act.put, List.setIfInBounds_toArray, List.set_cons_succ, List.set_cons_zero]
              iterate 1 (apply Mono.step_is; (· refine Mono.obl_quiet (by decide) fun w14 hE14 hkn K hK => ?_; (have hqb := HQB.out.ext (HOLD.out w14 (hE14.1 HA13.out))); (have i0 := hqb.cell 0 rfl); (have i1 := hqb.cell 1 rfl); (simp only [List.getElem_toArray, List.getElem_cons_zero, List.getElem_cons_succ] at i0 i1); clear hqb; clear hE14 hkn; go_wp2_with fail; simp only [Act.put, List.setIfInBounds_toArray, List.set_cons_succ, List.set_cons_zero] at hK; exact hK _ _ (Ext.refl _) (Mono.is_rfl _ _)); simp only [Act.put, List.setIfInBounds_toArray, List.set_cons_succ, List.set_cons_zero])
              iterate 2 (apply Mono.step_is; (· refine Mono.obl_quiet (by decide) fun w14 hE14 hkn K hK => ?_; clear hE14 hkn; go_wp2_with fail; simp only [Act.put, List.setIfInBounds_toArray, List.set_cons_succ, List.set_cons_zero] at hK; exact hK _ _ (Ext.refl _) (Mono.is_rfl _ _)); simp only [Act.put, List.setIfInBounds_toArray, List.set_cons_succ, List.set_cons_zero])
              refine Mono.step_end fun w14 hE14 hkn => ?_
              simp only [List.drop_succ_cons, List.drop_zero]
              have HF := Lib.hid (HOLD.out w14 (hE14.1 HA13.out))
              clear hkn hE14 HA13 HAM HBM HOLD HEA HEB2 HR13 HI5
              go_wp2_with fail
              go_roundg (70 - (j + 1))
              case measure => omega
              case rel => exact ⟨j + 1, by go_num, by omega, HEB.out.trans HF.out⟩
        · have hge : (70 : Int) ≤ (j : Int) := by omega
          clear hj
          go_wp2_with fail
          go_roundg (5 - (k + 1))
          case measure => omega
          case rel => exact ⟨k + 1, by go_num, by omega, HEB.out⟩
    · have hge : (5 : Int) ≤ (k : Int) := by omega
      clear hk
      go_wp2_with fail
      go_ret
      exact ⟨rfl, HE2.out.trans HER.out⟩
end Go.Proofs.YtapclkjpokbgbaaDoor
