/- tabellionref18.Get, kind 1. PRINTED BY gen/rgetm.py -/
import Derived.Test.YtnhfjoelfnmgaaaBun6
import Derived.Deep.CutBlock
import Derived.Deep.DeepCutAuto
set_option linter.unusedSimpArgs false
set_option linter.unusedVariables false
namespace Go.Proofs.Ytnhfjoelfnmgaaa
open Go Go.RowKit
set_option maxRecDepth 100000 in
set_option maxHeartbeats 16000000 in
theorem rmget_1 (v : Value) (bs : List Int) (w : World) (hR : Rd w v (u8s bs)) (hb8 : B8 bs) (hl : bs.length ≤ 140737488355000) (k : Int) (r1 : List Int) (hY : rdByte bs = .ok (k, r1)) (HQ : Hid (k = 1)) : Calls Try.prog 10 #[v] w (MGetOut (getM bs) w) := by
  obtain ⟨X, hX⟩ : ∃ X, X = getM bs := ⟨_, rfl⟩
  rw [← hX]
  obtain ⟨av, nv, cv, rfl⟩ := Rd.shape hR
  have hoff : ∀ q, w.heap.size ≤ q → Off (.slice av nv cv) (u8s bs) (some q) := fun q hq => hR.off_new (fun k hk => by cases hk; omega)
  have hE0 : Ext w (((w.alloc (.cells (zc 0) 28)).alloc (.cells #[.slice av nv cv, .int .i64 0, .int .i64 0] 56)).alloc (.cells #[.pointer (some ⟨w.heap.size + 1, 0, none⟩), .int .i64 0] 58)) := ((Ext.alloc _ _).trans (Ext.alloc _ _)).trans (Ext.alloc _ _)
  have hZ0 : Blk (((w.alloc (.cells (zc 0) 28)).alloc (.cells #[.slice av nv cv, .int .i64 0, .int .i64 0] 56)).alloc (.cells #[.pointer (some ⟨w.heap.size + 1, 0, none⟩), .int .i64 0] 58)) w.heap.size (zc 0) 28 := ((Blk.new w _ _).alloc _).alloc _
  have hR0 : RR (((w.alloc (.cells (zc 0) 28)).alloc (.cells #[.slice av nv cv, .int .i64 0, .int .i64 0] 56)).alloc (.cells #[.pointer (some ⟨w.heap.size + 1, 0, none⟩), .int .i64 0] 58)) (w.heap.size + 1) (.slice av nv cv) bs 0 0 := by
    refine ⟨?_, hR.ext hE0, Nat.zero_le _, hoff _ (by omega)⟩
    have := (Blk.new (w.alloc (.cells (zc 0) 28)) #[.slice av nv cv, .int .i64 0, .int .i64 0] 56).alloc (.cells #[.pointer (some ⟨w.heap.size + 1, 0, none⟩), .int .i64 0] 58)
    simpa using this
  have hT0 : TS (((w.alloc (.cells (zc 0) 28)).alloc (.cells #[.slice av nv cv, .int .i64 0, .int .i64 0] 56)).alloc (.cells #[.pointer (some ⟨w.heap.size + 1, 0, none⟩), .int .i64 0] 58)) (w.heap.size + 1 + 1) (w.heap.size + 1) (.slice av nv cv) bs (.ok bs) := by
    refine ⟨?_, by omega, hoff _ (by omega), by simp, 0, hR0, rfl⟩
    have := Blk.new ((w.alloc (.cells (zc 0) 28)).alloc (.cells #[.slice av nv cv, .int .i64 0, .int .i64 0] 56)) #[.pointer (some ⟨w.heap.size + 1, 0, none⟩), .int .i64 0] 58
    simpa [tErr] using this
  have HX := Lib.hid hX; have HR0 := Lib.hid hR0; have HT0 := Lib.hid hT0; have HE0 := Lib.hid hE0; have HZ0 := Lib.hid hZ0
  clear hX hR hR0 hT0 hE0 hZ0
  go_enter Try.func10, Try.ntmps10
  go_wp2_with fail
  refine (rbyte_c (w.heap.size + 1) _ bs 0 0 _ (by omega) HR0.out).mono ?_
  rintro en w2 ⟨hg, hm⟩
  simp only [stuckR, if_true, List.drop_zero] at hm
  have hB2 : Below w.heap.size w w2 := Below.grown HE0.out hg HE0.out.size fun k hk => by cases hk; omega
  have hZ2 := HZ0.out.grown hg (by simp)
  have HG := Lib.hid hg
  have HB2 := Lib.hid hB2; have HZ2 := Lib.hid hZ2
  clear hg hB2 hZ2
  rw [hY] at hm
  obtain ⟨_, a2, rfl, rfl, hr2, rfl⟩ := hm
  obtain ⟨h8, hu, hlr⟩ := rdByte_b8 hb8 hY
  have HY := Lib.hid hY; have HR2 := Lib.hid hr2; have H8 := Lib.hid h8
  clear hY hr2 h8
  have hin : ¬ (k < 1 ∨ 5 < k) := by have := HQ.out; omega
  have hk1 : ¬ k < 1 := by omega
  have hk5 : ¬ 5 < k := by omega
  have HIN := Lib.hid hin
  have hwk : IntKind.i64.wrap k = k := by rw [IntKind.wrap_i64]; omega
  have hlt2 : w.heap.size + 1 + 1 < w2.heap.size := by have := HG.out.size; simp at this; omega
  have hT2 := (HT0.out.blk.grown HG.out (by simp))
  have hTS : TS w2 (w.heap.size + 1 + 1) (w.heap.size + 1) (.slice av nv cv) bs (.ok (bs.drop a2)) := ⟨hT2, by omega, HT0.out.off, by omega, a2, HR2.out, rfl⟩
  have hov : Off (.slice av nv cv) (u8s bs) (some w2.heap.size) := hoff _ HB2.out.size
  have hsz := HB2.out.size
  have HTS := Lib.hid hTS; have HOFF := Lib.hid hoff
  clear hin hT2 hTS hoff HT0 HE0 HZ0 HR0
  go_upto_region 8 with fail
  clear hwk
  have HM1 := Lib.hid (Blk.new w2 (zc k) 28)
  have HT1 := Lib.hid (HTS.out.ext (Ext.alloc w2 (.cells (zc k) 28)))
  have HB1 := Lib.hid (HB2.out.trans (show Below w.heap.size w2 (w2.alloc (.cells (zc k) 28)) from Below.mono (Ext.alloc _ _) hsz))
  have HZ1 := Lib.hid (HZ2.out.ext (Ext.alloc w2 (.cells (zc k) 28)))
  generalize w2.alloc (.cells (zc k) 28) = w1 at *
  obtain ⟨s1, HS1⟩ : ∃ s, Hid (s = Except.ok (ε := Int) (bs.drop a2)) := ⟨_, Lib.hid rfl⟩
  rw [← HS1.out] at HT1
  generalize hmb : w2.heap.size = mb at *
  generalize htb : w.heap.size + 1 + 1 = tb at *
  generalize hrb : w.heap.size + 1 = rb at *
  clear HTS HR2 HG HB2 HZ2
  go_wp2_with fail
  refine (tnum_c tb rb (.slice av nv cv) bs s1 1 7 w1 hb8 hl HT1.out).mono ?_
  rintro en u1 ⟨_, rfl, hC, hT, ⟨f, rfl, huf⟩, hV⟩
  obtain ⟨s2, hs⟩ : ∃ s, s = nextS s1 (rdRng 1 7) := ⟨_, rfl⟩
  rw [← hs] at hT
  have hMu := HM1.out.chg hC (by simp; omega)
  have cj := hMu.cell 1 rfl
  have fj := hMu.free 1
  have hM := hMu.set 1 (.int .u64 f)
  simp only [List.setIfInBounds_toArray, List.set_cons_succ, List.set_cons_zero] at hM
  have hT2 := hT.other mb 1 (.int .u64 f) (by omega) (by omega) hov
  have hB := (hC.below HB1.out HB1.out.size (by intro t ht; simp at ht; omega)).setCell (show w.heap.size ≤ (⟨mb, 1, none⟩ : Addr).block by simp; omega) (.int .u64 f)
  have hZ := (HZ1.out.chg hC (by simp; omega)).other ⟨mb, 1, none⟩ (.int .u64 f) (by simp; omega)
  have HT2 := Lib.hid hT2; have HM2 := Lib.hid hM; have HB2 := Lib.hid hB; have HZ2 := Lib.hid hZ; have HV1 := Lib.hid hV; have HS2 := Lib.hid hs
  clear hT2 hM hB hZ hV hs hT hMu hC HT1 HM1 HB1 HZ1
  go_upto_region 9 with fail
  clear cj fj
  generalize u1.setCell ⟨mb, 1, none⟩ (.int .u64 f) = w2 at *
  go_wp2_with fail
  refine (tnum_c tb rb (.slice av nv cv) bs s2 1 7 w2 hb8 hl HT2.out).mono ?_
  rintro en u2 ⟨_, rfl, hC, hT, ⟨t, rfl, hut⟩, hV⟩
  obtain ⟨s3, hs⟩ : ∃ s, s = nextS s2 (rdRng 1 7) := ⟨_, rfl⟩
  rw [← hs] at hT
  have hMu := HM2.out.chg hC (by simp; omega)
  have cj := hMu.cell 2 rfl
  have fj := hMu.free 2
  have hM := hMu.set 2 (.int .u64 t)
  simp only [List.setIfInBounds_toArray, List.set_cons_succ, List.set_cons_zero] at hM
  have hT2 := hT.other mb 2 (.int .u64 t) (by omega) (by omega) hov
  have hB := (hC.below HB2.out HB2.out.size (by intro t ht; simp at ht; omega)).setCell (show w.heap.size ≤ (⟨mb, 2, none⟩ : Addr).block by simp; omega) (.int .u64 t)
  have hZ := (HZ2.out.chg hC (by simp; omega)).other ⟨mb, 2, none⟩ (.int .u64 t) (by simp; omega)
  have HT3 := Lib.hid hT2; have HM3 := Lib.hid hM; have HB3 := Lib.hid hB; have HZ3 := Lib.hid hZ; have HV2 := Lib.hid hV; have HS3 := Lib.hid hs
  clear hT2 hM hB hZ hV hs hT hMu hC HT2 HM2 HB2 HZ2
  go_upto_region 10 with fail
  clear cj fj
  generalize u2.setCell ⟨mb, 2, none⟩ (.int .u64 t) = w3 at *
  go_wp2_with fail
  refine (tnum_c tb rb (.slice av nv cv) bs s3 1 4611686018427387904 w3 hb8 hl HT3.out).mono ?_
  rintro en u3 ⟨_, rfl, hC, hT, ⟨m, rfl, hum⟩, hV⟩
  obtain ⟨s4, hs⟩ : ∃ s, s = nextS s3 (rdRng 1 4611686018427387904) := ⟨_, rfl⟩
  rw [← hs] at hT
  have hMu := HM3.out.chg hC (by simp; omega)
  have cj := hMu.cell 3 rfl
  have fj := hMu.free 3
  have hM := hMu.set 3 (.int .u64 m)
  simp only [List.setIfInBounds_toArray, List.set_cons_succ, List.set_cons_zero] at hM
  have hT2 := hT.other mb 3 (.int .u64 m) (by omega) (by omega) hov
  have hB := (hC.below HB3.out HB3.out.size (by intro t ht; simp at ht; omega)).setCell (show w.heap.size ≤ (⟨mb, 3, none⟩ : Addr).block by simp; omega) (.int .u64 m)
  have hZ := (HZ3.out.chg hC (by simp; omega)).other ⟨mb, 3, none⟩ (.int .u64 m) (by simp; omega)
  have HT4 := Lib.hid hT2; have HM4 := Lib.hid hM; have HB4 := Lib.hid hB; have HZ4 := Lib.hid hZ; have HV3 := Lib.hid hV; have HS4 := Lib.hid hs
  clear hT2 hM hB hZ hV hs hT hMu hC HT3 HM3 HB3 HZ3
  go_upto_region 11 with fail
  clear cj fj
  generalize u3.setCell ⟨mb, 3, none⟩ (.int .u64 m) = w4 at *
  have ck := HM4.out.cell 0 rfl
  go_upto_block 0 with fail
  go_cut [9] (fun _v wc => RJ k (bs.drop a2) w mb tb rb (.slice av nv cv) bs wc)
  case first =>
    obtain rfl := HQ.out
    go_wp2_with fail
    refine (tnum_c tb rb (.slice av nv cv) bs s4 0 4611686018427387904 w4 hb8 hl HT4.out).mono ?_
    rintro en u4 ⟨_, rfl, hC, hT, ⟨i, rfl, hui⟩, hV⟩
    obtain ⟨s5, hs⟩ : ∃ s, s = nextS s4 (rdRng 0 4611686018427387904) := ⟨_, rfl⟩
    rw [← hs] at hT
    have hMu := HM4.out.chg hC (by simp; omega)
    have cj := hMu.cell 4 rfl
    have fj := hMu.free 4
    have hM := hMu.set 4 (.int .u64 i)
    simp only [List.setIfInBounds_toArray, List.set_cons_succ, List.set_cons_zero] at hM
    have hT2 := hT.other mb 4 (.int .u64 i) (by omega) (by omega) hov
    have hB := (hC.below HB4.out HB4.out.size (by intro t ht; simp at ht; omega)).setCell (show w.heap.size ≤ (⟨mb, 4, none⟩ : Addr).block by simp; omega) (.int .u64 i)
    have hZ := (HZ4.out.chg hC (by simp; omega)).other ⟨mb, 4, none⟩ (.int .u64 i) (by simp; omega)
    have HT5 := Lib.hid hT2; have HM5 := Lib.hid hM; have HB5 := Lib.hid hB; have HZ5 := Lib.hid hZ; have HV4 := Lib.hid hV; have HS5 := Lib.hid hs
    clear hT2 hM hB hZ hV hs hT hMu hC HT4 HM4 HB4 HZ4
    go_upto_region 15 with fail
    clear cj fj
    generalize u4.setCell ⟨mb, 4, none⟩ (.int .u64 i) = w5 at *
    go_wp2_with fail
    refine (tnum_c tb rb (.slice av nv cv) bs s5 0 4611686018427387904 w5 hb8 hl HT5.out).mono ?_
    rintro en u5 ⟨_, rfl, hC, hT, ⟨l, rfl, hul⟩, hV⟩
    obtain ⟨s6, hs⟩ : ∃ s, s = nextS s5 (rdRng 0 4611686018427387904) := ⟨_, rfl⟩
    rw [← hs] at hT
    have hMu := HM5.out.chg hC (by simp; omega)
    have cj := hMu.cell 5 rfl
    have fj := hMu.free 5
    have hM := hMu.set 5 (.int .u64 l)
    simp only [List.setIfInBounds_toArray, List.set_cons_succ, List.set_cons_zero] at hM
    have hT2 := hT.other mb 5 (.int .u64 l) (by omega) (by omega) hov
    have hB := (hC.below HB5.out HB5.out.size (by intro t ht; simp at ht; omega)).setCell (show w.heap.size ≤ (⟨mb, 5, none⟩ : Addr).block by simp; omega) (.int .u64 l)
    have hZ := (HZ5.out.chg hC (by simp; omega)).other ⟨mb, 5, none⟩ (.int .u64 l) (by simp; omega)
    have HT6 := Lib.hid hT2; have HM6 := Lib.hid hM; have HB6 := Lib.hid hB; have HZ6 := Lib.hid hZ; have HV5 := Lib.hid hV; have HS6 := Lib.hid hs
    clear hT2 hM hB hZ hV hs hT hMu hC HT5 HM5 HB5 HZ5
    go_wp2_with fail
    go_meet
    case rel =>
      have hst := rdst1 (bs.drop a2) f t m i l
        (by have h := HV1.out; simpa only [HS1.out] using h)
        (by have h := HV2.out; simpa only [HS2.out, HS1.out] using h)
        (by have h := HV3.out; simpa only [HS3.out, HS2.out, HS1.out] using h)
        (by have h := HV4.out; simpa only [HS4.out, HS3.out, HS2.out, HS1.out] using h)
        (by have h := HV5.out; simpa only [HS5.out, HS4.out, HS3.out, HS2.out, HS1.out] using h)
      rw [← HS1.out, ← HS2.out, ← HS3.out, ← HS4.out, ← HS5.out, ← HS6.out] at hst
      exact ⟨⟨1, f, t, m, i, l, 0, 0, false, [], [], []⟩, s6, _, _, _, HM6.out, HT6.out, EntsV.nil _ _, ⟨Rd.nil _, From.nil _⟩, ⟨Rd.nil _, From.nil _⟩, HB6.out, HZ6.out, hst⟩
  case rest =>
    obtain ⟨M, s, ev, mv, iv, hM, hT, h9, h10, h11, hB, hZ, hst⟩ := hcut
    obtain ⟨b9, n9, c9, rfl⟩ : ∃ a n c, ev = .slice a n c := by obtain ⟨_, cs, o, a, c, h, _⟩ := h9; exact ⟨_, _, _, h⟩
    obtain ⟨b10, n10, c10, rfl⟩ := Rd.shape h10.1
    obtain ⟨b11, n11, c11, rfl⟩ := Rd.shape h11.1
    have t0 := hT.blk.cell 0 rfl
    have t1 := hT.blk.cell 1 rfl
    have HME := Lib.hid hM; have HT := Lib.hid hT; have H9 := Lib.hid h9; have H10 := Lib.hid h10; have H11 := Lib.hid h11; have HBE := Lib.hid hB; have HZE := Lib.hid hZ
    clear hM hT h9 h10 h11 hB hZ
    cases s with
    | error no =>
      have hne : no ≠ 0 := HT.out.st
      have hb1 : (no == 0) = false := by simpa using hne
      have hb2 : (no != 0) = true := by simpa using hne
      have HN : Hid (X = .error no) := Lib.hid (by rw [HX.out]; simp only [getM, HY.out, if_neg HIN.out]; rw [show rdBody k (bs.drop a2) = .error no from hst])
      have HTE : Hid (Blk wc tb #[.pointer (some ⟨rb, 0, none⟩), .int .i64 no] 58) := Lib.hid HT.out.blk
      simp only [tErr] at t1
      clear hst
      go_wp2_with fail
      have tD := HTE.out.drew
      have tR := HTE.out.drew.grown (grown_row wc.drew w.heap.size (zc 0)) (by simp; omega)
      have d3 := tD.cell 1 rfl
      have d4 := tR.cell 1 rfl
      have HZD := Lib.hid (HZE.out.drew); have HBD := Lib.hid (HBE.out.drew)
      clear tD tR
      refine wp_region_orders [[0, 1, 2, 3, 4, 5, 6], [0, 1, 2, 3, 5, 4, 6], [0, 1, 2, 5, 3, 4, 6], [0, 1, 5, 2, 3, 4, 6], [0, 5, 1, 2, 3, 4, 6], [1, 0, 2, 3, 4, 5, 6], [1, 0, 2, 3, 5, 4, 6], [1, 0, 2, 5, 3, 4, 6], [1, 0, 5, 2, 3, 4, 6], [1, 2, 0, 3, 4, 5, 6], [1, 2, 0, 3, 5, 4, 6], [1, 2, 0, 5, 3, 4, 6], [1, 2, 3, 0, 4, 5, 6], [1, 2, 3, 0, 5, 4, 6], [1, 2, 3, 4, 0, 5, 6]] (by kernel_rfl) (by kernel_rfl) ?_
      intro l hl
      simp only [List.mem_cons, List.not_mem_nil, or_false] at hl
      rcases hl with rfl | rfl | rfl | rfl | rfl | rfl | rfl | rfl | rfl | rfl | rfl | rfl | rfl | rfl | rfl
      all_goals simp only [List.filterMap_cons, List.filterMap_nil, List.getElem?_toArray, List.getElem?_cons_zero, List.getElem?_cons_succ]
      all_goals change wpList _ _ _ [_, _, _, _, _, _, _] _ _
      all_goals go_wp2_with (refine wpList_store_row rfl 28 (.tmp 2) (.tmp 213) rfl w.heap.size (zc 0) rfl rfl 28 _ HZD.out (mCells_size Msg.zero _ _ _) rfl (mCells_one Msg.zero _ _ _ _ _ _ _ _ _) ?_)
      all_goals exact rm_ret no Msg.zero _ _ _ w _ _ X (Below.grown HBD.out (grown_row wc.drew _ _) HBD.out.size fun k hk => by cases hk; omega) (HZD.out.row _) (EntsV.nil _ _) ⟨Rd.nil _, From.nil _⟩ ⟨Rd.nil _, From.nil _⟩ rfl rfl (by rw [HN.out]; exact ⟨rfl, by exact hne, rfl⟩)
    | ok r =>
      obtain ⟨a, hr, rfl⟩ := HT.out.st
      have HRR := Lib.hid hr
      have hst' : rdBody k (bs.drop a2) = .ok (M, bs.drop a) := hst
      have HST := Lib.hid hst'
      simp only [tErr] at t1
      clear hr hst hst'
      go_wp2_with fail
      refine (rend_c rb _ bs a 0 wc HRR.out).mono ?_
      rintro en w5 ⟨rfl, hg5⟩
      have hC5 : Chg [rb] wc w5 := Chg.some hg5 (.inl (by simp))
      have hT5 := HT.out.blk.chg hC5 (by simp; omega)
      have hM5 := HME.out.chg hC5 (by simp; omega)
      have hZ5 := HZE.out.chg hC5 (by simp; omega)
      have hB5 : Below w.heap.size w w5 := hC5.below HBE.out HBE.out.size (by intro t ht; simp at ht; omega)
      have f1 := hT5.free 1
      have d1 := hT5.cell 1 rfl
      have HC5 := Lib.hid hC5; have HT5 := Lib.hid hT5; have HM5 := Lib.hid hM5; have HZ5 := Lib.hid hZ5; have HB5 := Lib.hid hB5
      clear hC5 hT5 hM5 hZ5 hB5 hg5 t0 t1
      by_cases hrn : bs.drop a = []
      · have he : (if (0 : Int) = 0 ∧ bs.drop a ≠ [] then (5 : Int) else 0) = 0 := if_neg (fun h => h.2 hrn)
        rw [he]
        have HN : Hid (X = .ok M) := Lib.hid (by rw [HX.out]; simp only [getM, HY.out, if_neg HIN.out, HST.out]; rw [if_pos hrn])
        clear he hrn
        have hTE := show Blk (w5.setCell ⟨tb, 1, none⟩ (.int .i64 0)) tb #[.pointer (some ⟨rb, 0, none⟩), .int .i64 0] 58 by simpa using HT5.out.set 1 (.int .i64 0)
        have HTE := Lib.hid hTE
        have HZE := Lib.hid (HZ5.out.other ⟨tb, 1, none⟩ (.int .i64 0) (by simp; omega))
        have HME6 := Lib.hid (HM5.out.other ⟨tb, 1, none⟩ (.int .i64 0) (by simp; omega))
        have HBE := Lib.hid (below_set HB5.out tb 1 (.int .i64 0) (by omega))
        have HC6 := Lib.hid ((HC5.out.mono (S := [rb, tb]) (fun t ht => .inl (by simp at ht; simp [ht]))).trans (Chg.set tb 1 (.int .i64 0) (by simp)))
        clear hTE
        go_upto_region 49 with fail
        clear f1 d1
        generalize w5.setCell ⟨tb, 1, none⟩ (.int .i64 0) = w6 at *
        have d1 := HTE.out.cell 1 rfl
        go_wp2_with (first | (refine wpList_load_row rfl 28 (.tmp 7) rfl mb rfl 28 _ (0, 0) _ HME6.out Try.underlying28 rfl (by kernel_rfl) ?_) | (refine wpList_store_row rfl 28 (.tmp 2) (.tmp 218) rfl w.heap.size (mCells M (.slice b9 n9 c9) (.slice b10 n10 c10) (.slice b11 n11 c11)) rfl rfl 28 _ HZE.out (mCells_size _ _ _ _) rfl (mCells_one _ _ _ _ _ _ _ _ _ _) ?_))
        have hlt6 : ∀ t ∈ [rb, tb], t < mb := by intro t ht; simp at ht; omega
        have hg6 := grown_row w6 w.heap.size (mCells M (.slice b9 n9 c9) (.slice b10 n10 c10) (.slice b11 n11 c11))
        have hR6 : Chg [w.heap.size] w6 (w6.setRow w.heap.size (mCells M (.slice b9 n9 c9) (.slice b10 n10 c10) (.slice b11 n11 c11))) := Chg.some hg6 (.inl (by simp))
        have hlt7 : ∀ t ∈ [w.heap.size], t < mb := by intro t ht; simp at ht; omega
        have k9 := ((H9.out.chg HC6.out hlt6).chg hR6 hlt7).low hsz
        have k10 := (H10.out.1.chg HC6.out (H10.out.2.off hlt6)).chg hR6 (H10.out.2.off hlt7)
        have k11 := (H11.out.1.chg HC6.out (H11.out.2.off hlt6)).chg hR6 (H11.out.2.off hlt7)
        have kE : Ext w _ := hR6.below HBE.out HBE.out.size (by simp)
        exact rm_ret 0 M _ _ _ w _ _ X kE (HZE.out.row _) k9 ⟨k10, H10.out.2.mono hsz⟩ ⟨k11, H11.out.2.mono hsz⟩ rfl rfl (by rw [HN.out]; exact ⟨rfl, rfl⟩)
      · have he : (if (0 : Int) = 0 ∧ bs.drop a ≠ [] then (5 : Int) else 0) = 5 := if_pos ⟨rfl, hrn⟩
        rw [he]
        have HN : Hid (X = .error 5) := Lib.hid (by rw [HX.out]; simp only [getM, HY.out, if_neg HIN.out, HST.out]; rw [if_neg hrn])
        clear he hrn
        go_upto_region 49 with fail
        have HTE := Lib.hid (show Blk (w5.setCell ⟨tb, 1, none⟩ (.int .i64 5)) tb #[.pointer (some ⟨rb, 0, none⟩), .int .i64 5] 58 by simpa using HT5.out.set 1 (.int .i64 5))
        have HZE := Lib.hid (HZ5.out.other ⟨tb, 1, none⟩ (.int .i64 5) (by simp; omega))
        have HBE := Lib.hid (below_set HB5.out tb 1 (.int .i64 5) (by omega))
        clear f1 d1
        generalize w5.setCell ⟨tb, 1, none⟩ (.int .i64 5) = w6 at *
        have d1 := HTE.out.cell 1 rfl
        go_wp2_with fail
        have tD := HTE.out.drew
        have tR := HTE.out.drew.grown (grown_row w6.drew w.heap.size (zc 0)) (by simp; omega)
        have d3 := tD.cell 1 rfl
        have d4 := tR.cell 1 rfl
        have HZD := Lib.hid (HZE.out.drew); have HBD := Lib.hid (HBE.out.drew)
        clear tD tR
        refine wp_region_orders [[0, 1, 2, 3, 4, 5, 6], [0, 1, 2, 3, 5, 4, 6], [0, 1, 2, 5, 3, 4, 6], [0, 1, 5, 2, 3, 4, 6], [0, 5, 1, 2, 3, 4, 6], [1, 0, 2, 3, 4, 5, 6], [1, 0, 2, 3, 5, 4, 6], [1, 0, 2, 5, 3, 4, 6], [1, 0, 5, 2, 3, 4, 6], [1, 2, 0, 3, 4, 5, 6], [1, 2, 0, 3, 5, 4, 6], [1, 2, 0, 5, 3, 4, 6], [1, 2, 3, 0, 4, 5, 6], [1, 2, 3, 0, 5, 4, 6], [1, 2, 3, 4, 0, 5, 6]] (by kernel_rfl) (by kernel_rfl) ?_
        intro l hl
        simp only [List.mem_cons, List.not_mem_nil, or_false] at hl
        rcases hl with rfl | rfl | rfl | rfl | rfl | rfl | rfl | rfl | rfl | rfl | rfl | rfl | rfl | rfl | rfl
        all_goals simp only [List.filterMap_cons, List.filterMap_nil, List.getElem?_toArray, List.getElem?_cons_zero, List.getElem?_cons_succ]
        all_goals change wpList _ _ _ [_, _, _, _, _, _, _] _ _
        all_goals go_wp2_with (refine wpList_store_row rfl 28 (.tmp 2) (.tmp 213) rfl w.heap.size (zc 0) rfl rfl 28 _ HZD.out (mCells_size Msg.zero _ _ _) rfl (mCells_one Msg.zero _ _ _ _ _ _ _ _ _) ?_)
        all_goals exact rm_ret 5 Msg.zero _ _ _ w _ _ X (Below.grown HBD.out (grown_row w6.drew _ _) HBD.out.size fun k hk => by cases hk; omega) (HZD.out.row _) (EntsV.nil _ _) ⟨Rd.nil _, From.nil _⟩ ⟨Rd.nil _, From.nil _⟩ rfl rfl (by rw [HN.out]; exact ⟨rfl, by decide, rfl⟩)
end Go.Proofs.Ytnhfjoelfnmgaaa
