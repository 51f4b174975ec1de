/- tabellionref18.Get, kind 3. PRINTED BY gen/rgetm.py -/
import Derived.Test.YtnhfjoelfnmgaaaBun6
import Derived.Deep.CutBlock
import Derived.Deep.DeepCutAuto
set_option linter.unusedSimpArgs false
set_option linter.unusedVariables false
namespace Go.Proofs.Ytnhfjoelfnmgaaa
open Go Go.RowKit
set_option maxRecDepth 100000 in
set_option maxHeartbeats 16000000 in
theorem rmget_3 (v : Value) (bs : List Int) (w : World) (hR : Rd w v (u8s bs)) (hb8 : B8 bs) (hl : bs.length ≤ 140737488355000) (k : Int) (r1 : List Int) (hY : rdByte bs = .ok (k, r1)) (HQ : Hid (k = 3)) : Calls Try.prog 10 #[v] w (MGetOut (getM bs) w) := by
  obtain ⟨X, hX⟩ : ∃ X, X = getM bs := ⟨_, rfl⟩
  rw [← hX]
  obtain ⟨av, nv, cv, rfl⟩ := Rd.shape hR
  have hoff : ∀ q, w.heap.size ≤ q → Off (.slice av nv cv) (u8s bs) (some q) := fun q hq => hR.off_new (fun k hk => by cases hk; omega)
  have hE0 : Ext w (((w.alloc (.cells (zc 0) 28)).alloc (.cells #[.slice av nv cv, .int .i64 0, .int .i64 0] 56)).alloc (.cells #[.pointer (some ⟨w.heap.size + 1, 0, none⟩), .int .i64 0] 58)) := ((Ext.alloc _ _).trans (Ext.alloc _ _)).trans (Ext.alloc _ _)
  have hZ0 : Blk (((w.alloc (.cells (zc 0) 28)).alloc (.cells #[.slice av nv cv, .int .i64 0, .int .i64 0] 56)).alloc (.cells #[.pointer (some ⟨w.heap.size + 1, 0, none⟩), .int .i64 0] 58)) w.heap.size (zc 0) 28 := ((Blk.new w _ _).alloc _).alloc _
  have hR0 : RR (((w.alloc (.cells (zc 0) 28)).alloc (.cells #[.slice av nv cv, .int .i64 0, .int .i64 0] 56)).alloc (.cells #[.pointer (some ⟨w.heap.size + 1, 0, none⟩), .int .i64 0] 58)) (w.heap.size + 1) (.slice av nv cv) bs 0 0 := by
    refine ⟨?_, hR.ext hE0, Nat.zero_le _, hoff _ (by omega)⟩
    have := (Blk.new (w.alloc (.cells (zc 0) 28)) #[.slice av nv cv, .int .i64 0, .int .i64 0] 56).alloc (.cells #[.pointer (some ⟨w.heap.size + 1, 0, none⟩), .int .i64 0] 58)
    simpa using this
  have hT0 : TS (((w.alloc (.cells (zc 0) 28)).alloc (.cells #[.slice av nv cv, .int .i64 0, .int .i64 0] 56)).alloc (.cells #[.pointer (some ⟨w.heap.size + 1, 0, none⟩), .int .i64 0] 58)) (w.heap.size + 1 + 1) (w.heap.size + 1) (.slice av nv cv) bs (.ok bs) := by
    refine ⟨?_, by omega, hoff _ (by omega), by simp, 0, hR0, rfl⟩
    have := Blk.new ((w.alloc (.cells (zc 0) 28)).alloc (.cells #[.slice av nv cv, .int .i64 0, .int .i64 0] 56)) #[.pointer (some ⟨w.heap.size + 1, 0, none⟩), .int .i64 0] 58
    simpa [tErr] using this
  have HX := Lib.hid hX; have HR0 := Lib.hid hR0; have HT0 := Lib.hid hT0; have HE0 := Lib.hid hE0; have HZ0 := Lib.hid hZ0
  clear hX hR hR0 hT0 hE0 hZ0
  go_enter Try.func10, Try.ntmps10
  go_wp2_with fail
  refine (rbyte_c (w.heap.size + 1) _ bs 0 0 _ (by omega) HR0.out).mono ?_
  rintro en w2 ⟨hg, hm⟩
  simp only [stuckR, if_true, List.drop_zero] at hm
  have hB2 : Below w.heap.size w w2 := Below.grown HE0.out hg HE0.out.size fun k hk => by cases hk; omega
  have hZ2 := HZ0.out.grown hg (by simp)
  have HG := Lib.hid hg
  have HB2 := Lib.hid hB2; have HZ2 := Lib.hid hZ2
  clear hg hB2 hZ2
  rw [hY] at hm
  obtain ⟨_, a2, rfl, rfl, hr2, rfl⟩ := hm
  obtain ⟨h8, hu, hlr⟩ := rdByte_b8 hb8 hY
  have HY := Lib.hid hY; have HR2 := Lib.hid hr2; have H8 := Lib.hid h8
  clear hY hr2 h8
  have hin : ¬ (k < 1 ∨ 5 < k) := by have := HQ.out; omega
  have hk1 : ¬ k < 1 := by omega
  have hk5 : ¬ 5 < k := by omega
  have HIN := Lib.hid hin
  have hwk : IntKind.i64.wrap k = k := by rw [IntKind.wrap_i64]; omega
  have hlt2 : w.heap.size + 1 + 1 < w2.heap.size := by have := HG.out.size; simp at this; omega
  have hT2 := (HT0.out.blk.grown HG.out (by simp))
  have hTS : TS w2 (w.heap.size + 1 + 1) (w.heap.size + 1) (.slice av nv cv) bs (.ok (bs.drop a2)) := ⟨hT2, by omega, HT0.out.off, by omega, a2, HR2.out, rfl⟩
  have hov : Off (.slice av nv cv) (u8s bs) (some w2.heap.size) := hoff _ HB2.out.size
  have hsz := HB2.out.size
  have HTS := Lib.hid hTS; have HOFF := Lib.hid hoff
  clear hin hT2 hTS hoff HT0 HE0 HZ0 HR0
  go_upto_region 8 with fail
  clear hwk
  have HM1 := Lib.hid (Blk.new w2 (zc k) 28)
  have HT1 := Lib.hid (HTS.out.ext (Ext.alloc w2 (.cells (zc k) 28)))
  have HB1 := Lib.hid (HB2.out.trans (show Below w.heap.size w2 (w2.alloc (.cells (zc k) 28)) from Below.mono (Ext.alloc _ _) hsz))
  have HZ1 := Lib.hid (HZ2.out.ext (Ext.alloc w2 (.cells (zc k) 28)))
  generalize w2.alloc (.cells (zc k) 28) = w1 at *
  obtain ⟨s1, HS1⟩ : ∃ s, Hid (s = Except.ok (ε := Int) (bs.drop a2)) := ⟨_, Lib.hid rfl⟩
  rw [← HS1.out] at HT1
  generalize hmb : w2.heap.size = mb at *
  generalize htb : w.heap.size + 1 + 1 = tb at *
  generalize hrb : w.heap.size + 1 = rb at *
  clear HTS HR2 HG HB2 HZ2
  go_wp2_with fail
  refine (tnum_c tb rb (.slice av nv cv) bs s1 1 7 w1 hb8 hl HT1.out).mono ?_
  rintro en u1 ⟨_, rfl, hC, hT, ⟨f, rfl, huf⟩, hV⟩
  obtain ⟨s2, hs⟩ : ∃ s, s = nextS s1 (rdRng 1 7) := ⟨_, rfl⟩
  rw [← hs] at hT
  have hMu := HM1.out.chg hC (by simp; omega)
  have cj := hMu.cell 1 rfl
  have fj := hMu.free 1
  have hM := hMu.set 1 (.int .u64 f)
  simp only [List.setIfInBounds_toArray, List.set_cons_succ, List.set_cons_zero] at hM
  have hT2 := hT.other mb 1 (.int .u64 f) (by omega) (by omega) hov
  have hB := (hC.below HB1.out HB1.out.size (by intro t ht; simp at ht; omega)).setCell (show w.heap.size ≤ (⟨mb, 1, none⟩ : Addr).block by simp; omega) (.int .u64 f)
  have hZ := (HZ1.out.chg hC (by simp; omega)).other ⟨mb, 1, none⟩ (.int .u64 f) (by simp; omega)
  have HT2 := Lib.hid hT2; have HM2 := Lib.hid hM; have HB2 := Lib.hid hB; have HZ2 := Lib.hid hZ; have HV1 := Lib.hid hV; have HS2 := Lib.hid hs
  clear hT2 hM hB hZ hV hs hT hMu hC HT1 HM1 HB1 HZ1
  go_upto_region 9 with fail
  clear cj fj
  generalize u1.setCell ⟨mb, 1, none⟩ (.int .u64 f) = w2 at *
  go_wp2_with fail
  refine (tnum_c tb rb (.slice av nv cv) bs s2 1 7 w2 hb8 hl HT2.out).mono ?_
  rintro en u2 ⟨_, rfl, hC, hT, ⟨t, rfl, hut⟩, hV⟩
  obtain ⟨s3, hs⟩ : ∃ s, s = nextS s2 (rdRng 1 7) := ⟨_, rfl⟩
  rw [← hs] at hT
  have hMu := HM2.out.chg hC (by simp; omega)
  have cj := hMu.cell 2 rfl
  have fj := hMu.free 2
  have hM := hMu.set 2 (.int .u64 t)
  simp only [List.setIfInBounds_toArray, List.set_cons_succ, List.set_cons_zero] at hM
  have hT2 := hT.other mb 2 (.int .u64 t) (by omega) (by omega) hov
  have hB := (hC.below HB2.out HB2.out.size (by intro t ht; simp at ht; omega)).setCell (show w.heap.size ≤ (⟨mb, 2, none⟩ : Addr).block by simp; omega) (.int .u64 t)
  have hZ := (HZ2.out.chg hC (by simp; omega)).other ⟨mb, 2, none⟩ (.int .u64 t) (by simp; omega)
  have HT3 := Lib.hid hT2; have HM3 := Lib.hid hM; have HB3 := Lib.hid hB; have HZ3 := Lib.hid hZ; have HV2 := Lib.hid hV; have HS3 := Lib.hid hs
  clear hT2 hM hB hZ hV hs hT hMu hC HT2 HM2 HB2 HZ2
  go_upto_region 10 with fail
  clear cj fj
  generalize u2.setCell ⟨mb, 2, none⟩ (.int .u64 t) = w3 at *
  go_wp2_with fail
  refine (tnum_c tb rb (.slice av nv cv) bs s3 1 4611686018427387904 w3 hb8 hl HT3.out).mono ?_
  rintro en u3 ⟨_, rfl, hC, hT, ⟨m, rfl, hum⟩, hV⟩
  obtain ⟨s4, hs⟩ : ∃ s, s = nextS s3 (rdRng 1 4611686018427387904) := ⟨_, rfl⟩
  rw [← hs] at hT
  have hMu := HM3.out.chg hC (by simp; omega)
  have cj := hMu.cell 3 rfl
  have fj := hMu.free 3
  have hM := hMu.set 3 (.int .u64 m)
  simp only [List.setIfInBounds_toArray, List.set_cons_succ, List.set_cons_zero] at hM
  have hT2 := hT.other mb 3 (.int .u64 m) (by omega) (by omega) hov
  have hB := (hC.below HB3.out HB3.out.size (by intro t ht; simp at ht; omega)).setCell (show w.heap.size ≤ (⟨mb, 3, none⟩ : Addr).block by simp; omega) (.int .u64 m)
  have hZ := (HZ3.out.chg hC (by simp; omega)).other ⟨mb, 3, none⟩ (.int .u64 m) (by simp; omega)
  have HT4 := Lib.hid hT2; have HM4 := Lib.hid hM; have HB4 := Lib.hid hB; have HZ4 := Lib.hid hZ; have HV3 := Lib.hid hV; have HS4 := Lib.hid hs
  clear hT2 hM hB hZ hV hs hT hMu hC HT3 HM3 HB3 HZ3
  go_upto_region 11 with fail
  clear cj fj
  generalize u3.setCell ⟨mb, 3, none⟩ (.int .u64 m) = w4 at *
  have ck := HM4.out.cell 0 rfl
  go_upto_block 0 with fail
  go_cut [9] (fun _v wc => RJ k (bs.drop a2) w mb tb rb (.slice av nv cv) bs wc)
  case first =>
    obtain rfl := HQ.out
    go_wp2_with fail
    refine (tnum_c tb rb (.slice av nv cv) bs s4 0 4611686018427387904 w4 hb8 hl HT4.out).mono ?_
    rintro en u4 ⟨_, rfl, hC, hT, ⟨i, rfl, hui⟩, hV⟩
    obtain ⟨s5, hs⟩ : ∃ s, s = nextS s4 (rdRng 0 4611686018427387904) := ⟨_, rfl⟩
    rw [← hs] at hT
    have hMu := HM4.out.chg hC (by simp; omega)
    have cj := hMu.cell 4 rfl
    have fj := hMu.free 4
    have hM := hMu.set 4 (.int .u64 i)
    simp only [List.setIfInBounds_toArray, List.set_cons_succ, List.set_cons_zero] at hM
    have hT2 := hT.other mb 4 (.int .u64 i) (by omega) (by omega) hov
    have hB := (hC.below HB4.out HB4.out.size (by intro t ht; simp at ht; omega)).setCell (show w.heap.size ≤ (⟨mb, 4, none⟩ : Addr).block by simp; omega) (.int .u64 i)
    have hZ := (HZ4.out.chg hC (by simp; omega)).other ⟨mb, 4, none⟩ (.int .u64 i) (by simp; omega)
    have HT5 := Lib.hid hT2; have HM5 := Lib.hid hM; have HB5 := Lib.hid hB; have HZ5 := Lib.hid hZ; have HV4 := Lib.hid hV; have HS5 := Lib.hid hs
    clear hT2 hM hB hZ hV hs hT hMu hC HT4 HM4 HB4 HZ4
    go_upto_region 20 with fail
    clear cj fj
    generalize u4.setCell ⟨mb, 4, none⟩ (.int .u64 i) = w5 at *
    go_wp2_with fail
    refine (tnum_c tb rb (.slice av nv cv) bs s5 0 4611686018427387904 w5 hb8 hl HT5.out).mono ?_
    rintro en u5 ⟨_, rfl, hC, hT, ⟨l, rfl, hul⟩, hV⟩
    obtain ⟨s6, hs⟩ : ∃ s, s = nextS s5 (rdRng 0 4611686018427387904) := ⟨_, rfl⟩
    rw [← hs] at hT
    have hMu := HM5.out.chg hC (by simp; omega)
    have cj := hMu.cell 5 rfl
    have fj := hMu.free 5
    have hM := hMu.set 5 (.int .u64 l)
    simp only [List.setIfInBounds_toArray, List.set_cons_succ, List.set_cons_zero] at hM
    have hT2 := hT.other mb 5 (.int .u64 l) (by omega) (by omega) hov
    have hB := (hC.below HB5.out HB5.out.size (by intro t ht; simp at ht; omega)).setCell (show w.heap.size ≤ (⟨mb, 5, none⟩ : Addr).block by simp; omega) (.int .u64 l)
    have hZ := (HZ5.out.chg hC (by simp; omega)).other ⟨mb, 5, none⟩ (.int .u64 l) (by simp; omega)
    have HT6 := Lib.hid hT2; have HM6 := Lib.hid hM; have HB6 := Lib.hid hB; have HZ6 := Lib.hid hZ; have HV5 := Lib.hid hV; have HS6 := Lib.hid hs
    clear hT2 hM hB hZ hV hs hT hMu hC HT5 HM5 HB5 HZ5
    go_upto_region 21 with fail
    clear cj fj
    generalize u5.setCell ⟨mb, 5, none⟩ (.int .u64 l) = w6 at *
    go_wp2_with fail
    refine (tnum_c tb rb (.slice av nv cv) bs s6 0 4611686018427387904 w6 hb8 hl HT6.out).mono ?_
    rintro en u6 ⟨_, rfl, hC, hT, ⟨c, rfl, huc⟩, hV⟩
    obtain ⟨s7, hs⟩ : ∃ s, s = nextS s6 (rdRng 0 4611686018427387904) := ⟨_, rfl⟩
    rw [← hs] at hT
    have hMu := HM6.out.chg hC (by simp; omega)
    have cj := hMu.cell 6 rfl
    have fj := hMu.free 6
    have hM := hMu.set 6 (.int .u64 c)
    simp only [List.setIfInBounds_toArray, List.set_cons_succ, List.set_cons_zero] at hM
    have hT2 := hT.other mb 6 (.int .u64 c) (by omega) (by omega) hov
    have hB := (hC.below HB6.out HB6.out.size (by intro t ht; simp at ht; omega)).setCell (show w.heap.size ≤ (⟨mb, 6, none⟩ : Addr).block by simp; omega) (.int .u64 c)
    have hZ := (HZ6.out.chg hC (by simp; omega)).other ⟨mb, 6, none⟩ (.int .u64 c) (by simp; omega)
    have HT7 := Lib.hid hT2; have HM7 := Lib.hid hM; have HB7 := Lib.hid hB; have HZ7 := Lib.hid hZ; have HV6 := Lib.hid hV; have HS7 := Lib.hid hs
    clear hT2 hM hB hZ hV hs hT hMu hC HT6 HM6 HB6 HZ6
    go_upto_region 22 with fail
    clear cj fj
    generalize u6.setCell ⟨mb, 6, none⟩ (.int .u64 c) = w7 at *
    go_wp2_with fail
    refine (tnum_c tb rb (.slice av nv cv) bs s7 0 18446744073709551615 w7 hb8 hl HT7.out).mono ?_
    rintro en u7 ⟨_, rfl, hC, hT, ⟨s, rfl, hus⟩, hV⟩
    obtain ⟨s8, hs⟩ : ∃ s, s = nextS s7 (rdRng 0 18446744073709551615) := ⟨_, rfl⟩
    rw [← hs] at hT
    have hMu := HM7.out.chg hC (by simp; omega)
    have cj := hMu.cell 7 rfl
    have fj := hMu.free 7
    have hM := hMu.set 7 (.int .u64 s)
    simp only [List.setIfInBounds_toArray, List.set_cons_succ, List.set_cons_zero] at hM
    have hT2 := hT.other mb 7 (.int .u64 s) (by omega) (by omega) hov
    have hB := (hC.below HB7.out HB7.out.size (by intro t ht; simp at ht; omega)).setCell (show w.heap.size ≤ (⟨mb, 7, none⟩ : Addr).block by simp; omega) (.int .u64 s)
    have hZ := (HZ7.out.chg hC (by simp; omega)).other ⟨mb, 7, none⟩ (.int .u64 s) (by simp; omega)
    have HT8 := Lib.hid hT2; have HM8 := Lib.hid hM; have HB8 := Lib.hid hB; have HZ8 := Lib.hid hZ; have HV7 := Lib.hid hV; have HS8 := Lib.hid hs
    clear hT2 hM hB hZ hV hs hT hMu hC HT7 HM7 HB7 HZ7
    go_upto_region 23 with fail
    clear cj fj
    generalize u7.setCell ⟨mb, 7, none⟩ (.int .u64 s) = w8 at *
    go_wp2_with fail
    refine (tnum_c tb rb (.slice av nv cv) bs s8 0 18446744073709551615 w8 hb8 hl HT8.out).mono ?_
    rintro en u8 ⟨_, rfl, hC, hT, ⟨n, rfl, hun⟩, hV⟩
    obtain ⟨s9, hs⟩ : ∃ s, s = nextS s8 (rdRng 0 18446744073709551615) := ⟨_, rfl⟩
    rw [← hs] at hT
    have hM := HM8.out.chg hC (by simp; omega)
    have hB := hC.below HB8.out HB8.out.size (by intro t ht; simp at ht; omega)
    have hZ := HZ8.out.chg hC (by simp; omega)
    have HT9 := Lib.hid hT; have HM9 := Lib.hid hM; have HB9 := Lib.hid hB; have HZ9 := Lib.hid hZ; have HV9 := Lib.hid hV; have HS9 := Lib.hid hs
    clear hM hB hZ hV hs hT hC HT8 HM8 HB8 HZ8
    have hst := rdst3 (bs.drop a2) H8.out (by omega) f t m i l c s n
      (by have h := HV1.out; simpa only [HS1.out] using h)
      (by have h := HV2.out; simpa only [HS2.out, HS1.out] using h)
      (by have h := HV3.out; simpa only [HS3.out, HS2.out, HS1.out] using h)
      (by have h := HV4.out; simpa only [HS4.out, HS3.out, HS2.out, HS1.out] using h)
      (by have h := HV5.out; simpa only [HS5.out, HS4.out, HS3.out, HS2.out, HS1.out] using h)
      (by have h := HV6.out; simpa only [HS6.out, HS5.out, HS4.out, HS3.out, HS2.out, HS1.out] using h)
      (by have h := HV7.out; simpa only [HS7.out, HS6.out, HS5.out, HS4.out, HS3.out, HS2.out, HS1.out] using h)
      (by have h := HV9.out; simpa only [HS8.out, HS7.out, HS6.out, HS5.out, HS4.out, HS3.out, HS2.out, HS1.out] using h)
    rw [← HS1.out, ← HS2.out, ← HS3.out, ← HS4.out, ← HS5.out, ← HS6.out, ← HS7.out, ← HS8.out, ← HS9.out] at hst
    have HST := Lib.hid hst
    clear hst HV1 HV2 HV3 HV4 HV5 HV6 HV7 HV9 HS1 HS2 HS3 HS4 HS5 HS6 HS7 HS8 HS9
    obtain ⟨hun0, hun1⟩ := hun
    obtain ⟨N, rfl⟩ := Int.eq_ofNat_of_zero_le hun0
    have hmw : mb < u8.heap.size := HM9.out.lt
    have htw : tb < u8.heap.size := HT9.out.blk.lt
    have hrw : rb < u8.heap.size := HT9.out.lt
    rcases s9 with no | r
    · have hne : no ≠ 0 := HT9.out.st
      have hb1 : (no == 0) = false := by simpa using hne
      have t1 := HT9.out.blk.cell 1 rfl
      simp only [tErr] at t1
      go_wp2_with fail
      go_loopg [10] 0 (fun _ i0 wr => i0 = .int .u64 (0 : Int) ∧ wr = u8)
      case atStart => exact ⟨rfl, rfl⟩
      case round =>
        obtain ⟨rfl, rfl⟩ := hrel
        by_cases hlt : (0 : Int) < (N : Int)
        · go_wp2_with fail
          go_meet
          case rel => exact ⟨⟨3, f, t, m, i, l, c, s, false, [], [], []⟩, .error no, _, _, _, HM9.out, HT9.out, EntsV.nil _ _, ⟨Rd.nil _, From.nil _⟩, ⟨Rd.nil _, From.nil _⟩, HB9.out, HZ9.out, HST.out⟩
        · go_wp2_with fail
          go_meet
          case rel => exact ⟨⟨3, f, t, m, i, l, c, s, false, [], [], []⟩, .error no, _, _, _, HM9.out, HT9.out, EntsV.nil _ _, ⟨Rd.nil _, From.nil _⟩, ⟨Rd.nil _, From.nil _⟩, HB9.out, HZ9.out, HST.out⟩
    · have t1 := HT9.out.blk.cell 1 rfl
      simp only [tErr] at t1
      by_cases h4 : 4 < (N : Int)
      · have g1 := HT9.out.blk.free 1
        have HF : Hid (rdBody 3 (bs.drop a2) = .error 4) := Lib.hid (by have h := HST.out; simp only [RdP, if_pos h4] at h; exact h)
        have HT10 := Lib.hid (HT9.out.put (s' := .error 4) (grown_refl _ _) 4 rfl (show (4 : Int) ≠ 0 by decide))
        have HM10 := Lib.hid (HM9.out.other ⟨tb, 1, none⟩ (.int .i64 4) (by simp; omega))
        have HB10 := Lib.hid (below_set HB9.out tb 1 (.int .i64 4) (by omega))
        have HZ10 := Lib.hid (HZ9.out.other ⟨tb, 1, none⟩ (.int .i64 4) (by simp; omega))
        go_wp2_with fail
        clear t1 g1
        generalize u8.setCell ⟨tb, 1, none⟩ (.int .i64 4) = w9 at *
        have t1 := HT10.out.blk.cell 1 rfl
        simp only [tErr] at t1
        go_loopg [10] 0 (fun _ i0 wr => i0 = .int .u64 (0 : Int) ∧ wr = w9)
        case atStart => exact ⟨rfl, rfl⟩
        case round =>
          obtain ⟨rfl, rfl⟩ := hrel
          have hlt : (0 : Int) < (N : Int) := by omega
          go_wp2_with fail
          go_meet
          case rel => exact ⟨⟨3, f, t, m, i, l, c, s, false, [], [], []⟩, .error 4, _, _, _, HM10.out, HT10.out, EntsV.nil _ _, ⟨Rd.nil _, From.nil _⟩, ⟨Rd.nil _, From.nil _⟩, HB10.out, HZ10.out, HF.out⟩
      · have HP : Hid (RdP 3 (bs.drop a2) (fun r => match rdEntsGo N [] r with | .error e => .error e | .ok (xs, r) => .ok (⟨3, f, t, m, i, l, c, s, false, xs, [], []⟩, r)) (.ok r)) := Lib.hid (by have h := HST.out; simp only [RdP, if_neg h4, Int.toNat_natCast] at h; exact h)
        have hN0 : N ≤ 4 := by omega
        clear HST
        obtain ⟨ei, eh, ez, es, eb⟩ := info_parts infoEnt
        go_wp2_with fail
        go_loopg [10] N (fun g i0 wr => ∃ (k : Nat) (acc : List Ent) (s1 : Except Int (List Int)) (mv : Value) (cells : List Value), k + g = N ∧ i0 = .int .u64 (k : Int) ∧ TS wr tb rb (.slice av nv cv) bs s1 ∧ Blk wr mb #[.int .i64 3, .int .u64 f, .int .u64 t, .int .u64 m, .int .u64 i, .int .u64 l, .int .u64 c, .int .u64 s, .bool false, mv, .slice none 0 0, .slice none 0 0] 28 ∧ wr.ownsRow u8.heap.size 62 6 mv acc.length cells ∧ ECs wr u8.heap.size mv.ownBlock acc cells ∧ u8.heap.size ≤ wr.heap.size ∧ Below w.heap.size w wr ∧ Blk wr w.heap.size (zc 0) 28 ∧ (∀ r, s1 = .ok r → N ≤ 4 ∧ acc.length = k) ∧ RdP 3 (bs.drop a2) (fun r => match rdEntsGo (N - k) acc r with | .error e => .error e | .ok (xs, r) => .ok (⟨3, f, t, m, i, l, c, s, false, xs, [], []⟩, r)) s1)
        case atStart => exact ⟨0, [], .ok r, .slice none 0 0, [], by omega, rfl, HT9.out, HM9.out, World.ownsRow_nil _ _ _ _, rfl, Nat.le_refl _, HB9.out, HZ9.out, fun _ _ => ⟨hN0, rfl⟩, HP.out⟩
        case round =>
          obtain ⟨k, acc, s2, mv, cells, hk, rfl, hT, hM, ho, hec, hsz2, hB, hZ, hN4, hst⟩ := hrel
          have HT2 := Lib.hid hT; have HM2 := Lib.hid hM; have HO := Lib.hid ho; have HEC := Lib.hid hec; have HB2 := Lib.hid hB; have HZ2 := Lib.hid hZ; have HN2 := Lib.hid hN4; have HP2 := Lib.hid hst
          obtain ⟨ma, mn, mc, rfl⟩ := own_shape ho
          have t0 := hT.blk.cell 0 rfl
          have t1 := hT.blk.cell 1 rfl
          clear hT hM ho hec hB hZ hN4 hst
          cases s2 with
          | error no =>
            have hne : no ≠ 0 := HT2.out.st
            have hb1 : (no == 0) = false := by simpa using hne
            simp only [tErr] at t1
            by_cases hlt : k < N
            · go_wp2_with fail
              go_meet
              case rel => exact ⟨⟨3, f, t, m, i, l, c, s, false, acc, [], []⟩, .error no, _, _, _, HM2.out, HT2.out, EntsV.low (EntsV.own HO.out (Nat.le_refl _) HEC.out) (Nat.le_of_lt hmw), ⟨Rd.nil _, From.nil _⟩, ⟨Rd.nil _, From.nil _⟩, HB2.out, HZ2.out, HP2.out⟩
            · go_wp2_with fail
              go_meet
              case rel => exact ⟨⟨3, f, t, m, i, l, c, s, false, acc, [], []⟩, .error no, _, _, _, HM2.out, HT2.out, EntsV.low (EntsV.own HO.out (Nat.le_refl _) HEC.out) (Nat.le_of_lt hmw), ⟨Rd.nil _, From.nil _⟩, ⟨Rd.nil _, From.nil _⟩, HB2.out, HZ2.out, HP2.out⟩
          | ok r =>
            obtain ⟨a, hr, rfl⟩ := HT2.out.st
            obtain ⟨hN4, hlen⟩ := HN2.out _ rfl
            have HRR := Lib.hid hr
            simp only [tErr] at t1
            clear hr
            by_cases hlt : k < N
            · obtain ⟨M, hM⟩ : ∃ M, N - k = M + 1 := ⟨N - k - 1, by omega⟩
              go_wp2_with fail
              refine (rraw_c rb _ bs a 0 128 wr hb8 hl (by omega) HRR.out).mono ?_
              rintro en w4 ⟨hg, hm⟩
              simp only [stuckR, if_true] at hm
              have hC : Chg [rb] wr w4 := Chg.some hg (.inl (by simp))
              have HM4 := Lib.hid (HM2.out.chg hC (by simp; omega))
              have HB4 := Lib.hid (hC.below HB2.out HB2.out.size (by intro t ht; simp at ht; omega))
              have HZ4 := Lib.hid (HZ2.out.chg hC (by simp; omega))
              have hT4 := HT2.out.blk.chg hC (by simp; omega)
              have HO4 := Lib.hid (own_growR HO.out hg hrw)
              have HEC4 := Lib.hid (HEC.out.chg hC (by intro t ht; simp at ht; subst ht; exact .inl hrw))
              have d0 := hT4.cell 0 rfl; have d1 := hT4.cell 1 rfl; have g1 := hT4.free 1
              simp only [tErr] at d1
              have hsz4 : u8.heap.size ≤ w4.heap.size := Nat.le_trans hsz2 hg.size
              have HG := Lib.hid hg
              clear hC hT4 hg t0 t1
              rcases hY : rdRaw 128 (bs.drop a) with no | ⟨dd, r⟩
              · rw [hY] at hm; obtain ⟨rfl, _⟩ := hm
                have hne : no ≠ 0 := rdRaw_err hY
                have hb1 : (no != 0) = true := by simpa using hne
                have hT5 := HT2.out.put (s' := .error no) HG.out no rfl hne
                have HF : Hid (rdBody 3 (bs.drop a2) = .error no) := Lib.hid (by have h := HP2.out; simp only [RdP, hM, rdEntsGo, hY] at h; exact h)
                have HT5 := Lib.hid hT5
                clear hT5 hY
                go_wp2_with fail
                go_meet
                case rel => exact ⟨⟨3, f, t, m, i, l, c, s, false, acc, [], []⟩, .error no, _, _, _, HM4.out.other ⟨tb, 1, none⟩ _ (by simp; omega), HT5.out, EntsV.low ((EntsV.own HO4.out (Nat.le_refl _) HEC4.out).chg (Chg.set (S := [tb]) tb 1 _ (by simp)) (by intro t ht; simp at ht; omega)) (Nat.le_of_lt hmw), ⟨Rd.nil _, From.nil _⟩, ⟨Rd.nil _, From.nil _⟩, below_set HB4.out tb 1 _ (by omega), HZ4.out.other ⟨tb, 1, none⟩ _ (by simp; omega), HF.out⟩
              · rw [hY] at hm; obtain ⟨dv, a4, rfl, hdv, hr4, rfl⟩ := hm
                obtain ⟨da, dn, dc, rfl⟩ := Rd.shape hdv.1
                obtain ⟨_, h8d, _, hld⟩ := rdRaw_b8 (show B8 (bs.drop a) from fun x hx => hb8 x (List.mem_of_mem_drop hx)) hY
                have HDV := Lib.hid hdv.1; have HR4 := Lib.hid hr4; have HY4 := Lib.hid hY; have H8D := Lib.hid h8d
                have HT4 := Lib.hid (show Blk w4 tb #[.pointer (some ⟨rb, 0, none⟩), .int .i64 0] 58 from HT2.out.blk.grown HG.out (by intro e; have := Option.some.inj e; omega))
                have hwk : IntKind.u64.wrap ((k : Int) + 1) = ((k + 1 : Nat) : Int) := by rw [IntKind.wrap_u64]; omega
                clear hdv hr4 hY h8d d0 d1 g1
                go_wp2_with fail
                refine (rget_c _ dd w4 HDV.out H8D.out (by omega)).mono ?_
                rintro en w6 ⟨hE6, xv, xe, x, rfl, ⟨hxv, hxn⟩, hxo⟩
                have h46 := hE6.size
                have HE6 := Lib.hid hE6
                clear hE6
                obtain ⟨b4, n4, c4, b5, n5, c5, rfl⟩ := hxv.shape
                obtain ⟨dv', mv', hag, hxd, hxm⟩ := hxv
                obtain ⟨_, _, _, _, dv'', mv'', hag2, hfd, hfm⟩ := hxn
                cases hag; cases hag2
                have HXD := Lib.hid hxd; have HXM := Lib.hid hxm; have HFD : Hid (From w4.heap.size (.slice b4 n4 c4)) := Lib.hid hfd; have HFM : Hid (From w4.heap.size (.slice b5 n5 c5)) := Lib.hid hfm
                clear hxd hxm hfd hfm
                go_upto_region 33 with fail
                have HX7 := Lib.hid (Blk.new w6 #[.int .u64 x.term, .int .i64 x.kind, .int .u64 x.client, .int .u64 x.seq, .slice b4 n4 c4, .slice b5 n5 c5] 62)
                have hE7 := Ext.alloc w6 (.cells #[.int .u64 x.term, .int .i64 x.kind, .int .u64 x.client, .int .u64 x.seq, .slice b4 n4 c4, .slice b5 n5 c5] 62)
                generalize w6.alloc (.cells #[.int .u64 x.term, .int .i64 x.kind, .int .u64 x.client, .int .u64 x.seq, .slice b4 n4 c4, .slice b5 n5 c5] 62) = w7 at *
                have h67 := hE7.size
                have HE7 := Lib.hid (HE6.out.trans hE7)
                have HXD7 := Lib.hid (HXD.out.ext hE7); have HXM7 := Lib.hid (HXM.out.ext hE7)
                clear hE7
                have HM7 := Lib.hid (HM4.out.ext HE7.out); have HB7 := Lib.hid (HB4.out.trans (Below.mono HE7.out (Nat.le_trans HB2.out.size HG.out.size))); have HZ7 := Lib.hid (HZ4.out.ext HE7.out); have HO7 := Lib.hid (own_ext HO4.out HE7.out); have HT7' := Lib.hid (HT4.out.ext HE7.out)
                have HEC7 := Lib.hid (HEC4.out.chg (S := []) (Chg.ext HE7.out) (by simp))
                have HR7 := Lib.hid (HR4.out.ext9 (Ext.grownBy HE7.out none))
                have HG7 := Lib.hid (grown_trans1 HG.out (Ext.grownBy HE7.out (some rb)))
                have hsz7 : u8.heap.size ≤ w7.heap.size := by omega
                obtain ⟨s3, hs3⟩ : ∃ s3, TS (w7.setCell ⟨tb, 1, none⟩ (.int .i64 xe)) tb rb (.slice av nv cv) bs s3 ∧ (∀ r, s3 = .ok r → N ≤ 4 ∧ (acc ++ [x]).length = k + 1) ∧ RdP 3 (bs.drop a2) (fun r => match rdEntsGo (N - (k + 1)) (acc ++ [x]) r with | .error e => .error e | .ok (xs, r) => .ok (⟨3, f, t, m, i, l, c, s, false, xs, [], []⟩, r)) s3 := by
                  have h := HP2.out
                  simp only [RdP, hM, rdEntsGo, HY4.out] at h
                  rcases hZ : getB dd with no | y
                  · rw [hZ] at hxo h
                    obtain ⟨rfl, _⟩ := hxo
                    exact ⟨.error xe, HT2.out.put (s' := .error xe) HG7.out xe rfl (getB_err hZ), (by intro r hr; cases hr), h⟩
                  · rw [hZ] at hxo h
                    obtain ⟨rfl, rfl⟩ := hxo
                    refine ⟨.ok (bs.drop a4), HT2.out.put (s' := .ok (bs.drop a4)) HG7.out 0 rfl ⟨a4, HR7.out, rfl⟩, fun r hr => ⟨hN4, by simp [hlen]⟩, ?_⟩
                    rw [show N - (k + 1) = M by omega]
                    exact h
                obtain ⟨hT8, hN8, hP8⟩ := hs3
                have HN8 := Lib.hid hN8; have HP8 := Lib.hid hP8; have HT8 := Lib.hid hT8
                clear hxo hN8 hP8 hT8
                have d0 := HT7'.out.cell 0 rfl; have d1 := HT7'.out.cell 1 rfl; have g1 := HT7'.out.free 1
                have HM8 := Lib.hid (HM7.out.other ⟨tb, 1, none⟩ (.int .i64 xe) (by simp; omega))
                have HB8 := Lib.hid (below_set HB7.out tb 1 (.int .i64 xe) (by omega))
                have HZ8 := Lib.hid (HZ7.out.other ⟨tb, 1, none⟩ (.int .i64 xe) (by simp; omega))
                have HX8 := Lib.hid (HX7.out.other ⟨tb, 1, none⟩ (.int .i64 xe) (by simp; omega))
                have hgt : Chg [tb] w7 (w7.setCell ⟨tb, 1, none⟩ (.int .i64 xe)) := Chg.set tb 1 _ (by simp)
                have HO8 := Lib.hid (own_chg HO7.out hgt (by intro t ht; simp at ht; subst ht; exact .inl htw))
                have HEC8 := Lib.hid (HEC7.out.chg hgt (by intro t ht; simp at ht; subst ht; exact .inl htw))
                have HXD8 := Lib.hid (HXD7.out.chg hgt (HFD.out.off (by intro t ht; simp at ht; omega)))
                have HXM8 := Lib.hid (HXM7.out.chg hgt (HFM.out.off (by intro t ht; simp at ht; omega)))
                have hsz8 : w7.heap.size ≤ (w7.setCell ⟨tb, 1, none⟩ (.int .i64 xe)).heap.size := hgt.size
                clear hgt HM7 HB7 HZ7 HX7 HO7 HEC7 HXD7 HXM7 HT7' HR7 HG7 HE7 HXD HXM HE6 HT4 HM4 HB4 HZ4 HEC4 HDV
                go_upto_region 34 with fail
                clear d0 d1 g1
                generalize w7.setCell ⟨tb, 1, none⟩ (.int .i64 xe) = w8 at *
                obtain ⟨rowb, hrowb⟩ : ∃ o, o = (Value.slice ma mn mc).ownBlock := ⟨_, rfl⟩
                have hown2 : ∀ t ∈ rowb.toList, u8.heap.size ≤ t := by
                  intro t ht
                  rw [hrowb] at ht
                  cases hmv : (Value.slice ma mn mc).ownBlock with
                  | none => rw [hmv] at ht; cases ht
                  | some q => rw [hmv] at ht; simp at ht; subst ht; exact own_block HO.out _ hmv
                have hown3 : ∀ t ∈ rowb.toList, t < w4.heap.size := by
                  intro t ht
                  rw [hrowb] at ht
                  cases hmv : (Value.slice ma mn mc).ownBlock with
                  | none => rw [hmv] at ht; cases ht
                  | some q => rw [hmv] at ht; simp at ht; subst ht; exact (HO4.out.lt _ hmv).2
                have HROW := Lib.hid hrowb
                clear hrowb
                have hn1 : ∀ q, q < u8.heap.size → q ∉ rowb.toList := fun q hq hm => by have := hown2 _ hm; omega
                have cm := HM8.out.cell 9 rfl
                obtain ⟨e0, e1, e2, e3, e4, e5⟩ := HX8.out.six
                go_wp2_with ((refine wpList_append_own_at _ rfl (.tmp 132) (.tmp 134) _ rfl u8.heap.size 62 ei _ 6 80 Try.underlying25 eh ez es eb rfl (by decide) (.slice ma mn mc) acc.length cells rfl (own_ext HO8.out (Ext.alloc _ _)) ⟨w8.heap.size, 0, none⟩ 1 1 (eCells x (.slice b4 n4 c4) (.slice b5 n5 c5)) rfl rfl (fun i u hi => by rw [Addr.add_lit, Nat.zero_add]; exact (Blk.new w8 _ _).cell i (by simpa [eCells] using hi)) (by intro u hu; simp [eCells] at hu; rcases hu with rfl | rfl | rfl | rfl | rfl | rfl <;> rfl) (by unfold maxLen; omega) (by omega) (by simp; omega) fun v9 w9 g1 g2 _ g4 => ?_); obtain ⟨a9, n9, c9, rfl⟩ := own_shape g1; rw [← HROW.out] at g2 g4; have hC9 : Chg rowb.toList w8 w9 := (Chg.ext (Ext.alloc w8 _)).trans (Chg.grown g2); have hM9 := HM8.out.chg hC9 (hn1 _ hmw); have cm9 := hM9.cell 9 rfl; have fm9 := hM9.free 9; have HG1 := Lib.hid g1; have HG4 := Lib.hid g4; have HM9' := Lib.hid hM9; have HC9 := Lib.hid hC9; clear g1 g2 g4 hM9 hC9)
                have hq9 : (Value.slice a9 n9 c9).ownBlock = rowb ∨ ∃ q, (Value.slice a9 n9 c9).ownBlock = some q ∧ w8.heap.size ≤ q := HG4.out.imp id fun h => ⟨_, h, by simp⟩
                have hx8 : LV w8 u8.heap.size rowb (.slice b4 n4 c4) (u8s x.data) := ⟨HXD8.out, HFD.out.mono hsz4, HFD.out.off hown3⟩
                have hm8 : LV w8 u8.heap.size rowb (.slice b5 n5 c5) (u64s x.members) := ⟨HXM8.out, HFM.out.mono hsz4, HFM.out.off hown3⟩
                have hec8 := HEC8.out
                rw [← HROW.out] at hec8
                have hec9 := (hec8.push hx8 hm8).step HC9.out (hq9.imp id fun ⟨q, h1, h2⟩ => ⟨q, h1, h2⟩)
                have hM10 := HM9'.out.set 9 (.slice a9 n9 c9)
                simp only [List.setIfInBounds_toArray, List.set_cons_succ, List.set_cons_zero] at hM10
                have hg10 : Chg [mb] w9 (w9.setCell ⟨mb, 9, none⟩ (.slice a9 n9 c9)) := Chg.set mb 9 _ (by simp)
                have ho10 := own_chg HG1.out hg10 (by intro t ht; simp at ht; subst ht; exact .inl hmw)
                have hec10 := hec9.chg hg10 (by intro t ht; simp at ht; subst ht; exact .inl hmw)
                have hwu : w.heap.size ≤ u8.heap.size := by omega
                have hT10 := (HT8.out.chgS HC9.out (hn1 _ htw) (hn1 _ hrw) (fun a n c hv hn hm => (HOFF.out _ (Nat.le_trans hwu (hown2 _ hm)) a n c hv hn) rfl)).other mb 9 (.slice a9 n9 c9) (by omega) (by omega) hov
                have hB10 := below_set (HC9.out.below HB8.out HB8.out.size (fun t ht => Nat.le_trans hwu (hown2 t ht))) mb 9 (.slice a9 n9 c9) (by omega)
                have hZ10 := (HZ8.out.chg HC9.out (hn1 _ (by omega))).other ⟨mb, 9, none⟩ (.slice a9 n9 c9) (by simp; omega)
                have hs10 : u8.heap.size ≤ (w9.setCell ⟨mb, 9, none⟩ (.slice a9 n9 c9)).heap.size := Nat.le_trans (Nat.le_trans (Nat.le_trans hsz7 hsz8) HC9.out.size) hg10.size
                go_roundg M
                case rel => exact ⟨k + 1, acc ++ [x], s3, _, _, by omega, rfl, hT10, hM10, by simpa using ho10, hec10, hs10, hB10, hZ10, HN8.out, HP8.out⟩
                case measure => omega
            · have hkN : N - k = 0 := by omega
              have HF : Hid (rdBody 3 (bs.drop a2) = .ok (⟨3, f, t, m, i, l, c, s, false, acc, [], []⟩, bs.drop a)) := Lib.hid (by have h := HP2.out; simp only [RdP, hkN, rdEntsGo] at h; exact h)
              clear hkN
              go_wp2_with fail
              go_meet
              case rel => exact ⟨⟨3, f, t, m, i, l, c, s, false, acc, [], []⟩, .ok (bs.drop a), _, _, _, HM2.out, HT2.out, EntsV.low (EntsV.own HO.out (Nat.le_refl _) HEC.out) (Nat.le_of_lt hmw), ⟨Rd.nil _, From.nil _⟩, ⟨Rd.nil _, From.nil _⟩, HB2.out, HZ2.out, HF.out⟩
  case rest =>
    obtain ⟨M, s, ev, mv, iv, hM, hT, h9, h10, h11, hB, hZ, hst⟩ := hcut
    obtain ⟨b9, n9, c9, rfl⟩ : ∃ a n c, ev = .slice a n c := by obtain ⟨_, cs, o, a, c, h, _⟩ := h9; exact ⟨_, _, _, h⟩
    obtain ⟨b10, n10, c10, rfl⟩ := Rd.shape h10.1
    obtain ⟨b11, n11, c11, rfl⟩ := Rd.shape h11.1
    have t0 := hT.blk.cell 0 rfl
    have t1 := hT.blk.cell 1 rfl
    have HME := Lib.hid hM; have HT := Lib.hid hT; have H9 := Lib.hid h9; have H10 := Lib.hid h10; have H11 := Lib.hid h11; have HBE := Lib.hid hB; have HZE := Lib.hid hZ
    clear hM hT h9 h10 h11 hB hZ
    cases s with
    | error no =>
      have hne : no ≠ 0 := HT.out.st
      have hb1 : (no == 0) = false := by simpa using hne
      have hb2 : (no != 0) = true := by simpa using hne
      have HN : Hid (X = .error no) := Lib.hid (by rw [HX.out]; simp only [getM, HY.out, if_neg HIN.out]; rw [show rdBody k (bs.drop a2) = .error no from hst])
      have HTE : Hid (Blk wc tb #[.pointer (some ⟨rb, 0, none⟩), .int .i64 no] 58) := Lib.hid HT.out.blk
      simp only [tErr] at t1
      clear hst
      go_wp2_with fail
      have tD := HTE.out.drew
      have tR := HTE.out.drew.grown (grown_row wc.drew w.heap.size (zc 0)) (by simp; omega)
      have d3 := tD.cell 1 rfl
      have d4 := tR.cell 1 rfl
      have HZD := Lib.hid (HZE.out.drew); have HBD := Lib.hid (HBE.out.drew)
      clear tD tR
      refine wp_region_orders [[0, 1, 2, 3, 4, 5, 6], [0, 1, 2, 3, 5, 4, 6], [0, 1, 2, 5, 3, 4, 6], [0, 1, 5, 2, 3, 4, 6], [0, 5, 1, 2, 3, 4, 6], [1, 0, 2, 3, 4, 5, 6], [1, 0, 2, 3, 5, 4, 6], [1, 0, 2, 5, 3, 4, 6], [1, 0, 5, 2, 3, 4, 6], [1, 2, 0, 3, 4, 5, 6], [1, 2, 0, 3, 5, 4, 6], [1, 2, 0, 5, 3, 4, 6], [1, 2, 3, 0, 4, 5, 6], [1, 2, 3, 0, 5, 4, 6], [1, 2, 3, 4, 0, 5, 6]] (by kernel_rfl) (by kernel_rfl) ?_
      intro l hl
      simp only [List.mem_cons, List.not_mem_nil, or_false] at hl
      rcases hl with rfl | rfl | rfl | rfl | rfl | rfl | rfl | rfl | rfl | rfl | rfl | rfl | rfl | rfl | rfl
      all_goals simp only [List.filterMap_cons, List.filterMap_nil, List.getElem?_toArray, List.getElem?_cons_zero, List.getElem?_cons_succ]
      all_goals change wpList _ _ _ [_, _, _, _, _, _, _] _ _
      all_goals go_wp2_with (refine wpList_store_row rfl 28 (.tmp 2) (.tmp 213) rfl w.heap.size (zc 0) rfl rfl 28 _ HZD.out (mCells_size Msg.zero _ _ _) rfl (mCells_one Msg.zero _ _ _ _ _ _ _ _ _) ?_)
      all_goals exact rm_ret no Msg.zero _ _ _ w _ _ X (Below.grown HBD.out (grown_row wc.drew _ _) HBD.out.size fun k hk => by cases hk; omega) (HZD.out.row _) (EntsV.nil _ _) ⟨Rd.nil _, From.nil _⟩ ⟨Rd.nil _, From.nil _⟩ rfl rfl (by rw [HN.out]; exact ⟨rfl, by exact hne, rfl⟩)
    | ok r =>
      obtain ⟨a, hr, rfl⟩ := HT.out.st
      have HRR := Lib.hid hr
      have hst' : rdBody k (bs.drop a2) = .ok (M, bs.drop a) := hst
      have HST := Lib.hid hst'
      simp only [tErr] at t1
      clear hr hst hst'
      go_wp2_with fail
      refine (rend_c rb _ bs a 0 wc HRR.out).mono ?_
      rintro en w5 ⟨rfl, hg5⟩
      have hC5 : Chg [rb] wc w5 := Chg.some hg5 (.inl (by simp))
      have hT5 := HT.out.blk.chg hC5 (by simp; omega)
      have hM5 := HME.out.chg hC5 (by simp; omega)
      have hZ5 := HZE.out.chg hC5 (by simp; omega)
      have hB5 : Below w.heap.size w w5 := hC5.below HBE.out HBE.out.size (by intro t ht; simp at ht; omega)
      have f1 := hT5.free 1
      have d1 := hT5.cell 1 rfl
      have HC5 := Lib.hid hC5; have HT5 := Lib.hid hT5; have HM5 := Lib.hid hM5; have HZ5 := Lib.hid hZ5; have HB5 := Lib.hid hB5
      clear hC5 hT5 hM5 hZ5 hB5 hg5 t0 t1
      by_cases hrn : bs.drop a = []
      · have he : (if (0 : Int) = 0 ∧ bs.drop a ≠ [] then (5 : Int) else 0) = 0 := if_neg (fun h => h.2 hrn)
        rw [he]
        have HN : Hid (X = .ok M) := Lib.hid (by rw [HX.out]; simp only [getM, HY.out, if_neg HIN.out, HST.out]; rw [if_pos hrn])
        clear he hrn
        have hTE := show Blk (w5.setCell ⟨tb, 1, none⟩ (.int .i64 0)) tb #[.pointer (some ⟨rb, 0, none⟩), .int .i64 0] 58 by simpa using HT5.out.set 1 (.int .i64 0)
        have HTE := Lib.hid hTE
        have HZE := Lib.hid (HZ5.out.other ⟨tb, 1, none⟩ (.int .i64 0) (by simp; omega))
        have HME6 := Lib.hid (HM5.out.other ⟨tb, 1, none⟩ (.int .i64 0) (by simp; omega))
        have HBE := Lib.hid (below_set HB5.out tb 1 (.int .i64 0) (by omega))
        have HC6 := Lib.hid ((HC5.out.mono (S := [rb, tb]) (fun t ht => .inl (by simp at ht; simp [ht]))).trans (Chg.set tb 1 (.int .i64 0) (by simp)))
        clear hTE
        go_upto_region 49 with fail
        clear f1 d1
        generalize w5.setCell ⟨tb, 1, none⟩ (.int .i64 0) = w6 at *
        have d1 := HTE.out.cell 1 rfl
        go_wp2_with (first | (refine wpList_load_row rfl 28 (.tmp 7) rfl mb rfl 28 _ (0, 0) _ HME6.out Try.underlying28 rfl (by kernel_rfl) ?_) | (refine wpList_store_row rfl 28 (.tmp 2) (.tmp 218) rfl w.heap.size (mCells M (.slice b9 n9 c9) (.slice b10 n10 c10) (.slice b11 n11 c11)) rfl rfl 28 _ HZE.out (mCells_size _ _ _ _) rfl (mCells_one _ _ _ _ _ _ _ _ _ _) ?_))
        have hlt6 : ∀ t ∈ [rb, tb], t < mb := by intro t ht; simp at ht; omega
        have hg6 := grown_row w6 w.heap.size (mCells M (.slice b9 n9 c9) (.slice b10 n10 c10) (.slice b11 n11 c11))
        have hR6 : Chg [w.heap.size] w6 (w6.setRow w.heap.size (mCells M (.slice b9 n9 c9) (.slice b10 n10 c10) (.slice b11 n11 c11))) := Chg.some hg6 (.inl (by simp))
        have hlt7 : ∀ t ∈ [w.heap.size], t < mb := by intro t ht; simp at ht; omega
        have k9 := ((H9.out.chg HC6.out hlt6).chg hR6 hlt7).low hsz
        have k10 := (H10.out.1.chg HC6.out (H10.out.2.off hlt6)).chg hR6 (H10.out.2.off hlt7)
        have k11 := (H11.out.1.chg HC6.out (H11.out.2.off hlt6)).chg hR6 (H11.out.2.off hlt7)
        have kE : Ext w _ := hR6.below HBE.out HBE.out.size (by simp)
        exact rm_ret 0 M _ _ _ w _ _ X kE (HZE.out.row _) k9 ⟨k10, H10.out.2.mono hsz⟩ ⟨k11, H11.out.2.mono hsz⟩ rfl rfl (by rw [HN.out]; exact ⟨rfl, rfl⟩)
      · have he : (if (0 : Int) = 0 ∧ bs.drop a ≠ [] then (5 : Int) else 0) = 5 := if_pos ⟨rfl, hrn⟩
        rw [he]
        have HN : Hid (X = .error 5) := Lib.hid (by rw [HX.out]; simp only [getM, HY.out, if_neg HIN.out, HST.out]; rw [if_neg hrn])
        clear he hrn
        go_upto_region 49 with fail
        have HTE := Lib.hid (show Blk (w5.setCell ⟨tb, 1, none⟩ (.int .i64 5)) tb #[.pointer (some ⟨rb, 0, none⟩), .int .i64 5] 58 by simpa using HT5.out.set 1 (.int .i64 5))
        have HZE := Lib.hid (HZ5.out.other ⟨tb, 1, none⟩ (.int .i64 5) (by simp; omega))
        have HBE := Lib.hid (below_set HB5.out tb 1 (.int .i64 5) (by omega))
        clear f1 d1
        generalize w5.setCell ⟨tb, 1, none⟩ (.int .i64 5) = w6 at *
        have d1 := HTE.out.cell 1 rfl
        go_wp2_with fail
        have tD := HTE.out.drew
        have tR := HTE.out.drew.grown (grown_row w6.drew w.heap.size (zc 0)) (by simp; omega)
        have d3 := tD.cell 1 rfl
        have d4 := tR.cell 1 rfl
        have HZD := Lib.hid (HZE.out.drew); have HBD := Lib.hid (HBE.out.drew)
        clear tD tR
        refine wp_region_orders [[0, 1, 2, 3, 4, 5, 6], [0, 1, 2, 3, 5, 4, 6], [0, 1, 2, 5, 3, 4, 6], [0, 1, 5, 2, 3, 4, 6], [0, 5, 1, 2, 3, 4, 6], [1, 0, 2, 3, 4, 5, 6], [1, 0, 2, 3, 5, 4, 6], [1, 0, 2, 5, 3, 4, 6], [1, 0, 5, 2, 3, 4, 6], [1, 2, 0, 3, 4, 5, 6], [1, 2, 0, 3, 5, 4, 6], [1, 2, 0, 5, 3, 4, 6], [1, 2, 3, 0, 4, 5, 6], [1, 2, 3, 0, 5, 4, 6], [1, 2, 3, 4, 0, 5, 6]] (by kernel_rfl) (by kernel_rfl) ?_
        intro l hl
        simp only [List.mem_cons, List.not_mem_nil, or_false] at hl
        rcases hl with rfl | rfl | rfl | rfl | rfl | rfl | rfl | rfl | rfl | rfl | rfl | rfl | rfl | rfl | rfl
        all_goals simp only [List.filterMap_cons, List.filterMap_nil, List.getElem?_toArray, List.getElem?_cons_zero, List.getElem?_cons_succ]
        all_goals change wpList _ _ _ [_, _, _, _, _, _, _] _ _
        all_goals go_wp2_with (refine wpList_store_row rfl 28 (.tmp 2) (.tmp 213) rfl w.heap.size (zc 0) rfl rfl 28 _ HZD.out (mCells_size Msg.zero _ _ _) rfl (mCells_one Msg.zero _ _ _ _ _ _ _ _ _) ?_)
        all_goals exact rm_ret 5 Msg.zero _ _ _ w _ _ X (Below.grown HBD.out (grown_row w6.drew _ _) HBD.out.size fun k hk => by cases hk; omega) (HZD.out.row _) (EntsV.nil _ _) ⟨Rd.nil _, From.nil _⟩ ⟨Rd.nil _, From.nil _⟩ rfl rfl (by rw [HN.out]; exact ⟨rfl, by decide, rfl⟩)
end Go.Proofs.Ytnhfjoelfnmgaaa
