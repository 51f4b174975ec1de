/- tabellionref18.bare. PRINTED BY gen/rbare.py -/
import Derived.Test.YtjodgbabfhcilaaCp2
import Derived.BigRegion
import Derived.RegionTactic
import Derived.ChangeAlike
set_option linter.unusedSimpArgs false
set_option linter.unusedVariables false
namespace Go.Proofs.Ytjodgbabfhcilaa
open Go Go.RowKit

theorem rb_ret (M : Msg) (b : Nat) (b9 b10 b11 : Option Addr) (n9 c9 n10 c10 n11 c11 : Nat) (F : World) (tmps : Array Value) (R : Ending → World → Prop) (hx' : Blk F b (mCells M (.slice b9 n9 c9) (.slice b10 n10 c10) (.slice b11 n11 c11)) 34)
    (hz : tmps[2]? = some (ptr b)) (h : R (.returned (.agg (mCells M (.slice b9 n9 c9) (.slice b10 n10 c10) (.slice b11 n11 c11)))) F) :
    bodyPost Try.prog Try.f39 R .ret { tmps := tmps, defers := [] } F := by
  simp only [mCells] at hx'
  have x0 := hx'.cell 0 rfl; have x1 := hx'.cell 1 rfl; have x2 := hx'.cell 2 rfl; have x3 := hx'.cell 3 rfl; have x4 := hx'.cell 4 rfl; have x5 := hx'.cell 5 rfl
  have x6 := hx'.cell 6 rfl; have x7 := hx'.cell 7 rfl; have x8 := hx'.cell 8 rfl; have x9 := hx'.cell 9 rfl; have x10 := hx'.cell 10 rfl; have x11 := hx'.cell 11 rfl
  simp at x0 x1 x2 x3 x4 x5 x6 x7 x8 x9 x10 x11
  refine bodyPost_ret ?_ rfl h
  simp [results, Try.results39, go_sem, hz, x0, x1, x2, x3, x4, x5, x6, x7, x8, x9, x10, x11, mCells]

set_option maxRecDepth 100000 in
set_option maxHeartbeats 8000000 in
theorem rbare_c (v : Value) (M : Msg) (w : World) (hv : MsgV w 0 v M) : Calls Try.prog 39 #[v] w (RetMsg (bareM M) w) := by
  obtain ⟨ev, mv, iv, rfl, he, ⟨hms, _⟩, hi, _⟩ := hv
  obtain ⟨a9, n9, c9, rfl⟩ : ∃ a n c, ev = .slice a n c := by obtain ⟨_, cs, o, a, c, h, _⟩ := he; exact ⟨_, _, _, h⟩
  obtain ⟨a10, n10, c10, rfl⟩ := Rd.shape hms
  obtain ⟨a11, n11, c11, rfl⟩ := Rd.shape hi
  have HEV := Lib.hid he; have HMS := Lib.hid hms; have HI := Lib.hid hi
  clear he hms hi
  have hE0 : Ext w (((w.alloc (.cells #[.int .i64 M.kind, .int .u64 M.src, .int .u64 M.dst, .int .u64 M.term, .int .u64 M.index, .int .u64 M.logTerm, .int .u64 M.commit, .int .u64 M.stamp, .bool M.yes, .slice a9 n9 c9, .slice a10 n10 c10, .slice a11 n11 c11] 34)).alloc (.cells (zc 0) 34)).alloc (.cells #[.int .i64 M.kind, .int .u64 M.src, .int .u64 M.dst, .int .u64 M.term, .int .u64 0, .int .u64 0, .int .u64 0, .int .u64 0, .bool false, .slice none 0 0, .slice none 0 0, .slice none 0 0] 34)) := ((Ext.alloc _ _).trans (Ext.alloc _ _)).trans (Ext.alloc _ _)
  have hK0 : Blk (((w.alloc (.cells #[.int .i64 M.kind, .int .u64 M.src, .int .u64 M.dst, .int .u64 M.term, .int .u64 M.index, .int .u64 M.logTerm, .int .u64 M.commit, .int .u64 M.stamp, .bool M.yes, .slice a9 n9 c9, .slice a10 n10 c10, .slice a11 n11 c11] 34)).alloc (.cells (zc 0) 34)).alloc (.cells #[.int .i64 M.kind, .int .u64 M.src, .int .u64 M.dst, .int .u64 M.term, .int .u64 0, .int .u64 0, .int .u64 0, .int .u64 0, .bool false, .slice none 0 0, .slice none 0 0, .slice none 0 0] 34)) w.heap.size #[.int .i64 M.kind, .int .u64 M.src, .int .u64 M.dst, .int .u64 M.term, .int .u64 M.index, .int .u64 M.logTerm, .int .u64 M.commit, .int .u64 M.stamp, .bool M.yes, .slice a9 n9 c9, .slice a10 n10 c10, .slice a11 n11 c11] 34 := ((Blk.new w _ _).alloc _).alloc _
  have hK1 : Blk (((w.alloc (.cells #[.int .i64 M.kind, .int .u64 M.src, .int .u64 M.dst, .int .u64 M.term, .int .u64 M.index, .int .u64 M.logTerm, .int .u64 M.commit, .int .u64 M.stamp, .bool M.yes, .slice a9 n9 c9, .slice a10 n10 c10, .slice a11 n11 c11] 34)).alloc (.cells (zc 0) 34)).alloc (.cells #[.int .i64 M.kind, .int .u64 M.src, .int .u64 M.dst, .int .u64 M.term, .int .u64 0, .int .u64 0, .int .u64 0, .int .u64 0, .bool false, .slice none 0 0, .slice none 0 0, .slice none 0 0] 34)) (w.heap.size + 1) (zc 0) 34 := by
    have := (Blk.new (w.alloc (.cells #[.int .i64 M.kind, .int .u64 M.src, .int .u64 M.dst, .int .u64 M.term, .int .u64 M.index, .int .u64 M.logTerm, .int .u64 M.commit, .int .u64 M.stamp, .bool M.yes, .slice a9 n9 c9, .slice a10 n10 c10, .slice a11 n11 c11] 34)) (zc 0) 34).alloc (.cells #[.int .i64 M.kind, .int .u64 M.src, .int .u64 M.dst, .int .u64 M.term, .int .u64 0, .int .u64 0, .int .u64 0, .int .u64 0, .bool false, .slice none 0 0, .slice none 0 0, .slice none 0 0] 34)
    simpa using this
  have hK2 : Blk (((w.alloc (.cells #[.int .i64 M.kind, .int .u64 M.src, .int .u64 M.dst, .int .u64 M.term, .int .u64 M.index, .int .u64 M.logTerm, .int .u64 M.commit, .int .u64 M.stamp, .bool M.yes, .slice a9 n9 c9, .slice a10 n10 c10, .slice a11 n11 c11] 34)).alloc (.cells (zc 0) 34)).alloc (.cells #[.int .i64 M.kind, .int .u64 M.src, .int .u64 M.dst, .int .u64 M.term, .int .u64 0, .int .u64 0, .int .u64 0, .int .u64 0, .bool false, .slice none 0 0, .slice none 0 0, .slice none 0 0] 34)) (w.heap.size + 1 + 1) #[.int .i64 M.kind, .int .u64 M.src, .int .u64 M.dst, .int .u64 M.term, .int .u64 0, .int .u64 0, .int .u64 0, .int .u64 0, .bool false, .slice none 0 0, .slice none 0 0, .slice none 0 0] 34 := by
    have := Blk.new ((w.alloc (.cells #[.int .i64 M.kind, .int .u64 M.src, .int .u64 M.dst, .int .u64 M.term, .int .u64 M.index, .int .u64 M.logTerm, .int .u64 M.commit, .int .u64 M.stamp, .bool M.yes, .slice a9 n9 c9, .slice a10 n10 c10, .slice a11 n11 c11] 34)).alloc (.cells (zc 0) 34)) #[.int .i64 M.kind, .int .u64 M.src, .int .u64 M.dst, .int .u64 M.term, .int .u64 0, .int .u64 0, .int .u64 0, .int .u64 0, .bool false, .slice none 0 0, .slice none 0 0, .slice none 0 0] 34
    simpa using this
  have HE0 := Lib.hid hE0; have HK0 := Lib.hid hK0; have HK1 := Lib.hid hK1; have HK2 := Lib.hid hK2
  clear hE0 hK0 hK1 hK2
  obtain ⟨X, hX⟩ : ∃ X, X = bareM M := ⟨_, rfl⟩
  have HX := Lib.hid hX
  rw [← hX]
  clear hX
  simp only [mCells]
  go_enter Try.func39, Try.ntmps39
  go_upto_region 2 with fail
  generalize ((w.alloc (.cells #[.int .i64 M.kind, .int .u64 M.src, .int .u64 M.dst, .int .u64 M.term, .int .u64 M.index, .int .u64 M.logTerm, .int .u64 M.commit, .int .u64 M.stamp, .bool M.yes, .slice a9 n9 c9, .slice a10 n10 c10, .slice a11 n11 c11] 34)).alloc (.cells (zc 0) 34)).alloc (.cells #[.int .i64 M.kind, .int .u64 M.src, .int .u64 M.dst, .int .u64 M.term, .int .u64 0, .int .u64 0, .int .u64 0, .int .u64 0, .bool false, .slice none 0 0, .slice none 0 0, .slice none 0 0] 34) = w0 at *
  obtain ⟨s0, s1, s2, s3, s4, s5, s6, s7, s8, s9, s10, s11⟩ := HK0.out.twelve
  by_cases k1 : M.kind = 1
  · have hk : M.kind = 1 := k1
    have HBK : Hid (X = ⟨M.kind, M.src, M.dst, M.term, M.index, M.logTerm, 0, 0, false, [], [], []⟩) := Lib.hid (by rw [HX.out]; simp [bareM, hk])
    have r4 := HK2.out.free 4; have t4 := HK2.out.cell 4 rfl
    have r5 := HK2.out.free 5; have t5 := HK2.out.cell 5 rfl
    have hB : Blk ((w0.setCell ⟨w.heap.size + 1 + 1, 4, none⟩ (.int .u64 M.index)).setCell ⟨w.heap.size + 1 + 1, 5, none⟩ (.int .u64 M.logTerm)) (w.heap.size + 1 + 1) #[.int .i64 M.kind, .int .u64 M.src, .int .u64 M.dst, .int .u64 M.term, .int .u64 M.index, .int .u64 M.logTerm, .int .u64 0, .int .u64 0, .bool false, .slice none 0 0, .slice none 0 0, .slice none 0 0] 34 := by
      have h := ((HK2.out.set 4 (.int .u64 M.index)).set 5 (.int .u64 M.logTerm))
      simpa using h
    have HBF := Lib.hid hB
    have HZF := Lib.hid ((HK1.out.other ⟨w.heap.size + 1 + 1, 4, none⟩ (.int .u64 M.index) (by simp)).other ⟨w.heap.size + 1 + 1, 5, none⟩ (.int .u64 M.logTerm) (by simp))
    have HEF := Lib.hid (show Ext w ((w0.setCell ⟨w.heap.size + 1 + 1, 4, none⟩ (.int .u64 M.index)).setCell ⟨w.heap.size + 1 + 1, 5, none⟩ (.int .u64 M.logTerm)) from (below_set (below_set HE0.out (w.heap.size + 1 + 1) 4 (.int .u64 M.index) (by omega)) (w.heap.size + 1 + 1) 5 (.int .u64 M.logTerm) (by omega)))
    clear hB
    go_upto_region 4 with fail
    go_region
    clear s0 s1 s2 s3 s4 s5 s6 s7 s8 s9 s10 s11 r4 t4 r5 t5
    replace HBF := Lib.hid HBF.out.drew
    replace HZF := Lib.hid HZF.out.drew
    replace HEF := Lib.hid (HEF.out.trans (Ext.drew _))
    generalize ((w0.setCell ⟨w.heap.size + 1 + 1, 4, none⟩ (.int .u64 M.index)).setCell ⟨w.heap.size + 1 + 1, 5, none⟩ (.int .u64 M.logTerm)).drew = wF at *
    go_wp2_with (first | (refine wpList_load_row rfl 34 (.tmp 3) rfl (w.heap.size + 1 + 1) rfl 34 _ (0, 0) _ HBF.out Try.underlying34 rfl (by kernel_rfl) ?_) | (refine wpList_store_row rfl 34 (.tmp 2) (.tmp 73) rfl (w.heap.size + 1) (mCells ⟨M.kind, M.src, M.dst, M.term, M.index, M.logTerm, 0, 0, false, [], [], []⟩ (.slice none 0 0) (.slice none 0 0) (.slice none 0 0)) rfl rfl 34 _ HZF.out (mCells_size _ _ _ _) rfl (mCells_one _ _ _ _ _ _ _ _ _ _) ?_))
    have hgr := grown_row wF (w.heap.size + 1) (mCells ⟨M.kind, M.src, M.dst, M.term, M.index, M.logTerm, 0, 0, false, [], [], []⟩ (.slice none 0 0) (.slice none 0 0) (.slice none 0 0))
    have hCr : Chg [w.heap.size + 1] wF (wF.setRow (w.heap.size + 1) (mCells ⟨M.kind, M.src, M.dst, M.term, M.index, M.logTerm, 0, 0, false, [], [], []⟩ (.slice none 0 0) (.slice none 0 0) (.slice none 0 0))) := Chg.some hgr (.inl (by simp))
    have hE : Ext w _ := hCr.below HEF.out HEF.out.size (by intro t ht; simp at ht; omega)
    refine rb_ret ⟨M.kind, M.src, M.dst, M.term, M.index, M.logTerm, 0, 0, false, [], [], []⟩ (w.heap.size + 1) _ _ _ _ _ _ _ _ _ _ _ _ (HZF.out.row _) rfl ?_
    rw [HBK.out]
    exact ⟨_, rfl, ⟨_, _, _, rfl, EntsV.nil _ _, ⟨Rd.nil _, fun _ _ _ _ => Nat.zero_le _⟩, Rd.nil _, fun _ _ _ _ => Nat.zero_le _⟩, hE⟩
  by_cases k2 : M.kind = 2
  · have hk : M.kind = 2 := k2
    have HBK : Hid (X = ⟨M.kind, M.src, M.dst, M.term, 0, 0, 0, 0, M.yes, [], [], []⟩) := Lib.hid (by rw [HX.out]; simp [bareM, hk])
    have r8 := HK2.out.free 8; have t8 := HK2.out.cell 8 rfl
    have hB : Blk (w0.setCell ⟨w.heap.size + 1 + 1, 8, none⟩ (.bool M.yes)) (w.heap.size + 1 + 1) #[.int .i64 M.kind, .int .u64 M.src, .int .u64 M.dst, .int .u64 M.term, .int .u64 0, .int .u64 0, .int .u64 0, .int .u64 0, .bool M.yes, .slice none 0 0, .slice none 0 0, .slice none 0 0] 34 := by
      have h := (HK2.out.set 8 (.bool M.yes))
      simpa using h
    have HBF := Lib.hid hB
    have HZF := Lib.hid (HK1.out.other ⟨w.heap.size + 1 + 1, 8, none⟩ (.bool M.yes) (by simp))
    have HEF := Lib.hid (show Ext w (w0.setCell ⟨w.heap.size + 1 + 1, 8, none⟩ (.bool M.yes)) from (below_set HE0.out (w.heap.size + 1 + 1) 8 (.bool M.yes) (by omega)))
    clear hB
    go_upto_region 6 with fail
    go_upto_region 13 with fail
    clear s0 s1 s2 s3 s4 s5 s6 s7 s8 s9 s10 s11 r8 t8
    generalize (w0.setCell ⟨w.heap.size + 1 + 1, 8, none⟩ (.bool M.yes)) = wF at *
    go_wp2_with (first | (refine wpList_load_row rfl 34 (.tmp 3) rfl (w.heap.size + 1 + 1) rfl 34 _ (0, 0) _ HBF.out Try.underlying34 rfl (by kernel_rfl) ?_) | (refine wpList_store_row rfl 34 (.tmp 2) (.tmp 73) rfl (w.heap.size + 1) (mCells ⟨M.kind, M.src, M.dst, M.term, 0, 0, 0, 0, M.yes, [], [], []⟩ (.slice none 0 0) (.slice none 0 0) (.slice none 0 0)) rfl rfl 34 _ HZF.out (mCells_size _ _ _ _) rfl (mCells_one _ _ _ _ _ _ _ _ _ _) ?_))
    have hgr := grown_row wF (w.heap.size + 1) (mCells ⟨M.kind, M.src, M.dst, M.term, 0, 0, 0, 0, M.yes, [], [], []⟩ (.slice none 0 0) (.slice none 0 0) (.slice none 0 0))
    have hCr : Chg [w.heap.size + 1] wF (wF.setRow (w.heap.size + 1) (mCells ⟨M.kind, M.src, M.dst, M.term, 0, 0, 0, 0, M.yes, [], [], []⟩ (.slice none 0 0) (.slice none 0 0) (.slice none 0 0))) := Chg.some hgr (.inl (by simp))
    have hE : Ext w _ := hCr.below HEF.out HEF.out.size (by intro t ht; simp at ht; omega)
    refine rb_ret ⟨M.kind, M.src, M.dst, M.term, 0, 0, 0, 0, M.yes, [], [], []⟩ (w.heap.size + 1) _ _ _ _ _ _ _ _ _ _ _ _ (HZF.out.row _) rfl ?_
    rw [HBK.out]
    exact ⟨_, rfl, ⟨_, _, _, rfl, EntsV.nil _ _, ⟨Rd.nil _, fun _ _ _ _ => Nat.zero_le _⟩, Rd.nil _, fun _ _ _ _ => Nat.zero_le _⟩, hE⟩
  by_cases k3 : M.kind = 3
  · have hk : M.kind = 3 := k3
    have HBK : Hid (X = ⟨M.kind, M.src, M.dst, M.term, M.index, M.logTerm, M.commit, M.stamp, false, M.entries, [], []⟩) := Lib.hid (by rw [HX.out]; simp [bareM, hk])
    have r4 := HK2.out.free 4; have t4 := HK2.out.cell 4 rfl
    have r5 := HK2.out.free 5; have t5 := HK2.out.cell 5 rfl
    have r6 := HK2.out.free 6; have t6 := HK2.out.cell 6 rfl
    have r7 := HK2.out.free 7; have t7 := HK2.out.cell 7 rfl
    have r9 := HK2.out.free 9; have t9 := HK2.out.cell 9 rfl
    have hB : Blk (((((w0.setCell ⟨w.heap.size + 1 + 1, 4, none⟩ (.int .u64 M.index)).setCell ⟨w.heap.size + 1 + 1, 5, none⟩ (.int .u64 M.logTerm)).setCell ⟨w.heap.size + 1 + 1, 6, none⟩ (.int .u64 M.commit)).setCell ⟨w.heap.size + 1 + 1, 7, none⟩ (.int .u64 M.stamp)).setCell ⟨w.heap.size + 1 + 1, 9, none⟩ (.slice a9 n9 c9)) (w.heap.size + 1 + 1) #[.int .i64 M.kind, .int .u64 M.src, .int .u64 M.dst, .int .u64 M.term, .int .u64 M.index, .int .u64 M.logTerm, .int .u64 M.commit, .int .u64 M.stamp, .bool false, .slice a9 n9 c9, .slice none 0 0, .slice none 0 0] 34 := by
      have h := (((((HK2.out.set 4 (.int .u64 M.index)).set 5 (.int .u64 M.logTerm)).set 6 (.int .u64 M.commit)).set 7 (.int .u64 M.stamp)).set 9 (.slice a9 n9 c9))
      simpa using h
    have HBF := Lib.hid hB
    have HZF := Lib.hid (((((HK1.out.other ⟨w.heap.size + 1 + 1, 4, none⟩ (.int .u64 M.index) (by simp)).other ⟨w.heap.size + 1 + 1, 5, none⟩ (.int .u64 M.logTerm) (by simp)).other ⟨w.heap.size + 1 + 1, 6, none⟩ (.int .u64 M.commit) (by simp)).other ⟨w.heap.size + 1 + 1, 7, none⟩ (.int .u64 M.stamp) (by simp)).other ⟨w.heap.size + 1 + 1, 9, none⟩ (.slice a9 n9 c9) (by simp))
    have HEF := Lib.hid (show Ext w (((((w0.setCell ⟨w.heap.size + 1 + 1, 4, none⟩ (.int .u64 M.index)).setCell ⟨w.heap.size + 1 + 1, 5, none⟩ (.int .u64 M.logTerm)).setCell ⟨w.heap.size + 1 + 1, 6, none⟩ (.int .u64 M.commit)).setCell ⟨w.heap.size + 1 + 1, 7, none⟩ (.int .u64 M.stamp)).setCell ⟨w.heap.size + 1 + 1, 9, none⟩ (.slice a9 n9 c9)) from (below_set (below_set (below_set (below_set (below_set HE0.out (w.heap.size + 1 + 1) 4 (.int .u64 M.index) (by omega)) (w.heap.size + 1 + 1) 5 (.int .u64 M.logTerm) (by omega)) (w.heap.size + 1 + 1) 6 (.int .u64 M.commit) (by omega)) (w.heap.size + 1 + 1) 7 (.int .u64 M.stamp) (by omega)) (w.heap.size + 1 + 1) 9 (.slice a9 n9 c9) (by omega)))
    clear hB
    go_upto_region 8 with fail
    go_region
    clear s0 s1 s2 s3 s4 s5 s6 s7 s8 s9 s10 s11 r4 t4 r5 t5 r6 t6 r7 t7 r9 t9
    replace HBF := Lib.hid HBF.out.drew
    replace HZF := Lib.hid HZF.out.drew
    replace HEF := Lib.hid (HEF.out.trans (Ext.drew _))
    generalize (((((w0.setCell ⟨w.heap.size + 1 + 1, 4, none⟩ (.int .u64 M.index)).setCell ⟨w.heap.size + 1 + 1, 5, none⟩ (.int .u64 M.logTerm)).setCell ⟨w.heap.size + 1 + 1, 6, none⟩ (.int .u64 M.commit)).setCell ⟨w.heap.size + 1 + 1, 7, none⟩ (.int .u64 M.stamp)).setCell ⟨w.heap.size + 1 + 1, 9, none⟩ (.slice a9 n9 c9)).drew = wF at *
    go_wp2_with (first | (refine wpList_load_row rfl 34 (.tmp 3) rfl (w.heap.size + 1 + 1) rfl 34 _ (0, 0) _ HBF.out Try.underlying34 rfl (by kernel_rfl) ?_) | (refine wpList_store_row rfl 34 (.tmp 2) (.tmp 73) rfl (w.heap.size + 1) (mCells ⟨M.kind, M.src, M.dst, M.term, M.index, M.logTerm, M.commit, M.stamp, false, M.entries, [], []⟩ (.slice a9 n9 c9) (.slice none 0 0) (.slice none 0 0)) rfl rfl 34 _ HZF.out (mCells_size _ _ _ _) rfl (mCells_one _ _ _ _ _ _ _ _ _ _) ?_))
    have hgr := grown_row wF (w.heap.size + 1) (mCells ⟨M.kind, M.src, M.dst, M.term, M.index, M.logTerm, M.commit, M.stamp, false, M.entries, [], []⟩ (.slice a9 n9 c9) (.slice none 0 0) (.slice none 0 0))
    have hCr : Chg [w.heap.size + 1] wF (wF.setRow (w.heap.size + 1) (mCells ⟨M.kind, M.src, M.dst, M.term, M.index, M.logTerm, M.commit, M.stamp, false, M.entries, [], []⟩ (.slice a9 n9 c9) (.slice none 0 0) (.slice none 0 0))) := Chg.some hgr (.inl (by simp))
    have hE : Ext w _ := hCr.below HEF.out HEF.out.size (by intro t ht; simp at ht; omega)
    refine rb_ret ⟨M.kind, M.src, M.dst, M.term, M.index, M.logTerm, M.commit, M.stamp, false, M.entries, [], []⟩ (w.heap.size + 1) _ _ _ _ _ _ _ _ _ _ _ _ (HZF.out.row _) rfl ?_
    rw [HBK.out]
    exact ⟨_, rfl, ⟨_, _, _, rfl, HEV.out.ext hE, ⟨Rd.nil _, fun _ _ _ _ => Nat.zero_le _⟩, Rd.nil _, fun _ _ _ _ => Nat.zero_le _⟩, hE⟩
  by_cases k4 : M.kind = 4
  · have hk : M.kind = 4 := k4
    have HBK : Hid (X = ⟨M.kind, M.src, M.dst, M.term, M.index, 0, 0, M.stamp, M.yes, [], [], []⟩) := Lib.hid (by rw [HX.out]; simp [bareM, hk])
    have r8 := HK2.out.free 8; have t8 := HK2.out.cell 8 rfl
    have r4 := HK2.out.free 4; have t4 := HK2.out.cell 4 rfl
    have r7 := HK2.out.free 7; have t7 := HK2.out.cell 7 rfl
    have hB : Blk (((w0.setCell ⟨w.heap.size + 1 + 1, 8, none⟩ (.bool M.yes)).setCell ⟨w.heap.size + 1 + 1, 4, none⟩ (.int .u64 M.index)).setCell ⟨w.heap.size + 1 + 1, 7, none⟩ (.int .u64 M.stamp)) (w.heap.size + 1 + 1) #[.int .i64 M.kind, .int .u64 M.src, .int .u64 M.dst, .int .u64 M.term, .int .u64 M.index, .int .u64 0, .int .u64 0, .int .u64 M.stamp, .bool M.yes, .slice none 0 0, .slice none 0 0, .slice none 0 0] 34 := by
      have h := (((HK2.out.set 8 (.bool M.yes)).set 4 (.int .u64 M.index)).set 7 (.int .u64 M.stamp))
      simpa using h
    have HBF := Lib.hid hB
    have HZF := Lib.hid (((HK1.out.other ⟨w.heap.size + 1 + 1, 8, none⟩ (.bool M.yes) (by simp)).other ⟨w.heap.size + 1 + 1, 4, none⟩ (.int .u64 M.index) (by simp)).other ⟨w.heap.size + 1 + 1, 7, none⟩ (.int .u64 M.stamp) (by simp))
    have HEF := Lib.hid (show Ext w (((w0.setCell ⟨w.heap.size + 1 + 1, 8, none⟩ (.bool M.yes)).setCell ⟨w.heap.size + 1 + 1, 4, none⟩ (.int .u64 M.index)).setCell ⟨w.heap.size + 1 + 1, 7, none⟩ (.int .u64 M.stamp)) from (below_set (below_set (below_set HE0.out (w.heap.size + 1 + 1) 8 (.bool M.yes) (by omega)) (w.heap.size + 1 + 1) 4 (.int .u64 M.index) (by omega)) (w.heap.size + 1 + 1) 7 (.int .u64 M.stamp) (by omega)))
    clear hB
    go_upto_region 10 with fail
    go_region
    clear s0 s1 s2 s3 s4 s5 s6 s7 s8 s9 s10 s11 r8 t8 r4 t4 r7 t7
    replace HBF := Lib.hid HBF.out.drew
    replace HZF := Lib.hid HZF.out.drew
    replace HEF := Lib.hid (HEF.out.trans (Ext.drew _))
    generalize (((w0.setCell ⟨w.heap.size + 1 + 1, 8, none⟩ (.bool M.yes)).setCell ⟨w.heap.size + 1 + 1, 4, none⟩ (.int .u64 M.index)).setCell ⟨w.heap.size + 1 + 1, 7, none⟩ (.int .u64 M.stamp)).drew = wF at *
    go_wp2_with (first | (refine wpList_load_row rfl 34 (.tmp 3) rfl (w.heap.size + 1 + 1) rfl 34 _ (0, 0) _ HBF.out Try.underlying34 rfl (by kernel_rfl) ?_) | (refine wpList_store_row rfl 34 (.tmp 2) (.tmp 73) rfl (w.heap.size + 1) (mCells ⟨M.kind, M.src, M.dst, M.term, M.index, 0, 0, M.stamp, M.yes, [], [], []⟩ (.slice none 0 0) (.slice none 0 0) (.slice none 0 0)) rfl rfl 34 _ HZF.out (mCells_size _ _ _ _) rfl (mCells_one _ _ _ _ _ _ _ _ _ _) ?_))
    have hgr := grown_row wF (w.heap.size + 1) (mCells ⟨M.kind, M.src, M.dst, M.term, M.index, 0, 0, M.stamp, M.yes, [], [], []⟩ (.slice none 0 0) (.slice none 0 0) (.slice none 0 0))
    have hCr : Chg [w.heap.size + 1] wF (wF.setRow (w.heap.size + 1) (mCells ⟨M.kind, M.src, M.dst, M.term, M.index, 0, 0, M.stamp, M.yes, [], [], []⟩ (.slice none 0 0) (.slice none 0 0) (.slice none 0 0))) := Chg.some hgr (.inl (by simp))
    have hE : Ext w _ := hCr.below HEF.out HEF.out.size (by intro t ht; simp at ht; omega)
    refine rb_ret ⟨M.kind, M.src, M.dst, M.term, M.index, 0, 0, M.stamp, M.yes, [], [], []⟩ (w.heap.size + 1) _ _ _ _ _ _ _ _ _ _ _ _ (HZF.out.row _) rfl ?_
    rw [HBK.out]
    exact ⟨_, rfl, ⟨_, _, _, rfl, EntsV.nil _ _, ⟨Rd.nil _, fun _ _ _ _ => Nat.zero_le _⟩, Rd.nil _, fun _ _ _ _ => Nat.zero_le _⟩, hE⟩
  by_cases k5 : M.kind = 5
  · have hk : M.kind = 5 := k5
    have HBK : Hid (X = ⟨M.kind, M.src, M.dst, M.term, M.index, M.logTerm, 0, M.stamp, false, [], M.members, M.image⟩) := Lib.hid (by rw [HX.out]; simp [bareM, hk])
    have r4 := HK2.out.free 4; have t4 := HK2.out.cell 4 rfl
    have r5 := HK2.out.free 5; have t5 := HK2.out.cell 5 rfl
    have r7 := HK2.out.free 7; have t7 := HK2.out.cell 7 rfl
    have r10 := HK2.out.free 10; have t10 := HK2.out.cell 10 rfl
    have r11 := HK2.out.free 11; have t11 := HK2.out.cell 11 rfl
    have hB : Blk (((((w0.setCell ⟨w.heap.size + 1 + 1, 4, none⟩ (.int .u64 M.index)).setCell ⟨w.heap.size + 1 + 1, 5, none⟩ (.int .u64 M.logTerm)).setCell ⟨w.heap.size + 1 + 1, 7, none⟩ (.int .u64 M.stamp)).setCell ⟨w.heap.size + 1 + 1, 10, none⟩ (.slice a10 n10 c10)).setCell ⟨w.heap.size + 1 + 1, 11, none⟩ (.slice a11 n11 c11)) (w.heap.size + 1 + 1) #[.int .i64 M.kind, .int .u64 M.src, .int .u64 M.dst, .int .u64 M.term, .int .u64 M.index, .int .u64 M.logTerm, .int .u64 0, .int .u64 M.stamp, .bool false, .slice none 0 0, .slice a10 n10 c10, .slice a11 n11 c11] 34 := by
      have h := (((((HK2.out.set 4 (.int .u64 M.index)).set 5 (.int .u64 M.logTerm)).set 7 (.int .u64 M.stamp)).set 10 (.slice a10 n10 c10)).set 11 (.slice a11 n11 c11))
      simpa using h
    have HBF := Lib.hid hB
    have HZF := Lib.hid (((((HK1.out.other ⟨w.heap.size + 1 + 1, 4, none⟩ (.int .u64 M.index) (by simp)).other ⟨w.heap.size + 1 + 1, 5, none⟩ (.int .u64 M.logTerm) (by simp)).other ⟨w.heap.size + 1 + 1, 7, none⟩ (.int .u64 M.stamp) (by simp)).other ⟨w.heap.size + 1 + 1, 10, none⟩ (.slice a10 n10 c10) (by simp)).other ⟨w.heap.size + 1 + 1, 11, none⟩ (.slice a11 n11 c11) (by simp))
    have HEF := Lib.hid (show Ext w (((((w0.setCell ⟨w.heap.size + 1 + 1, 4, none⟩ (.int .u64 M.index)).setCell ⟨w.heap.size + 1 + 1, 5, none⟩ (.int .u64 M.logTerm)).setCell ⟨w.heap.size + 1 + 1, 7, none⟩ (.int .u64 M.stamp)).setCell ⟨w.heap.size + 1 + 1, 10, none⟩ (.slice a10 n10 c10)).setCell ⟨w.heap.size + 1 + 1, 11, none⟩ (.slice a11 n11 c11)) from (below_set (below_set (below_set (below_set (below_set HE0.out (w.heap.size + 1 + 1) 4 (.int .u64 M.index) (by omega)) (w.heap.size + 1 + 1) 5 (.int .u64 M.logTerm) (by omega)) (w.heap.size + 1 + 1) 7 (.int .u64 M.stamp) (by omega)) (w.heap.size + 1 + 1) 10 (.slice a10 n10 c10) (by omega)) (w.heap.size + 1 + 1) 11 (.slice a11 n11 c11) (by omega)))
    clear hB
    go_upto_region 12 with fail
    go_region
    clear s0 s1 s2 s3 s4 s5 s6 s7 s8 s9 s10 s11 r4 t4 r5 t5 r7 t7 r10 t10 r11 t11
    replace HBF := Lib.hid HBF.out.drew
    replace HZF := Lib.hid HZF.out.drew
    replace HEF := Lib.hid (HEF.out.trans (Ext.drew _))
    generalize (((((w0.setCell ⟨w.heap.size + 1 + 1, 4, none⟩ (.int .u64 M.index)).setCell ⟨w.heap.size + 1 + 1, 5, none⟩ (.int .u64 M.logTerm)).setCell ⟨w.heap.size + 1 + 1, 7, none⟩ (.int .u64 M.stamp)).setCell ⟨w.heap.size + 1 + 1, 10, none⟩ (.slice a10 n10 c10)).setCell ⟨w.heap.size + 1 + 1, 11, none⟩ (.slice a11 n11 c11)).drew = wF at *
    go_wp2_with (first | (refine wpList_load_row rfl 34 (.tmp 3) rfl (w.heap.size + 1 + 1) rfl 34 _ (0, 0) _ HBF.out Try.underlying34 rfl (by kernel_rfl) ?_) | (refine wpList_store_row rfl 34 (.tmp 2) (.tmp 73) rfl (w.heap.size + 1) (mCells ⟨M.kind, M.src, M.dst, M.term, M.index, M.logTerm, 0, M.stamp, false, [], M.members, M.image⟩ (.slice none 0 0) (.slice a10 n10 c10) (.slice a11 n11 c11)) rfl rfl 34 _ HZF.out (mCells_size _ _ _ _) rfl (mCells_one _ _ _ _ _ _ _ _ _ _) ?_))
    have hgr := grown_row wF (w.heap.size + 1) (mCells ⟨M.kind, M.src, M.dst, M.term, M.index, M.logTerm, 0, M.stamp, false, [], M.members, M.image⟩ (.slice none 0 0) (.slice a10 n10 c10) (.slice a11 n11 c11))
    have hCr : Chg [w.heap.size + 1] wF (wF.setRow (w.heap.size + 1) (mCells ⟨M.kind, M.src, M.dst, M.term, M.index, M.logTerm, 0, M.stamp, false, [], M.members, M.image⟩ (.slice none 0 0) (.slice a10 n10 c10) (.slice a11 n11 c11))) := Chg.some hgr (.inl (by simp))
    have hE : Ext w _ := hCr.below HEF.out HEF.out.size (by intro t ht; simp at ht; omega)
    refine rb_ret ⟨M.kind, M.src, M.dst, M.term, M.index, M.logTerm, 0, M.stamp, false, [], M.members, M.image⟩ (w.heap.size + 1) _ _ _ _ _ _ _ _ _ _ _ _ (HZF.out.row _) rfl ?_
    rw [HBK.out]
    exact ⟨_, rfl, ⟨_, _, _, rfl, EntsV.nil _ _, ⟨HMS.out.ext hE, fun _ _ _ _ => Nat.zero_le _⟩, HI.out.ext hE, fun _ _ _ _ => Nat.zero_le _⟩, hE⟩
  have HBK : Hid (X = ⟨M.kind, M.src, M.dst, M.term, 0, 0, 0, 0, false, [], [], []⟩) := Lib.hid (by rw [HX.out]; simp [bareM, k1, k2, k3, k4, k5])
  go_upto_region 13 with fail
  have hB : Blk w0 (w.heap.size + 1 + 1) #[.int .i64 M.kind, .int .u64 M.src, .int .u64 M.dst, .int .u64 M.term, .int .u64 0, .int .u64 0, .int .u64 0, .int .u64 0, .bool false, .slice none 0 0, .slice none 0 0, .slice none 0 0] 34 := by
    have h := HK2.out
    simpa using h
  have HBF := Lib.hid hB
  have HZF := Lib.hid HK1.out
  have HEF := Lib.hid (show Ext w w0 from HE0.out)
  clear hB
  clear s0 s1 s2 s3 s4 s5 s6 s7 s8 s9 s10 s11 
  go_wp2_with (first | (refine wpList_load_row rfl 34 (.tmp 3) rfl (w.heap.size + 1 + 1) rfl 34 _ (0, 0) _ HBF.out Try.underlying34 rfl (by kernel_rfl) ?_) | (refine wpList_store_row rfl 34 (.tmp 2) (.tmp 73) rfl (w.heap.size + 1) (mCells ⟨M.kind, M.src, M.dst, M.term, 0, 0, 0, 0, false, [], [], []⟩ (.slice none 0 0) (.slice none 0 0) (.slice none 0 0)) rfl rfl 34 _ HZF.out (mCells_size _ _ _ _) rfl (mCells_one _ _ _ _ _ _ _ _ _ _) ?_))
  have hgr := grown_row w0 (w.heap.size + 1) (mCells ⟨M.kind, M.src, M.dst, M.term, 0, 0, 0, 0, false, [], [], []⟩ (.slice none 0 0) (.slice none 0 0) (.slice none 0 0))
  have hCr : Chg [w.heap.size + 1] w0 (w0.setRow (w.heap.size + 1) (mCells ⟨M.kind, M.src, M.dst, M.term, 0, 0, 0, 0, false, [], [], []⟩ (.slice none 0 0) (.slice none 0 0) (.slice none 0 0))) := Chg.some hgr (.inl (by simp))
  have hE : Ext w _ := hCr.below HEF.out HEF.out.size (by intro t ht; simp at ht; omega)
  refine rb_ret ⟨M.kind, M.src, M.dst, M.term, 0, 0, 0, 0, false, [], [], []⟩ (w.heap.size + 1) _ _ _ _ _ _ _ _ _ _ _ _ (HZF.out.row _) rfl ?_
  rw [HBK.out]
  exact ⟨_, rfl, ⟨_, _, _, rfl, EntsV.nil _ _, ⟨Rd.nil _, fun _ _ _ _ => Nat.zero_le _⟩, Rd.nil _, fun _ _ _ _ => Nat.zero_le _⟩, hE⟩
end Go.Proofs.Ytjodgbabfhcilaa
