/- tabellionlaw19: vote, awake; the law NetNil. -/
import Derived.Test.YtjodgbabfhcilaaNet6
set_option linter.unusedSimpArgs false
set_option linter.unusedVariables false
namespace Go.Proofs.Ytjodgbabfhcilaa
open Go Go.RowKit Go.Maps

/-- A small message. -/
def wayM (a b t : Int) : Msg := ⟨2, a, b, t, 0, 0, 0, 0, false, [], [], []⟩
abbrev wayC (a b t : Int) : Array Value := #[.int .i64 2, .int .u64 a, .int .u64 b, .int .u64 t, .int .u64 0, .int .u64 0, .int .u64 0, .int .u64 0, .bool false, .slice none 0 0, .slice none 0 0, .slice none 0 0]
theorem wayV_msg (w : World) (B : Nat) (a b t : Int) : MsgV w B (.agg (wayC a b t)) (wayM a b t) := ⟨_, _, _, rfl, EntsV.nil _ _, ⟨Rd.nil _, From.nil _⟩, Rd.nil _, From.nil _⟩
theorem wayM_ok {a b t : Int} (ha : U64 a) (hb : U64 b) (ht : U64 t) : MsgOk (wayM a b t) := by
  have z64 : U64 0 := by unfold U64; omega
  exact ⟨by simp [wayM], ha, hb, ht, z64, z64, z64, z64, (fun e he => by cases he), (fun e he => by cases he), (fun e he => by cases he)⟩
theorem wayC_one (a b t : Int) : (wayC a b t).all (·.oneCell') = true := by simp [Value.oneCell']
theorem wayC_size (a b t : Int) : (Try.prog.info? 34).map (·.size) = some (wayC a b t).size := by kernel_rfl
theorem vote5 : (wrM (wayM 1 2 5)).isSome = true := by decide +kernel
set_option maxHeartbeats 1000000 in
theorem vote_fin (p : Nat) (c0 c1 c2 c3 c4 c5 c6 c7 c8 c9 c10 c11 : Value) (F : World) (tmps : Array Value) (R : Ending → World → Prop) (hB : Blk F p #[c0, c1, c2, c3, c4, c5, c6, c7, c8, c9, c10, c11] 34)
    (h4 : tmps[2]? = some (ptr p)) (hR : R (.returned (.agg #[c0, c1, c2, c3, c4, c5, c6, c7, c8, c9, c10, c11])) F) :
    bodyPost Try.prog Try.f23 R .ret { tmps := tmps, defers := [] } F := by
  obtain ⟨x0, x1, x2, x3, x4, x5, x6, x7, x8, x9, x10, x11⟩ := hB.twelve
  refine bodyPost_ret (v := .agg #[c0, c1, c2, c3, c4, c5, c6, c7, c8, c9, c10, c11]) ?_ rfl hR
  simp [results, Try.results23, go_sem, h4, x0, x1, x2, x3, x4, x5, x6, x7, x8, x9, x10, x11]
set_option maxHeartbeats 1000000 in
theorem vote_c (t : Int) (w : World) : Calls Try.prog 23 #[.int .u64 t] w (RetIs (.agg (wayC 1 2 t)) w) := by
  have HB := Lib.hid (Blk.new w (zc 0) 34)
  go_enter Try.func23, Try.ntmps23
  go_wp2_with (refine wpList_store_row rfl 34 (.tmp 2) (.tmp 4) rfl w.heap.size (wayC 1 2 t) rfl rfl 34 _ HB.out (wayC_size _ _ _) rfl (wayC_one _ _ _) ?_)
  exact vote_fin w.heap.size _ _ _ _ _ _ _ _ _ _ _ _ _ _ _ (HB.out.row _) rfl ⟨rfl, setRow_ext (Ext.alloc _ _) (Nat.le_refl _) _⟩
set_option maxRecDepth 100000 in
set_option maxHeartbeats 4000000 in
theorem ntake_nil (i : Int) (hi : -9223372036854775808 ≤ i ∧ i ≤ 9223372036854775807) (w : World) : Calls Try.prog 10 #[.pointer none, .int .i64 i] w (AtOut (Msg.zero, 9) w) := by
  obtain ⟨w1, hw1⟩ : ∃ w1, w1 = w.alloc (.cells (zc 0) 34) := ⟨_, rfl⟩
  have HE1 := Lib.hid (show Ext w w1 from by rw [hw1]; exact Ext.alloc _ _)
  have HB1 := Lib.hid (show Blk w1 w.heap.size (zc 0) 34 from by rw [hw1]; exact Blk.new _ _ _)
  have HS1 := Lib.hid (show w1.heap.size = w.heap.size + 1 from by rw [hw1]; simp)
  have HW := Lib.hid hw1
  have HAT := Lib.hid (nat_nil i hi w1)
  clear hw1
  go_enter Try.func10, Try.ntmps10
  go_upto_region 1 with fail
  rw [← HW.out]
  clear HW
  go_wp2_with fail
  refine HAT.out.mono ?_
  rintro e w2 ⟨v2, rfl, hv2, hE2⟩
  dsimp only at hE2 hv2
  obtain ⟨a9, m9, c9, a10, m10, c10, a11, m11, c11, rfl⟩ := hv2.shape
  have HE2 := Lib.hid (HE1.out.trans hE2); have HB2 := Lib.hid (HB1.out.ext hE2); have HV2 := Lib.hid hv2
  have HS2 := Lib.hid (show w1.heap.size ≤ w2.heap.size from hE2.size)
  have HB3 := Lib.hid (Blk.new w2 (zc 0) 34)
  have HE3 := Lib.hid (Ext.alloc w2 (.cells (zc 0) 34))
  clear hE2 hv2 HB1 HAT
  go_upto_region 2 with (refine wpList_store_row rfl 34 (.tmp 6) (.tmp 12) rfl w2.heap.size (mCells Msg.zero (.slice a9 m9 c9) (.slice a10 m10 c10) (.slice a11 m11 c11)) rfl rfl 34 _ HB3.out (mCells_size _ _ _ _) rfl (mCells_one _ _ _ _ _ _ _ _ _ _) ?_)
  have hb4 := HB3.out.row (mCells Msg.zero (.slice a9 m9 c9) (.slice a10 m10 c10) (.slice a11 m11 c11))
  have hE4 := setRow_ext HE3.out (Nat.le_refl _) (mCells Msg.zero (.slice a9 m9 c9) (.slice a10 m10 c10) (.slice a11 m11 c11))
  generalize (w2.alloc (.cells (zc 0) 34)).setRow w2.heap.size (mCells Msg.zero (.slice a9 m9 c9) (.slice a10 m10 c10) (.slice a11 m11 c11)) = w4 at *
  have HB6 := Lib.hid hb4; have HB4 := Lib.hid (HB2.out.ext hE4); have HV4 := Lib.hid (HV2.out.ext hE4); have HE4 := Lib.hid (HE2.out.trans hE4)
  clear hb4 hE4 HB3 HE3 HB2 HV2 HE2
  go_wp2_with (first | (refine wpList_load_row rfl 34 (.tmp 6) rfl w2.heap.size rfl 34 _ (0, 0) _ HB6.out Try.underlying34 rfl (by kernel_rfl) ?_) | (refine wpList_store_row rfl 34 (.tmp 4) (.tmp 27) rfl w.heap.size (mCells Msg.zero (.slice a9 m9 c9) (.slice a10 m10 c10) (.slice a11 m11 c11)) rfl rfl 34 _ HB4.out (mCells_size _ _ _ _) rfl (mCells_one _ _ _ _ _ _ _ _ _ _) ?_))
  have hbk := HB4.out.row (mCells Msg.zero (.slice a9 m9 c9) (.slice a10 m10 c10) (.slice a11 m11 c11))
  have hg := Chg.some (S := [w.heap.size]) (grown_row w4 w.heap.size (mCells Msg.zero (.slice a9 m9 c9) (.slice a10 m10 c10) (.slice a11 m11 c11))) (.inl (by simp))
  have hE := setRow_ext HE4.out (Nat.le_refl _) (mCells Msg.zero (.slice a9 m9 c9) (.slice a10 m10 c10) (.slice a11 m11 c11))
  refine ntake_fin w.heap.size 9 _ _ _ _ _ _ _ _ _ _ _ _ _ _ _ hbk rfl rfl ⟨_, rfl, ?_, hE⟩
  exact (HV4.out.chg hg (fun t ht => by simp at ht; have := HS1.out; omega)).to (by have := HS1.out; omega)
set_option maxRecDepth 100000 in
set_option maxHeartbeats 4000000 in
theorem awake19_c (w : World) : Calls Try.prog 7 #[] w (RetIs (.bool true) w) := by
  obtain ⟨bs, hbs⟩ := Option.isSome_iff_exists.1 vote5
  have HBS := Lib.hid hbs
  clear hbs
  go_enter Try.func7, Try.ntmps7
  go_wp2_with fail
  refine (nnew_c w).mono ?_
  rintro e w1 ⟨p, m, rfl, hN1⟩
  have HN1 := Lib.hid hN1
  clear hN1
  go_wp2_with fail
  refine (vote_c 5 w1).mono ?_
  rintro e w2 ⟨rfl, hE2⟩
  have HN2 := Lib.hid (HN1.out.ext hE2)
  clear hE2 HN1
  go_wp2_with fail
  refine (nsend_c HN2.out (by simp) _ (wayM 1 2 5) (wayV_msg w2 0 1 2 5) (wayM_ok (by unfold U64; omega) (by unfold U64; omega) (by unfold U64; omega))).mono ?_
  rintro e w3 ⟨rfl, lv3, l3, hN3, _, _, h3⟩
  rw [HBS.out, show sendE (some bs) (wall [] (wayM 1 2 5).src (wayM 1 2 5).dst) ([] : List Item).length = 0 from rfl] at *
  obtain ⟨h3, _⟩ | ⟨_, bv, _, rfl⟩ := h3
  · exact absurd rfl h3
  have HN3 := Lib.hid hN3
  clear hN3 HN2
  go_wp2_with fail
  refine (ntwice_c HN3.out (by simp) 0 (by omega)).mono ?_
  rintro e w4 ⟨rfl, lv4, l4, hN4, _, _, h4⟩
  rw [show twiceN ([] ++ [(bv, wayM 1 2 5)] : List Item).length 0 = 0 from rfl] at *
  obtain ⟨h4, _⟩ | ⟨_, q, hq, rfl⟩ := h4
  · exact absurd rfl h4
  obtain rfl : (bv, wayM 1 2 5) = q := by simpa using hq
  have HN4 := Lib.hid hN4
  clear hN4 HN3 hq
  go_wp2_with fail
  refine (nlen_c HN4.out).mono ?_
  rintro e w5 ⟨rfl, rfl⟩
  rw [show ((([] ++ [(bv, wayM 1 2 5)] ++ [(bv, wayM 1 2 5)] : List Item).length : Nat) : Int) = 2 from rfl]
  go_wp2_with fail
  refine (ntake_c HN4.out (by simp) 1 (by omega)).mono ?_
  rintro e w6 ⟨lv6, l6, v6, rfl, hv6, hN6, _⟩
  rw [show atN (([] ++ [(bv, wayM 1 2 5)] ++ [(bv, wayM 1 2 5)] : List Item).map (·.2)) 1 = (wayM 1 2 5, 0) from rfl] at *
  dsimp only at hv6
  obtain ⟨a9, m9, c9, a10, m10, c10, a11, m11, c11, rfl⟩ := hv6.shape
  have HF := Lib.hid hN6.old
  have HB3 := Lib.hid (Blk.new w6 (zc 0) 34)
  have HE3 := Lib.hid (Ext.alloc w6 (.cells (zc 0) 34))
  clear hv6 hN6 HN4
  go_upto_region 5 with (refine wpList_store_row rfl 34 (.tmp 2) (.tmp 26) rfl w6.heap.size (mCells (wayM 1 2 5) (.slice a9 m9 c9) (.slice a10 m10 c10) (.slice a11 m11 c11)) rfl rfl 34 _ HB3.out (mCells_size _ _ _ _) rfl (mCells_one _ _ _ _ _ _ _ _ _ _) ?_)
  have hb4 := HB3.out.row (mCells (wayM 1 2 5) (.slice a9 m9 c9) (.slice a10 m10 c10) (.slice a11 m11 c11))
  have hE4 := setRow_ext HE3.out (Nat.le_refl _) (mCells (wayM 1 2 5) (.slice a9 m9 c9) (.slice a10 m10 c10) (.slice a11 m11 c11))
  generalize (w6.alloc (.cells (zc 0) 34)).setRow w6.heap.size (mCells (wayM 1 2 5) (.slice a9 m9 c9) (.slice a10 m10 c10) (.slice a11 m11 c11)) = w7 at *
  have c3 := (Blk.twelve hb4).2.2.2.1
  have HF7 := Lib.hid (HF.out.trans hE4)
  simp only [wayM] at c3
  clear hb4 hE4 HF HB3 HE3
  go_wp2_with fail
  go_ret
  exact ⟨rfl, HF7.out⟩
set_option maxRecDepth 100000 in
set_option maxHeartbeats 4000000 in
/-- NetNil is true. -/
theorem netnil_c (v : Value) (M : Msg) (i a b : Int) (w : World) (hv : MsgV w 0 v M) (hi : -9223372036854775808 ≤ i ∧ i ≤ 9223372036854775807) : Calls Try.prog 6 #[v, .int .i64 i, .int .u64 a, .int .u64 b] w (RetIs (.bool true) w) := by
  obtain ⟨a9, m9, c9, a10, m10, c10, a11, m11, c11, rfl⟩ := hv.shape
  obtain ⟨w1, hw1⟩ : ∃ w1, w1 = w.alloc (.cells #[.int .i64 M.kind, .int .u64 M.src, .int .u64 M.dst, .int .u64 M.term, .int .u64 M.index, .int .u64 M.logTerm, .int .u64 M.commit, .int .u64 M.stamp, .bool M.yes, .slice a9 m9 c9, .slice a10 m10 c10, .slice a11 m11 c11] 34) := ⟨_, rfl⟩
  have HE1 := Lib.hid (show Ext w w1 from by rw [hw1]; exact Ext.alloc _ _)
  have HB1 := Lib.hid (show Blk w1 w.heap.size #[.int .i64 M.kind, .int .u64 M.src, .int .u64 M.dst, .int .u64 M.term, .int .u64 M.index, .int .u64 M.logTerm, .int .u64 M.commit, .int .u64 M.stamp, .bool M.yes, .slice a9 m9 c9, .slice a10 m10 c10, .slice a11 m11 c11] 34 from by rw [hw1]; exact Blk.new _ _ _)
  have HW := Lib.hid hw1; have HV := Lib.hid hv; have HI := Lib.hid hi
  clear hw1 hv hi
  go_enter Try.func6, Try.ntmps6
  go_upto_region 1 with fail
  rw [← HW.out]
  clear HW
  go_wp2_with fail
  refine (awake19_c w1).mono ?_
  rintro e w2 ⟨rfl, hE2⟩
  have HE2 := Lib.hid (HE1.out.trans hE2); have HB2 := Lib.hid (HB1.out.ext hE2)
  clear hE2 HE1 HB1
  go_wp2_with fail
  refine (nblock_nil a b false w2).mono ?_
  rintro e w3 ⟨rfl, rfl⟩
  go_wp2_with fail
  refine (nat_nil i HI.out w3).mono ?_
  rintro e w4 ⟨v4, rfl, hv4, hE4⟩
  dsimp only at hE4 hv4
  obtain ⟨b9, n9, d9, b10, n10, d10, b11, n11, d11, rfl⟩ := hv4.shape
  have HE4 := Lib.hid (HE2.out.trans hE4); have HB4 := Lib.hid (HB2.out.ext hE4)
  have HC4 := Lib.hid (Blk.new w4 (zc 0) 34)
  have HD4 := Lib.hid (Ext.alloc w4 (.cells (zc 0) 34))
  clear hE4 hv4 HE2 HB2
  go_upto_region 6 with (refine wpList_store_row rfl 34 (.tmp 10) (.tmp 24) rfl w4.heap.size (mCells Msg.zero (.slice b9 n9 d9) (.slice b10 n10 d10) (.slice b11 n11 d11)) rfl rfl 34 _ HC4.out (mCells_size _ _ _ _) rfl (mCells_one _ _ _ _ _ _ _ _ _ _) ?_)
  have hE5 := setRow_ext HD4.out (Nat.le_refl _) (mCells Msg.zero (.slice b9 n9 d9) (.slice b10 n10 d10) (.slice b11 n11 d11))
  generalize (w4.alloc (.cells (zc 0) 34)).setRow w4.heap.size (mCells Msg.zero (.slice b9 n9 d9) (.slice b10 n10 d10) (.slice b11 n11 d11)) = w5 at *
  have HE5 := Lib.hid (HE4.out.trans hE5); have HB5 := Lib.hid (HB4.out.ext hE5)
  clear hE5 HC4 HD4 HE4 HB4
  go_wp2_with fail
  refine (ntake_nil i HI.out w5).mono ?_
  rintro e w6 ⟨v6, rfl, hv6, hE6⟩
  dsimp only at hE6 hv6
  obtain ⟨e9, q9, f9, e10, q10, f10, e11, q11, f11, rfl⟩ := hv6.shape
  have HE6 := Lib.hid (HE5.out.trans hE6); have HB6 := Lib.hid (HB5.out.ext hE6)
  have HC6 := Lib.hid (Blk.new w6 (zc 0) 34)
  have HD6 := Lib.hid (Ext.alloc w6 (.cells (zc 0) 34))
  clear hE6 hv6 HE5 HB5
  go_upto_region 7 with (refine wpList_store_row rfl 34 (.tmp 12) (.tmp 30) rfl w6.heap.size (mCells Msg.zero (.slice e9 q9 f9) (.slice e10 q10 f10) (.slice e11 q11 f11)) rfl rfl 34 _ HC6.out (mCells_size _ _ _ _) rfl (mCells_one _ _ _ _ _ _ _ _ _ _) ?_)
  have hE7 := setRow_ext HD6.out (Nat.le_refl _) (mCells Msg.zero (.slice e9 q9 f9) (.slice e10 q10 f10) (.slice e11 q11 f11))
  generalize (w6.alloc (.cells (zc 0) 34)).setRow w6.heap.size (mCells Msg.zero (.slice e9 q9 f9) (.slice e10 q10 f10) (.slice e11 q11 f11)) = w7 at *
  have HE7 := Lib.hid (HE6.out.trans hE7); have HB7 := Lib.hid (HB6.out.ext hE7)
  clear hE7 HC6 HD6 HE6 HB6
  go_wp2_with (refine wpList_load_row rfl 34 (.tmp 4) rfl w.heap.size rfl 34 _ (0, 0) _ HB7.out Try.underlying34 rfl (by kernel_rfl) ?_)
  refine (nsend_nil _ M w7 (HV.out.ext HE7.out)).mono ?_
  rintro e w8 ⟨rfl, hE8⟩
  have HE8 := Lib.hid (HE7.out.trans hE8)
  clear hE8 HE7 HB7
  go_wp2_with fail
  refine (nlen_nil w8).mono ?_
  rintro e w9 ⟨rfl, rfl⟩
  go_wp2_with fail
  refine (ntwice_nil i HI.out w9).mono ?_
  rintro e w10 ⟨rfl, rfl⟩
  go_wp2_with fail
  refine (nblocked_nil a b w10).mono ?_
  rintro e w11 ⟨rfl, rfl⟩
  go_wp2_with fail
  go_ret
  exact ⟨rfl, HE8.out⟩
end Go.Proofs.Ytjodgbabfhcilaa
