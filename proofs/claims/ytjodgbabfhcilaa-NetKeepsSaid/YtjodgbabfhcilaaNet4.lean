/- net: At. -/
import Derived.Test.YtjodgbabfhcilaaNet3
set_option linter.unusedSimpArgs false
set_option linter.unusedVariables false
namespace Go.Proofs.Ytjodgbabfhcilaa
open Go Go.RowKit Go.Maps

theorem wrM_get {M : Msg} (hok : MsgOk M) {bs : List Int} (h : wrM M = some bs) : getM bs = .ok M := by
  rw [wrM_eq M hok] at h
  cases hy : wBody M with
  | none => rw [hy] at h; cases h
  | some ys =>
    rw [hy] at h
    dsimp only at h
    split at h
    · rename_i hb
      cases h
      rw [getM_put M hok hy, hb]
    · cases h
/-- What At answers. -/
def atN (ms : List Msg) (i : Int) : Msg × Int := if 0 ≤ i ∧ i < (ms.length : Int) then ((ms[i.toNat]?).getD Msg.zero, 0) else (Msg.zero, 9)
/-- How At ends. -/
def AtOut (X : Msg × Int) (w : World) (e : Ending) (w' : World) : Prop := ∃ v, e = .returned (.tuple #[v, .int .i64 X.2]) ∧ MsgV w' w.heap.size v X.1 ∧ Ext w w'
theorem msgV_zero (w : World) (B : Nat) : MsgV w B (.agg (zc 0)) Msg.zero := ⟨_, _, _, rfl, EntsV.nil _ _, ⟨Rd.nil _, From.nil _⟩, Rd.nil _, From.nil _⟩
theorem zc_one : (zc 0).all (·.oneCell') = true := by simp [Value.oneCell']
theorem zc_size : (Try.prog.info? 34).map (·.size) = some (zc 0).size := by kernel_rfl
theorem Blk.msg {w : World} {b : Nat} {e : TypeId} {c0 c1 c2 c3 c4 c5 c6 c7 c8 c9 c10 c11 : Value} (h : Blk w b #[c0, c1, c2, c3, c4, c5, c6, c7, c8, c9, c10, c11] e) (d0 d1 d2 d3 d4 d5 d6 d7 d8 d9 d10 d11 : Value) :
    Blk (w.setRow b #[d0, d1, d2, d3, d4, d5, d6, d7, d8, d9, d10, d11]) b #[d0, d1, d2, d3, d4, d5, d6, d7, d8, d9, d10, d11] e := h.row _
set_option maxHeartbeats 1000000 in
theorem nat_fin (p : Nat) (c : Int) (c0 c1 c2 c3 c4 c5 c6 c7 c8 c9 c10 c11 : Value) (F : World) (tmps : Array Value) (R : Ending → World → Prop) (hB : Blk F p #[c0, c1, c2, c3, c4, c5, c6, c7, c8, c9, c10, c11] 34)
    (h4 : tmps[4]? = some (ptr p)) (h5 : tmps[5]? = some (.int .i64 c)) (hR : R (.returned (.tuple #[.agg #[c0, c1, c2, c3, c4, c5, c6, c7, c8, c9, c10, c11], .int .i64 c])) F) :
    bodyPost Try.prog Try.f17 R .ret { tmps := tmps, defers := [] } F := by
  obtain ⟨x0, x1, x2, x3, x4, x5, x6, x7, x8, x9, x10, x11⟩ := hB.twelve
  refine bodyPost_ret (v := .tuple #[.agg #[c0, c1, c2, c3, c4, c5, c6, c7, c8, c9, c10, c11], .int .i64 c]) ?_ rfl hR
  simp [results, Try.results17, go_sem, h4, h5, x0, x1, x2, x3, x4, x5, x6, x7, x8, x9, x10, x11]
theorem setRow_ext {w w1 : World} {b : Nat} (hE : Ext w w1) (hb : w.heap.size ≤ b) (cs : Array Value) : Ext w (w1.setRow b cs) :=
  ((Chg.ext hE : Chg [b] w w1).trans (Chg.some (grown_row w1 b cs) (.inl (by simp)))).toExt (fun t ht => by simp at ht; omega)
set_option maxHeartbeats 4000000 in
theorem nat_nil (i : Int) (hi : -9223372036854775808 ≤ i ∧ i ≤ 9223372036854775807) (w : World) : Calls Try.prog 17 #[.pointer none, .int .i64 i] w (AtOut (Msg.zero, 9) w) := by
  obtain ⟨w1, hw1⟩ : ∃ w1, w1 = w.alloc (.cells (zc 0) 34) := ⟨_, rfl⟩
  have HE1 := Lib.hid (show Ext w w1 from by rw [hw1]; exact Ext.alloc _ _)
  have HB1 := Lib.hid (show Blk w1 w.heap.size (zc 0) 34 from by rw [hw1]; exact Blk.new _ _ _)
  have HW := Lib.hid hw1
  clear hw1
  by_cases h0 : i < 0
  · go_enter Try.func17, Try.ntmps17
    go_upto_region 1 with fail
    rw [← HW.out]
    go_wp2_with (refine wpList_store_row rfl 34 (.tmp 4) (.tmp 14) rfl w.heap.size (zc 0) rfl rfl 34 _ HB1.out zc_size rfl zc_one ?_)
    exact nat_fin w.heap.size 9 _ _ _ _ _ _ _ _ _ _ _ _ _ _ _ (HB1.out.row _) rfl rfl ⟨_, rfl, msgV_zero _ _, setRow_ext HE1.out (Nat.le_refl _) _⟩
  · have h1 : 0 ≤ i := by omega
    clear h0
    go_enter Try.func17, Try.ntmps17
    go_upto_region 1 with fail
    rw [← HW.out]
    go_wp2_with fail
    refine (nlen_nil w1).mono ?_
    rintro e w2 ⟨rfl, rfl⟩
    go_wp2_with (refine wpList_store_row rfl 34 (.tmp 4) (.tmp 14) rfl w.heap.size (zc 0) rfl rfl 34 _ HB1.out zc_size rfl zc_one ?_)
    exact nat_fin w.heap.size 9 _ _ _ _ _ _ _ _ _ _ _ _ _ _ _ (HB1.out.row _) rfl rfl ⟨_, rfl, msgV_zero _ _, setRow_ext HE1.out (Nat.le_refl _) _⟩
set_option maxHeartbeats 4000000 in
theorem nat_c {w0 w : World} {p m k : Nat} {lv : Value} {l : List Item} {W : WL} (h : NetS w0 w p m lv l k W) (hl : l.length ≤ 1000) (i : Int) (hi : -9223372036854775808 ≤ i ∧ i ≤ 9223372036854775807) :
    Calls Try.prog 17 #[ptr p, .int .i64 i] w (AtOut (atN (l.map (·.2)) i) w) := by
  obtain ⟨w1, hw1⟩ : ∃ w1, w1 = w.alloc (.cells (zc 0) 34) := ⟨_, rfl⟩
  have HE1 := Lib.hid (show Ext w w1 from by rw [hw1]; exact Ext.alloc _ _)
  have HB1 := Lib.hid (show Blk w1 w.heap.size (zc 0) 34 from by rw [hw1]; exact Blk.new _ _ _)
  have HW := Lib.hid hw1
  have HN := Lib.hid (h.ext HE1.out)
  clear hw1 h
  obtain ⟨hi0, hi1⟩ := hi
  obtain ⟨X, hX⟩ : ∃ X, X = atN (l.map (·.2)) i := ⟨_, rfl⟩
  rw [← hX]
  unfold atN at hX
  rw [List.length_map] at hX
  by_cases h0 : i < 0
  · obtain rfl : X = (Msg.zero, 9) := by rw [hX, if_neg (by omega)]
    clear hX
    go_enter Try.func17, Try.ntmps17
    go_upto_region 1 with fail
    rw [← HW.out]
    go_wp2_with (refine wpList_store_row rfl 34 (.tmp 4) (.tmp 14) rfl w.heap.size (zc 0) rfl rfl 34 _ HB1.out zc_size rfl zc_one ?_)
    exact nat_fin w.heap.size 9 _ _ _ _ _ _ _ _ _ _ _ _ _ _ _ (HB1.out.row _) rfl rfl ⟨_, rfl, msgV_zero _ _, setRow_ext HE1.out (Nat.le_refl _) _⟩
  obtain ⟨n, rfl⟩ := Int.eq_ofNat_of_zero_le (show 0 ≤ i by omega)
  have h1 : (0 : Int) ≤ (n : Int) := by omega
  clear h0
  obtain ⟨L, hL⟩ : ∃ L, L = l.length := ⟨_, rfl⟩
  have HL := Lib.hid hL
  rw [← hL] at hX hl
  clear hL
  by_cases h2 : L ≤ n
  · obtain rfl : X = (Msg.zero, 9) := by rw [hX, if_neg (by omega)]
    clear hX
    have h3 : (L : Int) ≤ (n : Int) := by omega
    have hLE := Lib.hid (nlen_c HN.out)
    rw [← HL.out] at hLE
    go_enter Try.func17, Try.ntmps17
    go_upto_region 1 with fail
    rw [← HW.out]
    go_wp2_with fail
    refine hLE.out.mono ?_
    rintro e w2 ⟨rfl, rfl⟩
    go_wp2_with (refine wpList_store_row rfl 34 (.tmp 4) (.tmp 14) rfl w.heap.size (zc 0) rfl rfl 34 _ HB1.out zc_size rfl zc_one ?_)
    exact nat_fin w.heap.size 9 _ _ _ _ _ _ _ _ _ _ _ _ _ _ _ (HB1.out.row _) rfl rfl ⟨_, rfl, msgV_zero _ _, setRow_ext HE1.out (Nat.le_refl _) _⟩
  · have h3 : n < L := by omega
    clear h2
    obtain ⟨q, hq⟩ : ∃ q, l[n]? = some q := ⟨_, List.getElem?_eq_getElem (by have := HL.out; omega)⟩
    obtain rfl : X = (q.2, 0) := by rw [hX, if_pos (by omega)]; simp [hq]
    clear hX
    obtain ⟨bs, hwr, hrd, _, hb8, hbl, hok⟩ := HN.out.it q (List.mem_of_getElem? hq)
    have HRD := Lib.hid hrd
    have HG := Lib.hid (wrM_get hok hwr)
    have HB8 := Lib.hid hb8
    obtain ⟨va, vn, vc, hv⟩ := hrd.shape
    obtain ⟨g, lc, rfl, hnc, hcl⟩ : ∃ g lc, lv = .slice (some ⟨g, 0, none⟩) L lc ∧ L ≤ lc ∧ w1.cell? ⟨g, n, none⟩ = some q.1 := by
      rcases HN.out.own.2 with ⟨_, h1⟩ | ⟨g, cap, cur, h1, _, hh, h4, _, h5, h6⟩
      · have := HL.out; omega
      · refine ⟨g, cap, by rw [h1, HL.out], by rw [HL.out]; exact h4, ?_⟩
        refine (show Blk w1 g cur _ from hh).cell n ?_
        have hn : (cur.toList.take (l.length * 1))[n]? = some q.1 := by rw [h6, List.getElem?_map, hq]; rfl
        rw [List.getElem?_take] at hn
        split at hn
        · simpa using hn
        · cases hn
    have p0 := HN.out.pb.cell 0 rfl
    simp only [List.getElem_toArray, List.getElem_cons_zero] at p0
    have h4 : (n : Int) < (L : Int) := by omega
    have hLE := Lib.hid (nlen_c HN.out)
    rw [← HL.out] at hLE
    rw [hv] at hcl HRD
    clear hwr hrd hb8 hok hv hq hi0 hi1
    go_enter Try.func17, Try.ntmps17
    go_upto_region 1 with fail
    rw [← HW.out]
    go_wp2_with fail
    refine hLE.out.mono ?_
    rintro e w2 ⟨rfl, rfl⟩
    go_wp2_with fail
    refine (mget_c _ bs _ HRD.out HB8.out (by omega)).mono ?_
    rintro e w3 ⟨hE3, v3, e3, x3, rfl, hv3, hc⟩
    rw [HG.out] at hc
    obtain ⟨rfl, rfl⟩ := hc
    obtain ⟨a9, m9, c9, a10, m10, c10, a11, m11, c11, rfl⟩ := hv3.shape
    have HB3 := Lib.hid (HB1.out.ext hE3); have HE3 := Lib.hid (HE1.out.trans hE3); have HV3 := Lib.hid (hv3)
    have HS := Lib.hid (show w.heap.size + 1 = w2.heap.size from by rw [HW.out]; simp)
    have hmc : (#[.int .i64 q.2.kind, .int .u64 q.2.src, .int .u64 q.2.dst, .int .u64 q.2.term, .int .u64 q.2.index, .int .u64 q.2.logTerm, .int .u64 q.2.commit, .int .u64 q.2.stamp, .bool q.2.yes, .slice a9 m9 c9, .slice a10 m10 c10, .slice a11 m11 c11] : Array Value) = mCells q.2 (.slice a9 m9 c9) (.slice a10 m10 c10) (.slice a11 m11 c11) := rfl
    have HMC := Lib.hid hmc
    clear hE3 hv3 hcl p0 hmc
    go_wp2_with (refine wpList_store_row rfl 34 (.tmp 4) (.tmp 23) rfl w.heap.size (mCells q.2 (.slice a9 m9 c9) (.slice a10 m10 c10) (.slice a11 m11 c11)) rfl rfl 34 _ HB3.out (mCells_size _ _ _ _) rfl (mCells_one _ _ _ _ _ _ _ _ _ _) ?_)
    have hbk := HB3.out.row (mCells q.2 (.slice a9 m9 c9) (.slice a10 m10 c10) (.slice a11 m11 c11))
    refine nat_fin w.heap.size 0 _ _ _ _ _ _ _ _ _ _ _ _ _ _ _ hbk rfl rfl ⟨_, rfl, ?_, setRow_ext HE3.out (Nat.le_refl _) _⟩
    have hg := Chg.some (S := [w.heap.size]) (grown_row w3 w.heap.size (mCells q.2 (.slice a9 m9 c9) (.slice a10 m10 c10) (.slice a11 m11 c11))) (.inl (by simp))
    have hz := HV3.out.chg hg (fun t ht => by simp at ht; have := HS.out; omega)
    obtain ⟨ev, mv, iv, e, k1, k2, k3⟩ := hz
    have hle : w.heap.size ≤ w2.heap.size := by have := HS.out; omega
    exact ⟨ev, mv, iv, e, k1.low hle, ⟨k2.1, k2.2.mono hle⟩, k3.1, k3.2.mono hle⟩
end Go.Proofs.Ytjodgbabfhcilaa
