/- tabellionref19: Take (printed by wip/gen/nrtake.py). -/
import Derived.Test.YtjodgbabfhcilaaBun10
set_option linter.unusedSimpArgs false
set_option linter.unusedVariables false
namespace Go.Proofs.Ytjodgbabfhcilaa
open Go Go.RowKit Go.Maps

/-- One is taken from what is under way. -/
theorem RefN.pop {w w5 : World} {r n L : Nat} {ls wv lv' : Value} {S : List MQ} {ws : List (Int × Int)} {A : List Nat} (h : RefN w r ls wv S ws A) (hA : ∀ t ∈ A, t < w.heap.size) (hE : Ext w w5) (hL : L = S.length) (hn : n < L)
    (ho : w5.ownsRow w.heap.size 34 12 lv' (L - 1) ((S.eraseIdx n).map mC).flatten ∨ (L = 1 ∧ EmpB w.heap.size lv' w5)) :
    RefN (w5.setCell ⟨r, 0, none⟩ lv') r lv' wv (S.eraseIdx n) ws A ∧ Chg [r] w (w5.setCell ⟨r, 0, none⟩ lv') := by
  have hr := h.rw.rb.lt
  have hC : Chg [r] w5 (w5.setCell ⟨r, 0, none⟩ lv') := Chg.set r 0 lv' (by simp)
  have hlen : (S.eraseIdx n).length = L - 1 := by rw [List.length_eraseIdx, if_pos (by omega), hL]
  have hfr : ∀ a n c, lv' = .slice (some a) n c → w.heap.size ≤ a.block ∧ a.block < w5.heap.size := fun a n' c e => by
    rcases ho with ho | ⟨_, g, e2, h1, h2⟩
    · exact ((own_ltB ho) a.block (by rw [e]; simp [Value.ownBlock])).symm
    · rw [e] at e2; cases e2; exact ⟨h1, h2⟩
  have hrow : RowV w5 12 lv' ((S.eraseIdx n).map mC) := by
    rcases ho with ho | ⟨hL1, g, rfl, h1, h2⟩
    · exact RowV.of_own (by rw [List.length_map, hlen]; exact ho) (mC_lens _)
    · have : S.eraseIdx n = [] := List.eq_nil_of_length_eq_zero (by omega)
      rw [this]
      exact ⟨_, 0, rfl, Nat.le_refl _, by unfold maxLen; omega, .inl rfl⟩
  refine ⟨⟨⟨by simpa using (h.rw.rb.ext hE).set 0 lv', (h.rw.ways.ext hE).chg hC (fun a n c e _ hm => by simp at hm; exact (h.rw.wA a n c e).2 hm), h.rw.rA, h.rw.wA, fun a n c e => Nat.lt_of_lt_of_le (h.rw.wlt a n c e) (Nat.le_trans hE.size hC.size)⟩, ?_, fun a n c e => ?_, fun x hx => ?_⟩, (Chg.ext hE : Chg [r] w w5).trans hC⟩
  · exact hrow.chg hC (fun a n c e _ hm => by have := (hfr a n c e).1; simp at hm; omega)
  · have h1 := hfr a n c e
    exact ⟨fun hm => by have := hA _ hm; omega, by omega, by have := hC.size; omega⟩
  · have hx2 := List.mem_of_mem_eraseIdx hx
    exact ⟨((h.ms x hx2).1.ext hE).chg hC (fun t ht hr => by simp at ht; subst ht; exact hr (by simp)), (h.ms x hx2).2⟩
theorem EmpB.kps {B N : Nat} {e : TypeId} {s : Nat} {v : Value} {w w' : World} (h : EmpB B v w) (hE : Kps B e s N w w') : EmpB B v w' := by
  obtain ⟨g, h1, h2, h3⟩ := h
  exact ⟨g, h1, h2, Nat.lt_of_lt_of_le h3 hE.size⟩
theorem HalfB.kps {B k : Nat} {news : List Value} {v : Value} {w w' : World} (h : HalfB B k news v w) (hE : Kps B 34 12 k w w') : HalfB B k news v w' :=
  h.imp (fun h => ⟨h.1, h.2.kps hE⟩) (fun h => ⟨h.1, hE.keep _ _ _ (Nat.le_refl _) h.2⟩)
theorem EmpB.low {B B' : Nat} {v : Value} {w : World} (h : EmpB B v w) (hB : B' ≤ B) : EmpB B' v w := by
  obtain ⟨g, h1, h2, h3⟩ := h
  exact ⟨g, h1, Nat.le_trans hB h2, h3⟩
/-- What is left, in a row newer than B. -/
def FinB (B L : Nat) (rows : List Value) (v : Value) (w : World) : Prop := w.ownsRow B 34 12 v (L - 1) rows ∨ (L = 1 ∧ EmpB B v w)
theorem FinB.ext {B L : Nat} {rows : List Value} {v : Value} {w w' : World} (h : FinB B L rows v w) (hE : Ext w w') : FinB B L rows v w' := h.imp (fun h => own_ext h hE) (fun h => ⟨h.1, h.2.ext hE⟩)
theorem FinB.shape {B L : Nat} {rows : List Value} {v : Value} {w : World} (h : FinB B L rows v w) : ∃ a n c, v = .slice a n c := by
  rcases h with h | ⟨_, g, h, _⟩
  · exact own_shape h
  · exact ⟨_, _, _, h⟩
/-- What the document's Take answers. -/
def RTakeR (r : Nat) (wv : Value) (S : List MQ) (ws : List (Int × Int)) (A : List Nat) (i : Int) (w : World) (e : Ending) (w' : World) : Prop :=
  ∃ v c, e = .returned (.tuple #[v, .int .i64 c]) ∧ ((¬ (0 ≤ i ∧ i < (S.length : Int)) ∧ v = .agg (zc 0) ∧ c = 9 ∧ Ext w w') ∨
    (0 ≤ i ∧ c = 0 ∧ ∃ q, S[i.toNat]? = some q ∧ v = mV q ∧ ∃ ls', RefN w' r ls' wv (S.eraseIdx i.toNat) ws A ∧ Chg [r] w w'))
set_option maxHeartbeats 1000000 in
theorem rtake_fin (p : Nat) (c : Int) (c0 c1 c2 c3 c4 c5 c6 c7 c8 c9 c10 c11 : Value) (F : World) (tmps : Array Value) (R : Ending → World → Prop) (hB : Blk F p #[c0, c1, c2, c3, c4, c5, c6, c7, c8, c9, c10, c11] 34)
    (h4 : tmps[4]? = some (ptr p)) (h5 : tmps[5]? = some (.int .i64 c)) (hR : R (.returned (.tuple #[.agg #[c0, c1, c2, c3, c4, c5, c6, c7, c8, c9, c10, c11], .int .i64 c])) F) :
    bodyPost Try.prog Try.f16 R .ret { tmps := tmps, defers := [] } F := by
  obtain ⟨x0, x1, x2, x3, x4, x5, x6, x7, x8, x9, x10, x11⟩ := hB.twelve
  refine bodyPost_ret (v := .tuple #[.agg #[c0, c1, c2, c3, c4, c5, c6, c7, c8, c9, c10, c11], .int .i64 c]) ?_ rfl hR
  simp [results, Try.results16, go_sem, h4, h5, x0, x1, x2, x3, x4, x5, x6, x7, x8, x9, x10, x11]
set_option maxRecDepth 100000 in
set_option maxHeartbeats 8000000 in
theorem rtake_c {w : World} {r : Nat} {ls wv : Value} {S : List MQ} {ws : List (Int × Int)} {A : List Nat} (h : RefN w r ls wv S ws A) (hA : ∀ t ∈ A, t < w.heap.size) (hl : S.length ≤ 1000) (i : Int) (hi : -9223372036854775808 ≤ i ∧ i ≤ 9223372036854775807) :
    Calls Try.prog 16 #[ptr r, .int .i64 i] w (RTakeR r wv S ws A i w) := by
  obtain ⟨w1, hw1⟩ : ∃ w1, w1 = w.alloc (.cells (zc 0) 34) := ⟨_, rfl⟩
  have HE1 := Lib.hid (show Ext w w1 from by rw [hw1]; exact Ext.alloc _ _)
  have HB1 := Lib.hid (show Blk w1 w.heap.size (zc 0) 34 from by rw [hw1]; exact Blk.new _ _ _)
  have HS1 := Lib.hid (show w1.heap.size = w.heap.size + 1 from by rw [hw1]; simp)
  have HW := Lib.hid hw1
  have HLS := Lib.hid hl; have HI := Lib.hid hi
  have hn : RefN w1 r ls wv S ws (w.heap.size :: A) := (h.more (A' := w.heap.size :: A) (fun t ht => by rcases List.mem_cons.1 ht with e | e; (exact .inr (by omega)); exact .inl e)).ext HE1.out
  have HN := Lib.hid hn
  have HAA := Lib.hid (show ∀ t ∈ w.heap.size :: A, t < w1.heap.size from fun t ht => by rcases List.mem_cons.1 ht with e | e; (have := HS1.out; omega); (have := hA t e; have := HS1.out; omega))
  have HRW := Lib.hid h.rw.rb.lt
  obtain ⟨L, hL⟩ : ∃ L, L = S.length := ⟨_, rfl⟩
  obtain ⟨sa, sc, rfl, hsc1, hsc2, hrows⟩ := hn.list
  have HL := Lib.hid hL; have HROWS := Lib.hid hrows
  rw [List.length_map, ← hL] at hsc1
  rw [← hL] at hl
  replace hsc2 : sc ≤ 9223372036854775807 := by unfold maxLen at hsc2; omega
  clear h hn hA hL hrows hi hw1
  obtain ⟨w0, hw0⟩ : ∃ w0, w0 = w := ⟨_, rfl⟩
  go_enter Try.func16, Try.ntmps16
  go_upto_region 1 with fail
  rw [← HW.out]
  obtain ⟨Z, hZ⟩ : ∃ Z, Z = w.heap.size := ⟨_, rfl⟩
  rw [← hZ]
  have hb1 := HB1.out
  rw [← hZ] at hb1
  have HB := Lib.hid hb1; have HZ := Lib.hid hZ
  clear hZ hb1 hw0
  go_wp2_with fail
  refine (rat_c HN.out HLS.out i HI.out).mono ?_
  rintro e w2 ⟨hE2, v, c, rfl, hcase⟩
  have HE2 := Lib.hid hE2
  have HZ2 := Lib.hid (Blk.new w2 (zc 0) 34)
  have HD2 := Lib.hid (Ext.alloc w2 (.cells (zc 0) 34))
  have HB2 := Lib.hid (HB.out.ext hE2)
  clear hE2
  rcases hcase with ⟨hr, rfl, rfl⟩ | ⟨hr, rfl, q, hq, rfl⟩
  · have HR := Lib.hid hr
    clear hr
    go_upto_region 2 with (refine wpList_store_row rfl 34 (.tmp 6) (.tmp 12) rfl w2.heap.size (zc 0) rfl rfl 34 _ HZ2.out zc_size rfl zc_one ?_)
    have hb5 := HZ2.out.row (zc 0)
    have hE5 := setRow_ext HD2.out (Nat.le_refl _) (zc 0)
    generalize (w2.alloc (.cells (zc 0) 34)).setRow w2.heap.size (zc 0) = w5 at *
    obtain ⟨X, hX⟩ : ∃ X, X = w2.heap.size := ⟨_, rfl⟩
    rw [← hX] at hb5 ⊢
    have HB5 := Lib.hid hb5
    have HB6 := Lib.hid (HB2.out.ext hE5)
    have HE5 := Lib.hid (HE1.out.trans (HE2.out.trans hE5))
    clear hb5 hE5 hX HZ2 HD2
    go_wp2_with (first | (refine wpList_load_row rfl 34 (.tmp 6) rfl X rfl 34 _ (0, 0) _ HB5.out Try.underlying34 rfl (by kernel_rfl) ?_) | (refine wpList_store_row rfl 34 (.tmp 4) (.tmp 35) rfl Z (zc 0) rfl rfl 34 _ HB6.out zc_size rfl zc_one ?_))
    exact rtake_fin Z 9 _ _ _ _ _ _ _ _ _ _ _ _ _ _ _ (HB6.out.row _) rfl rfl ⟨_, 9, rfl, .inl ⟨HR.out, rfl, rfl, setRow_ext HE5.out (Nat.le_of_eq HZ.out.symm) _⟩⟩
  · have hqm := HN.out.ms q (List.mem_of_getElem? hq)
    have hlt : i.toNat < S.length := (List.getElem?_eq_some_iff.1 hq).1
    obtain ⟨k, rfl⟩ := Int.eq_ofNat_of_zero_le hr
    simp only [Int.toNat_natCast] at hq hlt
    have hkL : k < L := by have := HL.out; omega
    have HSQ := Lib.hid hq; have HQ := Lib.hid hqm.1; have HOK := Lib.hid hqm.2
    obtain ⟨M, ev, mv, iv⟩ := q
    obtain ⟨a9, m9, c9, a10, m10, c10, a11, m11, c11, e⟩ := hqm.1.toV.shape
    simp only [mV, mCells, Value.agg.injEq, Array.mk.injEq, List.cons.injEq, and_true, true_and] at e
    obtain ⟨rfl, rfl, rfl⟩ := e
    clear hr hq hqm hlt
    go_upto_region 2 with (refine wpList_store_row rfl 34 (.tmp 6) (.tmp 12) rfl w2.heap.size (mCells M (.slice a9 m9 c9) (.slice a10 m10 c10) (.slice a11 m11 c11)) rfl rfl 34 _ HZ2.out (mCells_size _ _ _ _) rfl (mCells_one _ _ _ _ _ _ _ _ _ _) ?_)
    have hb5 := HZ2.out.row (mCells M (.slice a9 m9 c9) (.slice a10 m10 c10) (.slice a11 m11 c11))
    have hE5 := setRow_ext HD2.out (Nat.le_refl _) (mCells M (.slice a9 m9 c9) (.slice a10 m10 c10) (.slice a11 m11 c11))
    generalize (w2.alloc (.cells (zc 0) 34)).setRow w2.heap.size (mCells M (.slice a9 m9 c9) (.slice a10 m10 c10) (.slice a11 m11 c11)) = w5 at *
    obtain ⟨X, hX⟩ : ∃ X, X = w2.heap.size := ⟨_, rfl⟩
    rw [← hX] at hb5 ⊢
    have HB5 := Lib.hid (show Blk w5 X #[.int .i64 M.kind, .int .u64 M.src, .int .u64 M.dst, .int .u64 M.term, .int .u64 M.index, .int .u64 M.logTerm, .int .u64 M.commit, .int .u64 M.stamp, .bool M.yes, .slice a9 m9 c9, .slice a10 m10 c10, .slice a11 m11 c11] 34 from hb5)
    have HB6 := Lib.hid (HB2.out.ext hE5)
    have HE5 := Lib.hid (HE2.out.trans hE5)
    have HX := Lib.hid (show w1.heap.size ≤ X from by rw [hX]; exact HE2.out.size)
    have HN5 := Lib.hid (HN.out.ext HE5.out)
    clear hb5 hE5 hX HZ2 HD2 HB2
    generalize mV (M, .slice a9 m9 c9, .slice a10 m10 c10, .slice a11 m11 c11) = VV
    have p0 := HN5.out.rw.rb.cell 0 rfl
    simp only [List.getElem_toArray, List.getElem_cons_zero, List.length_map] at p0
    rw [← HL.out] at p0
    obtain ⟨sb, so, rfl, hcell⟩ : ∃ sb so, sa = some ⟨sb, so, none⟩ ∧ ∀ (i : Nat) r, (S.map mC)[i]? = some r → ∀ (j : Nat) u, r[j]? = some u → w5.cell? ⟨sb, so + i * 12 + j, none⟩ = some u := by
      rcases HROWS.out with h3 | ⟨b, o, ha, hc⟩
      · have h5 : (S.map mC).length = 0 := by rw [h3]; rfl
        rw [List.length_map] at h5
        have := HL.out
        omega
      · exact ⟨b, o, ha, fun i r hr j u hj => HE5.out.cell (hc i r hr j u hj)⟩
    have HCELL := Lib.hid hcell
    clear hcell
    obtain ⟨j, hj⟩ : ∃ j, j = k + 1 := ⟨_, rfl⟩
    have hj1 : (k : Int) + 1 = (j : Int) := by omega
    have hjL : j ≤ L := by omega
    have hjLi : (j : Int) ≤ (L : Int) := by omega
    have hjs : j ≤ sc := by omega
    have hks : k ≤ sc := by omega
    have hkc : (k : Int) ≤ (sc : Int) := by omega
    have HJ := Lib.hid hj
    obtain ⟨AD, hAD⟩ : ∃ AD : Addr, (if sc = j then some (⟨sb, so, none⟩ : Addr) else some ⟨sb, so + j * 12, none⟩) = some AD := by split <;> exact ⟨_, rfl⟩
    have HLEN1 := Lib.hid (show ((S.take k).map mC).flatten.length = k * 12 from by rw [mC_flat, List.length_take, Nat.min_eq_left (by have := HL.out; omega)])
    have HLEN2 := Lib.hid (show ((S.drop j).map mC).flatten.length = (L - j) * 12 from by rw [mC_flat, List.length_drop, ← HL.out])
    have HNEW1 := Lib.hid (show ∀ W : World, Ext w5 W → ∀ j u, ((S.take k).map mC).flatten[j]? = some u → W.cell? ((⟨sb, so, none⟩ : Addr).add j) = some u from fun W hE => by
      have := rows_news (W := W) (sb := sb) (so := so) (d := 0) (S := S.take k) (fun i r hr j u hu => by
        rw [Nat.add_zero]
        refine hE.cell (HCELL.out i r ?_ j u hu)
        rw [List.map_take, List.getElem?_take] at hr
        split at hr
        · exact hr
        · cases hr)
      simpa using this)
    have HNEW2 := Lib.hid (show ∀ W : World, Ext w5 W → ∀ i u, ((S.drop j).map mC).flatten[i]? = some u → W.cell? (AD.add i) = some u from fun W hE => by
      by_cases hs : sc = j
      · intro i u hi
        have h0 := HLEN2.out
        rw [show L - j = 0 by omega, Nat.zero_mul] at h0
        rw [List.length_eq_zero_iff.1 h0] at hi
        simp at hi
      · rw [if_neg hs] at hAD
        cases hAD
        exact rows_news (W := W) (sb := sb) (so := so) (d := j) (S := S.drop j) (fun i r hr j' u hu => by
          refine hE.cell (HCELL.out (i + j) r ?_ j' u hu)
          rw [List.map_drop, List.getElem?_drop, Nat.add_comm] at hr
          exact hr))
    have HROW := Lib.hid (show ((S.take k).map mC).flatten ++ ((S.drop j).map mC).flatten = ((S.eraseIdx k).map mC).flatten from by rw [List.eraseIdx_eq_take_drop_succ, List.map_append, List.flatten_append, hj])
    have HHALF := Lib.hid (show ∀ (wa wc' : World) (g1 : Nat) (v' : Value), Ext w5 wa → (w5.heap.size ≤ g1 ∧ g1 < wa.heap.size) → Ext wa wc' → Half wa wc' g1 34 12 k ((S.take k).map mC).flatten v' → HalfB w5.heap.size k ((S.take k).map mC).flatten v' wc' from fun wa wc' g1 v' h1 h2 h3 h4 => by
      rcases h4 with ⟨h4, h5⟩ | ⟨h4, h5⟩
      · exact .inl ⟨h4, g1, h5, h2.1, Nat.lt_of_lt_of_le h2.2 h3.size⟩
      · exact .inr ⟨h4, own_low h5 h1.size⟩)
    have HONE := Lib.hid (ones (S := S.drop j) (w := w5) (fun q hq => ⟨(HN5.out.ms q (List.mem_of_mem_drop hq)).1.toV, (HN5.out.ms q (List.mem_of_mem_drop hq)).2⟩))
    clear hj
    go_upto_region 3 with fail
    apply Mono3.region2 19 16 Ext (Kps w5.heap.size 34 12 k) [.is _, .rel (EmpB w5.heap.size), .is _, .is _, .is _, .is _, .is _, .is _, .rel (HalfB w5.heap.size k ((S.take k).map mC).flatten), .is _, .is _, .is _, .is _, .is _, .is _, .is _, .rel (FinB w5.heap.size L ((S.eraseIdx k).map mC).flatten), .is _, .is _] (by kernel_rfl) (Kps.pre _ _ _ _) (Ext.refl _) (by kernel_rfl) rfl rfl ⟨fun u w w' h hE => h.kps (show Kps w5.heap.size 34 12 k w w' from hE), fun u w w' h hE => h.kps (show Kps w5.heap.size 34 12 k w w' from hE), fun u w w' h hE => h.ext (show Ext w w' from hE), trivial⟩
    focus
      iterate 1 (apply Mono3.step_is; (· refine Mono3.obl_quiet (by decide) (by kernel_rfl) fun w12 hE12 hkn K hK => ?_; clear hE12 hkn; go_wp2_with fail; simp only [Act.put, List.setIfInBounds_toArray, List.set_cons_succ, List.set_cons_zero] at hK; exact hK _ _ (Ext.refl _) (Mono3.is_rfl _ _)); simp only [Act.put, List.setIfInBounds_toArray, List.set_cons_succ, List.set_cons_zero])
      refine Mono3.step_rel (Mono3.obl_early (by decide) (by kernel_rfl) fun w12 hE12 hkn K hK => ?_) fun v17 => ?_
      · have HS12 := Lib.hid (show w5.heap.size ≤ w12.heap.size from hE12.size)
        clear hE12 hkn
        go_wp2_with fail
        simp only [Act.put, List.setIfInBounds_toArray, List.set_cons_succ, List.set_cons_zero] at hK
        exact hK _ _ (Ext.alloc _ _) (Mono3.rel_mk ⟨w12.heap.size, rfl, HS12.out, by simp⟩)
      simp only [Act.put, List.setIfInBounds_toArray, List.set_cons_succ, List.set_cons_zero]
      iterate 6 (apply Mono3.step_is; (· refine Mono3.obl_early (by decide) (by kernel_rfl) fun w12 hE12 hkn K hK => ?_; (have q0 := hE12.cell (show w5.drew.cell? _ = _ from p0)); clear hE12 hkn; go_wp2_with fail; simp only [Act.put, List.setIfInBounds_toArray, List.set_cons_succ, List.set_cons_zero] at hK; exact hK _ _ (Ext.refl _) (Mono3.is_rfl _ _)); simp only [Act.put, List.setIfInBounds_toArray, List.set_cons_succ, List.set_cons_zero])
      refine Mono3.step_rel (Mono3.obl_early (by decide) (by kernel_rfl) fun w12 hE12 hkk K hK => ?_) fun v24 => ?_
      · obtain ⟨g1, rfl, hg1, hg2⟩ := hkk.1 (by kernel_rfl)
        have HG := Lib.hid (show w5.heap.size ≤ g1 ∧ g1 < w12.heap.size from ⟨hg1, hg2⟩)
        have HE12 := Lib.hid (show Ext w5 w12 from (Ext.drew w5).trans hE12)
        clear hkk hE12 hg1 hg2
        go_wp2_with (at_builtin; refine wpList_append_half rfl (.tmp 17) (.tmp 23) _ rfl 34 _ 12 144 Try.underlying22 infoMsg rfl (by omega) g1 rfl (some ⟨sb, so, none⟩) k sc ((S.take k).map mC).flatten rfl HLEN1.out (.inr ⟨_, rfl, HNEW1.out w12 HE12.out⟩) (by unfold maxLen; omega) (by omega) ?_; intro v' w8 hh hE8; have HH8 := Lib.hid (HHALF.out w12 w8 g1 v' HE12.out HG.out hE8 hh); have HE8 := Lib.hid hE8; clear hh hE8)
        simp only [Act.put, List.setIfInBounds_toArray, List.set_cons_succ, List.set_cons_zero] at hK
        exact hK _ _ HE8.out (Mono3.rel_mk HH8.out)
      simp only [Act.put, List.setIfInBounds_toArray, List.set_cons_succ, List.set_cons_zero]
      iterate 7 (apply Mono3.step_is; (· refine Mono3.obl_early (by decide) (by kernel_rfl) fun w12 hE12 hkn K hK => ?_; (have q0 := hE12.cell (show w5.drew.cell? _ = _ from p0)); clear hE12 hkn; go_wp2_with fail; simp only [Act.put, List.setIfInBounds_toArray, List.set_cons_succ, List.set_cons_zero] at hK; exact hK _ _ (Ext.refl _) (Mono3.is_rfl _ _)); simp only [Act.put, List.setIfInBounds_toArray, List.set_cons_succ, List.set_cons_zero])
      refine Mono3.step_rel (Mono3.obl_loud fun w12 hE12 hkk K hK => ?_) fun v32 => ?_
      · have HE12 := Lib.hid (show Ext w5 w12 from (Ext.drew w5).trans hE12)
        obtain ⟨hk0, g1, rfl, hg1, hg2⟩ | ⟨hkp, ho24⟩ := hkk.2.1 (by kernel_rfl)
        · have HG1 := Lib.hid (show w5.heap.size ≤ g1 ∧ g1 < w12.heap.size from ⟨hg1, hg2⟩); have HK0 := Lib.hid hk0
          clear hkk hE12 hk0 hg1 hg2
          go_wp2_with (at_builtin; refine wpList_append_half rfl (.tmp 24) (.tmp 31) _ rfl 34 _ 12 144 Try.underlying22 infoMsg rfl (by omega) g1 rfl (some AD) (L - j) (sc - j) ((S.drop j).map mC).flatten rfl HLEN2.out (.inr ⟨AD, rfl, HNEW2.out w12 HE12.out⟩) (by unfold maxLen; omega) (by omega) ?_; intro v' w8 hh hE8; have HF8 := Lib.hid (show FinB w5.heap.size L ((S.eraseIdx k).map mC).flatten v' w8 from by
              rcases hh with ⟨h4, h5⟩ | ⟨h4, h5⟩
              · exact .inr ⟨by have := HJ.out; have := HK0.out; omega, g1, h5, HG1.out.1, Nat.lt_of_lt_of_le HG1.out.2 hE8.size⟩
              · refine .inl ?_
                have h6 := own_low h5 HE12.out.size
                rw [show L - j = L - 1 by have := HJ.out; have := HK0.out; omega, show ((S.drop j).map mC).flatten = ((S.eraseIdx k).map mC).flatten from by rw [← HROW.out, HK0.out]; simp] at h6
                exact h6); have HE8 := Lib.hid hE8; clear hh hE8)
          simp only [Act.put, List.setIfInBounds_toArray, List.set_cons_succ, List.set_cons_zero] at hK
          exact hK _ _ (Kps.ext HE8.out) (Mono3.rel_mk HF8.out)
        · have HO24 := Lib.hid ho24
          obtain ⟨ta, tn, tc, rfl⟩ := own_shape ho24
          clear hkk hE12 ho24 hkp
          go_wp2_with (at_builtin; refine wpList_append_kps rfl (.tmp 24) (.tmp 31) _ rfl w5.heap.size 34 _ 12 144 Try.underlying22 infoMsg rfl (by omega) (.slice ta tn tc) k ((S.take k).map mC).flatten rfl HO24.out AD (L - j) (sc - j) ((S.drop j).map mC).flatten rfl HLEN2.out (HNEW2.out w12 HE12.out) HONE.out (by unfold maxLen; omega) (by omega) HE12.out.size ?_; intro v' w8 ho8 hg8; have HF8 := Lib.hid (show FinB w5.heap.size L ((S.eraseIdx k).map mC).flatten v' w8 from .inl (by rw [← HROW.out, show L - 1 = k + (L - j) by have := HJ.out; omega]; exact ho8)); have HK8 := Lib.hid hg8; clear ho8 hg8)
          simp only [Act.put, List.setIfInBounds_toArray, List.set_cons_succ, List.set_cons_zero] at hK
          exact hK _ _ HK8.out (Mono3.rel_mk HF8.out)
      simp only [Act.put, List.setIfInBounds_toArray, List.set_cons_succ, List.set_cons_zero]
      iterate 2 (apply Mono3.step_is; (· refine Mono3.obl_quiet (by decide) (by kernel_rfl) fun w12 hE12 hkn K hK => ?_; clear hE12 hkn; go_wp2_with fail; simp only [Act.put, List.setIfInBounds_toArray, List.set_cons_succ, List.set_cons_zero] at hK; exact hK _ _ (Ext.refl _) (Mono3.is_rfl _ _)); simp only [Act.put, List.setIfInBounds_toArray, List.set_cons_succ, List.set_cons_zero])
      refine Mono3.step_end fun w12 hE12 hkn => ?_
      simp only [List.drop_succ_cons, List.drop_zero]
      have hF : FinB w5.heap.size L ((S.eraseIdx k).map mC).flatten v32 w12 := hkn.2.2.1
      obtain ⟨xa, xn, xc, rfl⟩ := hF.shape
      have HK12 := Lib.hid ((Kps.ext (Ext.drew w5)).trans (show Kps w5.heap.size 34 12 k w5.drew w12 from hE12))
      have HE12 := Lib.hid (HK12.out.toExt (Nat.le_refl _))
      have HF := Lib.hid hF
      clear hE12 hkn hF p0
      have p1 := (HN5.out.rw.rb.ext HE12.out).cell 0 rfl
      have f1 := (HN5.out.rw.rb.ext HE12.out).free 0
      simp only [List.getElem_toArray, List.getElem_cons_zero, List.length_map] at p1
      rw [← HL.out] at p1
      go_upto_region 4 with fail
      have hpop := HN.out.pop HAA.out (HE5.out.trans HE12.out) HL.out hkL (HF.out.imp (fun h => own_low h HE5.out.size) (fun h => ⟨h.1, h.2.low HE5.out.size⟩))
      have hb12 := (HB5.out.ext HE12.out).other ⟨r, 0, none⟩ (.slice xa xn xc) (by have := HX.out; have := HRW.out; have := HS1.out; simp; omega)
      have hz12 := (HB6.out.ext HE12.out).other ⟨r, 0, none⟩ (.slice xa xn xc) (by have := HZ.out; have := HRW.out; simp; omega)
      generalize w12.setCell ⟨r, 0, none⟩ (.slice xa xn xc) = w13 at *
      have HP := Lib.hid hpop; have HB12 := Lib.hid hb12; have HZ12 := Lib.hid hz12
      clear p1 f1 hpop hb12 hz12
      go_wp2_with (first | (refine wpList_load_row rfl 34 (.tmp 6) rfl X rfl 34 _ (0, 0) _ HB12.out Try.underlying34 rfl (by kernel_rfl) ?_) | (refine wpList_store_row rfl 34 (.tmp 4) (.tmp 35) rfl Z (mCells M (.slice a9 m9 c9) (.slice a10 m10 c10) (.slice a11 m11 c11)) rfl rfl 34 _ HZ12.out (mCells_size _ _ _ _) rfl (mCells_one _ _ _ _ _ _ _ _ _ _) ?_))
      have hC := Chg.some (S := [Z]) (grown_row w13 Z (mCells M (.slice a9 m9 c9) (.slice a10 m10 c10) (.slice a11 m11 c11))) (.inl (by simp))
      have hfin := (HP.out.1.chg hC (fun t ht => by simp at ht; rw [ht, HZ.out]; simp)).more (A' := A) (fun t ht => .inl (List.mem_cons_of_mem _ ht))
      have hC2 : Chg [r] w (w13.setRow Z (mCells M (.slice a9 m9 c9) (.slice a10 m10 c10) (.slice a11 m11 c11))) := ((Chg.ext HE1.out : Chg [r] w w1).trans HP.out.2).trans' hC (fun t ht => .inr (by simp at ht; rw [ht, HZ.out]; exact Nat.le_refl _))
      exact rtake_fin Z 0 _ _ _ _ _ _ _ _ _ _ _ _ _ _ _ (HZ12.out.row _) rfl rfl ⟨_, 0, rfl, .inr ⟨by omega, rfl, (M, .slice a9 m9 c9, .slice a10 m10 c10, .slice a11 m11 c11), by simpa using HSQ.out, rfl, _, by simpa using hfin, hC2⟩⟩
end Go.Proofs.Ytjodgbabfhcilaa
