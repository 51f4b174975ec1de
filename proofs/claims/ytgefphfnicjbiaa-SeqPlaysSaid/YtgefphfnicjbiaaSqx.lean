/- Layer 25 (seq): SeqSplits. -/
import Derived.Test.YtgefphfnicjbiaaSks
import Derived.Test.YtgefphfnicjbiaaBun7
import Derived.Test.YtgefphfnicjbiaaSqn
set_option linter.unusedSimpArgs false
set_option linter.unusedVariables false
namespace Go.Proofs.Ytgefphfnicjbiaa
open Go Go.RowKit

/-- What is known between two steps: two books' variables. -/
structure SplS (w wr : World) (T5 T6 : Nat) (x y : Bk) : Prop where
  ext : Ext w wr
  a : ∃ v0 v1, Blk wr T5 #[v0, v1] 27 ∧ BookT wr (.agg #[v0, v1]) x
  bb : ∃ v0 v1, Blk wr T6 #[v0, v1] 27 ∧ BookT wr (.agg #[v0, v1]) y
  low : w.heap.size ≤ T5 ∧ w.heap.size ≤ T6 ∧ T5 ≠ T6
theorem SplS.ext' {w wr wq : World} {T5 T6 : Nat} {x y : Bk} (h : SplS w wr T5 T6 x y) (hE : Ext wr wq) : SplS w wq T5 T6 x y := by
  obtain ⟨v0, v1, h1, h2⟩ := h.a
  obtain ⟨u0, u1, h3, h4⟩ := h.bb
  exact ⟨h.ext.trans hE, ⟨_, _, h1.ext hE, h2.ext hE⟩, ⟨_, _, h3.ext hE, h4.ext hE⟩, h.low⟩
theorem SplS.shapeA {w wr : World} {T5 T6 : Nat} {x y : Bk} (h : SplS w wr T5 T6 x y) : ∃ a1 n1 c1 a2 n2 c2, Blk wr T5 #[.slice a1 n1 c1, .slice a2 n2 c2] 27 ∧ BookT wr (.agg #[.slice a1 n1 c1, .slice a2 n2 c2]) x := by
  obtain ⟨v0, v1, h1, h2⟩ := h.a
  obtain ⟨a1, n1, c1, a2, n2, c2, e1⟩ := book_shape h2.book
  cases e1
  exact ⟨_, _, _, _, _, _, h1, h2⟩
theorem SplS.shapeB {w wr : World} {T5 T6 : Nat} {x y : Bk} (h : SplS w wr T5 T6 x y) : ∃ a1 n1 c1 a2 n2 c2, Blk wr T6 #[.slice a1 n1 c1, .slice a2 n2 c2] 27 ∧ BookT wr (.agg #[.slice a1 n1 c1, .slice a2 n2 c2]) y := by
  obtain ⟨v0, v1, h1, h2⟩ := h.bb
  obtain ⟨a1, n1, c1, a2, n2, c2, e1⟩ := book_shape h2.book
  cases e1
  exact ⟨_, _, _, _, _, _, h1, h2⟩
theorem SplS.setA {w wr : World} {T5 T6 : Nat} {x y z : Bk} (h : SplS w wr T5 T6 x y) {c0 c1 : Value} (hb : BookT wr (.agg #[c0, c1]) z) : SplS w (wr.setRow T5 #[c0, c1]) T5 T6 z y := by
  obtain ⟨v0, v1, h1, h2⟩ := h.a
  obtain ⟨u0, u1, h3, h4⟩ := h.bb
  have hC : Chg [T5] wr (wr.setRow T5 #[c0, c1]) := Chg.some (grown_rowS wr T5 _) (.inl (by simp))
  have hS : ∀ t ∈ [T5], ∃ c, Blk wr t c 27 := fun t ht => by simp at ht; subst ht; exact ⟨_, h1⟩
  exact ⟨((Chg.ext h.ext : Chg [T5] w wr).trans hC).toExt (fun t ht => by simp at ht; rw [ht]; exact h.low.1), ⟨_, _, setRow_heap wr T5 _ _ _ (0, 0) h1, hb.chg hC hS⟩, ⟨_, _, h3.chg hC (by simp; exact fun e => h.low.2.2 e.symm), h4.chg hC hS⟩, h.low⟩
theorem SplS.setB {w wr : World} {T5 T6 : Nat} {x y z : Bk} (h : SplS w wr T5 T6 x y) {c0 c1 : Value} (hb : BookT wr (.agg #[c0, c1]) z) : SplS w (wr.setRow T6 #[c0, c1]) T5 T6 x z := by
  obtain ⟨v0, v1, h1, h2⟩ := h.a
  obtain ⟨u0, u1, h3, h4⟩ := h.bb
  have hC : Chg [T6] wr (wr.setRow T6 #[c0, c1]) := Chg.some (grown_rowS wr T6 _) (.inl (by simp))
  have hS : ∀ t ∈ [T6], ∃ c, Blk wr t c 27 := fun t ht => by simp at ht; subst ht; exact ⟨_, h3⟩
  exact ⟨((Chg.ext h.ext : Chg [T6] w wr).trans hC).toExt (fun t ht => by simp at ht; rw [ht]; exact h.low.2.1), ⟨_, _, h1.chg hC (by simp; exact h.low.2.2), h2.chg hC hS⟩, ⟨_, _, setRow_heap wr T6 _ _ _ (0, 0) h3, hb.chg hC hS⟩, h.low⟩
set_option maxRecDepth 100000 in
set_option maxHeartbeats 8000000 in
theorem seqsplits_c (v0 v1 : Value) (qs : List QE) (ats : List Int) (w : World) (h : RowV w 6 v0 (qs.map qC)) (hok : ∀ q ∈ qs, QOk w q ∧ (U64 q.1.client ∧ U64 q.1.seq ∧ B8 q.1.data)) (hat : Rd w v1 (ats.map (Value.int .i64))) (h64 : ∀ x ∈ ats, -9223372036854775808 ≤ x ∧ x ≤ 9223372036854775807) :
    Calls Try.prog 4 #[v0, v1] w (RetE (.bool true) w) := by
  have haw := fun w => awake25_c w
  obtain ⟨a, c, rfl, hc1, hc2⟩ := h.shape
  have HV := Lib.hid h; have HOK := Lib.hid hok; have HAW := Lib.hid haw; have HAT := Lib.hid hat; have H64 := Lib.hid h64
  rw [List.length_map] at hc1 ⊢
  obtain ⟨N, hN⟩ : ∃ N, N = qs.length := ⟨_, rfl⟩
  rw [← hN] at hc1 ⊢
  have HN := Lib.hid hN
  obtain ⟨ta, tc, htv, ht1, ht2, -⟩ := hat.open
  obtain ⟨M, hM⟩ : ∃ M, M = ats.length := ⟨_, rfl⟩
  rw [← hM] at htv ht1
  replace ht2 : tc ≤ 9223372036854775807 := by unfold maxLen at ht2; omega
  subst htv
  have HM := Lib.hid hM
  clear h hok haw hN hat h64 hM
  go_enter Try.func4, Try.ntmps4
  go_wp2_with fail
  refine (HAW.out _).mono ?_
  rintro e w1 ⟨rfl, hE1⟩
  have HE1 := Lib.hid hE1
  clear hE1
  go_upto_if 21 with fail
  go_cut [0] (fun v0 wx => ∃ L : Nat, v0 = .slice a L c ∧ L ≤ 100 ∧ L ≤ N ∧ wx = w1)
  case first =>
    by_cases h6 : (N : Int) ≤ 100
    · go_wp2_with fail
      go_meet
      exact ⟨N, rfl, by omega, Nat.le_refl _, rfl⟩
    · have h6' : (100 : Int) < (N : Int) := by omega
      clear h6
      go_wp2_with fail
      go_meet
      exact ⟨100, rfl, Nat.le_refl _, by omega, rfl⟩
  case rest =>
    obtain ⟨L, rfl, hL1, hLN, hw⟩ := hcut
    have hw' := hw.symm
    subst hw'
    clear hw
    go_upto_region 6 with fail
    obtain ⟨T5, hT5⟩ : ∃ T, T = w1.heap.size := ⟨_, rfl⟩
    have HS0 : Hid (SplS w ((w1.alloc (.cells #[.slice none 0 0, .slice none 0 0] 27)).alloc (.cells #[.slice none 0 0, .slice none 0 0] 27)) T5 (T5 + 1) ⟨[], []⟩ ⟨[], []⟩) := Lib.hid (by
      have hB := Blk.new (w1.alloc (.cells #[.slice none 0 0, .slice none 0 0] 27)) #[.slice none 0 0, .slice none 0 0] 27
      simp only [World.size_alloc] at hB
      have := HE1.out.size
      rw [hT5]
      exact ⟨(HE1.out.trans (Ext.alloc _ _)).trans (Ext.alloc _ _), ⟨_, _, (Blk.new w1 _ _).alloc _, BookT.nil _⟩, ⟨_, _, hB, BookT.nil _⟩, ⟨by omega, by omega, by omega⟩⟩)
    rw [← hT5]
    generalize (w1.alloc (.cells #[.slice none 0 0, .slice none 0 0] 27)).alloc (.cells #[.slice none 0 0, .slice none 0 0] 27) = W2 at *
    obtain ⟨T6, hT6⟩ : ∃ T, T = T5 + 1 := ⟨_, rfl⟩
    rw [← hT6] at HS0 ⊢
    clear hT5 hT6
    go_wp2_with fail
    go_loopg [7] L (fun g v7 wr => ∃ (i : Nat) (b : Bk), v7 = .int .i64 (i : Int) ∧ i + g = L ∧ SplS w wr T5 T6 b b ∧ Good b)
    case atStart => exact ⟨0, _, rfl, by omega, HS0.out, Good.nil⟩
    case round =>
      obtain ⟨i, b, rfl, hiL, hS, hG⟩ := hrel
      have HS := Lib.hid hS; have HG := Lib.hid hG
      clear hS HS0 hG
      by_cases hi : i < L
      · have hi' : (i : Int) < (L : Int) := by omega
        go_upto_block 2 with fail
        go_cut [8, 9, 10, 11, 12] (fun _v8 _v9 _v10 _v11 _v12 wc => SplS w wc T5 T6 b b)
        case first =>
          go_wp2_with fail
          go_loopg [8] M (fun g v8 wr => ∃ k : Nat, v8 = .int .i64 (k : Int) ∧ k + g = M ∧ SplS w wr T5 T6 b b)
          case atStart => exact ⟨0, rfl, by omega, HS.out⟩
          case round =>
            clear HS
            obtain ⟨k, rfl, hkM, hS⟩ := hrel
            have HS := Lib.hid hS
            clear hS
            by_cases hk : k < M
            · have hk' : (k : Int) < (M : Int) := by omega
              obtain ⟨x, hx⟩ : ∃ x, ats[k]? = some x := ⟨_, List.getElem?_eq_getElem (by have := HM.out; omega)⟩
              obtain ⟨tb, t9, rfl, hcell⟩ : ∃ b o, ta = some ⟨b, o, none⟩ ∧ wr.cell? ⟨b, o + k, none⟩ = some (.int .i64 x) := by
                obtain ⟨a', c', hv, -, -, h3⟩ := HAT.out
                cases hv
                rcases h3 with h3 | ⟨b', o, ha, hc⟩
                · rw [List.map_eq_nil_iff.1 h3] at hx; simp at hx
                · exact ⟨b', o, ha, HS.out.ext.cell (hc k _ (by rw [List.getElem?_map, hx]; rfl))⟩
              have hb := H64.out x (List.mem_of_getElem? hx)
              clear hx hk
              go_upto_if 44 with fail
              generalize (wrap64 ((IntKind.u64.wrap x).tmod 100) != (i : Int)) = z
              generalize wrap64 ((IntKind.u64.wrap x).tmod 100) = z1
              generalize (IntKind.u64.wrap x).tmod 100 = z2
              cases z with
              | true =>
                clear hcell
                go_wp2_with fail
                go_roundg (M - (k + 1))
                case measure => omega
                case rel => exact ⟨k + 1, by go_num, by omega, HS.out⟩
              | false =>
                clear hcell
                obtain ⟨a3, n3, c3, a4, n4, c4, h3, h4⟩ := HS.out.shapeB
                have hgood := HG.out
                have hput := kput_c (.agg #[.slice a3 n3 c3, .slice a4 n4 c4]) b wr h4.book hgood.u (by have := hgood.size; omega)
                have HB6 := Lib.hid h3; have HPUT := Lib.hid hput
                clear h3 h4 hput hgood
                go_wp2_with (first | (refine wpList_load_row rfl 27 (.tmp 6) rfl T6 rfl 27 _ (0, 0) _ HB6.out Try.underlying27 rfl (by kernel_rfl) ?_))
                refine HPUT.out.mono ?_
                rintro e w3 ⟨hE3, hp⟩
                rw [HG.out.fm] at hp
                simp only [if_true] at hp
                obtain ⟨pv, rfl, ho⟩ := hp
                obtain ⟨pa, pc, rfl, -⟩ := own_slice ho
                have hget := kget_c _ (putK b) w3 (Rd.of_own ho) (putK_b8 HG.out.u) (by have := HG.out.size; omega)
                have hk := getK_put HG.out.u
                rw [HG.out.fm] at hk
                simp only [if_true] at hk
                rw [hk] at hget
                have HGET := Lib.hid hget; have HS3 := Lib.hid (HS.out.ext' hE3)
                clear hE3 ho hget hk HPUT
                go_wp2_with fail
                refine HGET.out.mono ?_
                rintro e w4 ⟨hE4, v, e9, y, rfl, hB, rfl, rfl⟩
                obtain ⟨a39, n39, c39, a49, n49, c49, rfl⟩ := book_shape hB.book
                have HS4 := Lib.hid (HS3.out.ext' hE4); have HBK := Lib.hid hB
                clear hE4 hB HGET HS3
                go_upto_region 17 with fail
                have HB11 := Lib.hid (Blk.new w4 #[.slice a39 n39 c39, .slice a49 n49 c49] 27)
                have HS5 := Lib.hid (HS4.out.ext' (Ext.alloc w4 (.cells #[.slice a39 n39 c39, .slice a49 n49 c49] 27)))
                have HBK5 := Lib.hid (HBK.out.ext (Ext.alloc w4 (.cells #[.slice a39 n39 c39, .slice a49 n49 c49] 27)))
                obtain ⟨T11, hT11⟩ : ∃ T, T = w4.heap.size := ⟨_, rfl⟩
                rw [← hT11] at HB11 ⊢
                generalize w4.alloc (.cells #[.slice a39 n39 c39, .slice a49 n49 c49] 27) = W5 at *
                obtain ⟨d3, m3, k3, d4, m4, k4, h3, h4⟩ := HS5.out.shapeB
                have HBY := Lib.hid h3
                clear hT11 HS4 HBK h3 h4
                go_wp2_with (first | (refine wpList_load_row rfl 27 (.tmp 11) rfl T11 rfl 27 _ (0, 0) _ HB11.out Try.underlying27 rfl (by kernel_rfl) ?_) | (refine wpList_store_row rfl 27 (.tmp 6) (.tmp 61) rfl T6 #[.slice a39 n39 c39, .slice a49 n49 c49] rfl rfl 27 _ HBY.out (book_size _ _) rfl (by simp [Value.oneCell']) ?_))
                go_roundg (M - (k + 1))
                case measure => omega
                case rel => exact ⟨k + 1, by go_num, by omega, HS5.out.setB HBK5.out⟩
            · have hge : (M : Int) ≤ (k : Int) := by omega
              clear hk hkM
              go_wp2_with fail
              go_meet
              exact HS.out
        case rest =>
          have HS := Lib.hid hcut
          clear hcut
          obtain ⟨q, hq⟩ : ∃ q, qs[i]? = some q := ⟨_, List.getElem?_eq_getElem (by have := HN.out; omega)⟩
          obtain ⟨hqo, hq1, hq2, hq3⟩ := HOK.out q (List.mem_of_getElem? hq)
          obtain ⟨sb, so, rfl, hrow⟩ : ∃ sb so, a = some ⟨sb, so, none⟩ ∧ ∀ (j : Nat) u, (qC q)[j]? = some u → w.cell? ⟨sb, so + i * 6 + j, none⟩ = some u := by
            obtain ⟨a', c', hv, h1, h2, h3⟩ := HV.out
            cases hv
            rcases h3 with h3 | ⟨b', o, ha, hc⟩
            · rw [List.map_eq_nil_iff.1 h3] at hq; simp at hq
            · exact ⟨b', o, ha, fun j u hj => hc i _ (by rw [List.getElem?_map, hq]; rfl) j u hj⟩
          obtain ⟨⟨tm, kd, cl, sq, d, mb⟩, dv, mv⟩ := q
          obtain ⟨da, dn, dc, rfl⟩ : ∃ a n c, dv = .slice a n c := by obtain ⟨a, c, h, -⟩ := hqo.data; exact ⟨_, _, _, h⟩
          obtain ⟨ma, mn, mc, rfl⟩ : ∃ a n c, mv = .slice a n c := hqo.mem
          dsimp only at hq1 hq2 hq3
          have HKC0 : Hid (∀ W, Ext w W → W.cell? ⟨sb, so + i * 6, none⟩ = some (.int .u64 tm) ∧ W.cell? ⟨sb, so + i * 6 + 1, none⟩ = some (.int .i64 kd) ∧ W.cell? ⟨sb, so + i * 6 + 2, none⟩ = some (.int .u64 cl) ∧ W.cell? ⟨sb, so + i * 6 + 3, none⟩ = some (.int .u64 sq) ∧ W.cell? ⟨sb, so + i * 6 + 4, none⟩ = some (.slice da dn dc) ∧ W.cell? ⟨sb, so + i * 6 + 5, none⟩ = some (.slice ma mn mc)) :=
            Lib.hid fun W hE => ⟨hE.cell (hrow 0 _ rfl), hE.cell (hrow 1 _ rfl), hE.cell (hrow 2 _ rfl), hE.cell (hrow 3 _ rfl), hE.cell (hrow 4 _ rfl), hE.cell (hrow 5 _ rfl)⟩
          obtain ⟨⟨xb, xn, xf⟩, hX⟩ : ∃ X, X = applyP b kd cl sq d := ⟨_, rfl⟩
          have hgood := HG.out
          have HAP0 : Hid (∀ v W, BookT W v b → Ext w W → Calls Try.prog 8 #[v, .agg #[.int .u64 tm, .int .i64 kd, .int .u64 cl, .int .u64 sq, .slice da dn dc, .slice ma mn mc]] W fun e w' => ∃ v', e = .returned (.tuple #[v', .int .u64 xn, .int .i64 xf]) ∧ NewBk W.heap.size w' v' xb ∧ Ext W w') := Lib.hid fun v W hb hE => by
            have := apply_c v (.slice da dn dc) (.slice ma mn mc) b tm kd cl sq d W hb.book hgood.ok.rise hgood.ok.bd (by have := hgood.ok.clients; omega) hgood.ok.slots (hqo.data.ext hE) hqo.len ⟨_, _, _, rfl⟩
            rw [← hX] at this
            exact this
          have HGX : Hid (Good xb) := Lib.hid (by have := hgood.apply kd hq1 hq2 hq3; rw [← hX] at this; exact this)
          clear hgood hX hq hrow hqo hq1 hq2 hq3
          obtain ⟨a1, n1, c1, a2, n2, c2, h1, h2⟩ := HS.out.shapeA
          have HBX := Lib.hid h1
          have HAP := Lib.hid fun W (h : Ext wc W) (h' : Ext w W) => HAP0.out _ W (h2.ext h) h'
          clear h1 h2
          go_upto_region 20 with fail
          apply Mono4.Chain.walkN (fun _ _ => False) 13 ⟨Ext, fun _ W W' => Chg [T5] W W' ∧ ∃ c, Blk W T5 c 27, fun c W => if c = 0 then SplS w W T5 T6 b b ∧ Ext wc W else SplS w W T5 T6 xb b, [10]⟩
            [.is _, .is _, .is _, .is _, .is _, .rel (fun v W => ∃ v', v = .tuple #[v', .int .u64 xn, .int .i64 xf] ∧ BookT W v' xb), .rel (fun v W => ∃ v', v = .tuple #[v', .int .u64 xn, .int .i64 xf] ∧ BookT W v' xb), .rel (fun v W => BookT W v xb), .is (.int .u64 xn), .is (.int .i64 xf), .rel (fun _ _ => True), .is (.int .u64 xn), .is (.int .i64 xf)] (by kernel_rfl)
            (fun c W W' h hE => (by dsimp only at h ⊢; split at h; (rename_i hc; rw [if_pos hc]; exact ⟨h.1.ext' hE, h.2.trans hE⟩); (rename_i hc; rw [if_neg hc]; exact h.ext' hE))) ⟨HS.out.ext' (Ext.drew _), Ext.drew _⟩ (by kernel_rfl) [10] rfl (by kernel_rfl) (fun i hi S hS => (by simp at hi; subst hi; cases hS; exact fun _ _ => trivial)) rfl
            ⟨⟨fun _ _ _ h hE => (by obtain ⟨v', h1, h2⟩ := h; exact ⟨v', h1, h2.ext hE⟩), fun _ _ _ _ _ _ h hA => (by obtain ⟨v', h1, h2⟩ := h; exact ⟨v', h1, h2.chg hA.1 (fun t ht => by simp at ht; subst ht; exact hA.2)⟩)⟩,
              ⟨fun _ _ _ h hE => (by obtain ⟨v', h1, h2⟩ := h; exact ⟨v', h1, h2.ext hE⟩), fun _ _ _ _ _ _ h hA => (by obtain ⟨v', h1, h2⟩ := h; exact ⟨v', h1, h2.chg hA.1 (fun t ht => by simp at ht; subst ht; exact hA.2)⟩)⟩,
              ⟨fun _ _ _ h hE => h.ext hE, fun _ _ _ _ _ _ h hA => h.chg hA.1 (fun t ht => by simp at ht; subst ht; exact hA.2)⟩, ⟨fun _ _ _ _ _ => trivial, fun _ _ _ _ _ _ _ _ => trivial⟩, trivial⟩ (fun _ _ _ h => h.elim)
          focus
            apply Mono4.Chain.step_is
            · refine Mono4.Chain.obl_at 0 (by kernel_rfl) (by kernel_rfl) (by kernel_rfl) fun w9 hst hkn K hK => ?_
              have HB9 := Lib.hid (HBX.out.ext hst.2)
              clear hst hkn
              go_wp2_with (first | (refine wpList_load_row rfl 27 (.tmp 5) rfl T5 rfl 27 _ (0, 0) _ HB9.out Try.underlying27 rfl (by kernel_rfl) ?_))
              simp only [Act.put, List.setIfInBounds_toArray, List.set_cons_succ, List.set_cons_zero] at hK ⊢
              exact hK _ _ (Ext.refl _) (Mono4.is_rfl _ _)
            simp only [Act.put, List.setIfInBounds_toArray, List.set_cons_succ, List.set_cons_zero]
            iterate 3 (apply Mono4.Chain.step_is; (· refine Mono4.Chain.obl_at 0 (by kernel_rfl) (by kernel_rfl) (by kernel_rfl) fun w9 hst hkn K hK => ?_; clear hst hkn; go_wp2_with fail; simp only [Act.put, List.setIfInBounds_toArray, List.set_cons_succ, List.set_cons_zero] at hK; exact hK _ _ (Ext.refl _) (Mono4.is_rfl _ _)); simp only [Act.put, List.setIfInBounds_toArray, List.set_cons_succ, List.set_cons_zero])
            apply Mono4.Chain.step_is
            · refine Mono4.Chain.obl_at 0 (by kernel_rfl) (by kernel_rfl) (by kernel_rfl) fun w9 hst hkn K hK => ?_
              obtain ⟨k0, k1, k2, k3, k4, k5⟩ := HKC0.out w9 hst.1.ext
              clear hst hkn
              go_wp2_with fail
              simp only [Act.put, List.setIfInBounds_toArray, List.set_cons_succ, List.set_cons_zero] at hK
              exact hK _ _ (Ext.refl _) (Mono4.is_rfl _ _)
            simp only [Act.put, List.setIfInBounds_toArray, List.set_cons_succ, List.set_cons_zero]
            refine Mono4.Chain.step_rel (Mono4.Chain.obl_at 0 (by kernel_rfl) (by kernel_rfl) (by kernel_rfl) fun w9 hst hkn K hK => ?_) fun v68 => ?_
            · have hap := HAP.out w9 hst.2 hst.1.ext
              clear hst hkn
              go_wp2_with fail
              refine hap.mono ?_
              rintro e w10 ⟨v', rfl, hn, hE10⟩
              have HN := Lib.hid (BookT.new hn); have HE10 := Lib.hid hE10
              clear hn hE10 hap
              go_wp2_with fail
              simp only [Act.put, List.setIfInBounds_toArray, List.set_cons_succ, List.set_cons_zero] at hK
              exact hK _ _ HE10.out (Mono4.rel_mk ⟨v', rfl, HN.out⟩)
            simp only [Act.put, List.setIfInBounds_toArray, List.set_cons_succ, List.set_cons_zero]
            refine Mono4.Chain.step_rel (Mono4.Chain.obl_at 0 (by kernel_rfl) (by kernel_rfl) (by kernel_rfl) fun w9 hst hkn K hK => ?_) fun v62 => ?_
            · obtain ⟨v', rfl, hn⟩ := hkn.1 (by kernel_rfl)
              have HN := Lib.hid hn
              clear hst hkn hn
              go_wp2_with fail
              simp only [Act.put, List.setIfInBounds_toArray, List.set_cons_succ, List.set_cons_zero] at hK
              exact hK _ _ (Ext.refl _) (Mono4.rel_mk ⟨v', rfl, HN.out⟩)
            simp only [Act.put, List.setIfInBounds_toArray, List.set_cons_succ, List.set_cons_zero]
            refine Mono4.Chain.step_rel (Mono4.Chain.obl_at 0 (by kernel_rfl) (by kernel_rfl) (by kernel_rfl) fun w9 hst hkn K hK => ?_) fun v69 => ?_
            · obtain ⟨v', rfl, hn⟩ := hkn.2.1 (by kernel_rfl)
              have HN := Lib.hid hn
              clear hst hkn hn
              go_wp2_with fail
              simp only [Act.put, List.setIfInBounds_toArray, List.set_cons_succ, List.set_cons_zero] at hK
              exact hK _ _ (Ext.refl _) (Mono4.rel_mk HN.out)
            simp only [Act.put, List.setIfInBounds_toArray, List.set_cons_succ, List.set_cons_zero]
            iterate 2 (apply Mono4.Chain.step_is; (· refine Mono4.Chain.obl_quiet (by kernel_rfl) fun w9 c hlo hhi hst hkn K hK => ?_; (obtain ⟨v', rfl, hn⟩ := hkn.2.1 (by kernel_rfl)); clear hlo hhi hst hkn hn; go_wp2_with fail; simp only [Act.put, List.setIfInBounds_toArray, List.set_cons_succ, List.set_cons_zero] at hK; exact hK _ _ (Ext.refl _) (Mono4.is_rfl _ _)); simp only [Act.put, List.setIfInBounds_toArray, List.set_cons_succ, List.set_cons_zero])
            refine Mono4.Chain.step_rel (Mono4.Chain.obl_loud 0 (by kernel_rfl) (by kernel_rfl) (by kernel_rfl) fun w9 hst hkn K hK => ?_) fun v0 => ?_
            · have hn : BookT w9 v69 xb := hkn.2.2.1 (by kernel_rfl)
              obtain ⟨e1, e2, e3, e4, e5, e6, rfl⟩ := book_shape hn.book
              have HN := Lib.hid hn; have HST := Lib.hid hst.1
              obtain ⟨g1, g2, g3, g4, g5, g6, h1, h2⟩ := hst.1.shapeA
              have HBY := Lib.hid h1
              clear hst hkn hn h1 h2
              go_wp2_with (first | (refine wpList_store_row rfl 27 (.tmp 5) (.tmp 69) rfl T5 #[.slice e1 e2 e3, .slice e4 e5 e6] rfl rfl 27 _ HBY.out (book_size _ _) rfl (by simp [Value.oneCell']) ?_))
              simp only [Act.put, List.setIfInBounds_toArray, List.set_cons_succ, List.set_cons_zero] at hK ⊢
              exact hK undef _ ⟨Chg.some (grown_rowS w9 T5 _) (.inl (by simp)), _, HBY.out⟩ (HST.out.setA HN.out) trivial
            simp only [Act.put, List.setIfInBounds_toArray, List.set_cons_succ, List.set_cons_zero]
            iterate 2 (apply Mono4.Chain.step_is; (· refine Mono4.Chain.obl_quiet (by kernel_rfl) fun w9 c hlo hhi hst hkn K hK => ?_; clear hlo hhi hst hkn; go_wp2_with fail; simp only [Act.put, List.setIfInBounds_toArray, List.set_cons_succ, List.set_cons_zero] at hK; exact hK _ _ (Ext.refl _) (Mono4.is_rfl _ _)); simp only [Act.put, List.setIfInBounds_toArray, List.set_cons_succ, List.set_cons_zero])
            refine Mono4.Chain.step_end fun w10 hst hkn => ?_
            simp only [List.drop_succ_cons, List.drop_zero]
            have HS2 := Lib.hid (show SplS w w10 T5 T6 xb b from hst)
            clear hst hkn
            obtain ⟨wd, hwd⟩ : ∃ W, W = w10 := ⟨_, rfl⟩
            subst hwd
            obtain ⟨a1, n1, c1, a2, n2, c2, h1, h2⟩ := HS2.out.shapeB
            have HBX := Lib.hid h1
            have HAP := Lib.hid fun W (h : Ext wd W) (h' : Ext w W) => HAP0.out _ W (h2.ext h) h'
            clear h1 h2
            go_upto_region 21 with fail
            apply Mono4.Chain.walkN (fun _ _ => False) 13 ⟨Ext, fun _ W W' => Chg [T6] W W' ∧ ∃ c, Blk W T6 c 27, fun c W => if c = 0 then SplS w W T5 T6 xb b ∧ Ext wd W else SplS w W T5 T6 xb xb, [10]⟩
              [.is _, .is _, .is _, .is _, .is _, .rel (fun v W => ∃ v', v = .tuple #[v', .int .u64 xn, .int .i64 xf] ∧ BookT W v' xb), .rel (fun v W => ∃ v', v = .tuple #[v', .int .u64 xn, .int .i64 xf] ∧ BookT W v' xb), .rel (fun v W => BookT W v xb), .is (.int .u64 xn), .is (.int .i64 xf), .rel (fun _ _ => True), .is (.int .u64 xn), .is (.int .i64 xf)] (by kernel_rfl)
              (fun c W W' h hE => (by dsimp only at h ⊢; split at h; (rename_i hc; rw [if_pos hc]; exact ⟨h.1.ext' hE, h.2.trans hE⟩); (rename_i hc; rw [if_neg hc]; exact h.ext' hE))) ⟨HS2.out.ext' (Ext.drew _), Ext.drew _⟩ (by kernel_rfl) [10] rfl (by kernel_rfl) (fun i hi S hS => (by simp at hi; subst hi; cases hS; exact fun _ _ => trivial)) rfl
              ⟨⟨fun _ _ _ h hE => (by obtain ⟨v', h1, h2⟩ := h; exact ⟨v', h1, h2.ext hE⟩), fun _ _ _ _ _ _ h hA => (by obtain ⟨v', h1, h2⟩ := h; exact ⟨v', h1, h2.chg hA.1 (fun t ht => by simp at ht; subst ht; exact hA.2)⟩)⟩,
                ⟨fun _ _ _ h hE => (by obtain ⟨v', h1, h2⟩ := h; exact ⟨v', h1, h2.ext hE⟩), fun _ _ _ _ _ _ h hA => (by obtain ⟨v', h1, h2⟩ := h; exact ⟨v', h1, h2.chg hA.1 (fun t ht => by simp at ht; subst ht; exact hA.2)⟩)⟩,
                ⟨fun _ _ _ h hE => h.ext hE, fun _ _ _ _ _ _ h hA => h.chg hA.1 (fun t ht => by simp at ht; subst ht; exact hA.2)⟩, ⟨fun _ _ _ _ _ => trivial, fun _ _ _ _ _ _ _ _ => trivial⟩, trivial⟩ (fun _ _ _ h => h.elim)
            focus
              apply Mono4.Chain.step_is
              · refine Mono4.Chain.obl_at 0 (by kernel_rfl) (by kernel_rfl) (by kernel_rfl) fun w9 hst hkn K hK => ?_
                have HB9 := Lib.hid (HBX.out.ext hst.2)
                clear hst hkn
                go_wp2_with (first | (refine wpList_load_row rfl 27 (.tmp 6) rfl T6 rfl 27 _ (0, 0) _ HB9.out Try.underlying27 rfl (by kernel_rfl) ?_))
                simp only [Act.put, List.setIfInBounds_toArray, List.set_cons_succ, List.set_cons_zero] at hK ⊢
                exact hK _ _ (Ext.refl _) (Mono4.is_rfl _ _)
              simp only [Act.put, List.setIfInBounds_toArray, List.set_cons_succ, List.set_cons_zero]
              iterate 3 (apply Mono4.Chain.step_is; (· refine Mono4.Chain.obl_at 0 (by kernel_rfl) (by kernel_rfl) (by kernel_rfl) fun w9 hst hkn K hK => ?_; clear hst hkn; go_wp2_with fail; simp only [Act.put, List.setIfInBounds_toArray, List.set_cons_succ, List.set_cons_zero] at hK; exact hK _ _ (Ext.refl _) (Mono4.is_rfl _ _)); simp only [Act.put, List.setIfInBounds_toArray, List.set_cons_succ, List.set_cons_zero])
              apply Mono4.Chain.step_is
              · refine Mono4.Chain.obl_at 0 (by kernel_rfl) (by kernel_rfl) (by kernel_rfl) fun w9 hst hkn K hK => ?_
                obtain ⟨k0, k1, k2, k3, k4, k5⟩ := HKC0.out w9 hst.1.ext
                clear hst hkn
                go_wp2_with fail
                simp only [Act.put, List.setIfInBounds_toArray, List.set_cons_succ, List.set_cons_zero] at hK
                exact hK _ _ (Ext.refl _) (Mono4.is_rfl _ _)
              simp only [Act.put, List.setIfInBounds_toArray, List.set_cons_succ, List.set_cons_zero]
              refine Mono4.Chain.step_rel (Mono4.Chain.obl_at 0 (by kernel_rfl) (by kernel_rfl) (by kernel_rfl) fun w9 hst hkn K hK => ?_) fun v68 => ?_
              · have hap := HAP.out w9 hst.2 hst.1.ext
                clear hst hkn
                go_wp2_with fail
                refine hap.mono ?_
                rintro e w10 ⟨v', rfl, hn, hE10⟩
                have HN := Lib.hid (BookT.new hn); have HE10 := Lib.hid hE10
                clear hn hE10 hap
                go_wp2_with fail
                simp only [Act.put, List.setIfInBounds_toArray, List.set_cons_succ, List.set_cons_zero] at hK
                exact hK _ _ HE10.out (Mono4.rel_mk ⟨v', rfl, HN.out⟩)
              simp only [Act.put, List.setIfInBounds_toArray, List.set_cons_succ, List.set_cons_zero]
              refine Mono4.Chain.step_rel (Mono4.Chain.obl_at 0 (by kernel_rfl) (by kernel_rfl) (by kernel_rfl) fun w9 hst hkn K hK => ?_) fun v62 => ?_
              · obtain ⟨v', rfl, hn⟩ := hkn.1 (by kernel_rfl)
                have HN := Lib.hid hn
                clear hst hkn hn
                go_wp2_with fail
                simp only [Act.put, List.setIfInBounds_toArray, List.set_cons_succ, List.set_cons_zero] at hK
                exact hK _ _ (Ext.refl _) (Mono4.rel_mk ⟨v', rfl, HN.out⟩)
              simp only [Act.put, List.setIfInBounds_toArray, List.set_cons_succ, List.set_cons_zero]
              refine Mono4.Chain.step_rel (Mono4.Chain.obl_at 0 (by kernel_rfl) (by kernel_rfl) (by kernel_rfl) fun w9 hst hkn K hK => ?_) fun v69 => ?_
              · obtain ⟨v', rfl, hn⟩ := hkn.2.1 (by kernel_rfl)
                have HN := Lib.hid hn
                clear hst hkn hn
                go_wp2_with fail
                simp only [Act.put, List.setIfInBounds_toArray, List.set_cons_succ, List.set_cons_zero] at hK
                exact hK _ _ (Ext.refl _) (Mono4.rel_mk HN.out)
              simp only [Act.put, List.setIfInBounds_toArray, List.set_cons_succ, List.set_cons_zero]
              iterate 2 (apply Mono4.Chain.step_is; (· refine Mono4.Chain.obl_quiet (by kernel_rfl) fun w9 c hlo hhi hst hkn K hK => ?_; (obtain ⟨v', rfl, hn⟩ := hkn.2.1 (by kernel_rfl)); clear hlo hhi hst hkn hn; go_wp2_with fail; simp only [Act.put, List.setIfInBounds_toArray, List.set_cons_succ, List.set_cons_zero] at hK; exact hK _ _ (Ext.refl _) (Mono4.is_rfl _ _)); simp only [Act.put, List.setIfInBounds_toArray, List.set_cons_succ, List.set_cons_zero])
              refine Mono4.Chain.step_rel (Mono4.Chain.obl_loud 0 (by kernel_rfl) (by kernel_rfl) (by kernel_rfl) fun w9 hst hkn K hK => ?_) fun v0 => ?_
              · have hn : BookT w9 v69 xb := hkn.2.2.1 (by kernel_rfl)
                obtain ⟨e1, e2, e3, e4, e5, e6, rfl⟩ := book_shape hn.book
                have HN := Lib.hid hn; have HST := Lib.hid hst.1
                obtain ⟨g1, g2, g3, g4, g5, g6, h1, h2⟩ := hst.1.shapeB
                have HBY := Lib.hid h1
                clear hst hkn hn h1 h2
                go_wp2_with (first | (refine wpList_store_row rfl 27 (.tmp 6) (.tmp 79) rfl T6 #[.slice e1 e2 e3, .slice e4 e5 e6] rfl rfl 27 _ HBY.out (book_size _ _) rfl (by simp [Value.oneCell']) ?_))
                simp only [Act.put, List.setIfInBounds_toArray, List.set_cons_succ, List.set_cons_zero] at hK ⊢
                exact hK undef _ ⟨Chg.some (grown_rowS w9 T6 _) (.inl (by simp)), _, HBY.out⟩ (HST.out.setB HN.out) trivial
              simp only [Act.put, List.setIfInBounds_toArray, List.set_cons_succ, List.set_cons_zero]
              iterate 2 (apply Mono4.Chain.step_is; (· refine Mono4.Chain.obl_quiet (by kernel_rfl) fun w9 c hlo hhi hst hkn K hK => ?_; clear hlo hhi hst hkn; go_wp2_with fail; simp only [Act.put, List.setIfInBounds_toArray, List.set_cons_succ, List.set_cons_zero] at hK; exact hK _ _ (Ext.refl _) (Mono4.is_rfl _ _)); simp only [Act.put, List.setIfInBounds_toArray, List.set_cons_succ, List.set_cons_zero])
              refine Mono4.Chain.step_end fun w10 hst hkn => ?_
              simp only [List.drop_succ_cons, List.drop_zero]
              have HS3 := Lib.hid (show SplS w w10 T5 T6 xb xb from hst)
              clear hst hkn
              go_wp2_with fail
              go_roundg (L - (i + 1))
              case measure => omega
              case rel => exact ⟨i + 1, xb, by go_num, by omega, HS3.out, HGX.out⟩
      · have hge : (L : Int) ≤ (i : Int) := by omega
        clear hi hiL
        obtain ⟨a1, n1, c1, a2, n2, c2, h1, h2⟩ := HS.out.shapeA
        obtain ⟨a3, n3, c3, a4, n4, c4, h3, h4⟩ := HS.out.shapeB
        have HB5 := Lib.hid h1; have HB6 := Lib.hid h3
        have HSM := Lib.hid (rsame25_c _ _ b wr h2.book h4.book)
        clear h1 h2 h3 h4
        go_wp2_with (first | (refine wpList_load_row rfl 27 (.tmp 5) rfl T5 rfl 27 _ (0, 0) _ HB5.out Try.underlying27 rfl (by kernel_rfl) ?_) | (refine wpList_load_row rfl 27 (.tmp 6) rfl T6 rfl 27 _ (0, 0) _ HB6.out Try.underlying27 rfl (by kernel_rfl) ?_))
        refine HSM.out.mono ?_
        rintro e w9 ⟨rfl, hE9⟩
        have HE9 := Lib.hid (HS.out.ext.trans hE9)
        clear hE9
        go_wp2_with fail
        go_ret
        exact ⟨rfl, HE9.out⟩
end Go.Proofs.Ytgefphfnicjbiaa
