/- Layer 25 (seq): SeqPlays. PRINTED BY gen/splays.py -/
import Derived.Test.YtgefphfnicjbiaaSqx
import Derived.Test.YtgefphfnicjbiaaSkv
set_option linter.unusedSimpArgs false
set_option linter.unusedVariables false
namespace Go.Proofs.Ytgefphfnicjbiaa
open Go Go.RowKit

set_option maxRecDepth 100000 in
set_option maxHeartbeats 8000000 in
theorem seqplays_c (v0 : Value) (qs : List QE) (w : World) (h : RowV w 6 v0 (qs.map qC)) (hok : ∀ q ∈ qs, QOk w q ∧ (U64 q.1.client ∧ U64 q.1.seq ∧ B8 q.1.data)) :
    Calls Try.prog 5 #[v0] w (RetE (.bool true) w) := by
  have haw := fun w => awake25_c w
  obtain ⟨a, c, rfl, hc1, hc2⟩ := h.shape
  have HV := Lib.hid h; have HOK := Lib.hid hok; have HAW := Lib.hid haw
  rw [List.length_map] at hc1 ⊢
  obtain ⟨N, hN⟩ : ∃ N, N = qs.length := ⟨_, rfl⟩
  rw [← hN] at hc1 ⊢
  have HN := Lib.hid hN
  clear h hok haw hN
  go_enter Try.func5, Try.ntmps5
  go_wp2_with fail
  refine (HAW.out _).mono ?_
  rintro e w1 ⟨rfl, hE1⟩
  have HE1 := Lib.hid hE1
  clear hE1
  go_upto_region 4 with fail
  obtain ⟨T5, hT5⟩ : ∃ T, T = w1.heap.size := ⟨_, rfl⟩
  have HS0 : Hid (SplS w ((w1.alloc (.cells #[.slice none 0 0, .slice none 0 0] 27)).alloc (.cells #[.slice none 0 0, .slice none 0 0] 27)) T5 (T5 + 1) ⟨[], []⟩ ⟨[], []⟩) := Lib.hid (by
    have hB := Blk.new (w1.alloc (.cells #[.slice none 0 0, .slice none 0 0] 27)) #[.slice none 0 0, .slice none 0 0] 27
    simp only [World.size_alloc] at hB
    have := HE1.out.size
    rw [hT5]
    exact ⟨(HE1.out.trans (Ext.alloc _ _)).trans (Ext.alloc _ _), ⟨_, _, (Blk.new w1 _ _).alloc _, BookT.nil _⟩, ⟨_, _, hB, BookT.nil _⟩, ⟨by omega, by omega, by omega⟩⟩)
  rw [← hT5]
  generalize (w1.alloc (.cells #[.slice none 0 0, .slice none 0 0] 27)).alloc (.cells #[.slice none 0 0, .slice none 0 0] 27) = W2 at *
  obtain ⟨T6, hT6⟩ : ∃ T, T = T5 + 1 := ⟨_, rfl⟩
  rw [← hT6] at HS0 ⊢
  clear hT5 hT6
  go_wp2_with fail
  go_loopg [5] N (fun g v5 wr => ∃ (i : Nat) (b : Bk), v5 = .int .i64 (i : Int) ∧ i + g = N ∧ SplS w wr T5 T6 b b ∧ Good b)
  case atStart => exact ⟨0, _, rfl, by omega, HS0.out, Good.nil⟩
  case round =>
    obtain ⟨i, b, rfl, hiL, hS, hG⟩ := hrel
    have HS := Lib.hid hS; have HG := Lib.hid hG
    clear hS HS0 hG
    by_cases hi : i < N ∧ i < 100
    · have hi' : (i : Int) < (N : Int) := by omega
      have hi2 : (i : Int) < 100 := by omega
      obtain ⟨hi, -⟩ := hi
      obtain ⟨wc, hwc⟩ : ∃ W, W = wr := ⟨_, rfl⟩
      subst hwc
      obtain ⟨q, hq⟩ : ∃ q, qs[i]? = some q := ⟨_, List.getElem?_eq_getElem (by have := HN.out; omega)⟩
      obtain ⟨hqo, hq1, hq2, hq3⟩ := HOK.out q (List.mem_of_getElem? hq)
      obtain ⟨sb, so, rfl, hrow⟩ : ∃ sb so, a = some ⟨sb, so, none⟩ ∧ ∀ (j : Nat) u, (qC q)[j]? = some u → w.cell? ⟨sb, so + i * 6 + j, none⟩ = some u := by
        obtain ⟨a', c', hv, h1, h2, h3⟩ := HV.out
        cases hv
        rcases h3 with h3 | ⟨b', o, ha, hc⟩
        · rw [List.map_eq_nil_iff.1 h3] at hq; simp at hq
        · exact ⟨b', o, ha, fun j u hj => hc i _ (by rw [List.getElem?_map, hq]; rfl) j u hj⟩
      obtain ⟨⟨tm, kd, cl, sq, d, mb⟩, dv, mv⟩ := q
      obtain ⟨da, dn, dc, rfl⟩ : ∃ a n c, dv = .slice a n c := by obtain ⟨a, c, h, -⟩ := hqo.data; exact ⟨_, _, _, h⟩
      obtain ⟨ma, mn, mc, rfl⟩ : ∃ a n c, mv = .slice a n c := hqo.mem
      dsimp only at hq1 hq2 hq3
      have HKC0 : Hid (∀ W, Ext w W → W.cell? ⟨sb, so + i * 6, none⟩ = some (.int .u64 tm) ∧ W.cell? ⟨sb, so + i * 6 + 1, none⟩ = some (.int .i64 kd) ∧ W.cell? ⟨sb, so + i * 6 + 2, none⟩ = some (.int .u64 cl) ∧ W.cell? ⟨sb, so + i * 6 + 3, none⟩ = some (.int .u64 sq) ∧ W.cell? ⟨sb, so + i * 6 + 4, none⟩ = some (.slice da dn dc) ∧ W.cell? ⟨sb, so + i * 6 + 5, none⟩ = some (.slice ma mn mc)) :=
        Lib.hid fun W hE => ⟨hE.cell (hrow 0 _ rfl), hE.cell (hrow 1 _ rfl), hE.cell (hrow 2 _ rfl), hE.cell (hrow 3 _ rfl), hE.cell (hrow 4 _ rfl), hE.cell (hrow 5 _ rfl)⟩
      obtain ⟨⟨xb, xn, xf⟩, hX⟩ : ∃ X, X = applyP b kd cl sq d := ⟨_, rfl⟩
      have hgood := HG.out
      have HAP0 : Hid (∀ v W, BookT W v b → Ext w W → Calls Try.prog 8 #[v, .agg #[.int .u64 tm, .int .i64 kd, .int .u64 cl, .int .u64 sq, .slice da dn dc, .slice ma mn mc]] W fun e w' => ∃ v', e = .returned (.tuple #[v', .int .u64 xn, .int .i64 xf]) ∧ NewBk W.heap.size w' v' xb ∧ Ext W w') := Lib.hid fun v W hb hE => by
        have := apply_c v (.slice da dn dc) (.slice ma mn mc) b tm kd cl sq d W hb.book hgood.ok.rise hgood.ok.bd (by have := hgood.ok.clients; omega) hgood.ok.slots (hqo.data.ext hE) hqo.len ⟨_, _, _, rfl⟩
        rw [← hX] at this
        exact this
      have HAR0 : Hid (∀ v W, BookT W v b → Ext w W → Calls Try.prog 13 #[v, .agg #[.int .u64 tm, .int .i64 kd, .int .u64 cl, .int .u64 sq, .slice da dn dc, .slice ma mn mc]] W fun e w' => ∃ v', e = .returned (.tuple #[v', .int .u64 xn, .int .i64 xf]) ∧ NewBk W.heap.size w' v' xb ∧ Ext W w') := Lib.hid fun v W hb hE => by
        have := rapply_c v (.slice da dn dc) (.slice ma mn mc) b tm kd cl sq d W hb.book hgood.ok (hqo.data.ext hE) hqo.len ⟨_, _, _, rfl⟩
        rw [← hX] at this
        exact this
      have HGX : Hid (Good xb) := Lib.hid (by have := hgood.apply kd hq1 hq2 hq3; rw [← hX] at this; exact this)
      clear hgood hX hq hrow hqo hq1 hq2 hq3
      obtain ⟨a1, n1, c1, a2, n2, c2, h1, h2⟩ := HS.out.shapeA
      have HBX := Lib.hid h1
      have HAP := Lib.hid fun W (h : Ext wc W) (h' : Ext w W) => HAP0.out _ W (h2.ext h) h'
      clear h1 h2
      go_upto_region 9 with fail
      apply Mono4.Chain.walkN (fun _ _ => False) 13 ⟨Ext, fun _ W W' => Chg [T5] W W' ∧ ∃ c, Blk W T5 c 27, fun c W => if c = 0 then SplS w W T5 T6 b b ∧ Ext wc W else SplS w W T5 T6 xb b, [10]⟩
        [.is _, .is _, .is _, .is _, .is _, .rel (fun v W => ∃ v', v = .tuple #[v', .int .u64 xn, .int .i64 xf] ∧ BookT W v' xb), .rel (fun v W => ∃ v', v = .tuple #[v', .int .u64 xn, .int .i64 xf] ∧ BookT W v' xb), .rel (fun v W => BookT W v xb), .is (.int .u64 xn), .is (.int .i64 xf), .rel (fun _ _ => True), .is (.int .u64 xn), .is (.int .i64 xf)] (by kernel_rfl)
        (fun c W W' h hE => (by dsimp only at h ⊢; split at h; (rename_i hc; rw [if_pos hc]; exact ⟨h.1.ext' hE, h.2.trans hE⟩); (rename_i hc; rw [if_neg hc]; exact h.ext' hE))) ⟨HS.out.ext' (Ext.drew _), Ext.drew _⟩ (by kernel_rfl) [10] rfl (by kernel_rfl) (fun i hi S hS => (by simp at hi; subst hi; cases hS; exact fun _ _ => trivial)) rfl
        ⟨⟨fun _ _ _ h hE => (by obtain ⟨v', h1, h2⟩ := h; exact ⟨v', h1, h2.ext hE⟩), fun _ _ _ _ _ _ h hA => (by obtain ⟨v', h1, h2⟩ := h; exact ⟨v', h1, h2.chg hA.1 (fun t ht => by simp at ht; subst ht; exact hA.2)⟩)⟩,
          ⟨fun _ _ _ h hE => (by obtain ⟨v', h1, h2⟩ := h; exact ⟨v', h1, h2.ext hE⟩), fun _ _ _ _ _ _ h hA => (by obtain ⟨v', h1, h2⟩ := h; exact ⟨v', h1, h2.chg hA.1 (fun t ht => by simp at ht; subst ht; exact hA.2)⟩)⟩,
          ⟨fun _ _ _ h hE => h.ext hE, fun _ _ _ _ _ _ h hA => h.chg hA.1 (fun t ht => by simp at ht; subst ht; exact hA.2)⟩, ⟨fun _ _ _ _ _ => trivial, fun _ _ _ _ _ _ _ _ => trivial⟩, trivial⟩ (fun _ _ _ h => h.elim)
      focus
        apply Mono4.Chain.step_is
        · refine Mono4.Chain.obl_at 0 (by kernel_rfl) (by kernel_rfl) (by kernel_rfl) fun w9 hst hkn K hK => ?_
          have HB9 := Lib.hid (HBX.out.ext hst.2)
          clear hst hkn
          go_wp2_with (first | (refine wpList_load_row rfl 27 (.tmp 3) rfl T5 rfl 27 _ (0, 0) _ HB9.out Try.underlying27 rfl (by kernel_rfl) ?_))
          simp only [Act.put, List.setIfInBounds_toArray, List.set_cons_succ, List.set_cons_zero] at hK ⊢
          exact hK _ _ (Ext.refl _) (Mono4.is_rfl _ _)
        simp only [Act.put, List.setIfInBounds_toArray, List.set_cons_succ, List.set_cons_zero]
        iterate 3 (apply Mono4.Chain.step_is; (· refine Mono4.Chain.obl_at 0 (by kernel_rfl) (by kernel_rfl) (by kernel_rfl) fun w9 hst hkn K hK => ?_; clear hst hkn; go_wp2_with fail; simp only [Act.put, List.setIfInBounds_toArray, List.set_cons_succ, List.set_cons_zero] at hK; exact hK _ _ (Ext.refl _) (Mono4.is_rfl _ _)); simp only [Act.put, List.setIfInBounds_toArray, List.set_cons_succ, List.set_cons_zero])
        apply Mono4.Chain.step_is
        · refine Mono4.Chain.obl_at 0 (by kernel_rfl) (by kernel_rfl) (by kernel_rfl) fun w9 hst hkn K hK => ?_
          obtain ⟨k0, k1, k2, k3, k4, k5⟩ := HKC0.out w9 hst.1.ext
          clear hst hkn
          go_wp2_with fail
          simp only [Act.put, List.setIfInBounds_toArray, List.set_cons_succ, List.set_cons_zero] at hK
          exact hK _ _ (Ext.refl _) (Mono4.is_rfl _ _)
        simp only [Act.put, List.setIfInBounds_toArray, List.set_cons_succ, List.set_cons_zero]
        refine Mono4.Chain.step_rel (Mono4.Chain.obl_at 0 (by kernel_rfl) (by kernel_rfl) (by kernel_rfl) fun w9 hst hkn K hK => ?_) fun v68 => ?_
        · have hap := HAP.out w9 hst.2 hst.1.ext
          clear hst hkn
          go_wp2_with fail
          refine hap.mono ?_
          rintro e w10 ⟨v', rfl, hn, hE10⟩
          have HN := Lib.hid (BookT.new hn); have HE10 := Lib.hid hE10
          clear hn hE10 hap
          go_wp2_with fail
          simp only [Act.put, List.setIfInBounds_toArray, List.set_cons_succ, List.set_cons_zero] at hK
          exact hK _ _ HE10.out (Mono4.rel_mk ⟨v', rfl, HN.out⟩)
        simp only [Act.put, List.setIfInBounds_toArray, List.set_cons_succ, List.set_cons_zero]
        refine Mono4.Chain.step_rel (Mono4.Chain.obl_at 0 (by kernel_rfl) (by kernel_rfl) (by kernel_rfl) fun w9 hst hkn K hK => ?_) fun v62 => ?_
        · obtain ⟨v', rfl, hn⟩ := hkn.1 (by kernel_rfl)
          have HN := Lib.hid hn
          clear hst hkn hn
          go_wp2_with fail
          simp only [Act.put, List.setIfInBounds_toArray, List.set_cons_succ, List.set_cons_zero] at hK
          exact hK _ _ (Ext.refl _) (Mono4.rel_mk ⟨v', rfl, HN.out⟩)
        simp only [Act.put, List.setIfInBounds_toArray, List.set_cons_succ, List.set_cons_zero]
        refine Mono4.Chain.step_rel (Mono4.Chain.obl_at 0 (by kernel_rfl) (by kernel_rfl) (by kernel_rfl) fun w9 hst hkn K hK => ?_) fun v69 => ?_
        · obtain ⟨v', rfl, hn⟩ := hkn.2.1 (by kernel_rfl)
          have HN := Lib.hid hn
          clear hst hkn hn
          go_wp2_with fail
          simp only [Act.put, List.setIfInBounds_toArray, List.set_cons_succ, List.set_cons_zero] at hK
          exact hK _ _ (Ext.refl _) (Mono4.rel_mk HN.out)
        simp only [Act.put, List.setIfInBounds_toArray, List.set_cons_succ, List.set_cons_zero]
        iterate 2 (apply Mono4.Chain.step_is; (· refine Mono4.Chain.obl_quiet (by kernel_rfl) fun w9 c hlo hhi hst hkn K hK => ?_; (obtain ⟨v', rfl, hn⟩ := hkn.2.1 (by kernel_rfl)); clear hlo hhi hst hkn hn; go_wp2_with fail; simp only [Act.put, List.setIfInBounds_toArray, List.set_cons_succ, List.set_cons_zero] at hK; exact hK _ _ (Ext.refl _) (Mono4.is_rfl _ _)); simp only [Act.put, List.setIfInBounds_toArray, List.set_cons_succ, List.set_cons_zero])
        refine Mono4.Chain.step_rel (Mono4.Chain.obl_loud 0 (by kernel_rfl) (by kernel_rfl) (by kernel_rfl) fun w9 hst hkn K hK => ?_) fun v0 => ?_
        · have hn : BookT w9 v69 xb := hkn.2.2.1 (by kernel_rfl)
          obtain ⟨e1, e2, e3, e4, e5, e6, rfl⟩ := book_shape hn.book
          have HN := Lib.hid hn; have HST := Lib.hid hst.1
          obtain ⟨g1, g2, g3, g4, g5, g6, h1, h2⟩ := hst.1.shapeA
          have HBY := Lib.hid h1
          clear hst hkn hn h1 h2
          go_wp2_with (first | (refine wpList_store_row rfl 27 (.tmp 3) (.tmp 29) rfl T5 #[.slice e1 e2 e3, .slice e4 e5 e6] rfl rfl 27 _ HBY.out (book_size _ _) rfl (by simp [Value.oneCell']) ?_))
          simp only [Act.put, List.setIfInBounds_toArray, List.set_cons_succ, List.set_cons_zero] at hK ⊢
          exact hK undef _ ⟨Chg.some (grown_rowS w9 T5 _) (.inl (by simp)), _, HBY.out⟩ (HST.out.setA HN.out) trivial
        simp only [Act.put, List.setIfInBounds_toArray, List.set_cons_succ, List.set_cons_zero]
        iterate 2 (apply Mono4.Chain.step_is; (· refine Mono4.Chain.obl_quiet (by kernel_rfl) fun w9 c hlo hhi hst hkn K hK => ?_; clear hlo hhi hst hkn; go_wp2_with fail; simp only [Act.put, List.setIfInBounds_toArray, List.set_cons_succ, List.set_cons_zero] at hK; exact hK _ _ (Ext.refl _) (Mono4.is_rfl _ _)); simp only [Act.put, List.setIfInBounds_toArray, List.set_cons_succ, List.set_cons_zero])
        refine Mono4.Chain.step_end fun w10 hst hkn => ?_
        simp only [List.drop_succ_cons, List.drop_zero]
        have HS2 := Lib.hid (show SplS w w10 T5 T6 xb b from hst)
        clear hst hkn
        obtain ⟨wd, hwd⟩ : ∃ W, W = w10 := ⟨_, rfl⟩
        subst hwd
        obtain ⟨a1, n1, c1, a2, n2, c2, h1, h2⟩ := HS2.out.shapeB
        have HBX := Lib.hid h1
        have HAP := Lib.hid fun W (h : Ext wd W) (h' : Ext w W) => HAR0.out _ W (h2.ext h) h'
        clear h1 h2
        go_upto_region 10 with fail
        apply Mono4.Chain.walkN (fun _ _ => False) 13 ⟨Ext, fun _ W W' => Chg [T6] W W' ∧ ∃ c, Blk W T6 c 27, fun c W => if c = 0 then SplS w W T5 T6 xb b ∧ Ext wd W else SplS w W T5 T6 xb xb, [10]⟩
          [.is _, .is _, .is _, .is _, .is _, .rel (fun v W => ∃ v', v = .tuple #[v', .int .u64 xn, .int .i64 xf] ∧ BookT W v' xb), .rel (fun v W => ∃ v', v = .tuple #[v', .int .u64 xn, .int .i64 xf] ∧ BookT W v' xb), .rel (fun v W => BookT W v xb), .is (.int .u64 xn), .is (.int .i64 xf), .rel (fun _ _ => True), .is (.int .u64 xn), .is (.int .i64 xf)] (by kernel_rfl)
          (fun c W W' h hE => (by dsimp only at h ⊢; split at h; (rename_i hc; rw [if_pos hc]; exact ⟨h.1.ext' hE, h.2.trans hE⟩); (rename_i hc; rw [if_neg hc]; exact h.ext' hE))) ⟨HS2.out.ext' (Ext.drew _), Ext.drew _⟩ (by kernel_rfl) [10] rfl (by kernel_rfl) (fun i hi S hS => (by simp at hi; subst hi; cases hS; exact fun _ _ => trivial)) rfl
          ⟨⟨fun _ _ _ h hE => (by obtain ⟨v', h1, h2⟩ := h; exact ⟨v', h1, h2.ext hE⟩), fun _ _ _ _ _ _ h hA => (by obtain ⟨v', h1, h2⟩ := h; exact ⟨v', h1, h2.chg hA.1 (fun t ht => by simp at ht; subst ht; exact hA.2)⟩)⟩,
            ⟨fun _ _ _ h hE => (by obtain ⟨v', h1, h2⟩ := h; exact ⟨v', h1, h2.ext hE⟩), fun _ _ _ _ _ _ h hA => (by obtain ⟨v', h1, h2⟩ := h; exact ⟨v', h1, h2.chg hA.1 (fun t ht => by simp at ht; subst ht; exact hA.2)⟩)⟩,
            ⟨fun _ _ _ h hE => h.ext hE, fun _ _ _ _ _ _ h hA => h.chg hA.1 (fun t ht => by simp at ht; subst ht; exact hA.2)⟩, ⟨fun _ _ _ _ _ => trivial, fun _ _ _ _ _ _ _ _ => trivial⟩, trivial⟩ (fun _ _ _ h => h.elim)
        focus
          apply Mono4.Chain.step_is
          · refine Mono4.Chain.obl_at 0 (by kernel_rfl) (by kernel_rfl) (by kernel_rfl) fun w9 hst hkn K hK => ?_
            have HB9 := Lib.hid (HBX.out.ext hst.2)
            clear hst hkn
            go_wp2_with (first | (refine wpList_load_row rfl 27 (.tmp 4) rfl T6 rfl 27 _ (0, 0) _ HB9.out Try.underlying27 rfl (by kernel_rfl) ?_))
            simp only [Act.put, List.setIfInBounds_toArray, List.set_cons_succ, List.set_cons_zero] at hK ⊢
            exact hK _ _ (Ext.refl _) (Mono4.is_rfl _ _)
          simp only [Act.put, List.setIfInBounds_toArray, List.set_cons_succ, List.set_cons_zero]
          iterate 3 (apply Mono4.Chain.step_is; (· refine Mono4.Chain.obl_at 0 (by kernel_rfl) (by kernel_rfl) (by kernel_rfl) fun w9 hst hkn K hK => ?_; clear hst hkn; go_wp2_with fail; simp only [Act.put, List.setIfInBounds_toArray, List.set_cons_succ, List.set_cons_zero] at hK; exact hK _ _ (Ext.refl _) (Mono4.is_rfl _ _)); simp only [Act.put, List.setIfInBounds_toArray, List.set_cons_succ, List.set_cons_zero])
          apply Mono4.Chain.step_is
          · refine Mono4.Chain.obl_at 0 (by kernel_rfl) (by kernel_rfl) (by kernel_rfl) fun w9 hst hkn K hK => ?_
            obtain ⟨k0, k1, k2, k3, k4, k5⟩ := HKC0.out w9 hst.1.ext
            clear hst hkn
            go_wp2_with fail
            simp only [Act.put, List.setIfInBounds_toArray, List.set_cons_succ, List.set_cons_zero] at hK
            exact hK _ _ (Ext.refl _) (Mono4.is_rfl _ _)
          simp only [Act.put, List.setIfInBounds_toArray, List.set_cons_succ, List.set_cons_zero]
          refine Mono4.Chain.step_rel (Mono4.Chain.obl_at 0 (by kernel_rfl) (by kernel_rfl) (by kernel_rfl) fun w9 hst hkn K hK => ?_) fun v68 => ?_
          · have hap := HAP.out w9 hst.2 hst.1.ext
            clear hst hkn
            go_wp2_with fail
            refine hap.mono ?_
            rintro e w10 ⟨v', rfl, hn, hE10⟩
            have HN := Lib.hid (BookT.new hn); have HE10 := Lib.hid hE10
            clear hn hE10 hap
            go_wp2_with fail
            simp only [Act.put, List.setIfInBounds_toArray, List.set_cons_succ, List.set_cons_zero] at hK
            exact hK _ _ HE10.out (Mono4.rel_mk ⟨v', rfl, HN.out⟩)
          simp only [Act.put, List.setIfInBounds_toArray, List.set_cons_succ, List.set_cons_zero]
          refine Mono4.Chain.step_rel (Mono4.Chain.obl_at 0 (by kernel_rfl) (by kernel_rfl) (by kernel_rfl) fun w9 hst hkn K hK => ?_) fun v62 => ?_
          · obtain ⟨v', rfl, hn⟩ := hkn.1 (by kernel_rfl)
            have HN := Lib.hid hn
            clear hst hkn hn
            go_wp2_with fail
            simp only [Act.put, List.setIfInBounds_toArray, List.set_cons_succ, List.set_cons_zero] at hK
            exact hK _ _ (Ext.refl _) (Mono4.rel_mk ⟨v', rfl, HN.out⟩)
          simp only [Act.put, List.setIfInBounds_toArray, List.set_cons_succ, List.set_cons_zero]
          refine Mono4.Chain.step_rel (Mono4.Chain.obl_at 0 (by kernel_rfl) (by kernel_rfl) (by kernel_rfl) fun w9 hst hkn K hK => ?_) fun v69 => ?_
          · obtain ⟨v', rfl, hn⟩ := hkn.2.1 (by kernel_rfl)
            have HN := Lib.hid hn
            clear hst hkn hn
            go_wp2_with fail
            simp only [Act.put, List.setIfInBounds_toArray, List.set_cons_succ, List.set_cons_zero] at hK
            exact hK _ _ (Ext.refl _) (Mono4.rel_mk HN.out)
          simp only [Act.put, List.setIfInBounds_toArray, List.set_cons_succ, List.set_cons_zero]
          iterate 2 (apply Mono4.Chain.step_is; (· refine Mono4.Chain.obl_quiet (by kernel_rfl) fun w9 c hlo hhi hst hkn K hK => ?_; (obtain ⟨v', rfl, hn⟩ := hkn.2.1 (by kernel_rfl)); clear hlo hhi hst hkn hn; go_wp2_with fail; simp only [Act.put, List.setIfInBounds_toArray, List.set_cons_succ, List.set_cons_zero] at hK; exact hK _ _ (Ext.refl _) (Mono4.is_rfl _ _)); simp only [Act.put, List.setIfInBounds_toArray, List.set_cons_succ, List.set_cons_zero])
          refine Mono4.Chain.step_rel (Mono4.Chain.obl_loud 0 (by kernel_rfl) (by kernel_rfl) (by kernel_rfl) fun w9 hst hkn K hK => ?_) fun v0 => ?_
          · have hn : BookT w9 v69 xb := hkn.2.2.1 (by kernel_rfl)
            obtain ⟨e1, e2, e3, e4, e5, e6, rfl⟩ := book_shape hn.book
            have HN := Lib.hid hn; have HST := Lib.hid hst.1
            obtain ⟨g1, g2, g3, g4, g5, g6, h1, h2⟩ := hst.1.shapeB
            have HBY := Lib.hid h1
            clear hst hkn hn h1 h2
            go_wp2_with (first | (refine wpList_store_row rfl 27 (.tmp 4) (.tmp 39) rfl T6 #[.slice e1 e2 e3, .slice e4 e5 e6] rfl rfl 27 _ HBY.out (book_size _ _) rfl (by simp [Value.oneCell']) ?_))
            simp only [Act.put, List.setIfInBounds_toArray, List.set_cons_succ, List.set_cons_zero] at hK ⊢
            exact hK undef _ ⟨Chg.some (grown_rowS w9 T6 _) (.inl (by simp)), _, HBY.out⟩ (HST.out.setB HN.out) trivial
          simp only [Act.put, List.setIfInBounds_toArray, List.set_cons_succ, List.set_cons_zero]
          iterate 2 (apply Mono4.Chain.step_is; (· refine Mono4.Chain.obl_quiet (by kernel_rfl) fun w9 c hlo hhi hst hkn K hK => ?_; clear hlo hhi hst hkn; go_wp2_with fail; simp only [Act.put, List.setIfInBounds_toArray, List.set_cons_succ, List.set_cons_zero] at hK; exact hK _ _ (Ext.refl _) (Mono4.is_rfl _ _)); simp only [Act.put, List.setIfInBounds_toArray, List.set_cons_succ, List.set_cons_zero])
          refine Mono4.Chain.step_end fun w10 hst hkn => ?_
          simp only [List.drop_succ_cons, List.drop_zero]
          have HS3 := Lib.hid (show SplS w w10 T5 T6 xb xb from hst)
          clear hst hkn
          obtain ⟨a3, n3, c3, a4, n4, c4, h3, h4⟩ := HS3.out.shapeA
          have hgood := HGX.out
          have hfm := kformed_c (.agg #[.slice a3 n3 c3, .slice a4 n4 c4]) xb w10 h4.book hgood.u (by have := hgood.size; omega)
          rw [hgood.fm] at hfm
          have HB6 := Lib.hid h3; have HFM := Lib.hid hfm
          clear h3 h4 hfm hgood
          have k0 := HB6.out.cell 0 rfl; have k1 := HB6.out.cell 1 rfl
          simp only [List.getElem_toArray, List.getElem_cons_zero, List.getElem_cons_succ] at k0 k1
          go_wp2_with fail
          refine HFM.out.mono ?_
          rintro e w11 ⟨rfl, hE11⟩
          have HS4 := Lib.hid (HS3.out.ext' hE11)
          clear hE11 HFM k0 k1
          go_wp2_with fail
          go_roundg (N - (i + 1))
          case measure => omega
          case rel => exact ⟨i + 1, xb, by go_num, by omega, HS4.out, HGX.out⟩
    · have hge : (N : Int) ≤ (i : Int) ∨ (100 : Int) ≤ (i : Int) := by omega
      obtain ⟨a1, n1, c1, a2, n2, c2, h1, h2⟩ := HS.out.shapeA
      obtain ⟨a3, n3, c3, a4, n4, c4, h3, h4⟩ := HS.out.shapeB
      have HB5 := Lib.hid h1; have HB6 := Lib.hid h3
      have HSM := Lib.hid (rsame25_c _ _ b wr h2.book h4.book)
      clear h1 h2 h3 h4 hi hiL
      rcases hge with hge | hge
      · go_wp2_with (first | (refine wpList_load_row rfl 27 (.tmp 3) rfl T5 rfl 27 _ (0, 0) _ HB5.out Try.underlying27 rfl (by kernel_rfl) ?_) | (refine wpList_load_row rfl 27 (.tmp 4) rfl T6 rfl 27 _ (0, 0) _ HB6.out Try.underlying27 rfl (by kernel_rfl) ?_))
        refine HSM.out.mono ?_
        rintro e w9 ⟨rfl, hE9⟩
        have HE9 := Lib.hid (HS.out.ext.trans hE9)
        clear hE9
        go_wp2_with fail
        go_ret
        exact ⟨rfl, HE9.out⟩
      · by_cases hge2 : (N : Int) ≤ (i : Int)
        · go_wp2_with (first | (refine wpList_load_row rfl 27 (.tmp 3) rfl T5 rfl 27 _ (0, 0) _ HB5.out Try.underlying27 rfl (by kernel_rfl) ?_) | (refine wpList_load_row rfl 27 (.tmp 4) rfl T6 rfl 27 _ (0, 0) _ HB6.out Try.underlying27 rfl (by kernel_rfl) ?_))
          refine HSM.out.mono ?_
          rintro e w9 ⟨rfl, hE9⟩
          have HE9 := Lib.hid (HS.out.ext.trans hE9)
          clear hE9
          go_wp2_with fail
          go_ret
          exact ⟨rfl, HE9.out⟩
        · have hlt2 : (i : Int) < (N : Int) := by omega
          clear hge2
          go_wp2_with (first | (refine wpList_load_row rfl 27 (.tmp 3) rfl T5 rfl 27 _ (0, 0) _ HB5.out Try.underlying27 rfl (by kernel_rfl) ?_) | (refine wpList_load_row rfl 27 (.tmp 4) rfl T6 rfl 27 _ (0, 0) _ HB6.out Try.underlying27 rfl (by kernel_rfl) ?_))
          refine HSM.out.mono ?_
          rintro e w9 ⟨rfl, hE9⟩
          have HE9 := Lib.hid (HS.out.ext.trans hE9)
          clear hE9
          go_wp2_with fail
          go_ret
          exact ⟨rfl, HE9.out⟩
end Go.Proofs.Ytgefphfnicjbiaa
