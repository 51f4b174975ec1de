/- Layer 25 (seq): SeqOnce. -/
import Derived.Test.YtgefphfnicjbiaaBun6
import Derived.Test.YtgefphfnicjbiaaBun2
import Derived.Deep.CutBlock
set_option linter.unusedSimpArgs false
set_option linter.unusedVariables false
namespace Go.Proofs.Ytgefphfnicjbiaa
open Go Go.RowKit

theorem NewBk.offE {B t : Nat} {w w' : World} {v : Value} {b : Bk} {c : Array Value} (h : NewBk B w v b) (hC : Chg [t] w w') (hb : Blk w t c 32) : NewBk B w' v b := by
  obtain ⟨lv, cv, L, C, e, h1, h2, h3, h4, h5, h6, g1, g2, g3, g4⟩ := h
  have ne : ∀ {e : TypeId} {v : Value} {a : Addr} {n k : Nat}, SlB B w e v → e ≠ 32 → v = .slice (some a) n k → a.block ∉ [t] := fun h he hv hm => by
    obtain ⟨h1, cur, h2⟩ := h _ _ _ hv
    simp at hm; rw [hm] at h2; exact he (blk_type h2 hb)
  have off : ∀ {e : TypeId} {v : Value}, SlB B w e v → e ≠ 32 → SlB B w' e v := fun h he a n k hv => by
    obtain ⟨h1, cur, h2⟩ := h a n k hv
    exact ⟨h1, cur, h2.chg hC (ne h he hv)⟩
  exact ⟨lv, cv, L, C, e, h1, h2, h3.chg hC (fun a n c' hv _ => ne g1 (by decide) hv), h4.chg hC (fun a n c' hv _ => ne g2 (by decide) hv), fun q hq => (h5 q hq).chg hC (fun a n c' hv _ => ne (g3 q hq) (by decide) hv), fun q hq => (show RowV w 2 q.2 _ from h6 q hq).chg hC (fun a n c' hv _ => ne (g4 q hq) (by decide) hv),
    off g1 (by decide), off g2 (by decide), fun q hq => off (g3 q hq) (by decide), fun q hq => off (g4 q hq) (by decide)⟩
theorem NewBk.low {B B' : Nat} {w : World} {v : Value} {b : Bk} (h : NewBk B w v b) (hB : B' ≤ B) : NewBk B' w v b := by
  obtain ⟨lv, cv, L, C, e, h1, h2, h3, h4, h5, h6, g1, g2, g3, g4⟩ := h
  have low : ∀ {e : TypeId} {v : Value}, SlB B w e v → SlB B' w e v := fun h a n k hv => ⟨Nat.le_trans hB (h a n k hv).1, (h a n k hv).2⟩
  exact ⟨lv, cv, L, C, e, h1, h2, h3, h4, h5, h6, low g1, low g2, fun q hq => low (g3 q hq), fun q hq => low (g4 q hq)⟩
theorem NewBk.shape {B : Nat} {w : World} {lv cv : Value} {b : Bk} (h : NewBk B w (.agg #[lv, cv]) b) : ∃ la lc ca cc, lv = .slice la b.leaves.length lc ∧ cv = .slice ca b.clients.length cc ∧ b.leaves.length ≤ lc ∧ lc ≤ 9223372036854775807 ∧ b.clients.length ≤ cc ∧ cc ≤ 9223372036854775807 := by
  obtain ⟨lv', cv', L, C, e, h1, h2, h3, h4, -⟩ := h
  cases e
  obtain ⟨la, lc, e1, e2, e3⟩ := h3.shape
  obtain ⟨ca, cc, e4, e5, e6⟩ := h4.shape
  have l1 := congrArg List.length h1; have l2 := congrArg List.length h2
  simp only [List.length_map] at l1 l2 e1 e2 e4 e5
  rw [l1] at e1 e2; rw [l2] at e4 e5
  exact ⟨la, lc, ca, cc, e1, e4, e2, e3, e5, e6⟩
/-- A leaf of a book. -/
theorem NewBk.leafAt {B : Nat} {w : World} {la : Option Addr} {n c : Nat} {cv : Value} {b : Bk} (h : NewBk B w (.agg #[.slice la n c, cv]) b) {k : Nat} {l : List Int} (hk : b.leaves[k]? = some l) : ∃ sb so v, la = some ⟨sb, so, none⟩ ∧ w.cell? ⟨sb, so + k, none⟩ = some v ∧ Rd w v (u8s l) := by
  obtain ⟨lv', cv', L, C, e, h1, h2, h3, h4, h5, -⟩ := h
  cases e
  obtain ⟨q, hq⟩ : ∃ q, L[k]? = some q := by
    cases hq : L[k]? with
    | none => rw [← h1, List.getElem?_map, hq] at hk; cases hk
    | some q => exact ⟨q, rfl⟩
  rw [← h1, List.getElem?_map, hq] at hk
  obtain ⟨a', c', hv, e1, e2, e3⟩ := h3
  cases hv
  rcases e3 with e3 | ⟨b', o, rfl, hc⟩
  · rw [List.map_eq_nil_iff.1 e3] at hq; cases hq
  · refine ⟨b', o, q.2, rfl, ?_, ?_⟩
    · have := hc k (lfR q) (by rw [List.getElem?_map, hq]; rfl) 0 q.2 rfl
      simpa using this
    · have := h5 q (List.mem_of_getElem? hq)
      rw [show q.1 = l from Option.some.inj hk] at this
      exact this
theorem NewBk.offD {B B' s n : Nat} {w w' : World} {v dv : Value} {b : Bk} {xs : List Value} (h : NewBk B w v b) (ho : w.ownsRow B' 32 s dv n xs) (hC : Chg dv.ownBlock.toList w w') : NewBk B w' v b := by
  cases hd : dv.ownBlock with
  | none => rw [hd] at hC; exact h.ext (hC.toExt (by simp))
  | some t =>
    rw [hd] at hC
    obtain ⟨h1, h2, cur, h3⟩ := own_type ho t (by rw [hd]; simp)
    exact h.offE hC h3
theorem infoEnt : (Try.prog.info? 32).map (fun i => (i.zero, i.size, i.bytes)) = some (some (.agg #[.int .u64 0, .int .i64 0, .int .u64 0, .int .u64 0, .slice none 0 0, .slice none 0 0]), 6, 80) := by kernel_rfl
/-- What is known between two entries. -/
structure OnceS (w w' : World) (T : Nat) (dv : Value) (ks : List Key) (b : Bk) : Prop where
  inv : Once b ks
  ext : Ext w w'
  book : ∃ lv cv, Blk w' T #[lv, cv] 27 ∧ NewBk w.heap.size w' (.agg #[lv, cv]) b
  low : w.heap.size ≤ T
  done : ∃ D : List QE, D.map qKey = ks ∧ w'.ownsRow w.heap.size 32 6 dv D.length (D.map qC).flatten ∧ ∀ q ∈ D, QOk w q
theorem OnceS.mono {w w' w'' : World} {T : Nat} {dv : Value} {ks : List Key} {b : Bk} (h : OnceS w w' T dv ks b) (hE : Ext w' w'') : OnceS w w'' T dv ks b := by
  obtain ⟨lv, cv, h1, h2⟩ := h.book
  obtain ⟨D, d1, d2, d3⟩ := h.done
  exact ⟨h.inv, h.ext.trans hE, ⟨lv, cv, h1.ext hE, h2.ext hE⟩, h.low, D, d1, own_ext d2 hE, d3⟩
set_option maxRecDepth 100000 in
set_option maxHeartbeats 8000000 in
theorem seqonce_c (v0 : Value) (qs : List QE) (w : World) (h : RowV w 6 v0 (qs.map qC)) (hok : ∀ q ∈ qs, QOk w q) : Calls Try.prog 3 #[v0] w (RetE (.bool true) w) := by
  have haw := fun w => awake25_c w
  obtain ⟨a, c, rfl, hc1, hc2⟩ := h.shape
  have HV := Lib.hid h; have HOK := Lib.hid hok; have HAW := Lib.hid haw
  obtain ⟨N, hN⟩ : ∃ N, N = qs.length := ⟨_, rfl⟩
  rw [List.length_map, ← hN] at hc1 HV ⊢
  have HN := Lib.hid hN
  clear h hok haw hN
  go_enter Try.func3, Try.ntmps3
  go_wp2_with fail
  refine (HAW.out _).mono ?_
  rintro e w1 ⟨rfl, hE1⟩
  clear HAW
  go_upto_block 0 with fail
  obtain ⟨T3, hT3⟩ : ∃ T, T = w1.heap.size := ⟨_, rfl⟩
  rw [← hT3]
  have hS0 : OnceS w (w1.alloc (.cells #[.slice none 0 0, .slice none 0 0] 27)) T3 (.slice none 0 0) [] ⟨[], []⟩ :=
    ⟨Once.nil, hE1.trans (Ext.alloc _ _), ⟨_, _, by rw [hT3]; exact Blk.new _ _ _, ⟨_, _, [], [], rfl, rfl, rfl, RowV.nil _ _, RowV.nil _ _, (fun q hq => by cases hq), (fun q hq => by cases hq), (fun a n c hv => by cases hv), (fun a n c hv => by cases hv), (fun q hq => by cases hq), (fun q hq => by cases hq)⟩⟩, by rw [hT3]; exact hE1.size, [], rfl, World.ownsRow_nil _ _ _ _, fun q hq => by cases hq⟩
  generalize w1.alloc (.cells #[.slice none 0 0, .slice none 0 0] 27) = w2 at *
  have HS0 := Lib.hid hS0; have HT3 := Lib.hid hT3
  clear hE1 hT3 hS0
  go_wp2_with fail
  go_loopg [4, 5] N (fun g v4 v5 wr => ∃ (i : Nat) (ks : List Key) (b : Bk), v5 = .int .i64 (i : Int) ∧ i + g = N ∧ OnceS w wr T3 v4 ks b)
  case atStart => exact ⟨0, _, _, rfl, by omega, HS0.out⟩
  case round =>
    obtain ⟨i, ks, b, rfl, hiN, hS⟩ := hrel
    by_cases hlt : i < N
    · have hlt' : (i : Int) < (N : Int) := by omega
      by_cases h100 : i < 100
      · have h100' : (i : Int) < 100 := by omega
        clear hlt h100
        obtain ⟨q, hq⟩ : ∃ q, qs[i]? = some q := ⟨_, List.getElem?_eq_getElem (by have := HN.out; omega)⟩
        have hqo := HOK.out q (List.mem_of_getElem? hq)
        obtain ⟨sb, so, rfl, hrow⟩ : ∃ sb so, a = some ⟨sb, so, none⟩ ∧ ∀ (j : Nat) u, (qC q)[j]? = some u → wr.cell? ⟨sb, so + i * 6 + j, none⟩ = some u := by
          obtain ⟨a', c', hv, h1, h2, h3⟩ := HV.out
          cases hv
          rcases h3 with h3 | ⟨b', o, ha, hc⟩
          · rw [List.map_eq_nil_iff.1 h3] at hq; simp at hq
          · exact ⟨b', o, ha, fun j u hj => hS.ext.cell (hc i _ (by rw [List.getElem?_map, hq]; rfl) j u hj)⟩
        have k0 := hrow 0 _ rfl; have k1 := hrow 1 _ rfl; have k2 := hrow 2 _ rfl; have k3 := hrow 3 _ rfl; have k4 := hrow 4 _ rfl; have k5 := hrow 5 _ rfl
        rw [Nat.add_zero] at k0
        obtain ⟨lv, cv, hB, hNB⟩ := hS.book
        obtain ⟨la, lc, ca, cc, rfl, rfl, hl1, hl2, hq1, hq2⟩ := hNB.shape
        have HS := Lib.hid hS; have HB := Lib.hid hB; have HNB := Lib.hid hNB; have HQO := Lib.hid hqo
        obtain ⟨⟨tm, kd, cl, sq, d, mb⟩, dv, mv⟩ := q
        dsimp only at k0 k1 k2 k3 k4 k5
        obtain ⟨da, dn, dc, rfl⟩ : ∃ a n c, dv = .slice a n c := by obtain ⟨a, c, h, -⟩ := hqo.data; exact ⟨_, _, _, h⟩
        obtain ⟨ma, mn, mc, rfl⟩ : ∃ a n c, mv = .slice a n c := hqo.mem
        clear hB hNB hqo hrow hq
        go_upto_region 9 with fail
        obtain ⟨T6, hT6⟩ : ∃ T, T = wr.heap.size := ⟨_, rfl⟩
        rw [← hT6]
        have hB6 := Blk.new wr #[.int .u64 tm, .int .i64 kd, .int .u64 cl, .int .u64 sq, .slice da dn dc, .slice ma mn mc] 32
        rw [← hT6] at hB6
        have hEa := Ext.alloc wr (.cells #[.int .u64 tm, .int .i64 kd, .int .u64 cl, .int .u64 sq, .slice da dn dc, .slice ma mn mc] 32)
        generalize wr.alloc (.cells #[.int .u64 tm, .int .i64 kd, .int .u64 cl, .int .u64 sq, .slice da dn dc, .slice ma mn mc] 32) = wa at *
        have HN6 : Hid (∀ t ∈ u4.ownBlock.toList, t ≠ T6) := Lib.hid fun t ht e => by
          obtain ⟨D, d1, d2, d3⟩ := HS.out.done
          have := (own_type d2 t ht).2.1
          omega
        have HS := Lib.hid (HS.out.mono hEa); have HB := Lib.hid (HB.out.ext hEa); have HNB := Lib.hid (HNB.out.ext hEa); have HB6 := Lib.hid hB6; have HT6 := Lib.hid (show w.heap.size ≤ T6 from by rw [hT6]; exact hS.ext.size)
        have hap := apply_c (.agg #[.slice la b.leaves.length lc, .slice ca b.clients.length cc]) (.slice da dn dc) (.slice ma mn mc) b tm kd cl sq d wa HNB.out.book HS.out.inv.ok.rise HS.out.inv.ok.bd (by have := HS.out.inv.ok.clients; omega) HS.out.inv.ok.slots ((HQO.out.ext HS.out.ext).data) HQO.out.len ⟨_, _, _, rfl⟩
        obtain ⟨⟨xb, xn, xf⟩, hX⟩ : ∃ X, X = applyP b kd cl sq d := ⟨_, rfl⟩
        rw [← hX] at hap
        have hstep := HS.out.inv.step kd cl sq d
        rw [← hX] at hstep
        have HAP := Lib.hid hap; have HST := Lib.hid hstep
        clear k0 k1 k2 k3 k4 k5 hT6 hB6 hEa hap hstep hX hS
        go_wp2_with (first | (refine wpList_load_row rfl 27 (.tmp 3) rfl T3 rfl 27 _ (0, 0) _ HB.out Try.underlying27 rfl (by kernel_rfl) ?_) | (refine wpList_load_row rfl 32 (.tmp 6) rfl T6 rfl 32 _ (0, 0) _ HB6.out Try.underlying32 rfl (by kernel_rfl) ?_))
        refine HAP.out.mono ?_
        rintro e w3 ⟨v', rfl, hnb3, hE3⟩
        replace hnb3 := hnb3.low (show w.heap.size ≤ wa.heap.size from HS.out.ext.size)
        obtain ⟨xlv, xcv, rfl⟩ : ∃ xlv xcv, v' = .agg #[xlv, xcv] := by obtain ⟨lv, cv, L, C, e, -⟩ := hnb3; exact ⟨lv, cv, e⟩
        obtain ⟨xla, xlc, xca, xcc, rfl, rfl, hx1, hx2, hx3, hx4⟩ := hnb3.shape
        obtain ⟨nb, hnb⟩ : ∃ n, n = b.leaves.length := ⟨_, rfl⟩
        obtain ⟨nx, hnx⟩ : ∃ n, n = xb.leaves.length := ⟨_, rfl⟩
        obtain ⟨mb', hmb⟩ : ∃ n, n = b.clients.length := ⟨_, rfl⟩
        obtain ⟨mx, hmx⟩ : ∃ n, n = xb.clients.length := ⟨_, rfl⟩
        rw [← hnx] at hnb3 hx1 ⊢
        rw [← hmx] at hnb3 hx3 ⊢
        have hgrow : nb ≤ nx ∧ nx ≤ nb + 1 := by
          rcases HST.out with ⟨h1, _⟩ | ⟨h1, _⟩
          · rw [hnb, hnx, h1]; exact ⟨Nat.le_refl _, Nat.le_succ _⟩
          · rw [hnb, hnx, show xb = addB b cl sq d from congrArg Prod.fst h1]; unfold addB; simp
        have hnx64 : nx ≤ 65 := by have := HS.out.inv.ok.leaves; omega
        have hg1 : (nb : Int) ≤ (nx : Int) := by omega
        have hg2 : (nx : Int) ≤ (nb : Int) + 1 := by omega
        have HB := Lib.hid (HB.out.ext hE3); have HB6 := Lib.hid (HB6.out.ext hE3); have HS := Lib.hid (HS.out.mono hE3); have HNB := Lib.hid (HNB.out.ext hE3); have HX := Lib.hid hnb3; have HGR := Lib.hid hgrow
        rw [← hnb] at hl1 HB HNB HST ⊢
        rw [← hmb] at hq1 HB HNB ⊢
        have HNBE := Lib.hid hnb; have HNXE := Lib.hid hnx; have HMBE := Lib.hid hmb; have HMXE := Lib.hid hmx
        clear hE3 hnb3 hgrow hnb hnx hmb hmx HAP
        go_upto_region 10 with fail
        obtain ⟨T7, hT7⟩ : ∃ T, T = w3.heap.size := ⟨_, rfl⟩
        rw [← hT7]
        have hB7 := Blk.new w3 #[.slice xla nx xlc, .slice xca mx xcc] 27
        rw [← hT7] at hB7
        have hEb := Ext.alloc w3 (.cells #[.slice xla nx xlc, .slice xca mx xcc] 27)
        have hlt7 : w.heap.size ≤ T7 := by rw [hT7]; exact HS.out.ext.size
        have hne7 : T3 ≠ T7 := by have := Blk.lt HB.out; omega
        have HLT3 : Hid (w.heap.size ≤ T3) := Lib.hid HS.out.low
        generalize w3.alloc (.cells #[.slice xla nx xlc, .slice xca mx xcc] 27) = w4 at *
        have HB := Lib.hid (HB.out.ext hEb); have HB6 := Lib.hid (HB6.out.ext hEb); have HS := Lib.hid (HS.out.mono hEb); have HNB := Lib.hid (HNB.out.ext hEb); have HX := Lib.hid (HX.out.ext hEb); have HB7 := Lib.hid hB7; have HLT7 := Lib.hid hlt7; have HNE7 := Lib.hid hne7
        have c30 := HB.out.cell 0 rfl; have c70 := HB7.out.cell 0 rfl
        simp only [List.getElem_toArray, List.getElem_cons_zero, List.getElem_cons_succ] at c30 c70
        clear hEb hB7 hlt7 hne7 hT7
        have g10 : ¬ (nx : Int) < (nb : Int) := by omega
        have g11 : ¬ (nx : Int) > (nb : Int) + 1 := by omega
        go_wp2_with fail
        go_loopg [10] nb (fun g v10 wr4 => ∃ k : Nat, v10 = .int .i64 (k : Int) ∧ k + g = nb ∧ Ext w4 wr4)
        case atStart => exact ⟨0, rfl, by omega, Ext.refl _⟩
        case round =>
          clear c30 c70
          obtain ⟨k, rfl, hkn, hE4⟩ := hrel
          by_cases hk : k < nb
          · have hk1 : (k : Int) < (nb : Int) := by omega
            have hk2 : (k : Int) < (nx : Int) := by omega
            obtain ⟨l, hl⟩ : ∃ l, b.leaves[k]? = some l := ⟨_, List.getElem?_eq_getElem (by have := HNBE.out; omega)⟩
            have hl' : xb.leaves[k]? = some l := by
              rcases HST.out with ⟨h1, _⟩ | ⟨h1, _⟩
              · rw [h1]; exact hl
              · rw [show xb = addB b cl sq d from congrArg Prod.fst h1]; unfold addB
                rw [List.getElem?_append_left (by have := HNBE.out; omega)]; exact hl
            obtain ⟨s1, o1, u1, rfl, hc1, hr1⟩ := HNB.out.leafAt hl
            obtain ⟨s2, o2, u2, rfl, hc2', hr2⟩ := HX.out.leafAt hl'
            have cv1 := fun n => (hr1.ext (hE4.trans (Ext.drewN _ n))).convert Try.underlying29 Try.underlying5 Try.underlying9
            have cv2 := fun n => (hr2.ext (hE4.trans (Ext.drewN _ n))).convert Try.underlying29 Try.underlying5 Try.underlying9
            have d1 := hE4.cell hc1; have d2 := hE4.cell hc2'
            have c30 := (HB.out.ext hE4).cell 0 rfl; have c70 := (HB7.out.ext hE4).cell 0 rfl
            simp only [List.getElem_toArray, List.getElem_cons_zero, List.getElem_cons_succ] at c30 c70
            have HE4 := Lib.hid hE4
            clear hr1 hr2 hc1 hc2' hl hl' hE4 hk
            generalize strOfNums l = sl at *
            go_wp2_with fail
            go_big_quiet (fail)
            go_wp2_with fail
            go_roundg (nb - (k + 1))
            case measure => omega
            case rel => exact ⟨k + 1, by go_num, by omega, HE4.out.trans (Ext.drewN _ _)⟩
          · have hge : (nb : Int) ≤ (k : Int) := by omega
            have HB := Lib.hid (HB.out.ext hE4); have HB6 := Lib.hid (HB6.out.ext hE4); have HS := Lib.hid (HS.out.mono hE4); have HNB := Lib.hid (HNB.out.ext hE4); have HX := Lib.hid (HX.out.ext hE4); have HB7 := Lib.hid (HB7.out.ext hE4)
            have c30 := HB.out.cell 0 rfl; have c70 := HB7.out.cell 0 rfl
            simp only [List.getElem_toArray, List.getElem_cons_zero, List.getElem_cons_succ] at c30 c70
            clear hE4 hk hkn
            go_upto_if 81 with fail
            go_cut [4, 11] (fun v4 _v11 wc => ∃ ks', OnceS w wc T7 v4 ks' xb ∧ Blk wc T3 #[.slice la nb lc, .slice ca mb' cc] 27 ∧ Blk wc T6 #[.int .u64 tm, .int .i64 kd, .int .u64 cl, .int .u64 sq, .slice da dn dc, .slice ma mn mc] 32 ∧
              Blk wc T7 #[.slice xla nx xlc, .slice xca mx xcc] 27 ∧ NewBk w.heap.size wc (.agg #[.slice xla nx xlc, .slice xca mx xcc]) xb ∧ (xf = 0 → ∃ j : Nat, xn = (j : Int) ∧ ks'[j]? = some (cl, sq)))
            case first =>
              rcases HST.out with ⟨h1, h2⟩ | ⟨h1, h2, h3⟩
              · have hnn : nx = nb := by rw [HNXE.out, HNBE.out, h1]
                have hgt : ¬ (nx : Int) > (nb : Int) := by omega
                have H2 := Lib.hid h2; have H1 := Lib.hid h1
                clear h1 h2 HST
                go_wp2_with fail
                go_meet
                exact ⟨ks, ⟨by rw [H1.out]; exact HS.out.inv, HS.out.ext, ⟨_, _, HB7.out, HX.out⟩, HLT7.out, HS.out.done⟩, HB.out, HB6.out, HB7.out, HX.out, H2.out⟩
              · have hx0 : xb = addB b cl sq d := congrArg Prod.fst h1
                obtain rfl : xn = (nb : Int) := congrArg (fun x => x.2.1) h1
                obtain rfl : xf = 0 := congrArg (fun x => x.2.2) h1
                have hnn : nx = nb + 1 := by rw [HNXE.out, HNBE.out, hx0]; unfold addB; simp
                have hgt : (nx : Int) > (nb : Int) := by omega
                have hlt : (nb : Int) < (nx : Int) := by omega
                have hl : xb.leaves[nb]? = some d := by rw [hx0, HNBE.out]; unfold addB; simp
                obtain ⟨s2, o2, u2, rfl, e2, hr2⟩ := HX.out.leafAt hl
                have hEw : Ext w wr := HS.out.ext
                have cv1 := fun n => (hr2.ext (Ext.drewN _ n)).convert Try.underlying29 Try.underlying5 Try.underlying9
                have cv2 := fun n => ((HQO.out.data.ext hEw).ext (Ext.drewN _ n)).convert Try.underlying29 Try.underlying5 Try.underlying9
                have c64 := HB6.out.cell 4 rfl; have c62 := HB6.out.cell 2 rfl; have c63 := HB6.out.cell 3 rfl
                simp only [List.getElem_toArray, List.getElem_cons_zero, List.getElem_cons_succ] at c64 c62 c63
                dsimp only at cv2
                have HX0 := Lib.hid hx0; have H2 := Lib.hid h2; have H3 := Lib.hid h3; have HEW := Lib.hid hEw
                clear h1 hx0 h2 h3 HST hl hr2 hEw
                generalize strOfNums d = sd at *
                go_wp2_with fail
                go_big_quiet (fail)
                go_wp2_with fail
                obtain ⟨W, hW⟩ : ∃ W, W = wr.drewN nq := ⟨_, rfl⟩
                rw [← hW]
                have hEq : Ext wr W := by rw [hW]; exact Ext.drewN _ _
                have HB := Lib.hid (HB.out.ext hEq); have HB6 := Lib.hid (HB6.out.ext hEq); have HS := Lib.hid (HS.out.mono hEq); have HX := Lib.hid (HX.out.ext hEq); have HB7 := Lib.hid (HB7.out.ext hEq)
                clear c64 c62 c63 cv1 cv2 e2 c30 c70 hEq hW
                obtain ⟨D, d1, d2, d3⟩ := HS.out.done
                obtain ⟨ga, gc, rfl, hg1, hg2, -⟩ := own_slice d2
                have hRV : RowV W 6 (.slice ga D.length gc) (D.map qC) := RowV.of_own (by rw [List.length_map]; exact d2) (q_lens D)
                obtain ⟨Dn, hDn⟩ : ∃ n, n = D.length := ⟨_, rfl⟩
                have hD64 : Dn ≤ 64 := by have h1 := HS.out.inv.len; have h2 := HS.out.inv.ok.leaves; have h3 := congrArg List.length d1; rw [List.length_map] at h3; omega
                rw [← hDn] at d2 hg1 hRV HS HN6 ⊢
                have HDN := Lib.hid hDn; have D1 := Lib.hid d1; have D2 := Lib.hid d2; have D3 := Lib.hid d3; have HRV := Lib.hid hRV
                clear d1 d2 d3 hDn hRV
                go_loopg [11] Dn (fun g v11 wq => ∃ k : Nat, v11 = .int .i64 (k : Int) ∧ k + g = Dn ∧ Ext W wq)
                case atStart => exact ⟨0, rfl, by omega, Ext.refl _⟩
                case round =>
                  obtain ⟨k, rfl, hkn, hE4⟩ := hrel
                  by_cases hk : k < Dn
                  · have hk1 : (k : Int) < (Dn : Int) := by omega
                    obtain ⟨q, hq⟩ : ∃ q, D[k]? = some q := ⟨_, List.getElem?_eq_getElem (by have := HDN.out; omega)⟩
                    obtain ⟨sb', so', rfl, hrow⟩ : ∃ sb so, ga = some ⟨sb, so, none⟩ ∧ ∀ (j : Nat) u, (qC q)[j]? = some u → wr.cell? ⟨sb, so + k * 6 + j, none⟩ = some u := by
                      obtain ⟨a', c', hv, h1, h2, h3⟩ := HRV.out
                      cases hv
                      rcases h3 with h3 | ⟨b', o, ha, hc⟩
                      · rw [List.map_eq_nil_iff.1 h3] at hq; simp at hq
                      · exact ⟨b', o, ha, fun j u hj => hE4.cell (hc k _ (by rw [List.getElem?_map, hq]; rfl) j u hj)⟩
                    have k2 := hrow 2 _ rfl; have k3 := hrow 3 _ rfl
                    have c62 := (HB6.out.ext hE4).cell 2 rfl; have c63 := (HB6.out.ext hE4).cell 3 rfl
                    simp only [List.getElem_toArray, List.getElem_cons_zero, List.getElem_cons_succ] at c62 c63
                    have hne : qKey q ≠ (cl, sq) := H3.out k _ (by rw [← D1.out, List.getElem?_map, hq]; rfl)
                    have HE4 := Lib.hid hE4
                    clear hrow hq hE4
                    generalize hqc : q.1.client = qc at *
                    generalize hqs : q.1.seq = qs' at *
                    have hne' : ¬ (qc = cl ∧ qs' = sq) := fun h => hne (by unfold qKey; rw [hqc, hqs, h.1, h.2])
                    clear hne hqc hqs
                    by_cases hcl : qc = cl
                    · have hse : ¬ qs' = sq := fun h => hne' ⟨hcl, h⟩
                      have b1 : (qc == cl) = true := by simpa using hcl
                      have b2 : (qs' == sq) = false := by simpa using hse
                      clear hne' hse
                      subst hcl
                      go_wp2_with fail
                      go_big_quiet (fail)
                      go_wp2_with fail
                      go_roundg (Dn - (k + 1))
                      case measure => omega
                      case rel => exact ⟨k + 1, by go_num, by omega, HE4.out.trans (Ext.drewN _ _)⟩
                    · have b1 : (qc == cl) = false := by simpa using hcl
                      clear hne' hcl
                      go_wp2_with fail
                      go_big_quiet (fail)
                      go_wp2_with fail
                      go_roundg (Dn - (k + 1))
                      case measure => omega
                      case rel => exact ⟨k + 1, by go_num, by omega, HE4.out.trans (Ext.drewN _ _)⟩
                  · have hge : (Dn : Int) ≤ (k : Int) := by omega
                    have HB := Lib.hid (HB.out.ext hE4); have HB6 := Lib.hid (HB6.out.ext hE4); have HS := Lib.hid (HS.out.mono hE4); have HX := Lib.hid (HX.out.ext hE4); have HB7 := Lib.hid (HB7.out.ext hE4)
                    have HD := Lib.hid (own_ext D2.out hE4)
                    clear hE4 hk hkn
                    go_wp2_with (first | (refine wpList_load_row rfl 32 (.tmp 6) rfl T6 rfl 32 _ (0, 0) _ HB6.out Try.underlying32 rfl (by kernel_rfl) ?_) | (at_builtin; refine wpList_push_row rfl (.tmp 128) (.tmp 130) _ rfl 6 80 Try.underlying22 infoEnt rfl (by omega) w.heap.size _ Dn (D.map qC).flatten [.int .u64 tm, .int .i64 kd, .int .u64 cl, .int .u64 sq, .slice da dn dc, .slice ma mn mc] rfl HD.out rfl rfl (by simp [Value.oneCell']) (by omega) (by unfold maxLen; omega) HS.out.ext.size rfl ?_; intro v' w' ho' hg'; have HO' := Lib.hid ho'; have HG' := Lib.hid hg'; clear ho' hg'))
                    have hC : Chg (Value.slice ga Dn gc).ownBlock.toList wr w' := Chg.grown HG'.out
                    have hB3 := HB.out.chg hC (fun hm => own_notin HD.out HB.out (by decide) hm)
                    have hB7 := HB7.out.chg hC (fun hm => own_notin HD.out HB7.out (by decide) hm)
                    have hB6 := HB6.out.chg hC (fun hm => HN6.out _ hm rfl)
                    have hX := HX.out.offD HD.out hC
                    go_meet
                    refine ⟨ks ++ [(cl, sq)], ⟨by rw [HX0.out]; exact H2.out, own_extG HD.out HG'.out HS.out.ext (Nat.le_refl _), ⟨_, _, hB7, hX⟩, HLT7.out, D ++ [(⟨tm, kd, cl, sq, d, mb⟩, .slice da dn dc, .slice ma mn mc)], ?_, ?_, ?_⟩, hB3, hB6, hB7, hX, fun _ => ⟨nb, rfl, ?_⟩⟩
                    · rw [List.map_append, D1.out]; rfl
                    · rw [List.length_append, List.map_append, List.flatten_append]
                      have := HO'.out
                      rw [HDN.out] at this
                      exact this
                    · intro q hq
                      rcases List.mem_append.1 hq with h | h
                      · exact D3.out q h
                      · rw [List.mem_singleton.1 h]; exact HQO.out
                    · rw [HNBE.out, ← HS.out.inv.len]; simp
            case rest =>
              obtain ⟨ks', hOS, hB3, hB6, hB7, hX, hfin⟩ := hcut
              obtain ⟨D, d1, d2, d3⟩ := hOS.done
              obtain ⟨ga, gc, rfl, hg1, hg2, -⟩ := own_slice d2
              have hRV : RowV wc 6 (.slice ga D.length gc) (D.map qC) := RowV.of_own (by rw [List.length_map]; exact d2) (q_lens D)
              obtain ⟨Dn, hDn⟩ : ∃ n, n = D.length := ⟨_, rfl⟩
              have hD64 : Dn ≤ 64 := by have h1 := hOS.inv.len; have h2 := hOS.inv.ok.leaves; have h3 := congrArg List.length d1; rw [List.length_map] at h3; omega
              rw [← hDn] at d2 hg1 hRV hOS ⊢
              have HDN := Lib.hid hDn; have D1 := Lib.hid d1; have D2 := Lib.hid d2; have D3 := Lib.hid d3; have HRV := Lib.hid hRV
              have HS := Lib.hid hOS; have HB := Lib.hid hB3; have HB6 := Lib.hid hB6; have HB7 := Lib.hid hB7; have HX := Lib.hid hX; have HFIN := Lib.hid hfin
              clear d1 d2 d3 hDn hRV hOS hB3 hB6 hB7 hX hfin HST
              go_upto_region 26 with fail
              go_cut [160] (fun v160 wq => v160 = .bool false ∧ Ext wc wq)
              case first =>
                by_cases hxf : xf = 0
                · subst hxf
                  obtain ⟨j, rfl, hj⟩ := HFIN.out rfl
                  have hjn : j < Dn := by have h1 := (List.getElem?_eq_some_iff.1 hj).1; have h2 := congrArg List.length D1.out; rw [List.length_map] at h2; have := HDN.out; omega
                  have g1 : ¬ (j : Int) ≥ (Dn : Int) := by omega
                  have g2 : (j : Int) < (Dn : Int) := by omega
                  obtain ⟨q, hq, hqk⟩ : ∃ q, D[j]? = some q ∧ qKey q = (cl, sq) := by
                    rw [← D1.out, List.getElem?_map] at hj
                    cases hq : D[j]? with
                    | none => rw [hq] at hj; cases hj
                    | some q => rw [hq] at hj; exact ⟨q, rfl, Option.some.inj hj⟩
                  obtain ⟨sb', so', rfl, hrow⟩ : ∃ sb so, ga = some ⟨sb, so, none⟩ ∧ ∀ (i : Nat) u, (qC q)[i]? = some u → wc.cell? ⟨sb, so + j * 6 + i, none⟩ = some u := by
                    obtain ⟨a', c', hv, h1, h2, h3⟩ := HRV.out
                    cases hv
                    rcases h3 with h3 | ⟨b', o, ha, hc⟩
                    · rw [List.map_eq_nil_iff.1 h3] at hq; simp at hq
                    · exact ⟨b', o, ha, fun i u hi => hc j _ (by rw [List.getElem?_map, hq]; rfl) i u hi⟩
                  have k2 := hrow 2 _ rfl; have k3 := hrow 3 _ rfl
                  have c62 := HB6.out.cell 2 rfl; have c63 := HB6.out.cell 3 rfl
                  simp only [List.getElem_toArray, List.getElem_cons_zero, List.getElem_cons_succ] at c62 c63
                  rw [show q.1.client = cl from congrArg Prod.fst hqk] at k2
                  rw [show q.1.seq = sq from congrArg Prod.snd hqk] at k3
                  clear hrow hq hqk hj hjn
                  go_big_quiet (fail)
                  go_wp2_with fail
                  go_meet
                  exact ⟨rfl, Ext.drewN _ _⟩
                · have b1 : (xf == 0) = false := by simpa using hxf
                  clear hxf
                  go_big_quiet (fail)
                  go_wp2_with fail
                  go_meet
                  exact ⟨rfl, Ext.drewN _ _⟩
              case rest =>
                obtain ⟨rfl, hEq⟩ := hcut
                have HB := Lib.hid (HB.out.ext hEq); have HS := Lib.hid (HS.out.mono hEq); have HX := Lib.hid (HX.out.ext hEq); have HB7 := Lib.hid (HB7.out.ext hEq); have D2 := Lib.hid (own_ext D2.out hEq)
                clear hEq HFIN HRV HB6 HN6
                go_upto_region 29 with (first | (refine wpList_load_row rfl 27 (.tmp 7) rfl T7 rfl 27 _ (0, 0) _ HB7.out Try.underlying27 rfl (by kernel_rfl) ?_) | (refine wpList_store_row rfl 27 (.tmp 3) (.tmp 161) rfl T3 #[.slice xla nx xlc, .slice xca mx xcc] rfl rfl 27 _ HB.out (book_size _ _) rfl (by simp [Value.oneCell']) ?_))
                have hC : Chg [T3] wc (wc.setRow T3 #[.slice xla nx xlc, .slice xca mx xcc]) := Chg.some (grown_rowS wc T3 _) (.inl (by simp))
                have hB3 : Blk (wc.setRow T3 #[.slice xla nx xlc, .slice xca mx xcc]) T3 #[.slice xla nx xlc, .slice xca mx xcc] 27 := setRow_heap wc T3 _ _ _ (0, 0) HB.out
                have hX := HX.out.off hC HB.out
                have hEs : Ext w (wc.setRow T3 #[.slice xla nx xlc, .slice xca mx xcc]) := ((Chg.ext HS.out.ext : Chg [T3] w wc).trans hC).toExt (fun t ht => by simp at ht; rw [ht]; exact HLT3.out)
                have hD := own_off D2.out hC (fun t ht hm => by
                  have ht' : t = T3 := by simpa using hm
                  subst ht'
                  exact own_notin D2.out HB.out (by decide) ht)
                go_frame
                generalize wc.setRow T3 #[.slice xla nx xlc, .slice xca mx xcc] = W at *
                have hRV : RowV W 6 (.slice ga Dn gc) (D.map qC) := RowV.of_own (by rw [List.length_map, ← HDN.out]; exact hD) (q_lens D)
                have hinv := HS.out.inv
                have HINV := Lib.hid hinv; have HB3 := Lib.hid hB3; have HX := Lib.hid hX; have HES := Lib.hid hEs; have HD := Lib.hid hD; have HRV := Lib.hid hRV
                have HFI := Lib.hid fun (cl sq : Int) (w : World) h => find_c (.agg #[.slice xla nx xlc, .slice xca mx xcc]) xb cl sq w h hinv.ok.rise
                clear hC hB3 hX hEs hD hRV hinv D2 HB HB7 HS
                go_wp2_with fail
                go_loopg [12, 13, 14] Dn (fun g v12 _v13 _v14 wr => ∃ k : Nat, v12 = .int .i64 (k : Int) ∧ k + g = Dn ∧ Ext W wr)
                case atStart => exact ⟨0, rfl, by omega, Ext.refl _⟩
                case round =>
                  obtain ⟨k, rfl, hkn, hE4⟩ := hrel
                  by_cases hk : k < Dn
                  · have hk1 : (k : Int) < (Dn : Int) := by omega
                    obtain ⟨q, hq⟩ : ∃ q, D[k]? = some q := ⟨_, List.getElem?_eq_getElem (by have := HDN.out; omega)⟩
                    obtain ⟨sb', so', rfl, hrow⟩ : ∃ sb so, ga = some ⟨sb, so, none⟩ ∧ ∀ (j : Nat) u, (qC q)[j]? = some u → wr.cell? ⟨sb, so + k * 6 + j, none⟩ = some u := by
                      obtain ⟨a', c', hv, h1, h2, h3⟩ := HRV.out
                      cases hv
                      rcases h3 with h3 | ⟨b', o, ha, hc⟩
                      · rw [List.map_eq_nil_iff.1 h3] at hq; simp at hq
                      · exact ⟨b', o, ha, fun j u hj => hE4.cell (hc k _ (by rw [List.getElem?_map, hq]; rfl) j u hj)⟩
                    have k2 := hrow 2 _ rfl; have k3 := hrow 3 _ rfl
                    have hfo := HINV.out.found k (qKey q) (by rw [← D1.out, List.getElem?_map, hq]; rfl)
                    have hfi := HFI.out q.1.client q.1.seq
                    obtain ⟨⟨fi, fe⟩, hF⟩ : ∃ F, F = findP xb q.1.client q.1.seq := ⟨_, rfl⟩
                    rw [← hF] at hfi
                    have hfo : (fi, fe) = ((k : Int), 0) ∨ fe = 13 := by rw [hF]; rcases hfo with h | h; exact .inl h; exact .inr (by have := congrArg Prod.snd hF; exact this.trans h)
                    have HE4 := Lib.hid hE4; have HFO := Lib.hid hfo; have HFI' := Lib.hid hfi
                    have HB4 := Lib.hid (HB3.out.ext hE4); have HX4 := Lib.hid (HX.out.ext hE4)
                    clear hrow hq hE4 hfo hfi hF
                    generalize q.1.client = qc at *
                    generalize q.1.seq = qs' at *
                    go_wp2_with fail
                    apply Mono.region1 17 Ext [.is _, .is _, .is _, .is _, .is _, .is _, .is _, .is _, .is _, .is _, .is _, .is _, .is _, .is _, .is _, .is _, .is _] (by kernel_rfl) Ext.refl (fun _ _ _ => Ext.trans) (by kernel_rfl) rfl rfl trivial
                    focus
                      apply Mono.step_is
                      · refine Mono.obl_mk fun w9 hE9 _ K hK => ?_
                        have HB9 := Lib.hid (HB4.out.ext ((Ext.drew wr).trans hE9))
                        clear hE9
                        go_wp2_with (first | (refine wpList_load_row rfl 27 (.tmp 3) rfl T3 rfl 27 _ (0, 0) _ HB9.out Try.underlying27 rfl (by kernel_rfl) ?_))
                        simp only [Act.put, List.setIfInBounds_toArray, List.set_cons_succ, List.set_cons_zero] at hK ⊢
                        exact hK _ _ (Ext.refl _) (Mono.is_rfl _ _)
                      simp only [Act.put, List.setIfInBounds_toArray, List.set_cons_succ, List.set_cons_zero]
                      iterate 10 (apply Mono.step_is; (· refine Mono.obl_mk fun w9 hE9 _ K hK => ?_; (have q2 := hE9.cell (show wr.drew.cell? _ = _ from k2)); (have q3 := hE9.cell (show wr.drew.cell? _ = _ from k3)); clear hE9; go_wp2_with fail; simp only [Act.put, List.setIfInBounds_toArray, List.set_cons_succ, List.set_cons_zero] at hK; exact hK _ _ (Ext.refl _) (Mono.is_rfl _ _)); simp only [Act.put, List.setIfInBounds_toArray, List.set_cons_succ, List.set_cons_zero])
                      apply Mono.step_is
                      · refine Mono.obl_mk fun w9 hE9 _ K hK => ?_
                        have h := HFI'.out w9 (HX4.out.book.ext ((Ext.drew wr).trans hE9))
                        clear hE9
                        go_wp2_with fail
                        refine h.mono ?_
                        rintro e w10 ⟨rfl, hE10⟩
                        go_wp2_with fail
                        simp only [Act.put, List.setIfInBounds_toArray, List.set_cons_succ, List.set_cons_zero] at hK
                        exact hK _ _ hE10 (Mono.is_rfl _ _)
                      simp only [Act.put, List.setIfInBounds_toArray, List.set_cons_succ, List.set_cons_zero]
                      iterate 5 (apply Mono.step_is; (· refine Mono.obl_mk fun w9 hE9 _ K hK => ?_; (have q2 := hE9.cell (show wr.drew.cell? _ = _ from k2)); (have q3 := hE9.cell (show wr.drew.cell? _ = _ from k3)); clear hE9; go_wp2_with fail; simp only [Act.put, List.setIfInBounds_toArray, List.set_cons_succ, List.set_cons_zero] at hK; exact hK _ _ (Ext.refl _) (Mono.is_rfl _ _)); simp only [Act.put, List.setIfInBounds_toArray, List.set_cons_succ, List.set_cons_zero])
                      refine Mono.step_end fun w10 hE10 hkn => ?_
                      simp only [List.drop_succ_cons, List.drop_zero]
                      replace hE10 : Ext W w10 := HE4.out.trans ((Ext.drew wr).trans hE10)
                      have HE10 := Lib.hid hE10
                      clear hkn hE10 k2 k3
                      rcases HFO.out with h | h
                      · obtain rfl : fi = (k : Int) := congrArg Prod.fst h
                        obtain rfl : fe = 0 := congrArg Prod.snd h
                        clear h
                        go_wp2_with fail
                        go_roundg (Dn - (k + 1))
                        case measure => omega
                        case rel => exact ⟨k + 1, by go_num, by omega, HE10.out⟩
                      · subst h
                        go_wp2_with fail
                        go_roundg (Dn - (k + 1))
                        case measure => omega
                        case rel => exact ⟨k + 1, by go_num, by omega, HE10.out⟩
                  · have hge : (Dn : Int) ≤ (k : Int) := by omega
                    have HE4 := Lib.hid hE4
                    clear hk hkn hE4
                    go_wp2_with fail
                    go_roundg (N - (i + 1))
                    case measure => omega
                    case rel =>
                      refine ⟨i + 1, ks', xb, by go_num, by omega, ⟨HINV.out, HES.out.trans HE4.out, ⟨_, _, HB3.out.ext HE4.out, HX.out.ext HE4.out⟩, HLT3.out, D, D1.out, by rw [← HDN.out]; exact own_ext HD.out HE4.out, D3.out⟩⟩
      · have hge : (100 : Int) ≤ (i : Int) := by omega
        clear h100
        go_wp2_with fail
        go_ret
        exact ⟨rfl, hS.ext⟩
    · have hge : (N : Int) ≤ (i : Int) := by omega
      have HEX := Lib.hid hS.ext
      clear hlt hS
      go_wp2_with fail
      go_ret
      exact ⟨rfl, HEX.out⟩
end Go.Proofs.Ytgefphfnicjbiaa
