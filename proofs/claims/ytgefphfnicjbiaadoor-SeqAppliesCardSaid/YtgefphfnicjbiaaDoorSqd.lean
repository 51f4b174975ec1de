/- Layer 25 (seq): deep. PRINTED BY gen/sqd.py -/
import Derived.Test.YtgefphfnicjbiaaDoorBun3
set_option linter.unusedSimpArgs false
set_option linter.unusedVariables false
namespace Go.Proofs.YtgefphfnicjbiaaDoor
open Go Go.RowKit

/-- A book in memory of the call's own: what may be changed lies apart. -/
structure OwnBk (B : Nat) (w : World) (lv cv : Value) (L : List LQ) (C : List CQ) (b : Bk) : Prop where
  leaves : L.map (·.1) = b.leaves
  clients : C.map (·.1) = b.clients
  lo : w.ownsRow B 27 1 lv L.length (L.map (·.2))
  co : w.ownsRow B 47 2 cv C.length (C.map clR).flatten
  ls : ∀ q ∈ L, w.ownsRow B 5 1 q.2 q.1.length (u8s q.1)
  cs : ∀ q ∈ C, w.ownsRow B 49 2 q.2 q.1.slots.length (q.1.slots.map slR).flatten
  ap : C.Pairwise (fun q q' => ∀ t ∈ q.2.ownBlock.toList, t ∉ q'.2.ownBlock.toList)
theorem lf_flat (L : List LQ) : (L.map lfR).flatten = L.map (·.2) := by
  induction L with
  | nil => rfl
  | cons q r ih => simp only [List.map_cons, List.flatten_cons, ih]; rfl
theorem lf_lens (L : List LQ) : ∀ r ∈ L.map lfR, r.length = 1 := fun r hr => by obtain ⟨q, _, rfl⟩ := List.mem_map.1 hr; rfl
theorem cl_lens (C : List CQ) : ∀ r ∈ C.map clR, r.length = 2 := fun r hr => by obtain ⟨q, _, rfl⟩ := List.mem_map.1 hr; rfl
theorem sl_lens (l : List (Int × Int)) : ∀ r ∈ l.map slR, r.length = 2 := fun r hr => by obtain ⟨q, _, rfl⟩ := List.mem_map.1 hr; rfl
theorem cl_set (C : List CQ) (i : Nat) (q : CQ) (v : Value) (h : C[i]? = some q) : ((C.set i (q.1, v)).map clR).flatten = (C.map clR).flatten.set (i * 2 + 1) v := by
  induction C generalizing i with
  | nil => simp at h
  | cons p r ih =>
    cases i with
    | zero =>
      simp at h; subst h
      simp [clR]
    | succ i =>
      simp only [List.set_cons_succ, List.map_cons, List.flatten_cons]
      rw [ih i (by simpa using h), show (i + 1) * 2 + 1 = (clR p).length + (i * 2 + 1) by simp [clR]; omega, List.set_append_right _ _ (by omega), Nat.add_sub_cancel_left]
theorem cl_get (C : List CQ) (i : Nat) (q : CQ) (h : C[i]? = some q) : (C.map clR).flatten[i * 2]? = some (.int .u64 q.1.id) ∧ (C.map clR).flatten[i * 2 + 1]? = some q.2 := by
  induction C generalizing i with
  | nil => simp at h
  | cons p r ih =>
    cases i with
    | zero =>
      simp at h; subst h
      exact ⟨rfl, rfl⟩
    | succ i =>
      have := ih i (by simpa using h)
      simp only [List.map_cons, List.flatten_cons]
      rw [show (i + 1) * 2 = (clR p).length + i * 2 by simp [clR]; omega, List.getElem?_append_right (by omega), Nat.add_sub_cancel_left, Nat.add_assoc, List.getElem?_append_right (by omega), Nat.add_sub_cancel_left]
      exact this
theorem OwnBk.book {B : Nat} {w : World} {lv cv : Value} {L : List LQ} {C : List CQ} {b : Bk} (h : OwnBk B w lv cv L C b) : BookV w (.agg #[lv, cv]) b :=
  ⟨lv, cv, L, C, rfl, h.leaves, h.clients, RowV.of_own (by rw [List.length_map, lf_flat]; exact h.lo) (lf_lens L), RowV.of_own (by rw [List.length_map]; exact h.co) (cl_lens C),
    fun q hq => Rd.of_own (by have := h.ls q hq; rwa [show q.1.length = (u8s q.1).length from (u8s_len _).symm] at this), fun q hq => RowV.of_own (by rw [List.length_map]; exact h.cs q hq) (sl_lens _)⟩
/-- Sizes of a book that can be copied. -/
structure BkBd (b : Bk) : Prop where
  leaves : b.leaves.length ≤ 1000000
  each : ∀ l ∈ b.leaves, l.length ≤ 140737488355328
  clients : b.clients.length ≤ 1000000
  slots : ∀ c ∈ b.clients, c.slots.length ≤ 1000000
theorem own_notin {w : World} {B s n t : Nat} {e e' : TypeId} {v : Value} {xs : List Value} {c : Array Value} (h : w.ownsRow B e s v n xs) (hb : Blk w t c e') (he : e ≠ e') : t ∉ v.ownBlock.toList := fun hm => by
  obtain ⟨_, _, c', hc'⟩ := own_type h t hm
  exact he (blk_type hc' hb)
theorem own_blk {w : World} {B s n cap g : Nat} {e : TypeId} {xs : List Value} (h : w.ownsRow B e s (.slice (some ⟨g, 0, none⟩) n cap) n xs) : B ≤ g ∧ ∃ c, Blk w g c e := by
  obtain ⟨h1, _, c, h2⟩ := own_type h g (by simp [Value.ownBlock])
  exact ⟨h1, c, h2⟩
theorem blk_ne {w : World} {t t' : Nat} {c c' : Array Value} {e e' : TypeId} (h : Blk w t c e) (h' : Blk w t' c' e') (he : e ≠ e') : t ≠ t' := fun ht => by subst ht; exact he (blk_type h h')
theorem grown_rowS (w : World) (g : Nat) (cells : Array Value) : w.grownBy (w.setRow g cells) (some g) :=
  ⟨rfl, rfl, rfl, by simp [World.setRow], fun k _ hk => setRow_other w g k _ (fun e => hk (by rw [e]))⟩
theorem book_size (v1 v2 : Value) : (Tryd.prog.info? 25).map (·.size) = some (#[v1, v2] : Array Value).size := by kernel_rfl
theorem deep_ret (b : Nat) (c0 c1 : Value) (F : World) (tmps : Array Value) (R : Ending → World → Prop) (hB : Blk F b #[c0, c1] 25)
    (hz : tmps[2]? = some (.pointer (some ⟨b, 0, none⟩))) (h : R (.returned (.agg #[c0, c1])) F) :
    bodyPost Tryd.prog Tryd.f16 R .ret { tmps := tmps, defers := [] } F := by
  have x0 := hB.cell 0 rfl; have x1 := hB.cell 1 rfl
  simp at x0 x1
  refine bodyPost_ret ?_ rfl h
  simp [results, Tryd.results16, go_sem, hz, x0, x1]
set_option maxRecDepth 100000 in
set_option maxHeartbeats 8000000 in
theorem deep_c (v : Value) (b : Bk) (w : World) (h : BookV w v b) (hb : BkBd b) :
    Calls Tryd.prog 16 #[v] w fun e w' => ∃ lv cv L C, e = .returned (.agg #[lv, cv]) ∧ OwnBk w.heap.size w' lv cv L C b ∧ Ext w w' := by
  obtain ⟨lv, cv, L0, C0, rfl, hL, hC, h3, h4, h5, h6⟩ := h
  have HB := Lib.hid hb
  have HL := Lib.hid hL; have HC := Lib.hid hC; have H3 := Lib.hid h3; have H4 := Lib.hid h4; have H5 := Lib.hid h5; have H6 := Lib.hid h6
  obtain ⟨n, hn⟩ : ∃ n, n = L0.length := ⟨_, rfl⟩
  obtain ⟨nc, hnc⟩ : ∃ nc, nc = C0.length := ⟨_, rfl⟩
  obtain ⟨la, lc, rfl, -, -⟩ := h3.shape
  obtain ⟨ca, cc, rfl, -, -⟩ := h4.shape
  have hnb : n ≤ 1000000 := by have := hb.leaves; rw [← hL, List.length_map] at this; omega
  have hncb : nc ≤ 1000000 := by have := hb.clients; rw [← hC, List.length_map] at this; omega
  have hcl := fun W hE => cloneL_c _ (L0.map lfR) W (h3.ext (show Ext w W from hE)) (lf_lens L0) (by rw [List.length_map]; omega)
  have hcc := fun W hE => cloneC_c _ (C0.map clR) W (h4.ext (show Ext w W from hE)) (cl_lens C0) (by rw [List.length_map]; omega)
  rw [List.length_map, lf_flat, ← hn] at hcl
  rw [List.length_map, ← hnc] at hcc
  rw [List.length_map, ← hn] at H3 ⊢
  rw [List.length_map, ← hnc] at H4 ⊢
  have HCL := Lib.hid hcl; have HCC := Lib.hid hcc; have HN := Lib.hid hn; have HNC := Lib.hid hnc
  clear h3 h4 h5 h6 hL hC hb hn hnc hcl hcc
  obtain ⟨w0, hw0⟩ : ∃ w0, w0 = (w.alloc (.cells #[.slice la n lc, .slice ca nc cc] 25)).alloc (.cells #[.slice none 0 0, .slice none 0 0] 25) := ⟨_, rfl⟩
  have hE0 : Ext w w0 := by rw [hw0]; exact (Ext.alloc _ _).trans (Ext.alloc _ _)
  obtain ⟨T1, hT1⟩ : ∃ T1, T1 = w.heap.size := ⟨_, rfl⟩
  obtain ⟨T2, hT2⟩ : ∃ T2, T2 = w.heap.size + 1 := ⟨_, rfl⟩
  have hB1 : Blk w0 T1 #[.slice la n lc, .slice ca nc cc] 25 := by rw [hw0, hT1]; exact (Blk.new _ _ _).alloc _
  have hB2 : Blk w0 T2 #[.slice none 0 0, .slice none 0 0] 25 := by
    rw [hw0, hT2]; have := Blk.new (w.alloc (.cells #[.slice la n lc, .slice ca nc cc] 25)) #[.slice none 0 0, .slice none 0 0] 25; simpa using this
  have HE0 := Lib.hid hE0; have HB1 := Lib.hid hB1; have HB2 := Lib.hid hB2; have HT1 := Lib.hid hT1; have HT2 := Lib.hid hT2; have HW := Lib.hid hw0
  have c0 := hB1.cell 0 rfl; have c1 := hB1.cell 1 rfl
  simp only [List.getElem_toArray, List.getElem_cons_zero, List.getElem_cons_succ] at c0 c1
  clear hw0 hE0 hB1 hB2
  go_enter Tryd.func16, Tryd.ntmps16
  go_upto_region 1 with fail
  rw [← HW.out]
  rw [← hT1, show T1 + 1 = T2 by omega]
  clear hT1 hT2
  apply Mono.region1 7 Ext [.is _, .is _, .rel (fun v W => W.ownsRow w.heap.size 27 1 v n (L0.map (·.2))), .is _, .is _, .rel (fun v W => W.ownsRow w.heap.size 47 2 v nc (C0.map clR).flatten), .is _] (by kernel_rfl) Ext.refl (fun _ _ _ => Ext.trans) (by kernel_rfl) rfl rfl ⟨fun _ _ _ h hE => own_ext h hE, fun _ _ _ h hE => own_ext h hE, trivial⟩
  focus
    iterate 2 (apply Mono.step_is; (· refine Mono.obl_mk fun w9 hE9 _ K hK => ?_; (have q0 := hE9.cell (show w0.drew.cell? _ = _ from c0)); (have q1 := hE9.cell (show w0.drew.cell? _ = _ from c1)); clear hE9; go_wp2_with fail; simp only [Act.put, List.setIfInBounds_toArray, List.set_cons_succ, List.set_cons_zero] at hK; exact hK _ _ (Ext.refl _) (Mono.is_rfl _ _)); simp only [Act.put, List.setIfInBounds_toArray, List.set_cons_succ, List.set_cons_zero])
    refine Mono.step_rel (Mono.obl_mk fun w9 hE9 _ K hK => ?_) fun v7 => ?_
    · have HE9 := Lib.hid (HE0.out.trans ((Ext.drew w0).trans hE9))
      clear hE9
      go_wp2_with fail
      refine (HCL.out _ HE9.out).mono ?_
      rintro e w10 ⟨v', rfl, ho, hE⟩
      have HO := Lib.hid (own_low ho HE9.out.size); have HE := Lib.hid hE
      clear ho hE
      go_wp2_with fail
      simp only [Act.put, List.setIfInBounds_toArray, List.set_cons_succ, List.set_cons_zero] at hK
      exact hK _ _ HE.out (Mono.rel_mk HO.out)
    simp only [Act.put, List.setIfInBounds_toArray, List.set_cons_succ, List.set_cons_zero]
    iterate 2 (apply Mono.step_is; (· refine Mono.obl_mk fun w9 hE9 _ K hK => ?_; (have q0 := hE9.cell (show w0.drew.cell? _ = _ from c0)); (have q1 := hE9.cell (show w0.drew.cell? _ = _ from c1)); clear hE9; go_wp2_with fail; simp only [Act.put, List.setIfInBounds_toArray, List.set_cons_succ, List.set_cons_zero] at hK; exact hK _ _ (Ext.refl _) (Mono.is_rfl _ _)); simp only [Act.put, List.setIfInBounds_toArray, List.set_cons_succ, List.set_cons_zero])
    refine Mono.step_rel (Mono.obl_mk fun w9 hE9 _ K hK => ?_) fun v10 => ?_
    · have HE9 := Lib.hid (HE0.out.trans ((Ext.drew w0).trans hE9))
      clear hE9
      go_wp2_with fail
      refine (HCC.out _ HE9.out).mono ?_
      rintro e w10 ⟨v', rfl, ho, hE⟩
      have HO := Lib.hid (own_low ho HE9.out.size); have HE := Lib.hid hE
      clear ho hE
      go_wp2_with fail
      simp only [Act.put, List.setIfInBounds_toArray, List.set_cons_succ, List.set_cons_zero] at hK
      exact hK _ _ HE.out (Mono.rel_mk HO.out)
    simp only [Act.put, List.setIfInBounds_toArray, List.set_cons_succ, List.set_cons_zero]
    iterate 1 (apply Mono.step_is; (· refine Mono.obl_mk fun w9 hE9 _ K hK => ?_; (have q0 := hE9.cell (show w0.drew.cell? _ = _ from c0)); (have q1 := hE9.cell (show w0.drew.cell? _ = _ from c1)); clear hE9; go_wp2_with fail; simp only [Act.put, List.setIfInBounds_toArray, List.set_cons_succ, List.set_cons_zero] at hK; exact hK _ _ (Ext.refl _) (Mono.is_rfl _ _)); simp only [Act.put, List.setIfInBounds_toArray, List.set_cons_succ, List.set_cons_zero])
    refine Mono.step_end fun w1 hE1 hkn => ?_
    simp only [List.drop_succ_cons, List.drop_zero]
    have hE1 : Ext w0 w1 := (Ext.drew w0).trans hE1
    have ho7 : w1.ownsRow w.heap.size 27 1 v7 n (L0.map (·.2)) := hkn.1
    have ho10 : w1.ownsRow w.heap.size 47 2 v10 nc (C0.map clR).flatten := hkn.2.1
    obtain ⟨xa, xc, rfl, hx1, hx2, hx3⟩ := own_slice ho7
    obtain ⟨ya, yc, rfl, hy1, hy2, hy3⟩ := own_slice ho10
    have HO7 := Lib.hid ho7; have HO10 := Lib.hid ho10; have HE1 := Lib.hid hE1
    have b1 := HB1.out.ext hE1
    have HB21 := Lib.hid (HB2.out.ext hE1)
    replace c0 := b1.cell 0 rfl; replace c1 := b1.cell 1 rfl
    simp only [List.getElem_toArray, List.getElem_cons_zero, List.getElem_cons_succ] at c0 c1
    have f0 := b1.free 0; have f1 := b1.free 1
    have hb1 := (b1.set 0 (.slice xa n xc)).set 1 (.slice ya nc yc)
    simp only [List.setIfInBounds_toArray, List.set_cons_succ, List.set_cons_zero] at hb1
    have HBX := Lib.hid hb1
    clear hkn ho7 ho10 b1 hb1 hE1
    go_upto_region 2 with fail
    have hC1 : Chg [T1] w1 ((w1.setCell ⟨T1, 0, none⟩ (.slice xa n xc)).setCell ⟨T1, 1, none⟩ (.slice ya nc yc)) := ((Chg.refl [T1] w1).setNew T1 0 _ (.inl (by simp))).setNew T1 1 _ (.inl (by simp))
    have hb21 := (HB21.out.other ⟨T1, 0, none⟩ (.slice xa n xc) (by have := HT1.out; have := HT2.out; simp; omega)).other ⟨T1, 1, none⟩ (.slice ya nc yc) (by have := HT1.out; have := HT2.out; simp; omega)
    generalize (w1.setCell ⟨T1, 0, none⟩ (.slice xa n xc)).setCell ⟨T1, 1, none⟩ (.slice ya nc yc) = w2 at *
    have b1 := HB1.out.ext HE1.out
    have HLO := Lib.hid (own_off HO7.out hC1 (fun t ht hm => by simp at hm; subst hm; exact own_notin HO7.out b1 (by decide) ht))
    have HCO := Lib.hid (own_off HO10.out hC1 (fun t ht hm => by simp at hm; subst hm; exact own_notin HO10.out b1 (by decide) ht))
    have HB22 := Lib.hid hb21
    have HX2 := Lib.hid (show Ext w w2 from ((Chg.ext (HE0.out.trans HE1.out) : Chg [T1] w w1).trans hC1).toExt (fun t ht => by simp at ht; have := HT1.out; omega))
    replace c0 := HBX.out.cell 0 rfl; replace c1 := HBX.out.cell 1 rfl
    simp only [List.getElem_toArray, List.getElem_cons_zero, List.getElem_cons_succ] at c0 c1
    clear hC1 hb21 b1 f0 f1 HO7 HO10 HE1 HB21 HB1 HB2 HE0 HCL HCC HW
    go_wp2_with fail
    clear c0 c1
    go_loopg [3, 16] n (fun g _v3 v16 wr => ∃ (i : Nat) (L : List LQ), v16 = .int .i64 (i : Int) ∧ i + g = n ∧ L.map (·.1) = b.leaves ∧ (∀ j, i ≤ j → L[j]? = L0[j]?) ∧ wr.ownsRow w.heap.size 27 1 (.slice xa n xc) n (L.map (·.2)) ∧ (∀ j q, j < i → L[j]? = some q → wr.ownsRow w.heap.size 5 1 q.2 q.1.length (u8s q.1)) ∧
      wr.ownsRow w.heap.size 47 2 (.slice ya nc yc) nc (C0.map clR).flatten ∧ Blk wr T1 #[.slice xa n xc, .slice ya nc yc] 25 ∧ Blk wr T2 #[.slice none 0 0, .slice none 0 0] 25 ∧ Ext w wr)
    case atStart => exact ⟨0, L0, rfl, by omega, HL.out, fun _ _ => rfl, HLO.out, fun j q hj => by omega, HCO.out, HBX.out, HB22.out, HX2.out⟩
    case round =>
      obtain ⟨i, L, rfl, hi, hLm, hsame, hlo, hls, hco, hb1, hb2, hE⟩ := hrel
      have HLM := Lib.hid hLm; have HSAME := Lib.hid hsame; have HLOi := Lib.hid hlo; have HLS := Lib.hid hls; have HCOi := Lib.hid hco; have HB1i := Lib.hid hb1; have HB2i := Lib.hid hb2; have HEi := Lib.hid hE
      have c0 := hb1.cell 0 rfl; have c1 := hb1.cell 1 rfl
      simp only [List.getElem_toArray, List.getElem_cons_zero, List.getElem_cons_succ] at c0 c1
      clear hLm hsame hlo hls hco hb1 hb2 hE HLO HCO HBX HB22 HX2
      by_cases hlt : i < n
      · have hlt' : (i : Int) < (n : Int) := by omega
        obtain ⟨⟨bs, qv⟩, hq⟩ : ∃ q, L[i]? = some q := ⟨_, List.getElem?_eq_getElem (by have := congrArg List.length HLM.out; have h2 := congrArg List.length HL.out; rw [List.length_map] at this h2; have := HN.out; omega)⟩
        have hq0 : L0[i]? = some (bs, qv) := by rw [← HSAME.out i (Nat.le_refl _)]; exact hq
        have hrd : Rd wr qv (u8s bs) := (H5.out _ (List.mem_of_getElem? hq0)).ext HEi.out
        have hbl : bs.length ≤ 140737488355328 := HB.out.each bs (by rw [← HL.out]; exact List.mem_map.2 ⟨_, List.mem_of_getElem? hq0, rfl⟩)
        obtain ⟨g, rfl⟩ := hx3 (by omega)
        obtain ⟨da, dn, dc, rfl⟩ := Rd.shape hrd
        have e0 := own_cell HLOi.out i (u := .slice da dn dc) (by rw [List.getElem?_map, hq]; rfl)
        have HRD := Lib.hid hrd; have HBL := Lib.hid hbl; have HQ := Lib.hid hq
        clear hq hq0 hrd hbl c1
        go_upto_region 5 with fail
        apply Mono.region1 10 Ext [.is _, .is _, .is _, .is _, .is _, .is _, .is _, .is _, .rel (fun v W => W.ownsRow wr.heap.size 5 1 v bs.length (u8s bs)), .is _] (by kernel_rfl) Ext.refl (fun _ _ _ => Ext.trans) (by kernel_rfl) rfl rfl ⟨fun _ _ _ h hE => own_ext h hE, trivial⟩
        focus
          iterate 8 (apply Mono.step_is; (· refine Mono.obl_mk fun w9 hE9 _ K hK => ?_; (have q0 := hE9.cell (show wr.drew.cell? _ = _ from c0)); (have q1 := hE9.cell (show wr.drew.cell? _ = _ from e0)); clear hE9; go_wp2_with fail; simp only [Act.put, List.setIfInBounds_toArray, List.set_cons_succ, List.set_cons_zero] at hK; exact hK _ _ (Ext.refl _) (Mono.is_rfl _ _)); simp only [Act.put, List.setIfInBounds_toArray, List.set_cons_succ, List.set_cons_zero])
          refine Mono.step_rel (Mono.obl_mk fun w9 hE9 _ K hK => ?_) fun v27 => ?_
          · have HE9 := Lib.hid ((Ext.drew wr).trans hE9)
            clear hE9
            go_wp2_with fail
            refine (clone8 _ bs _ (HRD.out.ext HE9.out) HBL.out).mono ?_
            rintro e w10 ⟨v', rfl, ho, hE⟩
            rw [u8s_len] at ho
            have HO := Lib.hid (own_low ho HE9.out.size); have HE := Lib.hid hE
            clear ho hE
            go_wp2_with fail
            simp only [Act.put, List.setIfInBounds_toArray, List.set_cons_succ, List.set_cons_zero] at hK
            exact hK _ _ HE.out (Mono.rel_mk HO.out)
          simp only [Act.put, List.setIfInBounds_toArray, List.set_cons_succ, List.set_cons_zero]
          iterate 1 (apply Mono.step_is; (· refine Mono.obl_mk fun w9 hE9 _ K hK => ?_; (have q0 := hE9.cell (show wr.drew.cell? _ = _ from c0)); (have q1 := hE9.cell (show wr.drew.cell? _ = _ from e0)); clear hE9; go_wp2_with fail; simp only [Act.put, List.setIfInBounds_toArray, List.set_cons_succ, List.set_cons_zero] at hK; exact hK _ _ (Ext.refl _) (Mono.is_rfl _ _)); simp only [Act.put, List.setIfInBounds_toArray, List.set_cons_succ, List.set_cons_zero])
          refine Mono.step_end fun w5 hE5 hkn => ?_
          simp only [List.drop_succ_cons, List.drop_zero]
          have hE5 : Ext wr w5 := (Ext.drew wr).trans hE5
          have hoz : w5.ownsRow wr.heap.size 5 1 v27 bs.length (u8s bs) := hkn.1
          obtain ⟨za, zc, rfl, hz1, hz2, -⟩ := own_slice hoz
          have hlo5 := own_ext HLOi.out hE5
          replace e0 := hE5.cell e0
          have fz := own_free hlo5 i
          have HOZ := Lib.hid hoz; have HE5 := Lib.hid hE5; have HLO5 := Lib.hid hlo5
          clear hkn hoz hE5 hlo5 c0
          go_wp2_with fail
          have hgl := own_blk HLO5.out
          obtain ⟨hgB, gc, hgb⟩ := hgl
          have hC : Chg [g] w5 (w5.setCell ⟨g, i, none⟩ (.slice za bs.length zc)) := Chg.set g i _ (by simp)
          have hlo6 := own_set HLO5.out i (by rw [List.length_map]; have := (List.getElem?_eq_some_iff.1 HQ.out).1; exact this) (.slice za bs.length zc)
          have hb16 := (HB1i.out.ext HE5.out).chg hC (by simp; exact blk_ne (HB1i.out.ext HE5.out) hgb (by decide))
          have hb26 := (HB2i.out.ext HE5.out).chg hC (by simp; exact blk_ne (HB2i.out.ext HE5.out) hgb (by decide))
          have hco6 := own_off (own_ext HCOi.out HE5.out) hC (fun t ht hm => by simp at hm; subst hm; exact own_notin (own_ext HCOi.out HE5.out) hgb (by decide) ht)
          have hoz6 := own_off HOZ.out hC (fun t ht hm => by simp at hm; subst hm; exact own_notin HOZ.out hgb (by decide) ht)
          have hls6 : ∀ j q, j < i → L[j]? = some q → (w5.setCell ⟨g, i, none⟩ (.slice za bs.length zc)).ownsRow w.heap.size 5 1 q.2 q.1.length (u8s q.1) := fun j q hj hq => by
            have h1 := own_ext (HLS.out j q hj hq) HE5.out
            exact own_off h1 hC (fun t ht hm => by simp at hm; subst hm; exact own_notin h1 hgb (by decide) ht)
          have hE6 : Ext w (w5.setCell ⟨g, i, none⟩ (.slice za bs.length zc)) := ((Chg.ext (HEi.out.trans HE5.out) : Chg [g] w w5).trans hC).toExt (fun t ht => by simp at ht; omega)
          generalize w5.setCell ⟨g, i, none⟩ (.slice za bs.length zc) = w6 at *
          have H1 := Lib.hid hlo6; have H2 := Lib.hid hb16; have H3' := Lib.hid hb26; have H4' := Lib.hid hco6; have H5' := Lib.hid hoz6; have H6' := Lib.hid hls6; have H7 := Lib.hid hE6
          clear hgB hgb hC hlo6 hb16 hb26 hco6 hoz6 hls6 hE6 e0 fz hz1 hz2
          go_roundg (n - (i + 1))
          case measure => omega
          case rel =>
            refine ⟨i + 1, L.set i (bs, .slice za bs.length zc), by go_num, by omega, ?_, fun j hj => ?_, by rw [List.map_set]; exact H1.out, fun j q hj hq => ?_, H4'.out, H2.out, H3'.out, H7.out⟩
            · rw [List.map_set, ← HLM.out]
              apply List.ext_getElem?
              intro k
              by_cases hik : i = k
              · subst hik
                rw [List.getElem?_set_self (by rw [List.length_map]; exact (List.getElem?_eq_some_iff.1 HQ.out).1), List.getElem?_map, HQ.out]; rfl
              · rw [List.getElem?_set_ne hik]
            · rw [List.getElem?_set_ne (by omega)]; exact HSAME.out j (by omega)
            · by_cases hij : j = i
              · subst hij
                rw [List.getElem?_set_self (List.getElem?_eq_some_iff.1 HQ.out).1] at hq
                cases hq
                exact own_low H5'.out HEi.out.size
              · rw [List.getElem?_set_ne (Ne.symm hij)] at hq
                exact H6'.out j q (by omega) hq
      · have hge : (n : Int) ≤ (i : Int) := by omega
        obtain ⟨n0, hn0⟩ : ∃ n0, n0 = n := ⟨_, rfl⟩
        rw [← hn0] at HLOi HB1i HN ⊢
        rw [← hn0] at hx1 hx3 hnb hi hge hlt
        clear hn0
        have hls' : ∀ q ∈ L, wr.ownsRow w.heap.size 5 1 q.2 q.1.length (u8s q.1) := fun q hq => by
          obtain ⟨j, hj, rfl⟩ := List.getElem_of_mem hq
          refine HLS.out j _ ?_ (List.getElem?_eq_getElem hj)
          have := congrArg List.length HLM.out; have h2 := congrArg List.length HL.out; rw [List.length_map] at this h2; have := HN.out; omega
        have HLS2 := Lib.hid hls'
        clear hlt hls' HSAME HLS
        go_wp2_with fail
        clear c0 c1
        rw [decide_eq_false (show ¬ i < n0 by omega)]
        go_loopg [4, 33] nc (fun g _v4 v33 wr => ∃ (i : Nat) (C : List CQ), v33 = .int .i64 (i : Int) ∧ i + g = nc ∧ C.map (·.1) = b.clients ∧ (∀ j, i ≤ j → C[j]? = C0[j]?) ∧ wr.ownsRow w.heap.size 27 1 (.slice xa n0 xc) n0 (L.map (·.2)) ∧ (∀ q ∈ L, wr.ownsRow w.heap.size 5 1 q.2 q.1.length (u8s q.1)) ∧
          wr.ownsRow w.heap.size 47 2 (.slice ya nc yc) nc (C.map clR).flatten ∧ (∀ j q, j < i → C[j]? = some q → wr.ownsRow w.heap.size 49 2 q.2 q.1.slots.length (q.1.slots.map slR).flatten) ∧ (C.take i).Pairwise (fun q q' => ∀ t ∈ q.2.ownBlock.toList, t ∉ q'.2.ownBlock.toList) ∧
          Blk wr T1 #[.slice xa n0 xc, .slice ya nc yc] 25 ∧ Blk wr T2 #[.slice none 0 0, .slice none 0 0] 25 ∧ Ext w wr)
        case atStart => exact ⟨0, C0, rfl, by omega, HC.out, fun _ _ => rfl, HLOi.out, HLS2.out, HCOi.out, fun j q hj => by omega, by simp, HB1i.out, HB2i.out, HEi.out⟩
        case round =>
          clear HLOi HLS2 HCOi HB1i HB2i HEi
          obtain ⟨i, C, rfl, hi, hCm, hsame, hlo, hls, hco, hcs, hpw, hb1, hb2, hE⟩ := hrel
          have HCM := Lib.hid hCm; have HSAME := Lib.hid hsame; have HLOi := Lib.hid hlo; have HLS := Lib.hid hls; have HCOi := Lib.hid hco; have HCS := Lib.hid hcs; have HPW := Lib.hid hpw; have HB1i := Lib.hid hb1; have HB2i := Lib.hid hb2; have HEi := Lib.hid hE
          have c1 := hb1.cell 1 rfl
          simp only [List.getElem_toArray, List.getElem_cons_zero, List.getElem_cons_succ] at c1
          clear hCm hsame hlo hls hco hcs hpw hb1 hb2 hE
          by_cases hlt : i < nc
          · have hlt' : (i : Int) < (nc : Int) := by omega
            obtain ⟨⟨c, qv⟩, hq⟩ : ∃ q, C[i]? = some q := ⟨_, List.getElem?_eq_getElem (by have := congrArg List.length HCM.out; have h2 := congrArg List.length HC.out; rw [List.length_map] at this h2; have := HNC.out; omega)⟩
            have hq0 : C0[i]? = some (c, qv) := by rw [← HSAME.out i (Nat.le_refl _)]; exact hq
            have hrd : RowV wr 2 qv (c.slots.map slR) := RowV.ext (H6.out _ (List.mem_of_getElem? hq0)) HEi.out
            have hbl : c.slots.length ≤ 1000000 := HB.out.slots c (by rw [← HC.out]; exact List.mem_map.2 ⟨_, List.mem_of_getElem? hq0, rfl⟩)
            obtain ⟨g, rfl⟩ := hy3 (by omega)
            obtain ⟨da, dc, rfl, -, -⟩ := hrd.shape
            have hcg := cl_get C i _ hq
            dsimp only at hcg
            generalize hdn : (c.slots.map slR).length = dn at *
            rw [List.length_map] at hdn
            have e0 := own_cell HCOi.out (i * 2 + 1) hcg.2
            have HRD := Lib.hid hrd; have HBL := Lib.hid hbl; have HQ := Lib.hid hq; have HDN := Lib.hid hdn
            clear hq hq0 hrd hbl hcg hdn
            go_upto_region 10 with fail
            apply Mono.region1 12 Ext [.is _, .is _, .is _, .is _, .is _, .is _, .is _, .is _, .is _, .rel (fun v W => W.ownsRow wr.heap.size 49 2 v dn (c.slots.map slR).flatten), .is _, .is _] (by kernel_rfl) Ext.refl (fun _ _ _ => Ext.trans) (by kernel_rfl) rfl rfl ⟨fun _ _ _ h hE => own_ext h hE, trivial⟩
            focus
              iterate 9 (apply Mono.step_is; (· refine Mono.obl_mk fun w9 hE9 _ K hK => ?_; (have q0 := hE9.cell (show wr.drew.cell? _ = _ from c1)); (have q1 := hE9.cell (show wr.drew.cell? _ = _ from e0)); clear hE9; go_wp2_with fail; simp only [Act.put, List.setIfInBounds_toArray, List.set_cons_succ, List.set_cons_zero] at hK; exact hK _ _ (Ext.refl _) (Mono.is_rfl _ _)); simp only [Act.put, List.setIfInBounds_toArray, List.set_cons_succ, List.set_cons_zero])
              refine Mono.step_rel (Mono.obl_mk fun w9 hE9 _ K hK => ?_) fun v45 => ?_
              · have HE9 := Lib.hid ((Ext.drew wr).trans hE9)
                clear hE9
                go_wp2_with fail
                refine (cloneS_c _ (c.slots.map slR) _ (HRD.out.ext HE9.out) (sl_lens _) (by rw [List.length_map]; exact HBL.out)).mono ?_
                rintro e w10 ⟨v', rfl, ho, hE⟩
                rw [List.length_map, HDN.out] at ho
                have HO := Lib.hid (own_low ho HE9.out.size); have HE := Lib.hid hE
                clear ho hE
                go_wp2_with fail
                simp only [Act.put, List.setIfInBounds_toArray, List.set_cons_succ, List.set_cons_zero] at hK
                exact hK _ _ HE.out (Mono.rel_mk HO.out)
              simp only [Act.put, List.setIfInBounds_toArray, List.set_cons_succ, List.set_cons_zero]
              iterate 2 (apply Mono.step_is; (· refine Mono.obl_mk fun w9 hE9 _ K hK => ?_; (have q0 := hE9.cell (show wr.drew.cell? _ = _ from c1)); (have q1 := hE9.cell (show wr.drew.cell? _ = _ from e0)); clear hE9; go_wp2_with fail; simp only [Act.put, List.setIfInBounds_toArray, List.set_cons_succ, List.set_cons_zero] at hK; exact hK _ _ (Ext.refl _) (Mono.is_rfl _ _)); simp only [Act.put, List.setIfInBounds_toArray, List.set_cons_succ, List.set_cons_zero])
              refine Mono.step_end fun w5 hE5 hkn => ?_
              simp only [List.drop_succ_cons, List.drop_zero]
              have hE5 : Ext wr w5 := (Ext.drew wr).trans hE5
              have hoz : w5.ownsRow wr.heap.size 49 2 v45 dn (c.slots.map slR).flatten := hkn.1
              obtain ⟨za, zc, rfl, hz1, hz2, -⟩ := own_slice hoz
              have hco5 := own_ext HCOi.out hE5
              replace e0 := hE5.cell e0
              have fz := own_free hco5 (i * 2 + 1)
              have HOZ := Lib.hid hoz; have HE5 := Lib.hid hE5; have HCO5 := Lib.hid hco5
              clear hkn hoz hE5 hco5 c1
              go_wp2_with fail
              have hgl := own_blk HCO5.out
              obtain ⟨hgB, gc, hgb⟩ := hgl
              have hC : Chg [g] w5 (w5.setCell ⟨g, i * 2 + 1, none⟩ (.slice za dn zc)) := Chg.set g _ _ (by simp)
              have hil : i < C.length := (List.getElem?_eq_some_iff.1 HQ.out).1
              have hco6 := own_set HCO5.out (i * 2 + 1) (by rw [flat_len (cl_lens C), List.length_map]; omega) (.slice za dn zc)
              rw [← cl_set C i (c, .slice da dn dc) (.slice za dn zc) HQ.out] at hco6
              have hb16 := (HB1i.out.ext HE5.out).chg hC (by simp; exact blk_ne (HB1i.out.ext HE5.out) hgb (by decide))
              have hb26 := (HB2i.out.ext HE5.out).chg hC (by simp; exact blk_ne (HB2i.out.ext HE5.out) hgb (by decide))
              have hlo6 := own_off (own_ext HLOi.out HE5.out) hC (fun t ht hm => by simp at hm; subst hm; exact own_notin (own_ext HLOi.out HE5.out) hgb (by decide) ht)
              have hls6 : ∀ q ∈ L, (w5.setCell ⟨g, i * 2 + 1, none⟩ (.slice za dn zc)).ownsRow w.heap.size 5 1 q.2 q.1.length (u8s q.1) := fun q hq => by
                have h1 := own_ext (HLS.out q hq) HE5.out
                exact own_off h1 hC (fun t ht hm => by simp at hm; subst hm; exact own_notin h1 hgb (by decide) ht)
              have hoz6 := own_off HOZ.out hC (fun t ht hm => by simp at hm; subst hm; exact own_notin HOZ.out hgb (by decide) ht)
              have hcs6 : ∀ j q, j < i → C[j]? = some q → (w5.setCell ⟨g, i * 2 + 1, none⟩ (.slice za dn zc)).ownsRow w.heap.size 49 2 q.2 q.1.slots.length (q.1.slots.map slR).flatten := fun j q hj hq => by
                have h1 := own_ext (HCS.out j q hj hq) HE5.out
                exact own_off h1 hC (fun t ht hm => by simp at hm; subst hm; exact own_notin h1 hgb (by decide) ht)
              have hE6 : Ext w (w5.setCell ⟨g, i * 2 + 1, none⟩ (.slice za dn zc)) := ((Chg.ext (HEi.out.trans HE5.out) : Chg [g] w w5).trans hC).toExt (fun t ht => by simp at ht; omega)
              have hpw6 : ((C.set i (c, .slice za dn zc)).take (i + 1)).Pairwise (fun q q' => ∀ t ∈ q.2.ownBlock.toList, t ∉ q'.2.ownBlock.toList) := by
                rw [List.take_add_one, List.getElem?_set_self hil, List.take_set, List.set_eq_of_length_le (by rw [List.length_take]; omega)]
                refine List.pairwise_append.2 ⟨HPW.out, by simp, fun q hq q' hq' t ht ht' => ?_⟩
                simp at hq'
                subst hq'
                obtain ⟨j, hj, rfl⟩ := List.getElem_of_mem hq
                rw [List.length_take] at hj
                have h1 := own_type (HCS.out j _ (by omega) (List.getElem?_eq_getElem (by omega))) t (by rw [List.getElem_take] at ht; exact ht)
                have h2 := own_type HOZ.out t ht'
                omega
              generalize w5.setCell ⟨g, i * 2 + 1, none⟩ (.slice za dn zc) = w6 at *
              have H1 := Lib.hid hlo6; have H2 := Lib.hid hb16; have H3' := Lib.hid hb26; have H4' := Lib.hid hco6; have H5' := Lib.hid hoz6; have H6' := Lib.hid hls6; have H7 := Lib.hid hE6; have H8 := Lib.hid hcs6; have H9 := Lib.hid hpw6
              clear hgB hgb hC hil hlo6 hb16 hb26 hco6 hoz6 hls6 hcs6 hpw6 hE6 e0 fz hz1 hz2
              go_roundg (nc - (i + 1))
              case measure => omega
              case rel =>
                refine ⟨i + 1, C.set i (c, .slice za dn zc), by go_num, by omega, ?_, fun j hj => ?_, H1.out, H6'.out, H4'.out, fun j q hj hq => ?_, H9.out, H2.out, H3'.out, H7.out⟩
                · rw [List.map_set, ← HCM.out]
                  apply List.ext_getElem?
                  intro k
                  by_cases hik : i = k
                  · subst hik
                    rw [List.getElem?_set_self (by rw [List.length_map]; exact (List.getElem?_eq_some_iff.1 HQ.out).1), List.getElem?_map, HQ.out]; rfl
                  · rw [List.getElem?_set_ne hik]
                · rw [List.getElem?_set_ne (by omega)]; exact HSAME.out j (by omega)
                · by_cases hij : j = i
                  · subst hij
                    rw [List.getElem?_set_self (List.getElem?_eq_some_iff.1 HQ.out).1] at hq
                    cases hq
                    dsimp only
                    rw [HDN.out]
                    exact own_low H5'.out HEi.out.size
                  · rw [List.getElem?_set_ne (Ne.symm hij)] at hq
                    exact H8.out j q (by omega) hq
          · have hge : (nc : Int) ≤ (i : Int) := by omega
            clear hlt
            go_wp2_with (first | (refine wpList_load_row rfl 25 (.tmp 1) rfl T1 rfl 25 _ (0, 0) _ HB1i.out Tryd.underlying25 rfl (by kernel_rfl) ?_) | (refine wpList_store_row rfl 25 (.tmp 2) (.tmp 49) rfl T2 #[.slice xa n0 xc, .slice ya nc yc] rfl rfl 25 _ HB2i.out (book_size _ _) rfl (by simp [Value.oneCell']) ?_))
            have hin : i = nc := by omega
            have hClen : C.length = nc := by have := congrArg List.length HCM.out; have h2 := congrArg List.length HC.out; rw [List.length_map] at this h2; have := HNC.out; omega
            have hLlen : L.length = n0 := by have := congrArg List.length HLM.out; have h2 := congrArg List.length HL.out; rw [List.length_map] at this h2; have := HN.out; omega
            have hC : Chg [T2] wr (wr.setRow T2 #[.slice xa n0 xc, .slice ya nc yc]) := Chg.some (grown_rowS wr T2 _) (.inl (by simp))
            have key : ∀ {e : TypeId} {s n : Nat} {v : Value} {xs : List Value}, wr.ownsRow w.heap.size e s v n xs → e ≠ 25 → (wr.setRow T2 #[.slice xa n0 xc, .slice ya nc yc]).ownsRow w.heap.size e s v n xs := fun h he => own_off h hC (fun t ht hm => by simp at hm; subst hm; exact own_notin h HB2i.out he ht)
            refine deep_ret T2 _ _ _ _ _ (setRow_heap wr T2 _ _ _ (0, 0) HB2i.out) rfl ⟨_, _, L, C, rfl, ⟨HLM.out, HCM.out, by rw [hLlen]; exact key HLOi.out (by decide), by rw [hClen]; exact key HCOi.out (by decide), fun q hq => key (HLS.out q hq) (by decide), fun q hq => ?_, ?_⟩, ?_⟩
            · obtain ⟨j, hj, rfl⟩ := List.getElem_of_mem hq
              exact key (HCS.out j _ (by omega) (List.getElem?_eq_getElem hj)) (by decide)
            · have := HPW.out
              rw [List.take_of_length_le (by omega)] at this
              exact this
            · exact ((Chg.ext HEi.out : Chg [T2] w wr).trans hC).toExt (fun t ht => by simp at ht; have := HT2.out; omega)
end Go.Proofs.YtgefphfnicjbiaaDoor
