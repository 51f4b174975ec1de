/- Layer 25 (seq): tabellionref25.Same of a book and itself. -/
import Derived.Test.YtgefphfnicjbiaaDoorBun8
set_option linter.unusedSimpArgs false
set_option linter.unusedVariables false
namespace Go.Proofs.YtgefphfnicjbiaaDoor
open Go Go.RowKit

set_option maxRecDepth 100000 in
set_option maxHeartbeats 8000000 in
theorem rsame25_c (v v' : Value) (b : Bk) (w : World) (h : BookV w v b) (h' : BookV w v' b) : Calls Tryd.prog 11 #[v, v'] w (RetE (.bool true) w) := by
  obtain ⟨lv, cv, L, C, rfl, hL, hC, h3, h4, h5, h6⟩ := h
  obtain ⟨lv', cv', L', C', rfl, hL', hC', h3', h4', h5', h6'⟩ := h'
  obtain ⟨la, lc, rfl, hl1, hl2⟩ := h3.shape
  obtain ⟨ca, cc, rfl, hc1, hc2⟩ := h4.shape
  obtain ⟨la', lc', rfl, hl1', hl2'⟩ := h3'.shape
  obtain ⟨ca', cc', rfl, hc1', hc2'⟩ := h4'.shape
  have e1 : (L.map lfR).length = b.leaves.length := by rw [List.length_map, ← hL, List.length_map]
  have e2 : (C.map clR).length = b.clients.length := by rw [List.length_map, ← hC, List.length_map]
  have e3 : (L'.map lfR).length = b.leaves.length := by rw [List.length_map, ← hL', List.length_map]
  have e4 : (C'.map clR).length = b.clients.length := by rw [List.length_map, ← hC', List.length_map]
  rw [e1] at hl1; rw [e2] at hc1; rw [e3] at hl1'; rw [e4] at hc1'
  rw [e1] at h3; rw [e2] at h4; rw [e3] at h3'; rw [e4] at h4'
  rw [e1, e2, e3, e4]
  obtain ⟨nL, hnL⟩ : ∃ n, n = b.leaves.length := ⟨_, rfl⟩
  obtain ⟨nC, hnC⟩ : ∃ n, n = b.clients.length := ⟨_, rfl⟩
  rw [← hnL] at hl1 hl1' h3 h3' ⊢
  rw [← hnC] at hc1 hc1' h4 h4' ⊢
  have HL := Lib.hid hL; have HC := Lib.hid hC; have H3 := Lib.hid h3; have H4 := Lib.hid h4; have H5 := Lib.hid h5; have H6 := Lib.hid h6; have HNL := Lib.hid hnL; have HNC := Lib.hid hnC
  have HL' := Lib.hid hL'; have HC' := Lib.hid hC'; have H3' := Lib.hid h3'; have H4' := Lib.hid h4'; have H5' := Lib.hid h5'; have H6' := Lib.hid h6'
  clear hL hC h3 h4 h5 h6 hnL hnC hL' hC' h3' h4' h5' h6' e1 e2 e3 e4
  go_enter Tryd.func11, Tryd.ntmps11
  go_upto_region 1 with fail
  obtain ⟨T2, hT2⟩ : ∃ T, T = w.heap.size := ⟨_, rfl⟩
  have hB2 := (Blk.new w #[.slice la nL lc, .slice ca nC cc] 25).alloc (.cells #[.slice la' nL lc', .slice ca' nC cc'] 25)
  have hB3 := Blk.new (w.alloc (.cells #[.slice la nL lc, .slice ca nC cc] 25)) #[.slice la' nL lc', .slice ca' nC cc'] 25
  simp only [World.size_alloc] at hB3
  have hE := (Ext.alloc w (.cells #[.slice la nL lc, .slice ca nC cc] 25)).trans (Ext.alloc _ (.cells #[.slice la' nL lc', .slice ca' nC cc'] 25))
  rw [← hT2] at hB2 hB3 ⊢
  generalize (w.alloc (.cells #[.slice la nL lc, .slice ca nC cc] 25)).alloc (.cells #[.slice la' nL lc', .slice ca' nC cc'] 25) = W1 at *
  have c20 := hB2.cell 0 rfl; have c21 := hB2.cell 1 rfl; have c30 := hB3.cell 0 rfl; have c31 := hB3.cell 1 rfl
  simp only [List.getElem_toArray, List.getElem_cons_zero, List.getElem_cons_succ] at c20 c21 c30 c31
  have HB2 := Lib.hid hB2; have HB3 := Lib.hid hB3; have HE := Lib.hid hE
  clear hB2 hB3 hE hT2
  go_wp2_with fail
  go_loopg [5] nL (fun g v5 wr => ∃ k : Nat, v5 = .int .i64 (k : Int) ∧ k + g = nL ∧ Ext W1 wr)
  case atStart => exact ⟨0, rfl, by omega, Ext.refl _⟩
  case round =>
    clear c20 c21 c30 c31
    obtain ⟨k, rfl, hkn, hE4⟩ := hrel
    by_cases hk : k < nL
    · have hk1 : (k : Int) < (nL : Int) := by omega
      obtain ⟨q, hq⟩ : ∃ q, L[k]? = some q := ⟨_, List.getElem?_eq_getElem (by have h1 := congrArg List.length HL.out; rw [List.length_map] at h1; have := HNL.out; omega)⟩
      obtain ⟨q', hq'⟩ : ∃ q, L'[k]? = some q := ⟨_, List.getElem?_eq_getElem (by have h1 := congrArg List.length HL'.out; rw [List.length_map] at h1; have := HNL.out; omega)⟩
      have hqq : q.1 = q'.1 := by
        have h1 : b.leaves[k]? = some q.1 := by rw [← HL.out, List.getElem?_map, hq]; rfl
        have h2 : b.leaves[k]? = some q'.1 := by rw [← HL'.out, List.getElem?_map, hq']; rfl
        rw [h1] at h2; exact Option.some.inj h2
      obtain ⟨s1, o1, rfl, hc1⟩ := H3.out.cells1 hq
      obtain ⟨s2, o2, rfl, hc2'⟩ := H3'.out.cells1 hq'
      have hEw := HE.out.trans hE4
      have cv1 := fun n => ((H5.out q (List.mem_of_getElem? hq)).ext (hEw.trans (Ext.drewN _ n))).convert Tryd.underlying27 Tryd.underlying5 Tryd.underlying9
      have cv2 := fun n => ((H5'.out q' (List.mem_of_getElem? hq')).ext (hEw.trans (Ext.drewN _ n))).convert Tryd.underlying27 Tryd.underlying5 Tryd.underlying9
      have d1 := hEw.cell hc1; have d2 := hEw.cell hc2'
      have c30 := (HB3.out.ext hE4).cell 0 rfl; have c20 := (HB2.out.ext hE4).cell 0 rfl
      simp only [List.getElem_toArray, List.getElem_cons_zero, List.getElem_cons_succ] at c30 c20
      rw [← hqq] at cv2
      have HE4 := Lib.hid hE4
      clear hc1 hc2' hq hq' hE4 hk hqq hEw
      generalize strOfNums q.1 = sl at *
      go_wp2_with fail
      go_big_quiet (fail)
      go_wp2_with fail
      go_roundg (nL - (k + 1))
      case measure => omega
      case rel => exact ⟨k + 1, by go_num, by omega, HE4.out.trans (Ext.drewN _ _)⟩
    · have hge : (nL : Int) ≤ (k : Int) := by omega
      have c21 := (HB2.out.ext hE4).cell 1 rfl; have c31 := (HB3.out.ext hE4).cell 1 rfl
      have c20 := (HB2.out.ext hE4).cell 0 rfl
      simp only [List.getElem_toArray, List.getElem_cons_zero, List.getElem_cons_succ] at c21 c31 c20
      have HE4 := Lib.hid hE4
      clear hk hkn hE4
      go_wp2_with fail
      go_loopg [6] nC (fun g v6 wr => ∃ k : Nat, v6 = .int .i64 (k : Int) ∧ k + g = nC ∧ Ext W1 wr)
      case atStart => exact ⟨0, rfl, by omega, HE4.out⟩
      case round =>
        clear c21 c31 c20 hge HE4
        obtain ⟨k', rfl, hkn, hE4⟩ := hrel
        by_cases hk : k' < nC
        · have hk1 : (k' : Int) < (nC : Int) := by omega
          obtain ⟨q, hq⟩ : ∃ q, C[k']? = some q := ⟨_, List.getElem?_eq_getElem (by have h1 := congrArg List.length HC.out; rw [List.length_map] at h1; have := HNC.out; omega)⟩
          obtain ⟨q', hq'⟩ : ∃ q, C'[k']? = some q := ⟨_, List.getElem?_eq_getElem (by have h1 := congrArg List.length HC'.out; rw [List.length_map] at h1; have := HNC.out; omega)⟩
          have hqq : q.1 = q'.1 := by
            have h1 : b.clients[k']? = some q.1 := by rw [← HC.out, List.getElem?_map, hq]; rfl
            have h2 : b.clients[k']? = some q'.1 := by rw [← HC'.out, List.getElem?_map, hq']; rfl
            rw [h1] at h2; exact Option.some.inj h2
          obtain ⟨s1, o1, rfl, hc1⟩ := H4.out.cells2 hq
          obtain ⟨s2, o2, rfl, hc2'⟩ := H4'.out.cells2 hq'
          have hEw := HE.out.trans hE4
          have hs1 : RowV w 2 q.2 (q.1.slots.map slR) := H6.out q (List.mem_of_getElem? hq)
          have hs2 : RowV w 2 q'.2 (q'.1.slots.map slR) := H6'.out q' (List.mem_of_getElem? hq')
          rw [← hqq] at hs2
          obtain ⟨a1, n1, e1, hm1, hm2⟩ := hs1.shape
          obtain ⟨a2, n2, e2, hm3, hm4⟩ := hs2.shape
          rw [List.length_map] at e1 e2 hm1 hm3
          have d0 := hEw.cell (hc1 0 _ rfl); have d1 := hEw.cell (hc1 1 _ rfl); have d2 := hEw.cell (hc2' 0 _ rfl); have d3 := hEw.cell (hc2' 1 _ rfl)
          rw [Nat.add_zero] at d0 d2
          rw [← hqq] at d2
          obtain ⟨⟨x, ss⟩, qv⟩ := q
          obtain ⟨q1', qv'⟩ := q'
          dsimp only at hqq e1 e2 hm1 hm3 hs1 hs2 d0 d1 d2 d3
          subst hqq
          subst e1 e2
          obtain ⟨m, hm⟩ : ∃ m, m = ss.length := ⟨_, rfl⟩
          rw [← hm] at hm1 hm3 hs1 hs2 d1 d3
          have c30 := (HB3.out.ext hE4).cell 1 rfl; have c20 := (HB2.out.ext hE4).cell 1 rfl
          simp only [List.getElem_toArray, List.getElem_cons_zero, List.getElem_cons_succ] at c30 c20
          have HE4 := Lib.hid hE4; have HS1 := Lib.hid hs1; have HS2 := Lib.hid hs2; have HM := Lib.hid hm
          clear hc1 hc2' hq hq' hE4 hk hEw hs1 hs2 hm
          go_upto_region 12 with fail
          obtain ⟨T7, hT7⟩ : ∃ T, T = wr.heap.size := ⟨_, rfl⟩
          rw [← hT7]
          have hB7 := Blk.new wr #[.int .u64 x, .slice a1 m n1] 47
          have hE7 := Ext.alloc wr (.cells #[.int .u64 x, .slice a1 m n1] 47)
          rw [← hT7] at hB7
          generalize wr.alloc (.cells #[.int .u64 x, .slice a1 m n1] 47) = W7 at *
          have c30 := hE7.cell c30; have d2 := hE7.cell d2; have d3 := hE7.cell d3
          have HB7 := Lib.hid hB7; have HE7 := Lib.hid hE7
          clear hB7 hE7 hT7 d0 d1 c20
          go_upto_region 13 with fail
          obtain ⟨T8, hT8⟩ : ∃ T, T = W7.heap.size := ⟨_, rfl⟩
          rw [← hT8]
          have hB8 := Blk.new W7 #[.int .u64 x, .slice a2 m n2] 47
          have hE8 := Ext.alloc W7 (.cells #[.int .u64 x, .slice a2 m n2] 47)
          rw [← hT8] at hB8
          generalize W7.alloc (.cells #[.int .u64 x, .slice a2 m n2] 47) = W8 at *
          have hB7 := HB7.out.ext hE8
          have b70 := hB7.cell 0 rfl; have b71 := hB7.cell 1 rfl; have b80 := hB8.cell 0 rfl; have b81 := hB8.cell 1 rfl
          simp only [List.getElem_toArray, List.getElem_cons_zero, List.getElem_cons_succ] at b70 b71 b80 b81
          have HB7 := Lib.hid hB7; have HB8 := Lib.hid hB8; have HE8 := Lib.hid ((HE4.out.trans HE7.out).trans hE8)
          clear hB8 hE8 hT8 d2 d3 c30 hB7 HE7 HE4
          go_wp2_with fail
          go_loopg [9] m (fun g v9 wr => ∃ j : Nat, v9 = .int .i64 (j : Int) ∧ j + g = m ∧ Ext W8 wr)
          case atStart => exact ⟨0, rfl, by omega, Ext.refl _⟩
          case round =>
            clear b70 b71 b80 b81
            obtain ⟨j, rfl, hjn, hE9⟩ := hrel
            have b71 := (HB7.out.ext hE9).cell 1 rfl; have b81 := (HB8.out.ext hE9).cell 1 rfl
            simp only [List.getElem_toArray, List.getElem_cons_zero, List.getElem_cons_succ] at b71 b81
            by_cases hj : j < m
            · have hj1 : (j : Int) < (m : Int) := by omega
              obtain ⟨s, hs⟩ : ∃ s, ss[j]? = some s := ⟨_, List.getElem?_eq_getElem (by have := HM.out; omega)⟩
              have hEx := (HE.out.trans HE8.out).trans hE9
              obtain ⟨s3, o3, rfl, hc3⟩ := HS1.out.cells2 hs
              obtain ⟨s4, o4, rfl, hc4⟩ := HS2.out.cells2 hs
              have d0 := hEx.cell (hc3 0 _ rfl); have d1 := hEx.cell (hc3 1 _ rfl); have d2 := hEx.cell (hc4 0 _ rfl); have d3 := hEx.cell (hc4 1 _ rfl)
              rw [Nat.add_zero] at d0 d2
              have HE9 := Lib.hid hE9
              clear hc3 hc4 hs hEx hE9 hj
              generalize s.1 = y1 at *
              generalize s.2 = y2 at *
              go_wp2_with fail
              go_big_quiet (fail)
              go_wp2_with fail
              go_roundg (m - (j + 1))
              case measure => omega
              case rel => exact ⟨j + 1, by go_num, by omega, HE9.out.trans (Ext.drewN _ _)⟩
            · have hge : (m : Int) ≤ (j : Int) := by omega
              have HE9 := Lib.hid (HE8.out.trans hE9)
              clear hj hjn hE9
              go_wp2_with fail
              go_roundg (nC - (k' + 1))
              case measure => omega
              case rel => exact ⟨k' + 1, by go_num, by omega, HE9.out⟩
        · have hge2 : (nC : Int) ≤ (k' : Int) := by omega
          have c21 := (HB2.out.ext hE4).cell 1 rfl
          simp only [List.getElem_toArray, List.getElem_cons_zero, List.getElem_cons_succ] at c21
          have HE4 := Lib.hid (HE.out.trans hE4)
          clear hk hkn hE4
          go_wp2_with fail
          go_ret
          exact ⟨rfl, HE4.out⟩
end Go.Proofs.YtgefphfnicjbiaaDoor
