/- Layer 25 (seq): tabellionref25.Find. -/
import Derived.Test.YtgefphfnicjbiaaBun7
set_option linter.unusedSimpArgs false
set_option linter.unusedVariables false
namespace Go.Proofs.Ytgefphfnicjbiaa
open Go Go.RowKit

theorem findP_miss {b : Bk} {cl sq : Int} (h : hitAt (idsB b) cl (posL (idsB b) cl) = false) : findP b cl sq = (0, 8) := by
  unfold findP
  cases hc : b.clients[posL (idsB b) cl]? with
  | none => rfl
  | some c =>
    have := hitAt_false h c.id (by unfold idsB at hc ⊢; rw [List.getElem?_map, hc]; rfl)
    dsimp only
    rw [if_neg this]
theorem findP_not {b : Bk} (hb : Rise b) {c : Cl} (h : c ∈ b.clients) {sq : Int} (hn : ∀ t ∈ c.slots, t.1 ≠ sq) (h4 : ¬ (4 ≤ c.slots.length ∧ ∃ s, c.slots[0]? = some s ∧ sq < s.1)) : findP b c.id sq = (0, 8) := by
  rw [findP_at hb h]
  have key : ¬ (posL (keysC c) sq = 0 ∧ 4 ≤ c.slots.length) := fun ⟨h1, h2⟩ => by
    refine h4 ⟨h2, c.slots[0], List.getElem?_eq_getElem (by omega), ?_⟩
    have hc := posL_cut (keysC c) sq (hb.keys c h)
    rw [h1] at hc
    have h3 := hc.hi 0 c.slots[0].1 (Nat.le_refl _) (by unfold keysC; rw [List.getElem?_map, List.getElem?_eq_getElem (by omega)]; rfl)
    have := hn c.slots[0] (List.getElem_mem _)
    omega
  cases hs : c.slots[posL (keysC c) sq]? with
  | none => dsimp only; rw [if_neg key]
  | some s =>
    dsimp only
    rw [if_neg (hn s (List.mem_of_getElem? hs)), if_neg key]
set_option maxRecDepth 100000 in
set_option maxHeartbeats 4000000 in
theorem rfind_c (v : Value) (b : Bk) (cl sq : Int) (w : World) (h : BookV w v b) (hb : Rise b) : Calls Try.prog 41 #[v, .int .u64 cl, .int .u64 sq] w (RetE (.tuple #[.int .u64 (findP b cl sq).1, .int .i64 (findP b cl sq).2]) w) := by
  have hcl := fun W h => client_c v b cl W h hb
  have HV := Lib.hid h
  obtain ⟨lv, cv, L, C, rfl, hL, hC, h3, h4, h5, h6⟩ := h
  obtain ⟨la, lc, rfl, hl1, hl2⟩ := h3.shape
  obtain ⟨ca, cc, rfl, hc1, hc2⟩ := h4.shape
  have e2 : (C.map clR).length = b.clients.length := by rw [List.length_map, ← hC, List.length_map]
  generalize (L.map lfR).length = nL at *
  rw [e2] at hc1 h4 hcl HV ⊢
  obtain ⟨nC, hnC⟩ : ∃ n, n = b.clients.length := ⟨_, rfl⟩
  rw [← hnC] at hc1 h4 hcl HV ⊢
  obtain ⟨⟨fi, fe⟩, hF⟩ : ∃ F, F = findP b cl sq := ⟨_, rfl⟩
  rw [← hF]
  have HC := Lib.hid hC; have H4 := Lib.hid h4; have H6 := Lib.hid h6; have HNC := Lib.hid hnC; have HB := Lib.hid hb; have HF := Lib.hid hF; have HCL := Lib.hid hcl
  clear hL hC h3 h4 h5 h6 hnC e2 hb hF hcl
  dsimp only
  go_enter Try.func41, Try.ntmps41
  have hE0 := Ext.alloc w (.cells #[.slice la nL lc, .slice ca nC cc] 27)
  have HB1 := Lib.hid (Blk.new w #[.slice la nL lc, .slice ca nC cc] 27)
  go_wp2_with fail
  refine (HCL.out _ (HV.out.ext hE0)).mono ?_
  rintro e w2 ⟨rfl, hE2⟩
  have c21 := (HB1.out.ext hE2).cell 1 rfl
  simp only [List.getElem_toArray, List.getElem_cons_zero, List.getElem_cons_succ] at c21
  have HE2 := Lib.hid (hE0.trans hE2)
  clear hE0 hE2 HB1 HCL HV
  unfold clientI
  cases hh : hitAt (idsB b) cl (posL (idsB b) cl) with
  | false =>
    have hX : (fi, fe) = (0, 8) := by rw [HF.out]; exact findP_miss hh
    cases hX
    clear hh
    simp only [Bool.false_eq_true, if_false]
    go_wp2_with fail
    go_ret2
    exact ⟨rfl, HE2.out⟩
  | true =>
    have hid := hitAt_true hh
    generalize posL (idsB b) cl = P at *
    simp only [if_true]
    obtain ⟨c, hc, hcid⟩ : ∃ c, b.clients[P]? = some c ∧ c.id = cl := by
      unfold idsB at hid
      rw [List.getElem?_map] at hid
      cases hc : b.clients[P]? with
      | none => rw [hc] at hid; cases hid
      | some c => rw [hc] at hid; exact ⟨c, rfl, Option.some.inj hid⟩
    obtain ⟨q, hq, hqc⟩ : ∃ q, C[P]? = some q ∧ q.1 = c := by
      rw [← HC.out, List.getElem?_map] at hc
      cases hq : C[P]? with
      | none => rw [hq] at hc; cases hc
      | some q => rw [hq] at hc; exact ⟨q, rfl, Option.some.inj hc⟩
    have hPl : (P : Int) < (nC : Int) := by have := (List.getElem?_eq_some_iff.1 hc).1; have := HNC.out; omega
    obtain ⟨s1, o1, rfl, hcell⟩ := H4.out.cells2 hq
    have d1 := HE2.out.cell (hcell 1 _ rfl)
    have hsl : RowV w 2 q.2 (q.1.slots.map slR) := H6.out q (List.mem_of_getElem? hq)
    obtain ⟨sa, sc, hsv, hs1, hs2⟩ := hsl.shape
    rw [List.length_map, hqc] at hsv hs1
    obtain ⟨ns, hns⟩ : ∃ n, n = c.slots.length := ⟨_, rfl⟩
    rw [← hns] at hsv hs1
    rw [hsv] at d1 hsl
    rw [hqc] at hsl
    have HSL := Lib.hid hsl; have HNS := Lib.hid hns; have HMEM := Lib.hid (List.mem_of_getElem? hc); have HCID := Lib.hid hcid
    clear hid hh hc hcid hq hqc hcell hsv hsl hns
    go_wp2_with fail
    go_loopg [10] ns (fun g v10 wr => ∃ k : Nat, v10 = .int .i64 (k : Int) ∧ k + g = ns ∧ wr = w2 ∧ ∀ (j : Nat) s, j < k → c.slots[j]? = some s → s.1 ≠ sq)
    case atStart => exact ⟨0, rfl, by omega, rfl, fun j q hj => by omega⟩
    case round =>
      obtain ⟨k, rfl, hkn, rfl, hno⟩ := hrel
      have HNO := Lib.hid hno
      clear hno
      by_cases hk : k < ns
      · have hk1 : (k : Int) < (ns : Int) := by omega
        obtain ⟨s, hs⟩ : ∃ s, c.slots[k]? = some s := ⟨_, List.getElem?_eq_getElem (by have := HNS.out; omega)⟩
        obtain ⟨s3, o3, rfl, hc3⟩ := HSL.out.cells2 hs
        have d3 := HE2.out.cell (hc3 0 _ rfl); have d4 := HE2.out.cell (hc3 1 _ rfl)
        rw [Nat.add_zero] at d3
        obtain ⟨y1, y2⟩ := s
        dsimp only at d3 d4
        have HS := Lib.hid hs
        clear hc3 hk hs
        by_cases hyx : y1 = sq
        · have b1 : (y1 == sq) = true := by simpa using hyx
          have hX : (fi, fe) = (y2, 0) := by
            rw [HF.out, ← HCID.out, ← hyx]
            exact findP_hit HB.out HMEM.out (List.mem_of_getElem? HS.out)
          cases hX
          clear hyx
          go_wp2_with fail
          go_ret2
          exact ⟨rfl, HE2.out⟩
        · have b1 : (y1 == sq) = false := by simpa using hyx
          have HNE := Lib.hid hyx
          clear hyx
          go_wp2_with fail
          go_roundg (ns - (k + 1))
          case measure => omega
          case rel =>
            refine ⟨k + 1, by go_num, by omega, rfl, fun j s' hj hjs => ?_⟩
            rcases Nat.lt_succ_iff_lt_or_eq.1 hj with h1 | rfl
            · exact HNO.out j s' h1 hjs
            · rw [HS.out] at hjs; cases hjs; exact HNE.out
      · have hge : (ns : Int) ≤ (k : Int) := by omega
        have hall : ∀ t ∈ c.slots, t.1 ≠ sq := fun t ht => by
          obtain ⟨j, hj⟩ := List.getElem?_of_mem ht
          exact HNO.out j t (by have := (List.getElem?_eq_some_iff.1 hj).1; have := HNS.out; omega) hj
        have HALL := Lib.hid hall
        clear hk hkn hall
        by_cases h4 : 4 ≤ ns
        · have h4' : (4 : Int) ≤ (ns : Int) := by omega
          have h4'' : (0 : Int) < (ns : Int) := by omega
          obtain ⟨s, hs⟩ : ∃ s, c.slots[0]? = some s := ⟨_, List.getElem?_eq_getElem (by have := HNS.out; omega)⟩
          obtain ⟨s3, o3, rfl, hc3⟩ := HSL.out.cells2 hs
          have d3 := HE2.out.cell (hc3 0 _ rfl)
          simp only [Nat.zero_mul, Nat.add_zero] at d3
          by_cases hlt : sq < s.1
          · have hX : (fi, fe) = (0, 13) := by
              rw [HF.out, ← HCID.out]
              refine findP_old HB.out HMEM.out (by have := HNS.out; omega) fun t ht => ?_
              obtain ⟨j, hj⟩ := List.getElem?_of_mem ht
              have hpw := HB.out.keys c HMEM.out
              unfold keysC at hpw
              rw [List.pairwise_map, List.pairwise_iff_getElem] at hpw
              obtain ⟨hj1, hj2⟩ := List.getElem?_eq_some_iff.1 hj
              obtain ⟨h01, h02⟩ := List.getElem?_eq_some_iff.1 hs
              rcases Nat.eq_zero_or_pos j with h0 | h0
              · subst h0; rw [← hj2, h02]; exact hlt
              · have := hpw 0 j h01 hj1 h0
                rw [h02, hj2] at this; omega
            cases hX
            clear hc3 hs h4
            generalize s.1 = y at *
            go_wp2_with fail
            go_ret2
            exact ⟨rfl, HE2.out⟩
          · have hX : (fi, fe) = (0, 8) := by
              rw [HF.out, ← HCID.out]
              refine findP_not HB.out HMEM.out HALL.out fun ⟨_, s', hs', hlt'⟩ => ?_
              rw [hs] at hs'; cases hs'; exact hlt hlt'
            have hle : s.1 ≤ sq := by omega
            cases hX
            clear hc3 hs h4 hlt
            generalize s.1 = y at *
            go_wp2_with fail
            go_ret2
            exact ⟨rfl, HE2.out⟩
        · have hX : (fi, fe) = (0, 8) := by
            rw [HF.out, ← HCID.out]
            exact findP_not HB.out HMEM.out HALL.out fun ⟨h, _⟩ => h4 (by have := HNS.out; omega)
          have h4' : (ns : Int) < 4 := by omega
          cases hX
          clear h4
          go_wp2_with fail
          go_ret2
          exact ⟨rfl, HE2.out⟩
end Go.Proofs.Ytgefphfnicjbiaa
