/- Layer 25 (seq): tabellionref25.Formed. -/
import Derived.Test.YtgefphfnicjbiaaDoorSkva
import Derived.Test.YtgefphfnicjbiaaDoorSqs
import Derived.Deep.QuietTactic
import Derived.BigQuiet
set_option linter.unusedSimpArgs false
set_option linter.unusedVariables false
namespace Go.Proofs.YtgefphfnicjbiaaDoor
open Go Go.RowKit

theorem pw_step {l : List Int} {k : Nat} {x : Int} (h : l[k]? = some x) (hp : (l.take k).Pairwise (· < ·)) (hy : ∀ (j : Nat) y, k = j + 1 → l[j]? = some y → y < x) : (l.take (k + 1)).Pairwise (· < ·) := by
  rw [take_snoc h]
  refine (upTo_snoc _ _).2 ⟨hp, ?_⟩
  unfold upTo
  cases k with
  | zero => simp
  | succ j =>
    have hl := (List.getElem?_eq_some_iff.1 h).1
    obtain ⟨y, hyj⟩ : ∃ y, l[j]? = some y := ⟨_, List.getElem?_eq_getElem (by omega)⟩
    rw [take_snoc hyj, List.getLast?_concat]
    simpa using hy j y rfl hyj
theorem pw_bad {l : List Int} {j : Nat} {x y : Int} (h : l[j + 1]? = some x) (hy : l[j]? = some y) (hle : x ≤ y) : ¬ l.Pairwise (· < ·) := fun hp => by
  obtain ⟨h1, h2⟩ := List.getElem?_eq_some_iff.1 h
  obtain ⟨h3, h4⟩ := List.getElem?_eq_some_iff.1 hy
  have := List.pairwise_iff_getElem.1 hp j (j + 1) h3 h1 (by omega)
  omega
/-- A client that may stand in a formed book. -/
def goodC (n : Nat) (c : Cl) : Prop := 1 ≤ c.slots.length ∧ c.slots.length ≤ 4 ∧ (c.slots.map (·.1)).Pairwise (· < ·) ∧ ∀ s ∈ c.slots, s.2 < (n : Int)
theorem formedK_iff' (b : Bk) : formedK b = true ↔ b.leaves.length ≤ 64 ∧ (∀ l ∈ b.leaves, l.length ≤ 64) ∧ b.clients.length ≤ 8 ∧ (b.clients.map (·.id)).Pairwise (· < ·) ∧ ∀ c ∈ b.clients, goodC b.leaves.length c := formedK_iff b
theorem formedK_no {b : Bk} (h : ¬ (b.leaves.length ≤ 64 ∧ (∀ l ∈ b.leaves, l.length ≤ 64) ∧ b.clients.length ≤ 8 ∧ (b.clients.map (·.id)).Pairwise (· < ·) ∧ ∀ c ∈ b.clients, goodC b.leaves.length c)) : formedK b = false := by
  rw [← Bool.not_eq_true, formedK_iff']; exact h
/-- Sizes of a book that can be looked through. -/
structure BkBe (b : Bk) : Prop where
  leaves : b.leaves.length ≤ 9223372036854775807
  slots : ∀ c ∈ b.clients, c.slots.length ≤ 9223372036854775807
set_option maxRecDepth 100000 in
set_option maxHeartbeats 8000000 in
theorem rformed_c (v : Value) (b : Bk) (w : World) (h : BookV w v b) (hbd : BkBe b) (hu : ∀ c ∈ b.clients, ∀ s ∈ c.slots, 0 ≤ s.2) : Calls Tryd.prog 5 #[v] w (RetE (.bool (formedK b)) w) := by
  obtain ⟨lv, cv, L, C, rfl, hL, hC, h3, h4, h5, h6⟩ := h
  obtain ⟨la, lc, rfl, hl1, hl2⟩ := h3.shape
  obtain ⟨ca, cc, rfl, hc1, hc2⟩ := h4.shape
  have e1 : (L.map lfR).length = b.leaves.length := by rw [List.length_map, ← hL, List.length_map]
  have e2 : (C.map clR).length = b.clients.length := by rw [List.length_map, ← hC, List.length_map]
  rw [e1] at hl1 h3 ⊢
  rw [e2] at hc1 h4 ⊢
  obtain ⟨nL, hnL⟩ : ∃ n, n = b.leaves.length := ⟨_, rfl⟩
  obtain ⟨nC, hnC⟩ : ∃ n, n = b.clients.length := ⟨_, rfl⟩
  have hnLb : nL ≤ 9223372036854775807 := by have := hbd.leaves; omega
  rw [← hnL] at hl1 h3 ⊢
  rw [← hnC] at hc1 h4 ⊢
  have HL := Lib.hid hL; have HC := Lib.hid hC; have H3 := Lib.hid h3; have H4 := Lib.hid h4; have H5 := Lib.hid h5; have H6 := Lib.hid h6; have HNL := Lib.hid hnL; have HNC := Lib.hid hnC; have HBD := Lib.hid hbd; have HU := Lib.hid hu
  obtain ⟨r, hr⟩ : ∃ r, r = formedK b := ⟨_, rfl⟩
  rw [← hr]
  have HR := Lib.hid hr
  have HNO : Hid (¬ (b.leaves.length ≤ 64 ∧ (∀ l ∈ b.leaves, l.length ≤ 64) ∧ b.clients.length ≤ 8 ∧ (b.clients.map (·.id)).Pairwise (· < ·) ∧ ∀ c ∈ b.clients, goodC b.leaves.length c) → r = false) := Lib.hid fun h => by rw [hr]; exact formedK_no h
  clear hL hC h3 h4 h5 h6 hnL hnC e1 e2 hbd hr hu
  go_enter Tryd.func5, Tryd.ntmps5
  go_upto_region 1 with fail
  have hB := Blk.new w #[.slice la nL lc, .slice ca nC cc] 25
  have hE := Ext.alloc w (.cells #[.slice la nL lc, .slice ca nC cc] 25)
  obtain ⟨T1, hT1⟩ : ∃ T, T = w.heap.size := ⟨_, rfl⟩
  rw [← hT1] at hB ⊢
  generalize w.alloc (.cells #[.slice la nL lc, .slice ca nC cc] 25) = W1 at *
  have c0 := hB.cell 0 rfl; have c1 := hB.cell 1 rfl
  simp only [List.getElem_toArray, List.getElem_cons_zero, List.getElem_cons_succ] at c0 c1
  have HB := Lib.hid hB; have HE := Lib.hid hE
  clear hB hE hT1
  by_cases hL64 : 64 < nL
  · have hL64' : (64 : Int) < (nL : Int) := by omega
    have hrf : r = false := HNO.out fun h => by have := h.1; have := HNL.out; omega
    subst hrf
    go_wp2_with fail
    go_ret
    exact ⟨rfl, HE.out⟩
  by_cases hC8 : 8 < nC
  · have hL64' : (nL : Int) ≤ 64 := by omega
    have hC8' : (8 : Int) < (nC : Int) := by omega
    have hrf : r = false := HNO.out fun h => by have := h.2.2.1; have := HNC.out; omega
    subst hrf
    clear hL64
    go_wp2_with fail
    go_ret
    exact ⟨rfl, HE.out⟩
  have hL64' : (nL : Int) ≤ 64 := by omega
  have hC8' : (nC : Int) ≤ 8 := by omega
  clear hL64 hC8
  go_wp2_with fail
  go_loopg [3] nL (fun g v3 wr => ∃ k : Nat, v3 = .int .i64 (k : Int) ∧ k + g = nL ∧ wr = W1 ∧ ∀ (j : Nat) l, j < k → b.leaves[j]? = some l → l.length ≤ 64)
  case atStart => exact ⟨0, rfl, by omega, rfl, fun j q hj => by omega⟩
  case round =>
    obtain ⟨k, rfl, hkn, rfl, hall⟩ := hrel
    have HALL := Lib.hid hall
    clear hall
    by_cases hk : k < nL
    · have hk1 : (k : Int) < (nL : Int) := by omega
      obtain ⟨q, hq⟩ : ∃ q, L[k]? = some q := ⟨_, List.getElem?_eq_getElem (by have h1 := congrArg List.length HL.out; rw [List.length_map] at h1; have := HNL.out; omega)⟩
      have hlq : b.leaves[k]? = some q.1 := by rw [← HL.out, List.getElem?_map, hq]; rfl
      obtain ⟨s1, o1, rfl, hcell⟩ := H3.out.cells1 hq
      obtain ⟨da, dc, hdv, hd1, hd2, -⟩ := H5.out q (List.mem_of_getElem? hq)
      rw [u8s_len] at hdv hd1
      have d0 := HE.out.cell hcell
      rw [hdv] at d0
      obtain ⟨m, hm⟩ : ∃ m, m = q.1.length := ⟨_, rfl⟩
      rw [← hm] at d0 hd1
      replace hd2 : dc ≤ 9223372036854775807 := by unfold maxLen at hd2; omega
      have HLQ := Lib.hid hlq; have HM := Lib.hid hm
      clear hq hlq hcell hdv hm hk
      by_cases h64 : 64 < m
      · have h64' : (64 : Int) < (m : Int) := by omega
        have hrf : r = false := HNO.out fun h => by have := h.2.1 _ (List.mem_of_getElem? HLQ.out); have := HM.out; omega
        subst hrf
        go_wp2_with fail
        go_ret
        exact ⟨rfl, HE.out⟩
      · have h64' : (m : Int) ≤ 64 := by omega
        clear h64
        go_wp2_with fail
        go_roundg (nL - (k + 1))
        case measure => omega
        case rel =>
          refine ⟨k + 1, by go_num, by omega, rfl, fun j l hj hjl => ?_⟩
          rcases Nat.lt_succ_iff_lt_or_eq.1 hj with h1 | rfl
          · exact HALL.out j l h1 hjl
          · rw [HLQ.out] at hjl; cases hjl; have := HM.out; omega
    · have hge : (nL : Int) ≤ (k : Int) := by omega
      have hlv : ∀ l ∈ b.leaves, l.length ≤ 64 := fun l hl => by
        obtain ⟨j, hj⟩ := List.getElem?_of_mem hl
        exact HALL.out j l (by have := (List.getElem?_eq_some_iff.1 hj).1; have := HNL.out; omega) hj
      have HLV := Lib.hid hlv
      clear hlv hk hkn HALL
      obtain ⟨W1, hW1⟩ : ∃ W, W = wr := ⟨_, rfl⟩
      subst hW1
      go_wp2_with fail
      go_loopg [4] nC (fun g v4 wr => ∃ i : Nat, v4 = .int .i64 (i : Int) ∧ i + g = nC ∧ Ext W1 wr ∧ ((b.clients.map (·.id)).take i).Pairwise (· < ·) ∧ ∀ (j : Nat) c, j < i → b.clients[j]? = some c → goodC nL c)
      case atStart => exact ⟨0, rfl, by omega, Ext.refl _, by simp, fun j q hj => by omega⟩
      case round =>
        obtain ⟨i, rfl, hin, hEr, hpw, hgood⟩ := hrel
        have HEr := Lib.hid hEr; have HPW := Lib.hid hpw; have HGOOD := Lib.hid hgood
        clear c0 c1 hEr hpw hgood
        have c0 := (HB.out.ext HEr.out).cell 0 rfl; have c1 := (HB.out.ext HEr.out).cell 1 rfl
        simp only [List.getElem_toArray, List.getElem_cons_zero, List.getElem_cons_succ] at c0 c1
        by_cases hi : i < nC
        · have hi1 : (i : Int) < (nC : Int) := by omega
          obtain ⟨⟨⟨cid, csl⟩, qv⟩, hq⟩ : ∃ q, C[i]? = some q := ⟨_, List.getElem?_eq_getElem (by have h1 := congrArg List.length HC.out; rw [List.length_map] at h1; have := HNC.out; omega)⟩
          have hlq : b.clients[i]? = some ⟨cid, csl⟩ := by rw [← HC.out, List.getElem?_map, hq]; rfl
          obtain ⟨s1, o1, rfl, hcell⟩ := H4.out.cells2 hq
          have hsl : RowV w 2 qv (csl.map slR) := H6.out _ (List.mem_of_getElem? hq)
          obtain ⟨sa, sc, rfl, hs1, hs2⟩ := hsl.shape
          rw [List.length_map] at hs1 hsl hcell
          obtain ⟨m, hm⟩ : ∃ m, m = csl.length := ⟨_, rfl⟩
          rw [← hm] at hs1 hsl hcell
          have d0 := (HE.out.trans HEr.out).cell (hcell 0 _ rfl); have d1 := (HE.out.trans HEr.out).cell (hcell 1 _ rfl)
          rw [Nat.add_zero] at d0
          dsimp only at d0 d1
          have HLQ := Lib.hid hlq; have HM := Lib.hid hm; have HSL := Lib.hid hsl
          have hmb : m ≤ 9223372036854775807 := by have := HBD.out.slots _ (List.mem_of_getElem? hlq); dsimp only at this; omega
          clear hq hlq hcell hm hsl hi
          go_upto_region 12 with (refine wpList_store_row rfl 47 (.tmp 5) (.tmp 42) rfl wr.heap.size #[.int .u64 cid, .slice sa m sc] rfl rfl 47 _ (Blk.new wr #[.int .u64 0, .slice none 0 0] 47) (client_size _ _) rfl (by simp [Value.oneCell']) ?_)
          have hB5 : Blk ((wr.alloc (.cells #[.int .u64 0, .slice none 0 0] 47)).setRow wr.heap.size #[.int .u64 cid, .slice sa m sc]) wr.heap.size #[.int .u64 cid, .slice sa m sc] 47 := setRow_heap _ _ _ _ _ (0, 0) (Blk.new wr #[.int .u64 0, .slice none 0 0] 47)
          have hE5 : Ext wr ((wr.alloc (.cells #[.int .u64 0, .slice none 0 0] 47)).setRow wr.heap.size #[.int .u64 cid, .slice sa m sc]) := ((Chg.ext (Ext.alloc wr (.cells #[.int .u64 0, .slice none 0 0] 47)) : Chg [wr.heap.size] wr _).trans (Chg.some (grown_rowS _ wr.heap.size _) (.inl (by simp)))).toExt (fun t ht => by simp at ht; omega)
          obtain ⟨T5, hT5⟩ : ∃ T, T = wr.heap.size := ⟨_, rfl⟩
          rw [← hT5] at hB5 hE5 ⊢
          generalize (wr.alloc (.cells #[.int .u64 0, .slice none 0 0] 47)).setRow T5 #[.int .u64 cid, .slice sa m sc] = W5 at *
          have HB5 := Lib.hid hB5; have HE5 := Lib.hid (HEr.out.trans hE5)
          have k0 := hB5.cell 0 rfl; have k1 := hB5.cell 1 rfl
          have e0 := hE5.cell c0; have e1 := hE5.cell c1
          simp only [List.getElem_toArray, List.getElem_cons_zero, List.getElem_cons_succ] at k0 k1
          clear hB5 hE5 hT5 c0 c1 d0 d1
          -- is the number above the last one?
          by_cases hord : ∃ (j : Nat) (y : Cl), i = j + 1 ∧ b.clients[j]? = some y ∧ cid ≤ y.id
          · obtain ⟨j, y, hij, hy, hle⟩ := hord
            have hrf : r = false := HNO.out fun h => pw_bad (x := cid) (y := y.id) (j := j) (by rw [← hij, List.getElem?_map, HLQ.out]; rfl) (by rw [List.getElem?_map, hy]; rfl) hle h.2.2.2.1
            subst hrf
            obtain ⟨q', hq'⟩ : ∃ q, C[j]? = some q := ⟨_, List.getElem?_eq_getElem (by have h1 := congrArg List.length HC.out; rw [List.length_map] at h1; have := HNC.out; omega)⟩
            have hyq : q'.1 = y := by have : b.clients[j]? = some q'.1 := by rw [← HC.out, List.getElem?_map, hq']; rfl
                                      rw [hy] at this; exact (Option.some.inj this).symm
            obtain ⟨s2, o2, he2, hcell2⟩ := H4.out.cells2 hq'
            cases he2
            have d0 := (HE.out.trans HE5.out).cell (hcell2 0 _ rfl)
            rw [Nat.add_zero, hyq] at d0
            have hsub : (i : Int) - 1 = (j : Int) := by omega
            have hjn : (j : Int) < (nC : Int) := by omega
            have hi0 : decide (0 < i) = true := by simp; omega
            have hi2 : decide (cid ≤ y.id) = true := by simpa using hle
            generalize y.id = yi at *
            clear hy hq' hyq hcell2 hij
            go_wp2_with fail
            go_big_quiet (fail)
            go_wp2_with fail
            go_ret
            exact ⟨rfl, (HE.out.trans HE5.out).trans (Ext.drewN _ _)⟩
          · have hor : i = 0 ∨ ∃ (j : Nat) (y : Cl), i = j + 1 ∧ b.clients[j]? = some y ∧ y.id < cid := by
              rcases Nat.eq_zero_or_pos i with h0 | h0
              · exact .inl h0
              · obtain ⟨j, rfl⟩ : ∃ j, i = j + 1 := ⟨i - 1, by omega⟩
                obtain ⟨y, hy⟩ : ∃ y, b.clients[j]? = some y := ⟨_, List.getElem?_eq_getElem (by have := HNC.out; omega)⟩
                exact .inr ⟨j, y, rfl, hy, Int.not_le.1 fun h => hord ⟨j, y, rfl, hy, h⟩⟩
            have hpw2 : ((b.clients.map (·.id)).take (i + 1)).Pairwise (· < ·) := pw_step (x := cid) (by rw [List.getElem?_map, HLQ.out]; rfl) HPW.out fun j y hij hy => by
              rw [List.getElem?_map] at hy
              cases hyc : b.clients[j]? with
              | none => rw [hyc] at hy; cases hy
              | some c => rw [hyc] at hy; cases hy; exact Int.not_le.1 fun h => hord ⟨j, c, hij, hyc, h⟩
            have HPW2 := Lib.hid hpw2
            clear hord hpw2
            simp only [Act.put]
            go_cut [68] (fun v68 wc => v68 = .bool (decide (m < 1 ∨ 4 < m)) ∧ Ext W5 wc)
            case first =>
              rcases hor with hi0 | ⟨j, y, hij, hy, hle⟩
              · have hi0' : (i : Int) ≤ 0 := by omega
                have hi0d : decide (0 < i) = false := by simp; omega
                clear hi0
                by_cases hm1 : m < 1
                · obtain rfl : m = 0 := by omega
                  go_wp2_with fail
                  go_big_quiet (fail)
                  go_wp2_with fail
                  go_meet
                  exact ⟨by simp, Ext.drewN _ _⟩
                · have hm1' : (1 : Int) ≤ (m : Int) := by omega
                  have hm1d : decide (m < 1) = false := by simpa using hm1
                  have hm0d : decide ((m : Int) < 1) = false := by simp; omega
                  by_cases hm4 : 4 < m
                  · have hm4' : (4 : Int) < (m : Int) := by omega
                    have hm4d : decide ((4 : Int) < (m : Int)) = true := by simp; omega
                    clear hm1
                    go_wp2_with fail
                    go_big_quiet (fail)
                    go_wp2_with fail
                    go_meet
                    exact ⟨by simp [hm4], Ext.drewN _ _⟩
                  · have hm4' : (m : Int) ≤ 4 := by omega
                    have hm4d : decide ((4 : Int) < (m : Int)) = false := by simp; omega
                    have hz : decide (m < 1 ∨ 4 < m) = false := decide_eq_false (by omega)
                    have HZ := Lib.hid hz
                    clear hm1 hm4 hz
                    go_wp2_with fail
                    go_big_quiet (fail)
                    go_wp2_with fail
                    go_meet
                    exact ⟨by rw [HZ.out], Ext.drewN _ _⟩
              · obtain ⟨q', hq'⟩ : ∃ q, C[j]? = some q := ⟨_, List.getElem?_eq_getElem (by have h1 := congrArg List.length HC.out; rw [List.length_map] at h1; have := HNC.out; omega)⟩
                have hyq : q'.1 = y := by have : b.clients[j]? = some q'.1 := by rw [← HC.out, List.getElem?_map, hq']; rfl
                                          rw [hy] at this; exact (Option.some.inj this).symm
                obtain ⟨s2, o2, he2, hcell2⟩ := H4.out.cells2 hq'
                cases he2
                have d0 := (HE.out.trans HE5.out).cell (hcell2 0 _ rfl)
                rw [Nat.add_zero, hyq] at d0
                have hsub : (i : Int) - 1 = (j : Int) := by omega
                have hjn : (j : Int) < (nC : Int) := by omega
                have hi0 : decide (0 < i) = true := by simp; omega
                have hi2 : decide (cid ≤ y.id) = false := by simpa using hle
                generalize y.id = yi at *
                clear hy hq' hyq hcell2 hij
                by_cases hm1 : m < 1
                · obtain rfl : m = 0 := by omega
                  go_wp2_with fail
                  go_big_quiet (fail)
                  go_wp2_with fail
                  go_meet
                  exact ⟨by simp, Ext.drewN _ _⟩
                · have hm1' : (1 : Int) ≤ (m : Int) := by omega
                  have hm1d : decide (m < 1) = false := by simpa using hm1
                  have hm0d : decide ((m : Int) < 1) = false := by simp; omega
                  by_cases hm4 : 4 < m
                  · have hm4' : (4 : Int) < (m : Int) := by omega
                    have hm4d : decide ((4 : Int) < (m : Int)) = true := by simp; omega
                    clear hm1
                    go_wp2_with fail
                    go_big_quiet (fail)
                    go_wp2_with fail
                    go_meet
                    exact ⟨by simp [hm4], Ext.drewN _ _⟩
                  · have hm4' : (m : Int) ≤ 4 := by omega
                    have hm4d : decide ((4 : Int) < (m : Int)) = false := by simp; omega
                    have hz : decide (m < 1 ∨ 4 < m) = false := decide_eq_false (by omega)
                    have HZ := Lib.hid hz
                    clear hm1 hm4 hz
                    go_wp2_with fail
                    go_big_quiet (fail)
                    go_wp2_with fail
                    go_meet
                    exact ⟨by rw [HZ.out], Ext.drewN _ _⟩
            case rest =>
              obtain ⟨rfl, hEc⟩ := hcut
              have HEC := Lib.hid (HE5.out.trans hEc)
              have HB5 := Lib.hid (HB5.out.ext hEc)
              have k1 := HB5.out.cell 1 rfl
              have e0 := (HB.out.ext HEC.out).cell 0 rfl
              simp only [List.getElem_toArray, List.getElem_cons_zero, List.getElem_cons_succ] at k1 e0
              clear hEc hor
              by_cases hbad : m < 1 ∨ 4 < m
              · have hrf : r = false := HNO.out fun h => by
                  have := h.2.2.2.2 _ (List.mem_of_getElem? HLQ.out)
                  obtain ⟨h1, h2, -⟩ := this
                  dsimp only at h1 h2
                  have := HM.out; omega
                subst hrf
                rw [decide_eq_true hbad]
                clear hbad
                go_wp2_with fail
                go_ret
                exact ⟨rfl, HE.out.trans HEC.out⟩
              · rw [decide_eq_false hbad]
                have hm1 : 1 ≤ m := by omega
                have hm4 : m ≤ 4 := by omega
                clear hbad
                go_wp2_with fail
                go_loopg [6] m (fun g v6 wr => ∃ k : Nat, v6 = .int .i64 (k : Int) ∧ k + g = m ∧ Ext wc wr ∧ ((csl.map (·.1)).take k).Pairwise (· < ·) ∧ ∀ (j : Nat) s, j < k → csl[j]? = some s → s.2 < (nL : Int))
                case atStart => exact ⟨0, rfl, by omega, Ext.refl _, by simp, fun j q hj => by omega⟩
                case round =>
                  obtain ⟨k2, rfl, hkm, hEs, hpk, hidx⟩ := hrel
                  have HES := Lib.hid hEs; have HPK := Lib.hid hpk; have HIDX := Lib.hid hidx
                  clear k1 e0
                  have k1 := (HB5.out.ext hEs).cell 1 rfl
                  have e0 := (HB.out.ext (HEC.out.trans hEs)).cell 0 rfl
                  simp only [List.getElem_toArray, List.getElem_cons_zero, List.getElem_cons_succ] at k1 e0
                  clear hEs hpk hidx
                  by_cases hk : k2 < m
                  · have hk1 : (k2 : Int) < (m : Int) := by omega
                    obtain ⟨⟨x1, x2⟩, hs⟩ : ∃ s, csl[k2]? = some s := ⟨_, List.getElem?_eq_getElem (by have := HM.out; omega)⟩
                    obtain ⟨s3, o3, rfl, hc3⟩ := HSL.out.cells2 hs
                    have f0 := (HE.out.trans (HEC.out.trans HES.out)).cell (hc3 0 _ rfl); have f1 := (HE.out.trans (HEC.out.trans HES.out)).cell (hc3 1 _ rfl)
                    rw [Nat.add_zero] at f0
                    dsimp only at f0 f1
                    have HS := Lib.hid hs
                    have hx20 : 0 ≤ x2 := HU.out _ (List.mem_of_getElem? HLQ.out) (x1, x2) (List.mem_of_getElem? hs)
                    clear hs hc3 hk
                    go_upto_region 17 with fail
                    go_cut [106] (fun v106 wd => ∃ z : Bool, v106 = .bool z ∧ (z = true ↔ ((∃ (j : Nat) (y : Int × Int), k2 = j + 1 ∧ csl[j]? = some y ∧ x1 ≤ y.1) ∨ (nL : Int) ≤ x2)) ∧ Ext wr wd)
                    case first =>
                      by_cases hord : ∃ (j : Nat) (y : Int × Int), k2 = j + 1 ∧ csl[j]? = some y ∧ x1 ≤ y.1
                      · have hzz : (∃ (j : Nat) (y : Int × Int), k2 = j + 1 ∧ csl[j]? = some y ∧ x1 ≤ y.1) ∨ (nL : Int) ≤ x2 := .inl hord
                        have HZ := Lib.hid hzz
                        clear hzz
                        obtain ⟨j, ⟨y1, y2⟩, hij, hy, hle⟩ := hord
                        obtain ⟨s4, o4, he4, hc4⟩ := HSL.out.cells2 hy
                        cases he4
                        have g0 := (HE.out.trans (HEC.out.trans HES.out)).cell (hc4 0 _ rfl)
                        rw [Nat.add_zero] at g0
                        dsimp only at g0 hle
                        have hsub : (k2 : Int) - 1 = (j : Int) := by omega
                        have hjn : (j : Int) < (m : Int) := by omega
                        have hi0 : decide (0 < k2) = true := by simp; omega
                        have hi2 : decide (x1 ≤ y1) = true := by simpa using hle
                        clear hy hc4 hij hm1 hm4
                        go_wp2_with fail
                        go_big_quiet (fail)
                        go_wp2_with fail
                        go_meet
                        exact ⟨true, rfl, by simpa using HZ.out, Ext.drewN _ _⟩
                      · have hor : k2 = 0 ∨ ∃ (j : Nat) (y : Int × Int), k2 = j + 1 ∧ csl[j]? = some y ∧ y.1 < x1 := by
                          rcases Nat.eq_zero_or_pos k2 with h0 | h0
                          · exact .inl h0
                          · obtain ⟨j, rfl⟩ : ∃ j, k2 = j + 1 := ⟨k2 - 1, by omega⟩
                            obtain ⟨y, hy⟩ : ∃ y, csl[j]? = some y := ⟨_, List.getElem?_eq_getElem (by have := HM.out; omega)⟩
                            exact .inr ⟨j, y, rfl, hy, Int.not_le.1 fun h => hord ⟨j, y, rfl, hy, h⟩⟩
                        have HZ : Hid (((∃ (j : Nat) (y : Int × Int), k2 = j + 1 ∧ csl[j]? = some y ∧ x1 ≤ y.1) ∨ (nL : Int) ≤ x2) ↔ (nL : Int) ≤ x2) := Lib.hid ⟨fun h => h.resolve_left hord, .inr⟩
                        clear hord
                        rcases hor with hi0 | ⟨j, ⟨y1, y2⟩, hij, hy, hle⟩
                        · have hi0' : (k2 : Int) ≤ 0 := by omega
                          have hi0d : decide (0 < k2) = false := by simp; omega
                          clear hi0
                          by_cases hnx : (nL : Int) ≤ x2
                          · have HNX := Lib.hid hnx
                            have hnd : decide ((nL : Int) ≤ x2) = true := decide_eq_true hnx
                            clear hm1 hm4
                            go_wp2_with fail
                            go_big_quiet (fail)
                            go_wp2_with fail
                            go_meet
                            exact ⟨true, rfl, by rw [HZ.out]; simpa using HNX.out, Ext.drewN _ _⟩
                          · have hnx3 : x2 < (nL : Int) := by omega
                            have HNX := Lib.hid hnx3
                            have hnd : decide ((nL : Int) ≤ x2) = false := decide_eq_false hnx
                            have hnx' : x2 < (nL : Int) := by omega
                            clear hnx hnx3 hm1 hm4
                            go_wp2_with fail
                            go_big_quiet (fail)
                            go_wp2_with fail
                            go_meet
                            exact ⟨false, rfl, by rw [HZ.out]; have := HNX.out; simp; omega, Ext.drewN _ _⟩
                        · obtain ⟨s4, o4, he4, hc4⟩ := HSL.out.cells2 hy
                          cases he4
                          have g0 := (HE.out.trans (HEC.out.trans HES.out)).cell (hc4 0 _ rfl)
                          rw [Nat.add_zero] at g0
                          dsimp only at g0 hle
                          have hsub : (k2 : Int) - 1 = (j : Int) := by omega
                          have hjn : (j : Int) < (m : Int) := by omega
                          have hi0 : decide (0 < k2) = true := by simp; omega
                          have hi2 : decide (x1 ≤ y1) = false := by simpa using hle
                          clear hy hc4 hij
                          by_cases hnx : (nL : Int) ≤ x2
                          · have HNX := Lib.hid hnx
                            have hnd : decide ((nL : Int) ≤ x2) = true := decide_eq_true hnx
                            clear hm1 hm4
                            go_wp2_with fail
                            go_big_quiet (fail)
                            go_wp2_with fail
                            go_meet
                            exact ⟨true, rfl, by rw [HZ.out]; simpa using HNX.out, Ext.drewN _ _⟩
                          · have hnx3 : x2 < (nL : Int) := by omega
                            have HNX := Lib.hid hnx3
                            have hnd : decide ((nL : Int) ≤ x2) = false := decide_eq_false hnx
                            have hnx' : x2 < (nL : Int) := by omega
                            clear hnx hnx3 hm1 hm4
                            go_wp2_with fail
                            go_big_quiet (fail)
                            go_wp2_with fail
                            go_meet
                            exact ⟨false, rfl, by rw [HZ.out]; have := HNX.out; simp; omega, Ext.drewN _ _⟩
                    case rest =>
                      obtain ⟨z, rfl, hzc, hEd⟩ := hcut
                      have HES := Lib.hid (HES.out.trans hEd)
                      clear hEd k1 e0 f0 f1
                      by_cases hbad : (∃ (j : Nat) (y : Int × Int), k2 = j + 1 ∧ csl[j]? = some y ∧ x1 ≤ y.1) ∨ (nL : Int) ≤ x2
                      · have hrf : r = false := HNO.out fun h => by
                          have hg := h.2.2.2.2 _ (List.mem_of_getElem? HLQ.out)
                          obtain ⟨-, -, h3, h4⟩ := hg
                          dsimp only at h3 h4
                          rcases hbad with ⟨j, y, hij, hy, hle⟩ | hx
                          · exact pw_bad (x := x1) (y := y.1) (j := j) (by rw [← hij, List.getElem?_map, HS.out]; rfl) (by rw [List.getElem?_map, hy]; rfl) hle h3
                          · have := h4 _ (List.mem_of_getElem? HS.out); dsimp only at this; have := HNL.out; omega
                        subst hrf
                        obtain rfl : z = true := hzc.2 hbad
                        clear hbad hzc
                        go_wp2_with fail
                        go_ret
                        exact ⟨rfl, (HE.out.trans HEC.out).trans HES.out⟩
                      · obtain rfl : z = false := by rw [← Bool.not_eq_true]; exact fun h => hbad (hzc.1 h)
                        have hpk2 : ((csl.map (·.1)).take (k2 + 1)).Pairwise (· < ·) := pw_step (x := x1) (by rw [List.getElem?_map, HS.out]; rfl) HPK.out fun j y hij hy => by
                          rw [List.getElem?_map] at hy
                          cases hyc : csl[j]? with
                          | none => rw [hyc] at hy; cases hy
                          | some c => rw [hyc] at hy; cases hy; exact Int.not_le.1 fun h => hbad (.inl ⟨j, c, hij, hyc, h⟩)
                        have hx2n : x2 < (nL : Int) := Int.not_le.1 fun h => hbad (.inr h)
                        have HPK2 := Lib.hid hpk2; have HX2 := Lib.hid hx2n
                        clear hbad hpk2 hx2n hzc
                        go_wp2_with fail
                        go_roundg (m - (k2 + 1))
                        case measure => omega
                        case rel =>
                          refine ⟨k2 + 1, by go_num, by omega, HES.out, HPK2.out, fun j s hj hjs => ?_⟩
                          rcases Nat.lt_succ_iff_lt_or_eq.1 hj with h1 | rfl
                          · exact HIDX.out j s h1 hjs
                          · rw [HS.out] at hjs; cases hjs; exact HX2.out
                  · have hge3 : (m : Int) ≤ (k2 : Int) := by omega
                    have hgc : goodC nL ⟨cid, csl⟩ := by
                      have hml := HM.out
                      refine ⟨by dsimp only; omega, by dsimp only; omega, ?_, fun s hs => ?_⟩
                      · have := HPK.out
                        rwa [List.take_of_length_le (by rw [List.length_map]; omega)] at this
                      · obtain ⟨j, hj⟩ := List.getElem?_of_mem hs
                        exact HIDX.out j s (by have := (List.getElem?_eq_some_iff.1 hj).1; dsimp only at this; omega) hj
                    have HGC := Lib.hid hgc
                    clear hk hkm hgc
                    go_wp2_with fail
                    go_roundg (nC - (i + 1))
                    case measure => omega
                    case rel =>
                      refine ⟨i + 1, by go_num, by omega, HEC.out.trans HES.out, HPW2.out, fun j c hj hjc => ?_⟩
                      rcases Nat.lt_succ_iff_lt_or_eq.1 hj with h1 | rfl
                      · exact HGOOD.out j c h1 hjc
                      · rw [HLQ.out] at hjc; cases hjc; exact HGC.out
        · have hge2 : (nC : Int) ≤ (i : Int) := by omega
          have hrt : r = true := by
            rw [HR.out, formedK_iff']
            have hin' : b.clients.length ≤ i := by have := HNC.out; omega
            refine ⟨by have := HNL.out; omega, HLV.out, by have := HNC.out; omega, ?_, fun c hc => ?_⟩
            · have := HPW.out
              rwa [List.take_of_length_le (by rw [List.length_map]; exact hin')] at this
            · obtain ⟨j, hj⟩ := List.getElem?_of_mem hc
              rw [← HNL.out]
              exact HGOOD.out j c (by have := (List.getElem?_eq_some_iff.1 hj).1; omega) hj
          subst hrt
          clear hi hin
          go_wp2_with fail
          go_ret
          exact ⟨rfl, HE.out.trans HEr.out⟩
end Go.Proofs.YtgefphfnicjbiaaDoor
