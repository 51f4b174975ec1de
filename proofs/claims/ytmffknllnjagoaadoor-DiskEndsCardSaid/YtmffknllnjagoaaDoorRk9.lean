/- tabellionref08: Crash. -/
import Derived.Test.YtmffknllnjagoaaDoorRkC
set_option linter.unusedSimpArgs false
set_option linter.unusedVariables false
namespace Go.Proofs.YtmffknllnjagoaaDoor
open Go Go.RowKit Go.Maps
open Go.Proofs (encStr)

/-- An operation in a row. -/
theorem own_rop {w w0 : World} {A : List Nat} {base : Nat} {a : Option Addr} {n c : Nat} {cs : List Value} {xs : List Dd} (h : w.ownsRow base 83 5 (.slice a n c) n cs) (hd : DDs w0 A xs cs) {i : Nat} {o : Dd} (hi : xs[i]? = some o) :
    ∃ g bv, a = some ⟨g, 0, none⟩ ∧ g < w.heap.size ∧ n ≤ c ∧ c ≤ maxLen ∧ Rd w0 bv (u8s o.b) ∧ OffL bv (u8s o.b) A ∧ w.cell? ⟨g, i * 5, none⟩ = some (.int .i64 o.kind) ∧ w.cell? ⟨g, i * 5 + 1, none⟩ = some (.string o.name) ∧ w.cell? ⟨g, i * 5 + 2, none⟩ = some (.string o.to) ∧
      w.cell? ⟨g, i * 5 + 3, none⟩ = some (.int .i64 o.n) ∧ w.cell? ⟨g, i * 5 + 4, none⟩ = some bv := by
  obtain ⟨bv, h1, h2, h3⟩ := hd.get hi
  have hl := hd.len
  have hi' := (List.getElem?_eq_some_iff.1 hi).1
  rcases h.2 with ⟨h4, h5⟩ | ⟨g, cap, cur, hv, hg, hh, e1, e2, e3, e4⟩
  · have := h.1; omega
  · injection hv with ha _ hcc
    subst hcc
    have hc : ∀ j u, cs[j]? = some u → w.cell? ⟨g, j, none⟩ = some u := fun j u hj => by
      have := h.cells (g := g) (by rw [ha]; rfl) j u hj
      rwa [Addr.add_lit, Nat.zero_add] at this
    exact ⟨g, bv, ha, (Array.getElem?_eq_some_iff.1 hh).1, e1, e2, h1, h2, hc _ _ (by simpa using h3 0 _ rfl), hc _ _ (h3 1 _ rfl), hc _ _ (h3 2 _ rfl), hc _ _ (h3 3 _ rfl), hc _ _ (h3 4 _ rfl)⟩
theorem keep_cell {w : World} {ka : Option Addr} {NK kc : Nat} {keep : List Bool} (h : Rd w (.slice ka NK kc) (keep.map Value.bool)) {i : Nat} {kb : Bool} (hi : keep[i]? = some kb) : ∃ b o, ka = some ⟨b, o, none⟩ ∧ w.cell? ⟨b, o + i, none⟩ = some (.bool kb) := by
  obtain ⟨a', c', hv, _, _, h3⟩ := h
  cases hv
  rcases h3 with h0 | ⟨b, o, ha, hc⟩
  · simp at h0; rw [h0] at hi; simp at hi
  · exact ⟨b, o, ha, hc i _ (by rw [List.getElem?_map, hi]; rfl)⟩
set_option maxRecDepth 100000 in
set_option maxHeartbeats 4000000 in
theorem rcrash_c (r n M : Nat) (O F : List Nat) (S : Dk) (keep : List Bool) (torn : Int) (kv : Value) (w : World) (h : RkS w r n M O F S) (hn : n + S.waits.length < 800000000) (hM : M ≤ 70368744177664) (hkv : Rd w kv (keep.map Value.bool)) (ht0 : -9223372036854775808 ≤ torn) (ht1 : torn ≤ 9223372036854775807) :
    Calls Tryd.prog 41 #[dptr r, kv, .int .i64 torn] w fun e w' => e = .returned (.tuple #[]) ∧ ∃ O', RkS w' r (n + S.waits.length) M O' F (crashS S keep torn) ∧ DkTo O w w' O' := by
  obtain ⟨X, hX⟩ : ∃ X, X = crashS S keep torn := ⟨_, rfl⟩
  rw [← hX]
  obtain ⟨fv, sv, ov, cells, hB, hF1, hF2, hown, hdds, hov⟩ := h.body
  obtain ⟨c0, c1, c2, c3, c4, c5⟩ := hB.rsix
  obtain ⟨oa, oc, rfl⟩ := own_shapeL hown
  obtain ⟨sa, sc, rfl⟩ := hF2.shape
  have HKV := Lib.hid hkv
  obtain ⟨ka, kc, hkve, hk1, hk2, -⟩ := hkv
  rw [List.length_map] at hkve hk1
  subst hkve
  obtain ⟨N, hN⟩ : ∃ N, N = S.waits.length := ⟨_, rfl⟩
  obtain ⟨NK, hNK⟩ : ∃ NK, NK = keep.length := ⟨_, rfl⟩
  rw [← hN] at hn c2 ⊢
  rw [← hNK] at hk1 HKV ⊢
  replace hk2 : kc ≤ 9223372036854775807 := by unfold maxLen at hk2; omega
  obtain ⟨E, hE⟩ : ∃ E, E = endK keep (min N NK) := ⟨_, rfl⟩
  have hEle : E ≤ min N NK := by rw [hE]; exact endK_le _ _
  have hEl : Hid (endK keep (min S.waits.length keep.length) = E) := Lib.hid (by rw [hE, hN, hNK])
  have hlF : ∀ t ∈ O ++ F, t < w.heap.size := fun t ht => by
    rcases List.mem_append.1 ht with ht | ht
    · exact h.lowO t ht
    · exact h.lowF t ht
  have HX := Lib.hid hX; have HD := Lib.hid h; have HB := Lib.hid hB; have HF2 := Lib.hid hF2; have HOWN := Lib.hid hown; have HDDS := Lib.hid hdds; have HN := Lib.hid hN; have HNK := Lib.hid hNK; have HE := Lib.hid hE; have HLF := Lib.hid hlF
  clear hX h hB hF1 hF2 hown hdds hov hN hNK hE hlF c0 c3 c4 c5
  go_enter Tryd.func41, Tryd.ntmps41
  go_upto_block 0 with fail
  go_cut [7] (fun v wx => v = .int .i64 ((E : Int) - 1) ∧ wx = w)
  case first =>
    go_wp2_with fail
    go_loopg [7, 8] (min N NK) (fun g v7 v8 wr => ∃ (i e : Nat), i + g = min N NK ∧ v8 = .int .i64 (i : Int) ∧ v7 = .int .i64 ((e : Int) - 1) ∧ e = endK keep i ∧ wr = w)
    case atStart => exact ⟨0, 0, by omega, rfl, rfl, rfl, rfl⟩
    case round =>
      obtain ⟨i, e, hiN, rfl, rfl, he, rfl⟩ := hrel
      have HEE := Lib.hid he
      clear he
      by_cases hlt : i < N
      · have hlt2 : (i : Int) < (N : Int) := by omega
        by_cases hkk : i < NK
        · have hkk2 : (i : Int) < (NK : Int) := by omega
          obtain ⟨kb, hkb⟩ : ∃ kb, keep[i]? = some kb := ⟨_, List.getElem?_eq_getElem (by rw [← HNK.out]; exact hkk)⟩
          obtain ⟨kg, ko, rfl, hkc⟩ := keep_cell HKV.out hkb
          have HKB := Lib.hid hkb
          clear hkb
          cases kb with
          | true =>
            go_wp2_with fail
            go_roundg (gk - 1)
            case measure => omega
            case rel => exact ⟨i + 1, i + 1, by omega, by go_num, by congr 1; omega, by unfold endK; rw [if_pos HKB.out], rfl⟩
          | false =>
            go_wp2_with fail
            go_roundg (gk - 1)
            case measure => omega
            case rel => exact ⟨i + 1, e, by omega, by go_num, rfl, by unfold endK; rw [if_neg (by rw [HKB.out]; simp)]; exact HEE.out, rfl⟩
        · have hge : (NK : Int) ≤ (i : Int) := by omega
          have hm : min N NK = i := by omega
          have HR : Hid (e = E) := Lib.hid (by rw [HEE.out, HE.out, hm])
          clear hkk hm
          go_wp2_with fail
          go_meet
          exact ⟨by rw [HR.out], rfl⟩
      · have hge : (N : Int) ≤ (i : Int) := by omega
        have hm : min N NK = i := by omega
        have HR : Hid (e = E) := Lib.hid (by rw [HEE.out, HE.out, hm])
        clear hlt hm
        go_wp2_with fail
        go_meet
        exact ⟨by rw [HR.out], rfl⟩
  case rest =>
    obtain ⟨rfl, rfl⟩ := hcut
    go_wp2_with fail
    go_loopg [6, 9, 10] E (fun g v6 v9 v10 wr => ∃ (i : Nat), i + g = E ∧ v9 = .int .i64 (i : Int) ∧ RFv wr (O ++ F) v6 (LfK S.waits keep torn S.sure i) ∧ Ext wc wr)
    case atStart => exact ⟨0, by omega, rfl, by rw [LfK_zero]; exact HF2.out, Ext.refl _⟩
    case round =>
      obtain ⟨i, hiE, rfl, hfi, hEx⟩ := hrel
      have HFI := Lib.hid hfi; have HEX := Lib.hid hEx
      clear hfi hEx
      by_cases hlt : i < E
      · have hlt2 : (i : Int) ≤ (E : Int) - 1 := by omega
        have hiN : i < N := by omega
        have hiK : i < NK := by omega
        obtain ⟨kb, hkb⟩ : ∃ kb, keep[i]? = some kb := ⟨_, List.getElem?_eq_getElem (by rw [← HNK.out]; exact hiK)⟩
        obtain ⟨kg, ko, rfl, hkc⟩ := keep_cell (HKV.out.ext HEX.out) hkb
        have HKB := Lib.hid hkb
        clear hkb
        cases kb with
        | false =>
          have HL : Hid (LfK S.waits keep torn S.sure (i + 1) = LfK S.waits keep torn S.sure i) := Lib.hid (LfK_skip (by rw [hEl.out]; exact hlt) HKB.out)
          go_wp2_with fail
          go_roundg (gk - 1)
          case measure => omega
          case rel => exact ⟨i + 1, by omega, by go_num, by rw [HL.out]; exact HFI.out, HEX.out⟩
        | true =>
          obtain ⟨o, hko⟩ : ∃ o, S.waits[i]? = some o := ⟨_, List.getElem?_eq_getElem (by rw [← HN.out]; exact hiN)⟩
          obtain ⟨hdok, hkok⟩ := HD.out.ok o (List.mem_of_getElem? hko)
          obtain ⟨g, bv, rfl, hgl, hnc, hcm, hbv, hbo, p0, p1, p2, p3, p4⟩ := own_rop HOWN.out HDDS.out (o := reD o) (by rw [List.getElem?_map, hko]; rfl)
          rw [← HN.out] at hnc
          replace hcm : oc ≤ 9223372036854775807 := by unfold maxLen at hcm; omega
          have p5 := HEX.out.cell c2
          replace p0 := HEX.out.cell p0; replace p1 := HEX.out.cell p1; replace p2 := HEX.out.cell p2; replace p3 := HEX.out.cell p3; replace p4 := HEX.out.cell p4
          replace hbv : Rd wc bv (u8s o.b) := hbv
          replace hbo : OffL bv (u8s o.b) (O ++ F) := hbo
          obtain ⟨x1, x3, rfl, hx1, hx2, -⟩ := hbv.open
          replace hx2 : x3 ≤ 9223372036854775807 := by unfold maxLen at hx2; omega
          obtain ⟨kk, hkk⟩ : ∃ kk, kk = kR o.kind := ⟨_, rfl⟩
          have p0' : wr.cell? ⟨g, i * 5, none⟩ = some (.int .i64 kk) := by rw [hkk]; exact p0
          replace p1 : wr.cell? ⟨g, i * 5 + 1, none⟩ = some (.string o.name) := p1
          replace p2 : wr.cell? ⟨g, i * 5 + 2, none⟩ = some (.string o.to) := p2
          replace p3 : wr.cell? ⟨g, i * 5 + 3, none⟩ = some (.int .i64 o.n) := p3
          have HKO := Lib.hid hko; have HDOK := Lib.hid hdok; have HKOK := Lib.hid hkok; have HBV := Lib.hid hbv; have HBO := Lib.hid hbo; have HKK := Lib.hid hkk
          clear p0 hko hdok hkok hbv hbo hkk
          go_upto_region 12 with fail
          have hop : Blk (wr.alloc (.cells #[.int .i64 kk, .string o.name, .string o.to, .int .i64 o.n, .slice x1 o.b.length x3] 83)) wr.heap.size #[.int .i64 kk, .string o.name, .string o.to, .int .i64 o.n, .slice x1 o.b.length x3] 83 := Blk.new _ _ _
          have hEo : Ext wr (wr.alloc (.cells #[.int .i64 kk, .string o.name, .string o.to, .int .i64 o.n, .slice x1 o.b.length x3] 83)) := Ext.alloc _ _
          have hplow : wc.heap.size ≤ wr.heap.size := HEX.out.size
          obtain ⟨pb, hpb⟩ : ∃ pb, pb = wr.heap.size := ⟨_, rfl⟩
          rw [← hpb] at hop hplow ⊢
          revert hop hEo
          generalize wr.alloc (.cells #[.int .i64 kk, .string o.name, .string o.to, .int .i64 o.n, .slice x1 o.b.length x3] 83) = W
          intro hEo hop
          have HOP := Lib.hid hop; have HEO := Lib.hid hEo; have HPB := Lib.hid hpb
          have e0 : W.cell? ⟨pb, 0, none⟩ = some (.int .i64 kk) := hop.cell 0 rfl
          have e4 : W.cell? ⟨pb, 4, none⟩ = some (.slice x1 o.b.length x3) := hop.cell 4 rfl
          obtain ⟨cb, hcb⟩ : ∃ cb : Bool, cb = (decide (i + 1 = E) && decide (o.kind = 119 ∧ torn < o.b.length)) := ⟨_, rfl⟩
          have hL : Hid (LfK S.waits keep torn S.sure (i + 1) = doF (if cb then cutR torn o else o) (LfK S.waits keep torn S.sure i)) := Lib.hid (by
            by_cases hl : i + 1 = E
            · have := LfK_last (torn := torn) (L := S.sure) (by rw [hEl.out]; exact hl) HKO.out HKB.out
              rw [this]
              exact doF_tear cb (by rw [hcb, decide_eq_true hl, Bool.true_and])
            · have hcf : cb = false := by rw [hcb, decide_eq_false hl, Bool.false_and]
              rw [hcf]
              exact LfK_mid (by rw [hEl.out]; omega) HKO.out HKB.out)
          clear hop hEo hpb p0' p1 p2 p3 p4 p5 hkc
          obtain ⟨w7, hw7⟩ : ∃ w7, w7 = wc := ⟨_, rfl⟩
          subst hw7
          go_cut [66] (fun v wx => v = .bool cb ∧ wx = W)
          case first =>
            by_cases hl : i + 1 = E
            · have hl2 : (i : Int) = (E : Int) - 1 := by omega
              by_cases h119 : o.kind = 119
              · have hk1 : kk = 1 := by rw [HKK.out, h119]; rfl
                subst hk1
                by_cases htl : torn < o.b.length
                · have HR : Hid (cb = true) := Lib.hid (by rw [hcb, decide_eq_true hl, decide_eq_true ⟨h119, htl⟩]; rfl)
                  clear hcb hL hl
                  go_wp2_with fail
                  go_meet
                  exact ⟨by rw [HR.out], rfl⟩
                · have HR : Hid (cb = false) := Lib.hid (by have hno : ¬(o.kind = 119 ∧ torn < o.b.length) := (fun h => htl h.2); rw [hcb, decide_eq_false hno, Bool.and_false])
                  have htl2 : (o.b.length : Int) ≤ torn := by omega
                  clear hcb hL hl htl
                  go_wp2_with fail
                  go_meet
                  exact ⟨by rw [HR.out, decide_eq_false (show ¬ torn < (o.b.length : Int) by omega)], rfl⟩
              · have hk1 : (kk == 1) = false := by
                  rw [HKK.out]; unfold kR; rw [if_neg h119]; split
                  · rfl
                  · split <;> rfl
                have HR : Hid (cb = false) := Lib.hid (by have hno : ¬(o.kind = 119 ∧ torn < o.b.length) := (fun h => h119 h.1); rw [hcb, decide_eq_false hno, Bool.and_false])
                clear hcb hL hl h119
                go_wp2_with fail
                go_meet
                exact ⟨by rw [HR.out], rfl⟩
            · have hl2 : ((i : Int) == (E : Int) - 1) = false := by
                rw [beq_eq_false_iff_ne]; omega
              have HR : Hid (cb = false) := Lib.hid (by rw [hcb, decide_eq_false hl, Bool.false_and])
              clear hcb hL hl
              go_wp2_with fail
              go_meet
              exact ⟨by rw [HR.out], rfl⟩
          case rest =>
            obtain ⟨hv, hw⟩ := hcut
            have hw2 := hw.symm
            subst hw2
            subst hv
            have q4 := HOP.out.free 4
            cases cb with
            | true =>
              have hct : i + 1 = E ∧ o.kind = 119 ∧ torn < o.b.length := by
                have := hcb.symm
                rw [Bool.and_eq_true, decide_eq_true_iff, decide_eq_true_iff] at this
                exact this
              obtain ⟨tn, htn⟩ : ∃ tn : Nat, (tn : Int) = max torn 0 := ⟨(max torn 0).toNat, by omega⟩
              have htl : tn ≤ o.b.length := by omega
              have htx : tn ≤ x3 := by omega
              have HL2 : Hid (LfK S.waits keep torn S.sure (i + 1) = doF (cutR torn o) (LfK S.waits keep torn S.sure i)) := Lib.hid (by rw [hL.out]; rfl)
              clear hcb hL hct
              go_upto_region 14 with fail
              rw [show (max torn 0).toNat = tn by omega]
              have hBV : Blk (W.setCell ⟨pb, 4, none⟩ (.slice x1 tn x3)) pb #[.int .i64 kk, .string o.name, .string o.to, .int .i64 o.n, .slice x1 tn x3] 83 := by simpa using HOP.out.set 4 (.slice x1 tn x3)
              have hEV : Ext wr (W.setCell ⟨pb, 4, none⟩ (.slice x1 tn x3)) := Below.grown HEO.out (grown_set W pb _ _) HEO.out.size (fun k hk => by have := Option.some.inj hk; have := HPB.out; omega)
              revert hBV hEV
              generalize W.setCell ⟨pb, 4, none⟩ (.slice x1 tn x3) = V
              intro hBV hEV
              obtain ⟨k0, k1, k2, k3, k4⟩ : V.cell? ⟨pb, 0, none⟩ = some (.int .i64 kk) ∧ V.cell? ⟨pb, 1, none⟩ = some (.string o.name) ∧ V.cell? ⟨pb, 2, none⟩ = some (.string o.to) ∧ V.cell? ⟨pb, 3, none⟩ = some (.int .i64 o.n) ∧ V.cell? ⟨pb, 4, none⟩ = some (.slice x1 tn x3) := ⟨hBV.cell 0 rfl, hBV.cell 1 rfl, hBV.cell 2 rfl, hBV.cell 3 rfl, hBV.cell 4 rfl⟩
              have hE7 := HEX.out.trans hEV
              have hfv := HFI.out.ext hEV
              have hrv : Rd V (.slice x1 tn x3) (u8s (cutR torn o).b) := by
                obtain ⟨a', c', he, hc'⟩ := (HBV.out.ext hE7).cut tn (by rw [u8s_len]; exact htl)
                injection he with e1 e2 e3
                subst e1 e3
                have e : u8s (cutR torn o).b = (u8s o.b).take tn := by
                  unfold cutR u8s; rw [show (max torn 0).toNat = tn by omega, List.map_take]
                rw [e]; exact hc'
              have hlen : (LfK S.waits keep torn S.sure i).length < 900000000 := by
                have h1 := LfK_len (ws := S.waits) (keep := keep) (torn := torn) (L := S.sure) (i := i)
                have h2 := HD.out.lsure
                have h3 := HN.out
                omega
              have hlv : ∀ t ∈ O ++ F, t < V.heap.size := fun t ht => Nat.lt_of_lt_of_le (HLF.out t ht) hE7.size
              have R := rdo_c (O ++ F) u6 (LfK S.waits keep torn S.sure i) (cutR torn o) M (.slice x1 tn x3) V hfv hlen (LfK_ris HD.out.rsure) hlv (cutR_ok HDOK.out) hrv (LfK_le HD.out.sure (fun o ho => (HD.out.ok o ho).1)) hM HKOK.out
              have HR := Lib.hid R; have HE7 := Lib.hid hE7
              clear hBV hEV hE7 hfv hrv hlen hlv R e0 e4
              obtain rfl := HKK.out
              go_wp2_with fail
              refine HR.out.mono ?_
              rintro e w5 ⟨v', rfl, hf5, hE5⟩
              rw [← HL2.out] at hf5
              have HF5 := Lib.hid hf5; have HE5 := Lib.hid (HE7.out.trans hE5)
              clear hf5 hE5 k0 k1 k2 k3 k4
              go_wp2_with fail
              go_roundg (gk - 1)
              case measure => omega
              case rel => exact ⟨i + 1, by omega, by go_num, HF5.out, HE5.out⟩
            | false =>
              have HL2 : Hid (LfK S.waits keep torn S.sure (i + 1) = doF o (LfK S.waits keep torn S.sure i)) := Lib.hid (by rw [hL.out]; rfl)
              clear hcb hL
              go_upto_region 14 with fail
              have hBV := HOP.out
              have hEV := HEO.out
              obtain ⟨V, hV⟩ : ∃ V, V = W := ⟨_, rfl⟩
              subst hV
              obtain ⟨k0, k1, k2, k3, k4⟩ : V.cell? ⟨pb, 0, none⟩ = some (.int .i64 kk) ∧ V.cell? ⟨pb, 1, none⟩ = some (.string o.name) ∧ V.cell? ⟨pb, 2, none⟩ = some (.string o.to) ∧ V.cell? ⟨pb, 3, none⟩ = some (.int .i64 o.n) ∧ V.cell? ⟨pb, 4, none⟩ = some (.slice x1 o.b.length x3) := ⟨hBV.cell 0 rfl, hBV.cell 1 rfl, hBV.cell 2 rfl, hBV.cell 3 rfl, hBV.cell 4 rfl⟩
              have hE7 := HEX.out.trans hEV
              have hfv := HFI.out.ext hEV
              have hrv : Rd V (.slice x1 o.b.length x3) (u8s (o).b) := HBV.out.ext hE7
              have hlen : (LfK S.waits keep torn S.sure i).length < 900000000 := by
                have h1 := LfK_len (ws := S.waits) (keep := keep) (torn := torn) (L := S.sure) (i := i)
                have h2 := HD.out.lsure
                have h3 := HN.out
                omega
              have hlv : ∀ t ∈ O ++ F, t < V.heap.size := fun t ht => Nat.lt_of_lt_of_le (HLF.out t ht) hE7.size
              have R := rdo_c (O ++ F) u6 (LfK S.waits keep torn S.sure i) (o) M (.slice x1 o.b.length x3) V hfv hlen (LfK_ris HD.out.rsure) hlv HDOK.out hrv (LfK_le HD.out.sure (fun o ho => (HD.out.ok o ho).1)) hM HKOK.out
              have HR := Lib.hid R; have HE7 := Lib.hid hE7
              clear hBV hEV hE7 hfv hrv hlen hlv R e0 e4
              obtain rfl := HKK.out
              go_wp2_with fail
              refine HR.out.mono ?_
              rintro e w5 ⟨v', rfl, hf5, hE5⟩
              rw [← HL2.out] at hf5
              have HF5 := Lib.hid hf5; have HE5 := Lib.hid (HE7.out.trans hE5)
              clear hf5 hE5 k0 k1 k2 k3 k4
              go_wp2_with fail
              go_roundg (gk - 1)
              case measure => omega
              case rel => exact ⟨i + 1, by omega, by go_num, HF5.out, HE5.out⟩
      · have hge : (E : Int) - 1 < (i : Int) := by omega
        have hiE2 : i = E := by omega
        subst hiE2
        have hXX : X = { S with now := LfK S.waits keep torn S.sure i, sure := LfK S.waits keep torn S.sure i, waits := [], off := false, fuse := -1 } := by
          rw [HX.out]
          unfold crashS
          have := LfK_end (ws := S.waits) (keep := keep) (torn := torn) (L := S.sure)
          rw [hEl.out] at this
          rw [this]
        have hll : (LfK S.waits keep torn S.sure i).length ≤ n + N := by
          have h1 := LfK_len (ws := S.waits) (keep := keep) (torn := torn) (L := S.sure) (i := i)
          have h2 := HD.out.lsure
          rw [HN.out]; omega
        have hle := LfK_le (torn := torn) (keep := keep) (i := i) HD.out.sure (fun o ho => (HD.out.ok o ho).1)
        have hri := LfK_ris (ws := S.waits) (torn := torn) (keep := keep) (i := i) HD.out.rsure
        obtain ⟨R, hR⟩ : ∃ R, R = LfK S.waits keep torn S.sure i := ⟨_, rfl⟩
        rw [← hR] at hXX hll hle hri HFI
        obtain ⟨va, vc, rfl⟩ := HFI.out.shape
        have hBr := HB.out.ext HEX.out
        have q0 := hBr.free 0; have q1 := hBr.free 1; have q2 := hBr.free 2; have q4 := hBr.free 4; have q5 := hBr.free 5
        obtain ⟨p0, p1, p2, p3, p4, p5⟩ := hBr.rsix
        obtain ⟨W, hW⟩ : ∃ W, W = ((((wr.setCell ⟨r, 0, none⟩ (.slice va R.length vc)).setCell ⟨r, 1, none⟩ (.slice va R.length vc)).setCell ⟨r, 2, none⟩ (.slice none 0 0)).setCell ⟨r, 5, none⟩ (.bool false)).setCell ⟨r, 4, none⟩ (.int .i64 (-1)) := ⟨_, rfl⟩
        have hgr : Chg O wr W := by
          rw [hW]
          exact ((((Chg.set r 0 _ HD.out.rO).trans (Chg.set r 1 _ HD.out.rO)).trans (Chg.set r 2 _ HD.out.rO)).trans (Chg.set r 5 _ HD.out.rO)).trans (Chg.set r 4 _ HD.out.rO)
        have hg : Chg O wc W := (Chg.ext HEX.out).trans hgr
        have hnew : ∀ t ∈ r :: (Value.slice none 0 0).ownBlock.toList, t ∈ O ∨ wc.heap.size ≤ t := fun t ht => by
          simp [Value.ownBlock] at ht; subst ht; exact .inl HD.out.rO
        have hnew2 : ∀ t ∈ r :: (Value.slice none 0 0).ownBlock.toList, t ∈ O ∨ wr.heap.size ≤ t := fun t ht => by
          simp [Value.ownBlock] at ht; subst ht; exact .inl HD.out.rO
        have hBW : Blk W r (rB (.slice va R.length vc) (.slice va R.length vc) (.slice none 0 0) { S with now := R, sure := R, waits := [], off := false, fuse := -1 }) 71 := by
          rw [hW]
          have := ((((hBr.set 0 (.slice va R.length vc)).set 1 (.slice va R.length vc)).set 2 (.slice none 0 0)).set 5 (.bool false)).set 4 (.int .i64 (-1))
          simpa [rB] using this
        have R2 := HD.out.step (S' := { S with now := R, sure := R, waits := [], off := false, fuse := -1 }) (n' := n + N) (ov := .slice none 0 0) (cs := []) hg hBW rfl (HFI.out.step hgr hnew2) (HFI.out.step hgr hnew2) (World.ownsRow_nil _ _ _ _) rfl (by simp [Value.ownBlock])
          hle hle hri hri hll hll (by simp) (by simp) (by simp) rfl
        have HR := Lib.hid R2; have HXX := Lib.hid hXX; have HW := Lib.hid hW
        clear R2 hXX hll hle hri hR hBr p3 hgr hg hnew hnew2 hBW hW c1 c2
        go_wp2_with fail
        refine bodyPost_end (results_none Tryd.results41 _ _ _) rfl ⟨rfl, ?_⟩
        rw [HXX.out, ← HW.out]
        exact ⟨_, HR.out.1, HR.out.2⟩
end Go.Proofs.YtmffknllnjagoaaDoor
