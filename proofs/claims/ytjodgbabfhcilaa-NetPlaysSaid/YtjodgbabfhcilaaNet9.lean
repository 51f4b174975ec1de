/- tabellionlaw19: scripts of calls in memory; the law NetWays. -/
import Derived.Test.YtjodgbabfhcilaaNet8
import Derived.Test.YtjodgbabfhcilaaBun9
set_option linter.unusedSimpArgs false
set_option linter.unusedVariables false
namespace Go.Proofs.Ytjodgbabfhcilaa
open Go Go.RowKit Go.Maps

/-- A call of a script. -/
structure NOp where
  kind : Int
  i : Int
  a : Int
  b : Int
  yes : Bool
  m : Msg
def noC (o : NOp) (ev mv iv : Value) : List Value := [.int .i64 o.kind, .int .i64 o.i, .int .u64 o.a, .int .u64 o.b, .bool o.yes, .int .i64 o.m.kind, .int .u64 o.m.src, .int .u64 o.m.dst, .int .u64 o.m.term, .int .u64 o.m.index, .int .u64 o.m.logTerm, .int .u64 o.m.commit, .int .u64 o.m.stamp, .bool o.m.yes, ev, mv, iv]
/-- v is a script. -/
def OpsN (w : World) (v : Value) (xs : List NOp) : Prop := ∃ a c, v = .slice a xs.length c ∧ xs.length ≤ c ∧ c ≤ maxLen ∧
  (xs = [] ∨ ∃ b f, a = some ⟨b, f, none⟩ ∧ ∀ (i : Nat) x, xs[i]? = some x → ∃ ev mv iv, MsgV w 0 (.agg (mCells x.m ev mv iv)) x.m ∧ ∀ (j : Nat) u, (noC x ev mv iv)[j]? = some u → w.cell? ⟨b, f + i * 17 + j, none⟩ = some u)
structure NOk (o : NOp) : Prop where
  kind : -9223372036854775808 ≤ o.kind ∧ o.kind ≤ 9223372036854775807
  i : -9223372036854775808 ≤ o.i ∧ o.i ≤ 9223372036854775807
  a : U64 o.a
  b : U64 o.b
  m : MsgOk o.m
  bd : o.m.entries.length ≤ 1759218604441 ∧ (∀ e ∈ o.m.entries, e.data.length ≤ 140737488355328 ∧ e.members.length ≤ 17592186044416) ∧ o.m.members.length ≤ 17592186044416 ∧ o.m.image.length ≤ 140737488351232
theorem wayOk : ∀ a b : Fin 7, (wrM (wayM ((a.val : Int) + 1) ((b.val : Int) + 1) 1)).isSome = true := by decide +kernel
theorem wayOk' {a b : Nat} (ha : 1 ≤ a ∧ a ≤ 7) (hb : 1 ≤ b ∧ b ≤ 7) : ∃ bs, wrM (wayM (a : Int) (b : Int) 1) = some bs := by
  have := wayOk ⟨a - 1, by omega⟩ ⟨b - 1, by omega⟩
  simp only at this
  rw [show ((a - 1 : Nat) : Int) + 1 = (a : Int) by omega, show ((b - 1 : Nat) : Int) + 1 = (b : Int) by omega] at this
  exact Option.isSome_iff_exists.1 this
/-- The two nets' ways are the same. -/
def SameW (W : WL) (ws : List (Int × Int)) : Prop := ∀ c d, U64 c → U64 d → wall W c d = decide ((c, d) ∈ ws)
theorem SameW.block {W : WL} {ws : List (Int × Int)} (h : SameW W ws) {a b : Int} (ha : U64 a) (hb : U64 b) (y : Bool) : SameW (walled W a b y) (blockW ws a b y) := by
  intro c d hc hd
  cases y with
  | true =>
    unfold walled blockW
    rw [if_pos rfl, if_pos rfl, wall_put W ha hb hc hd, h c d hc hd]
    simp only [List.mem_append, List.mem_filter, List.mem_singleton, Bool.not_eq_true', decide_eq_false_iff_not]
    rw [Bool.eq_iff_iff]
    simp only [Bool.or_eq_true, decide_eq_true_eq]
    constructor
    · rintro (⟨rfl, rfl⟩ | h1)
      · exact .inr rfl
      · by_cases e : (c, d) = (a, b)
        · exact .inr e
        · exact .inl ⟨h1, e⟩
    · rintro (⟨h1, _⟩ | h1)
      · exact .inr h1
      · cases h1; exact .inl ⟨rfl, rfl⟩
  | false =>
    unfold walled blockW
    rw [if_neg (by decide), if_neg (by decide), wall_del W ha hb hc hd, h c d hc hd, List.append_nil]
    simp only [List.mem_filter, Bool.not_eq_true', decide_eq_false_iff_not]
    rw [Bool.eq_iff_iff]
    simp only [Bool.and_eq_true, Bool.not_eq_true', decide_eq_true_eq, decide_eq_false_iff_not]
    constructor
    · rintro ⟨h1, h2⟩
      exact ⟨h2, fun e => by cases e; exact h1 ⟨rfl, rfl⟩⟩
    · rintro ⟨h1, h2⟩
      exact ⟨fun e => h2 (by rw [e.1, e.2]), h1⟩
theorem blockW_len (ws : List (Int × Int)) (a b : Int) (y : Bool) : (blockW ws a b y).length ≤ ws.length + 1 := by
  unfold blockW
  rw [List.length_append]
  have := List.length_filter_le (fun q => !decide (q = (a, b))) ws
  cases y <;> simp <;> omega
theorem RefW.step {w w' : World} {r : Nat} {ls wv : Value} {ws : List (Int × Int)} {A A' S : List Nat} (h : RefW w r ls wv ws A) (hg : Chg S w w') (hS : ∀ t ∈ S, t ∈ A) (hA : ∀ t ∈ A', t ∈ A ∨ w.heap.size ≤ t) : RefW w' r ls wv ws A' :=
  ⟨(h.chg hg hS).rb, (h.chg hg hS).ways, (h.more hA).rA, (h.more hA).wA, (h.chg hg hS).wlt⟩
theorem nmut_more {w : World} {p m : Nat} {lv lv' : Value} (h : ∀ t ∈ lv'.ownBlock.toList, t ∈ lv.ownBlock.toList ∨ w.heap.size ≤ t) : ∀ t ∈ NMut p m lv', t ∈ NMut p m lv ∨ w.heap.size ≤ t := fun t ht => by
  simp only [NMut, List.mem_cons] at ht ⊢
  rcases ht with h1 | h1 | h1
  · exact .inl (.inl h1)
  · exact .inl (.inr (.inl h1))
  · rcases h t h1 with h2 | h2
    · exact .inl (.inr (.inr h2))
    · exact .inr h2
set_option maxRecDepth 100000 in
set_option maxHeartbeats 8000000 in
/-- NetWays is true. -/
theorem netways_c (v : Value) (os : List NOp) (w : World) (h : OpsN w v os) (hok : ∀ o ∈ os, NOk o) : Calls Try.prog 5 #[v] w (RetIs (.bool true) w) := by
  obtain ⟨va, vc, rfl, hc1, hc2, hc3⟩ := h
  replace hc2 : vc ≤ 9223372036854775807 := by unfold maxLen at hc2; omega
  obtain ⟨N, hN⟩ : ∃ N, N = os.length := ⟨_, rfl⟩
  rw [← hN] at hc1 ⊢
  have HC := Lib.hid hc3; have HN := Lib.hid hN; have HOK := Lib.hid hok
  clear hc3 hN hok
  go_enter Try.func5, Try.ntmps5
  go_wp2_with fail
  refine (awake19_c w).mono ?_
  rintro e w1 ⟨rfl, hE1⟩
  have HE1 := Lib.hid hE1
  clear hE1
  go_wp2_with fail
  refine (nnew_c w1).mono ?_
  rintro e w2 ⟨p, m, rfl, hN2⟩
  have HN2 := Lib.hid hN2
  clear hN2
  go_upto_region 5 with fail
  obtain ⟨w3, hw3⟩ : ∃ w3, w3 = w2.alloc (.cells #[.slice none 0 0, .slice none 0 0] 45) := ⟨_, rfl⟩
  obtain ⟨r, hr⟩ : ∃ r, r = w2.heap.size := ⟨_, rfl⟩
  rw [← hw3, ← hr]
  have hE3 : Ext w2 w3 := by rw [hw3]; exact Ext.alloc _ _
  have hB3 : Blk w3 r #[.slice none 0 0, .slice none 0 0] 45 := by rw [hw3, hr]; exact Blk.new _ _ _
  have HN3 := Lib.hid (HN2.out.ext hE3)
  have HR3 := Lib.hid (show RefW w3 r (.slice none 0 0) (.slice none 0 0) [] (NMut p m (.slice none 0 0)) from ⟨hB3, RowV.nil _ _, (fun hm => by have := (HN2.out.mut_lt _ hm).1; omega), (fun a n c e => by cases e), (fun a n c e => by cases e)⟩)
  have HRN := Lib.hid (show w1.heap.size ≤ r from by rw [hr]; exact HN2.out.old.size)
  clear hw3 hr hE3 hB3 HN2
  go_upto_block 0 with fail
  go_cut [] (fun wc => ∃ (k : Nat) (W : WL) (wv : Value) (ws : List (Int × Int)), k ≤ 30 ∧ ws.length ≤ 30 ∧ NetS w1 wc p m (.slice none 0 0) [] k W ∧ RefW wc r (.slice none 0 0) wv ws (NMut p m (.slice none 0 0)) ∧ SameW W ws)
  case first =>
    go_wp2_with fail
    go_loopg [5] 30 (fun g v5 wr => ∃ (i k : Nat) (W : WL) (wv : Value) (ws : List (Int × Int)), v5 = .int .i64 (i : Int) ∧ i + g = 30 ∧ k ≤ i ∧ ws.length ≤ i ∧ NetS w1 wr p m (.slice none 0 0) [] k W ∧ RefW wr r (.slice none 0 0) wv ws (NMut p m (.slice none 0 0)) ∧ SameW W ws)
    case atStart => exact ⟨0, 0, [], _, [], rfl, by omega, by omega, by simp, HN3.out, HR3.out, fun c d _ _ => rfl⟩
    case round =>
      obtain ⟨i, k, W, wv, ws, rfl, hi, hki, hwi, hN, hR, hS⟩ := hrel
      have HNi := Lib.hid hN; have HRi := Lib.hid hR; have HS := Lib.hid hS
      clear hN hR hS
      by_cases hgo : i < N ∧ i < 30
      · obtain ⟨hlt, h30⟩ := hgo
        have hlt' : (i : Int) < (N : Int) := by omega
        have h30' : (i : Int) < 30 := by omega
        obtain ⟨o, ho⟩ : ∃ o, os[i]? = some o := ⟨_, List.getElem?_eq_getElem (by have := HN.out; omega)⟩
        obtain ⟨bb, f, rfl, hbw, c2, c3, c4⟩ : ∃ bb f, va = some ⟨bb, f, none⟩ ∧ bb < w.heap.size ∧ wr.cell? ⟨bb, f + i * 17 + 2, none⟩ = some (.int .u64 o.a) ∧ wr.cell? ⟨bb, f + i * 17 + 3, none⟩ = some (.int .u64 o.b) ∧ wr.cell? ⟨bb, f + i * 17 + 4, none⟩ = some (.bool o.yes) := by
          rcases HC.out with h0 | ⟨bb, f, ha, hc⟩
          · rw [h0] at ho; simp at ho
          · obtain ⟨ev, mv, iv, _, hcc⟩ := hc i o ho
            have hE := HE1.out.trans HNi.out.old
            exact ⟨bb, f, ha, World.block_lt_of_cell? w _ (hcc 2 _ rfl), hE.cell (hcc 2 _ rfl), hE.cell (hcc 3 _ rfl), hE.cell (hcc 4 _ rfl)⟩
        have HO := Lib.hid (HOK.out o (List.mem_of_getElem? ho))
        obtain ⟨oa, hoa⟩ : ∃ oa, oa = o.a := ⟨_, rfl⟩
        obtain ⟨ob, hob⟩ : ∃ ob, ob = o.b := ⟨_, rfl⟩
        obtain ⟨oy, hoy⟩ : ∃ oy, oy = o.yes := ⟨_, rfl⟩
        rw [← hoa] at c2
        rw [← hob] at c3
        rw [← hoy] at c4
        have HA := Lib.hid (show U64 oa from by rw [hoa]; exact HO.out.a); have HB := Lib.hid (show U64 ob from by rw [hob]; exact HO.out.b)
        have HBW := Lib.hid hbw
        clear ho hoa hob hoy HO hbw
        go_upto_region 8 with fail
        apply Mono.region1 16 Ext [.is _, .is _, .is _, .is _, .is _, .is _, .is _, .is _, .is _, .is _, .is _, .is _, .is _, .is _, .is _, .is _] (by kernel_rfl) Ext.refl (fun _ _ _ => Ext.trans) (by kernel_rfl) rfl rfl trivial
        focus
          iterate 16 (apply Mono.step_is; (· refine Mono.obl_mk fun w7 hE7 _ K hK => ?_; (have j2 := hE7.cell (show wr.drew.cell? _ = _ from c2)); (have j3 := hE7.cell (show wr.drew.cell? _ = _ from c3)); (have j4 := hE7.cell (show wr.drew.cell? _ = _ from c4)); clear hE7; go_wp2_with fail; simp only [Act.put, List.setIfInBounds_toArray, List.set_cons_succ, List.set_cons_zero] at hK; exact hK _ _ (Ext.refl _) (Mono.is_rfl _ _)); simp only [Act.put, List.setIfInBounds_toArray, List.set_cons_succ, List.set_cons_zero])
          refine Mono.step_end fun w7 hE7 hkn => ?_
          simp only [List.drop_succ_cons, List.drop_zero]
          clear hkn
          have HE7 := Lib.hid ((Ext.drew wr).trans hE7)
          have HN7 := Lib.hid (HNi.out.ext HE7.out); have HR7 := Lib.hid (HRi.out.ext HE7.out)
          replace c2 := HE7.out.cell c2; replace c3 := HE7.out.cell c3; replace c4 := HE7.out.cell c4
          clear hE7
          go_wp2_with fail
          refine (nblock_c HN7.out (by unfold maxLen; omega) HA.out HB.out oy).mono ?_
          rintro e w8 ⟨rfl, hN8, hC8⟩
          have HN8 := Lib.hid hN8; have HR8 := Lib.hid (HR7.out.chg hC8 (fun t ht => by simp at ht; subst ht; simp [NMut]))
          have hnm : bb ≠ m := by have := HN8.out.newm; have := HBW.out; have := HE1.out.size; omega
          replace c2 := cell_chg hC8 c2 (by simpa using hnm); replace c3 := cell_chg hC8 c3 (by simpa using hnm); replace c4 := cell_chg hC8 c4 (by simpa using hnm)
          clear hN8 hC8 hnm HN7 HR7
          go_upto_region 9 with fail
          apply Mono.region1 16 Ext [.is _, .is _, .is _, .is _, .is _, .is _, .is _, .is _, .is _, .is _, .is _, .is _, .is _, .is _, .is _, .is _] (by kernel_rfl) Ext.refl (fun _ _ _ => Ext.trans) (by kernel_rfl) rfl rfl trivial
          focus
            iterate 16 (apply Mono.step_is; (· refine Mono.obl_mk fun w9 hE9 _ K hK => ?_; (have j2 := hE9.cell (show w8.drew.cell? _ = _ from c2)); (have j3 := hE9.cell (show w8.drew.cell? _ = _ from c3)); (have j4 := hE9.cell (show w8.drew.cell? _ = _ from c4)); clear hE9; go_wp2_with fail; simp only [Act.put, List.setIfInBounds_toArray, List.set_cons_succ, List.set_cons_zero] at hK; exact hK _ _ (Ext.refl _) (Mono.is_rfl _ _)); simp only [Act.put, List.setIfInBounds_toArray, List.set_cons_succ, List.set_cons_zero])
            refine Mono.step_end fun w9 hE9 hkn => ?_
            simp only [List.drop_succ_cons, List.drop_zero]
            clear hkn
            have HE9 := Lib.hid ((Ext.drew w8).trans hE9)
            have HN9 := Lib.hid (HN8.out.ext HE9.out); have HR9 := Lib.hid (HR8.out.ext HE9.out)
            clear hE9 c2 c3 c4
            go_wp2_with fail
            refine (rblock_c HR9.out (fun t ht => (HN9.out.mut_lt t ht).1) (by omega) oa ob oy).mono ?_
            rintro e w10 ⟨rfl, wv', hR10, hC10⟩
            have HR10 := Lib.hid hR10
            have HN10 := Lib.hid (HN9.out.aside hC10 (fun t ht => by simp at ht; subst ht; exact ⟨HR9.out.rA, HRN.out⟩) (fun q hq => by cases hq))
            clear hR10 hC10
            go_wp2_with fail
            go_roundg (30 - (i + 1))
            case measure => omega
            case rel => exact ⟨i + 1, k + 1, _, wv', _, by go_num, by omega, by omega, by have := blockW_len ws oa ob oy; omega, HN10.out, HR10.out, HS.out.block HA.out HB.out oy⟩
      · by_cases hlt : i < N
        · have hlt' : (i : Int) < (N : Int) := by omega
          have hge : (30 : Int) ≤ (i : Int) := by omega
          clear hgo
          go_wp2_with fail
          go_meet
          exact ⟨k, W, wv, ws, by omega, by omega, HNi.out, HRi.out, HS.out⟩
        · have hge : (N : Int) ≤ (i : Int) := by omega
          clear hgo
          go_wp2_with fail
          go_meet
          exact ⟨k, W, wv, ws, by omega, by omega, HNi.out, HRi.out, HS.out⟩
  case rest =>
  obtain ⟨k, W, wv, ws, hk, hws, hN4, hR4, hS⟩ := hcut
  have HN4 := Lib.hid hN4; have HR4 := Lib.hid hR4; have HS := Lib.hid hS
  clear hN4 hR4 hS
  go_wp2_with fail
  go_loopg [6, 7, 8] 7 (fun g v6 v7 v8 wr => ∃ (a : Nat) (lv : Value) (l : List Item), v6 = .int .u64 (a : Int) ∧ a + g = 8 ∧ 1 ≤ a ∧ l.length ≤ 7 * a ∧ NetS w1 wr p m lv l k W ∧ RefW wr r (.slice none 0 0) wv ws (NMut p m lv))
  case atStart => exact ⟨1, _, [], rfl, by omega, by omega, by simp, HN4.out, HR4.out⟩
  case round =>
    obtain ⟨a, lv, l, rfl, ha, ha1, hl, hN, hR⟩ := hrel
    have HNi := Lib.hid hN; have HRi := Lib.hid hR
    clear hN hR
    by_cases ha7 : a ≤ 7
    · have ha7' : (a : Int) ≤ 7 := by omega
      go_wp2_with fail
      go_loopg [7, 8] 7 (fun g v7 v8 wr => ∃ (b : Nat) (lv : Value) (l : List Item), v7 = .int .u64 (b : Int) ∧ b + g = 8 ∧ 1 ≤ b ∧ l.length + 1 ≤ 7 * a + b ∧ NetS w1 wr p m lv l k W ∧ RefW wr r (.slice none 0 0) wv ws (NMut p m lv))
      case atStart => exact ⟨1, _, l, rfl, by omega, by omega, by omega, HNi.out, HRi.out⟩
      case round =>
        obtain ⟨b, lv, l, rfl, hb, hb1, hl, hN, hR⟩ := hrel
        have HNj := Lib.hid hN; have HRj := Lib.hid hR
        clear hN hR
        by_cases hb7 : b ≤ 7
        · have hb7' : (b : Int) ≤ 7 := by omega
          have ua : U64 (a : Int) := by unfold U64; omega
          have ub : U64 (b : Int) := by unfold U64; omega
          have HUA := Lib.hid ua; have HUB := Lib.hid ub
          obtain ⟨bs, hbs⟩ := wayOk' ⟨ha1, ha7⟩ ⟨hb1, hb7⟩
          have HBS := Lib.hid hbs
          have HW := Lib.hid (HS.out (a : Int) (b : Int) ua ub)
          clear hbs ua ub
          go_wp2_with fail
          refine (rblocked_c HRj.out (a : Int) (b : Int)).mono ?_
          rintro e w5 ⟨rfl, rfl⟩
          obtain ⟨z, hz⟩ : ∃ z, z = decide (((a : Int), (b : Int)) ∈ ws) := ⟨_, rfl⟩
          rw [← hz] at HW ⊢
          have HZ := Lib.hid hz.symm
          clear hz
          cases z with
          | true =>
            go_wp2_with fail
            refine (nblocked_c HNj.out HUA.out HUB.out).mono ?_
            rintro e w6 ⟨rfl, hE6⟩
            rw [HW.out]
            have HN6 := Lib.hid (HNj.out.ext hE6); have HR6 := Lib.hid (HRj.out.ext hE6)
            clear hE6
            go_wp2_with fail
            refine (rblocked_c HR6.out (a : Int) (b : Int)).mono ?_
            rintro e w7 ⟨rfl, rfl⟩
            rw [HZ.out]
            go_wp2_with fail
            refine (nsend_c HN6.out (by omega) _ (wayM (a : Int) (b : Int) 1) (wayV_msg _ 0 _ _ _) (wayM_ok HUA.out HUB.out (by unfold U64; omega))).mono ?_
            rintro e w8 ⟨rfl, lv', l', hN8, hC8, hb8, h8⟩
            have hcode : sendE (wrM (wayM (a : Int) (b : Int) 1)) (wall W (wayM (a : Int) (b : Int) 1).src (wayM (a : Int) (b : Int) 1).dst) l.length = 6 := by
              rw [HBS.out]
              show sendE (some bs) (wall W (a : Int) (b : Int)) l.length = 6
              rw [HW.out]
              unfold sendE
              simp
              try omega
            rw [hcode] at h8 ⊢
            have HN8 := Lib.hid hN8
            have HR8 := Lib.hid (HR6.out.step hC8 (fun t ht => ht) (nmut_more hb8))
            have hl8 : l'.length ≤ l.length + 1 := by
              rcases h8 with ⟨_, h, _⟩ | ⟨_, bv, _, h⟩
              · rw [h]; omega
              · rw [h]; simp
            clear hN8 hC8 hb8 h8 hcode
            go_wp2_with fail
            go_roundg (8 - (b + 1))
            case measure => omega
            case rel => exact ⟨b + 1, lv', l', by go_num, by omega, by omega, by omega, HN8.out, HR8.out⟩
          | false =>
            go_wp2_with fail
            refine (nblocked_c HNj.out HUA.out HUB.out).mono ?_
            rintro e w6 ⟨rfl, hE6⟩
            rw [HW.out]
            have HN6 := Lib.hid (HNj.out.ext hE6); have HR6 := Lib.hid (HRj.out.ext hE6)
            clear hE6
            go_wp2_with fail
            refine (rblocked_c HR6.out (a : Int) (b : Int)).mono ?_
            rintro e w7 ⟨rfl, rfl⟩
            rw [HZ.out]
            go_wp2_with fail
            refine (nsend_c HN6.out (by omega) _ (wayM (a : Int) (b : Int) 1) (wayV_msg _ 0 _ _ _) (wayM_ok HUA.out HUB.out (by unfold U64; omega))).mono ?_
            rintro e w8 ⟨rfl, lv', l', hN8, hC8, hb8, h8⟩
            have hcode : sendE (wrM (wayM (a : Int) (b : Int) 1)) (wall W (wayM (a : Int) (b : Int) 1).src (wayM (a : Int) (b : Int) 1).dst) l.length = 0 := by
              rw [HBS.out]
              show sendE (some bs) (wall W (a : Int) (b : Int)) l.length = 0
              rw [HW.out]
              unfold sendE
              simp
              try omega
            rw [hcode] at h8 ⊢
            have HN8 := Lib.hid hN8
            have HR8 := Lib.hid (HR6.out.step hC8 (fun t ht => ht) (nmut_more hb8))
            have hl8 : l'.length ≤ l.length + 1 := by
              rcases h8 with ⟨_, h, _⟩ | ⟨_, bv, _, h⟩
              · rw [h]; omega
              · rw [h]; simp
            clear hN8 hC8 hb8 h8 hcode
            go_wp2_with fail
            go_roundg (8 - (b + 1))
            case measure => omega
            case rel => exact ⟨b + 1, lv', l', by go_num, by omega, by omega, by omega, HN8.out, HR8.out⟩
        · have hb8 : (7 : Int) < (b : Int) := by omega
          clear hb7
          go_wp2_with fail
          go_roundg (8 - (a + 1))
          case measure => omega
          case rel => exact ⟨a + 1, lv, l, by go_num, by omega, by omega, by omega, HNj.out, HRj.out⟩
    · have ha8 : (7 : Int) < (a : Int) := by omega
      clear ha7
      go_wp2_with fail
      go_ret
      exact ⟨rfl, HE1.out.trans HNi.out.old⟩
end Go.Proofs.Ytjodgbabfhcilaa
