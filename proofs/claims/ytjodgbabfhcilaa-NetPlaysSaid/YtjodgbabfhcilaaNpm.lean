/- tabellionlaw19: NetPlays. PRINTED BY gen/nplays.py -/
import Derived.Test.YtjodgbabfhcilaaNpl
import Derived.Test.YtjodgbabfhcilaaCpn
set_option linter.unusedSimpArgs false
set_option linter.unusedVariables false
namespace Go.Proofs.Ytjodgbabfhcilaa
open Go Go.RowKit Go.Maps

theorem k6 (x : Int) : ∃ K, (x.tmod 6 + 6).tmod 6 = K ∧ -6 < x.tmod 6 ∧ x.tmod 6 < 6 ∧ 0 ≤ K ∧ K < 6 := by
  have h1 := Int.tmod_lt_of_pos x (show (0 : Int) < 6 by omega)
  have h2 := Int.lt_tmod_of_pos x (show (0 : Int) < 6 by omega)
  have h3 := Int.tmod_lt_of_pos (x.tmod 6 + 6) (show (0 : Int) < 6 by omega)
  have h4 := Int.tmod_nonneg 6 (show (0 : Int) ≤ x.tmod 6 + 6 by omega)
  exact ⟨_, rfl, by omega, h1, h4, h3⟩
theorem d300 (x : Int) : ∃ D, x.tmod 300 = D ∧ -300 < D ∧ D < 300 := by
  have h1 := Int.tmod_lt_of_pos x (show (0 : Int) < 300 by omega)
  have h2 := Int.lt_tmod_of_pos x (show (0 : Int) < 300 by omega)
  exact ⟨_, rfl, by omega, h1⟩
theorem op_size (c0 c1 c2 c3 c4 c5 c6 c7 c8 c9 c10 c11 c12 c13 c14 c15 c16 : Value) : (Try.prog.info? 47).map (·.size) = some (#[c0, c1, c2, c3, c4, c5, c6, c7, c8, c9, c10, c11, c12, c13, c14, c15, c16] : Array Value).size := by kernel_rfl
/-- The row t holds the message M. -/
def XRow (w : World) (t : Nat) (M : Msg) : Prop := ∃ a9 m9 c9 a10 m10 c10 a11 m11 c11, Blk w t (mCells M (.slice a9 m9 c9) (.slice a10 m10 c10) (.slice a11 m11 c11)) 34 ∧ MsgV w 0 (.agg (mCells M (.slice a9 m9 c9) (.slice a10 m10 c10) (.slice a11 m11 c11))) M
theorem XRow.zero {w : World} {t : Nat} (h : Blk w t (zc 0) 34) : XRow w t Msg.zero := ⟨none, 0, 0, none, 0, 0, none, 0, 0, h, msgV_zero _ _⟩
theorem XRow.ext {w w' : World} {t : Nat} {M : Msg} (h : XRow w t M) (hE : Ext w w') : XRow w' t M := by
  obtain ⟨a9, m9, c9, a10, m10, c10, a11, m11, c11, h1, h2⟩ := h
  exact ⟨a9, m9, c9, a10, m10, c10, a11, m11, c11, h1.ext hE, h2.ext hE⟩
theorem msgOk_zero : MsgOk Msg.zero := MsgOk.zero
/-- Where the ways of a round meet. -/
def Meet (w1 : World) (p m r n T6 T9 T10 : Nat) (oc : Array Value) (v7 v8 : Value) (wc : World) : Prop :=
  ∃ (code : Int) (lv : Value) (l : List Item) (k : Nat) (W : WL) (ls wv : Value) (S : List MQ) (ws : List (Int × Int)) (A : List Nat) (M : Msg),
    v7 = .int .i64 code ∧ v8 = .int .i64 code ∧ PSt w1 p m r n wc lv l k W ls wv S ws A ∧ Blk wc T6 oc 47 ∧ XRow wc T9 M ∧ XRow wc T10 M ∧ MsgOk M
theorem PSt.up {w1 wc : World} {p m r n n' k : Nat} {lv ls wv : Value} {l : List Item} {W : WL} {S : List MQ} {ws : List (Int × Int)} {A : List Nat} (h : PSt w1 p m r n wc lv l k W ls wv S ws A) (hn : n ≤ n') : PSt w1 p m r n' wc lv l k W ls wv S ws A :=
  ⟨h.st, h.same, h.eq, h.len, Nat.le_trans h.kn hn, Nat.le_trans h.wn hn⟩
/-- What the document's net answers at a place, and what the net answered. -/
theorem ycase {w3 w4 : World} {r T10 : Nat} {ls wv y : Value} {S : List MQ} {ws : List (Int × Int)} {A0 : List Nat} {oi cy cx : Int} {Mx : Msg} (hR : RefN w3 r ls wv S ws A0) (hT : T10 ∈ A0) (hC : Chg [r] w3 w4)
    (hx : (¬ (0 ≤ oi ∧ oi < (S.length : Int)) ∧ (Mx, cx) = (Msg.zero, 9)) ∨ ∃ q, 0 ≤ oi ∧ oi < (S.length : Int) ∧ S[oi.toNat]? = some q ∧ (Mx, cx) = (q.1, 0))
    (hc : (¬ (0 ≤ oi ∧ oi < (S.length : Int)) ∧ y = .agg (zc 0) ∧ cy = 9) ∨ (∃ q, S[oi.toNat]? = some q ∧ 0 ≤ oi ∧ cy = 0 ∧ y = mV q)) :
    cy = cx ∧ ∃ a9 m9 c9 a10 m10 c10 a11 m11 c11, y = .agg (mCells Mx (.slice a9 m9 c9) (.slice a10 m10 c10) (.slice a11 m11 c11)) ∧ MsgOk Mx ∧ ∀ w5, Chg [T10] w4 w5 → MsgV w5 0 (.agg (mCells Mx (.slice a9 m9 c9) (.slice a10 m10 c10) (.slice a11 m11 c11))) Mx := by
  rcases hx with ⟨h1, h2⟩ | ⟨q, h1, h2, h3, h4⟩
  · rcases hc with ⟨_, rfl, rfl⟩ | ⟨q', h5, h6, _⟩
    · cases h2
      exact ⟨rfl, none, 0, 0, none, 0, 0, none, 0, 0, rfl, MsgOk.zero, fun w5 _ => msgV_zero _ _⟩
    · exact absurd ⟨h6, by have := (List.getElem?_eq_some_iff.1 h5).1; omega⟩ h1
  · rcases hc with ⟨h5, _⟩ | ⟨q', h5, _, rfl, rfl⟩
    · exact absurd ⟨h1, h2⟩ h5
    · rw [h3] at h5
      cases h5
      cases h4
      have hm := hR.ms q (List.mem_of_getElem? h3)
      obtain ⟨M, ev, mv, iv⟩ := q
      obtain ⟨a9, m9, c9, a10, m10, c10, a11, m11, c11, e⟩ := hm.1.toV.shape
      simp only [mV, mCells, Value.agg.injEq, Array.mk.injEq, List.cons.injEq, and_true, true_and] at e
      obtain ⟨rfl, rfl, rfl⟩ := e
      refine ⟨rfl, a9, m9, c9, a10, m10, c10, a11, m11, c11, rfl, hm.2, fun w5 hC5 => ?_⟩
      exact ((hm.1.chg hC (fun t ht hr => by simp at ht; subst ht; exact hr (by simp))).chg hC5 (fun t ht hr => by simp at ht; subst ht; exact hr (List.mem_cons_of_mem _ hT))).toV
set_option maxRecDepth 100000 in
set_option maxHeartbeats 16000000 in
/-- NetPlays is true. -/
theorem netplays_c (v : Value) (os : List NOp) (w : World) (h : OpsN w v os) (hok : ∀ o ∈ os, NOk o) : Calls Try.prog 4 #[v] w (RetIs (.bool true) w) := by
  obtain ⟨va, vc, rfl, hc1, hc2, hc3⟩ := h
  replace hc2 : vc ≤ 9223372036854775807 := by unfold maxLen at hc2; omega
  obtain ⟨N, hN⟩ : ∃ N, N = os.length := ⟨_, rfl⟩
  rw [← hN] at hc1 ⊢
  have HC := Lib.hid hc3; have HN := Lib.hid hN; have HOK := Lib.hid hok
  clear hc3 hN hok
  go_enter Try.func4, Try.ntmps4
  go_wp2_with fail
  refine (awake19_c w).mono ?_
  rintro e w1 ⟨rfl, hE1⟩
  have HE1 := Lib.hid hE1
  clear hE1
  go_wp2_with fail
  refine (nnew_c w1).mono ?_
  rintro e w2 ⟨p, m, rfl, hN2⟩
  have HN2 := Lib.hid hN2
  clear hN2
  go_upto_region 5 with fail
  obtain ⟨w3, hw3⟩ : ∃ w3, w3 = w2.alloc (.cells #[.slice none 0 0, .slice none 0 0] 45) := ⟨_, rfl⟩
  obtain ⟨r, hr⟩ : ∃ r, r = w2.heap.size := ⟨_, rfl⟩
  rw [← hw3, ← hr]
  have hE3 : Ext w2 w3 := by rw [hw3]; exact Ext.alloc _ _
  have hB3 : Blk w3 r #[.slice none 0 0, .slice none 0 0] 45 := by rw [hw3, hr]; exact Blk.new _ _ _
  have hRW : RefW w3 r (.slice none 0 0) (.slice none 0 0) [] (NMut p m (.slice none 0 0)) := ⟨hB3, RowV.nil _ _, (fun hm => by have := (HN2.out.mut_lt _ hm).1; omega), (fun a n c e => by cases e), (fun a n c e => by cases e)⟩
  have HP3 := Lib.hid (show PSt w1 p m r 0 w3 (.slice none 0 0) [] 0 [] (.slice none 0 0) (.slice none 0 0) [] [] (NMut p m (.slice none 0 0)) from
    ⟨⟨HN2.out.ext hE3, ⟨hRW, RowV.nil _ _, (fun a n c e => by cases e), fun q hq => by cases hq⟩, fun t ht => ht, fun t ht => ((HN2.out.ext hE3).mut_lt t ht).1, by rw [hr]; exact HN2.out.old.size, fun q hq => by cases hq⟩, fun c d _ _ => rfl, rfl, by simp, by simp, by simp⟩)
  clear hw3 hr hE3 hB3 hRW HN2
  go_wp2_with fail
  go_loopg [5, 6, 7, 8, 9, 10, 11, 12, 13] 40 (fun g v5 _v6 _v7 _v8 _v9 _v10 _v11 _v12 _v13 wr => ∃ (i : Nat) (lv : Value) (l : List Item) (k : Nat) (W : WL) (ls wv : Value) (S : List MQ) (ws : List (Int × Int)) (A : List Nat), v5 = .int .i64 (i : Int) ∧ i + g = 40 ∧ PSt w1 p m r i wr lv l k W ls wv S ws A)
  case atStart => exact ⟨0, _, _, _, _, _, _, _, _, _, rfl, by omega, HP3.out⟩
  case round =>
    obtain ⟨i, lv, l, k, W, ls, wv, S, ws, A, rfl, hi, hP⟩ := hrel
    have HP := Lib.hid hP
    clear hP HP3
    by_cases hgo : i < N ∧ i < 40
    · obtain ⟨hlt, h40⟩ := hgo
      have hlt' : (i : Int) < (N : Int) := by omega
      have h40' : (i : Int) < 40 := by omega
      obtain ⟨o, ho⟩ : ∃ o, os[i]? = some o := ⟨_, List.getElem?_eq_getElem (by have := HN.out; omega)⟩
      have HO := Lib.hid (HOK.out o (List.mem_of_getElem? ho))
      obtain ⟨bb, f, ev, mv, iv, rfl, hmv, hcc⟩ : ∃ bb f ev mv iv, va = some ⟨bb, f, none⟩ ∧ MsgV w 0 (.agg (mCells o.m ev mv iv)) o.m ∧ ∀ (j : Nat) u, (noC o ev mv iv)[j]? = some u → wr.cell? ⟨bb, f + i * 17 + j, none⟩ = some u := by
        rcases HC.out with h0 | ⟨bb, f, ha, hc⟩
        · rw [h0] at ho; simp at ho
        · obtain ⟨ev, mv, iv, h2, hcc⟩ := hc i o ho
          have hE := HE1.out.trans HP.out.st.net.old
          exact ⟨bb, f, ev, mv, iv, ha, h2, fun j u hj => hE.cell (hcc j u hj)⟩
      obtain ⟨a9, m9, c9, a10, m10, c10, a11, m11, c11, e⟩ := hmv.shape
      simp only [mCells, Value.agg.injEq, Array.mk.injEq, List.cons.injEq, and_true, true_and] at e
      obtain ⟨rfl, rfl, rfl⟩ := e
      obtain ⟨kd, oi, oa, ob, oy, M⟩ := o
      have HMV := Lib.hid hmv
      obtain ⟨⟨hkd0, hkd1⟩, hio, hua, hub, hmok, hbd⟩ := HO.out
      dsimp only at hkd0 hkd1 hio hua hub hmok hbd
      have HIO := Lib.hid hio; have HUA := Lib.hid hua; have HUB := Lib.hid hub; have HMOK := Lib.hid hmok; have HBD := Lib.hid hbd
      have g0 := hcc 0 _ rfl; have g1 := hcc 1 _ rfl; have g2 := hcc 2 _ rfl; have g3 := hcc 3 _ rfl; have g4 := hcc 4 _ rfl; have g5 := hcc 5 _ rfl; have g6 := hcc 6 _ rfl; have g7 := hcc 7 _ rfl; have g8 := hcc 8 _ rfl; have g9 := hcc 9 _ rfl; have g10 := hcc 10 _ rfl; have g11 := hcc 11 _ rfl; have g12 := hcc 12 _ rfl; have g13 := hcc 13 _ rfl; have g14 := hcc 14 _ rfl; have g15 := hcc 15 _ rfl; have g16 := hcc 16 _ rfl; dsimp only at g0 g1 g2 g3 g4 g5 g6 g7 g8 g9 g10 g11 g12 g13 g14 g15 g16; rw [Nat.add_zero] at g0
      clear ho hmv hcc HO hio hua hub hmok hbd
      have HZ6 := Lib.hid (Blk.new wr #[.int .i64 0, .int .i64 0, .int .u64 0, .int .u64 0, .bool false, .int .i64 0, .int .u64 0, .int .u64 0, .int .u64 0, .int .u64 0, .int .u64 0, .int .u64 0, .int .u64 0, .bool false, .slice none 0 0, .slice none 0 0, .slice none 0 0] 47)
      have HD6 := Lib.hid (Ext.alloc wr (.cells #[.int .i64 0, .int .i64 0, .int .u64 0, .int .u64 0, .bool false, .int .i64 0, .int .u64 0, .int .u64 0, .int .u64 0, .int .u64 0, .int .u64 0, .int .u64 0, .int .u64 0, .bool false, .slice none 0 0, .slice none 0 0, .slice none 0 0] 47))
      go_upto_region 9 with (refine wpList_store_row rfl 47 (.tmp 6) (.tmp 32) rfl wr.heap.size #[.int .i64 kd, .int .i64 oi, .int .u64 oa, .int .u64 ob, .bool oy, .int .i64 M.kind, .int .u64 M.src, .int .u64 M.dst, .int .u64 M.term, .int .u64 M.index, .int .u64 M.logTerm, .int .u64 M.commit, .int .u64 M.stamp, .bool M.yes, .slice a9 m9 c9, .slice a10 m10 c10, .slice a11 m11 c11] rfl rfl 47 _ HZ6.out (op_size _ _ _ _ _ _ _ _ _ _ _ _ _ _ _ _ _) rfl (by simp [Value.oneCell']) ?_)
      clear g0 g1 g2 g3 g4 g5 g6 g7 g8 g9 g10 g11 g12 g13 g14 g15 g16
      have hb6 := HZ6.out.row #[.int .i64 kd, .int .i64 oi, .int .u64 oa, .int .u64 ob, .bool oy, .int .i64 M.kind, .int .u64 M.src, .int .u64 M.dst, .int .u64 M.term, .int .u64 M.index, .int .u64 M.logTerm, .int .u64 M.commit, .int .u64 M.stamp, .bool M.yes, .slice a9 m9 c9, .slice a10 m10 c10, .slice a11 m11 c11]
      have hE6 := setRow_ext HD6.out (Nat.le_refl _) #[.int .i64 kd, .int .i64 oi, .int .u64 oa, .int .u64 ob, .bool oy, .int .i64 M.kind, .int .u64 M.src, .int .u64 M.dst, .int .u64 M.term, .int .u64 M.index, .int .u64 M.logTerm, .int .u64 M.commit, .int .u64 M.stamp, .bool M.yes, .slice a9 m9 c9, .slice a10 m10 c10, .slice a11 m11 c11]
      generalize (wr.alloc (.cells #[.int .i64 0, .int .i64 0, .int .u64 0, .int .u64 0, .bool false, .int .i64 0, .int .u64 0, .int .u64 0, .int .u64 0, .int .u64 0, .int .u64 0, .int .u64 0, .int .u64 0, .bool false, .slice none 0 0, .slice none 0 0, .slice none 0 0] 47)).setRow wr.heap.size #[.int .i64 kd, .int .i64 oi, .int .u64 oa, .int .u64 ob, .bool oy, .int .i64 M.kind, .int .u64 M.src, .int .u64 M.dst, .int .u64 M.term, .int .u64 M.index, .int .u64 M.logTerm, .int .u64 M.commit, .int .u64 M.stamp, .bool M.yes, .slice a9 m9 c9, .slice a10 m10 c10, .slice a11 m11 c11] = w6 at *
      have hs6 : wr.heap.size < w6.heap.size := hb6.lt
      have HE6 := Lib.hid hE6; have HB6 := Lib.hid hb6
      clear HZ6 HD6 hE6 hb6
      go_upto_region 12 with fail
      obtain ⟨w0, hw0⟩ : ∃ w0, w0 = (w6.alloc (.cells (zc 0) 34)).alloc (.cells (zc 0) 34) := ⟨_, rfl⟩
      rw [← hw0]
      have hE0 : Ext w6 w0 := by rw [hw0]; exact (Ext.alloc _ _).trans (Ext.alloc _ _)
      have hb9 : Blk w0 w6.heap.size (zc 0) 34 := by rw [hw0]; exact (Blk.new _ _ _).alloc _
      have hb10 : Blk w0 (w6.heap.size + 1) (zc 0) 34 := by rw [hw0]; have := Blk.new (w6.alloc (.cells (zc 0) 34)) (zc 0) 34; simpa using this
      obtain ⟨T6, hT6⟩ : ∃ T6, T6 = wr.heap.size := ⟨_, rfl⟩
      obtain ⟨T9, hT9⟩ : ∃ T9, T9 = w6.heap.size := ⟨_, rfl⟩
      obtain ⟨T10, hT10⟩ : ∃ T10, T10 = w6.heap.size + 1 := ⟨_, rfl⟩
      rw [← hT6, ← hT9] 
      rw [show T9 + 1 = T10 by omega]
      have hb6 := HB6.out.ext hE0
      rw [← hT6] at hb6; rw [← hT9] at hb9; rw [← hT10] at hb10
      have hgr := HP.out.st.grow (T := [T6, T9, T10]) (HE6.out.trans hE0) (fun t ht => by
        have h1 := hb10.lt; have := hE0.size
        simp at ht
        rcases ht with rfl | rfl | rfl <;> omega)
      have HNE := Lib.hid (show T6 ≠ T9 ∧ T6 ≠ T10 ∧ T9 ≠ T10 ∧ (∀ t ∈ [T6, T9, T10], t < w0.heap.size) ∧ (∀ t ∈ [T6, T9, T10], w1.heap.size ≤ t) from by
        have h1 := hb10.lt; have h2 := hE0.size; have h3 := HP.out.st.net.old.size
        refine ⟨by omega, by omega, by omega, fun t ht => ?_, fun t ht => ?_⟩ <;> (simp at ht; rcases ht with rfl | rfl | rfl <;> omega))
      have HP0 := Lib.hid (show PSt w1 p m r i w0 lv l k W ls wv S ws ([T6, T9, T10] ++ A) from ⟨hgr.1, HP.out.same, HP.out.eq, HP.out.len, HP.out.kn, HP.out.wn⟩)
      have HL0 := Lib.hid hgr.2
      have HB60 := Lib.hid hb6; have HB9 := Lib.hid hb9; have HB10 := Lib.hid hb10
      obtain ⟨A0, hA0⟩ : ∃ A0, A0 = [T6, T9, T10] ++ A := ⟨_, rfl⟩
      rw [← hA0] at HP0 HL0
      clear hgr hA0 HB6 HE6 hw0 hE0 hT6 hT9 hT10 hb9 hb10 hs6 HP
      have c0 := hb6.cell 0 rfl; have c1 := hb6.cell 1 rfl; have c2 := hb6.cell 2 rfl; have c3 := hb6.cell 3 rfl; have c4 := hb6.cell 4 rfl
      simp only [List.getElem_toArray, List.getElem_cons_zero, List.getElem_cons_succ] at c0 c1 c2 c3 c4
      clear hb6
      obtain ⟨K, hk1, hk2, hk3, hk4, hk5⟩ := k6 kd
      go_upto_block 2 with fail
      go_cut [7, 8, 11, 12, 13] (fun v7 v8 _v11 _v12 _v13 wc => Meet w1 p m r (i + 1) T6 T9 T10 #[.int .i64 kd, .int .i64 oi, .int .u64 oa, .int .u64 ob, .bool oy, .int .i64 M.kind, .int .u64 M.src, .int .u64 M.dst, .int .u64 M.term, .int .u64 M.index, .int .u64 M.logTerm, .int .u64 M.commit, .int .u64 M.stamp, .bool M.yes, .slice a9 m9 c9, .slice a10 m10 c10, .slice a11 m11 c11] v7 v8 wc)
      case first =>
        have hK6 : K = 0 ∨ K = 1 ∨ K = 2 ∨ K = 3 ∨ K = 4 ∨ K = 5 := by omega
        clear hk1 hk2 hk3 hk4 hk5 c0
        rcases hK6 with rfl | rfl | rfl | rfl | rfl | rfl
        -- 0: Send
        · as_aux_lemma =>
            clear c1 c2 c3 c4
            have j0 := HB60.out.cell 5 rfl; have j1 := HB60.out.cell 6 rfl; have j2 := HB60.out.cell 7 rfl; have j3 := HB60.out.cell 8 rfl; have j4 := HB60.out.cell 9 rfl; have j5 := HB60.out.cell 10 rfl; have j6 := HB60.out.cell 11 rfl; have j7 := HB60.out.cell 12 rfl; have j8 := HB60.out.cell 13 rfl; have j9 := HB60.out.cell 14 rfl; have j10 := HB60.out.cell 15 rfl; have j11 := HB60.out.cell 16 rfl; simp only [List.getElem_toArray, List.getElem_cons_zero, List.getElem_cons_succ] at j0 j1 j2 j3 j4 j5 j6 j7 j8 j9 j10 j11
            have HBDM := Lib.hid (show MsgBd M from ⟨HBD.out.1, fun e he => ⟨(HBD.out.2.1 e he).1, (HBD.out.2.1 e he).2⟩, HBD.out.2.2.1, HBD.out.2.2.2⟩)
            go_wp2_with fail
            clear j0 j1 j2 j3 j4 j5 j6 j7 j8 j9 j10 j11
            refine (copied19 (.agg (mCells M (.slice a9 m9 c9) (.slice a10 m10 c10) (.slice a11 m11 c11))) M w0 (HMV.out.ext (HE1.out.trans HP0.out.st.net.old)) HBDM.out).mono ?_
            rintro e w2 ⟨v1, rfl, hv1, hu1, hE2⟩
            obtain ⟨b9, k9, d9, b10, k10, d10, b11, k11, d11, rfl⟩ := hv1.toV.shape
            have hg := HP0.out.st.grow (T := rng w0.heap.size w2.heap.size) hE2 (fun t ht => mem_rng.1 ht)
            have HV2 := Lib.hid (show MsgR (· ∈ rng w0.heap.size w2.heap.size) w2 (.agg (mCells M (.slice b9 k9 d9) (.slice b10 k10 d10) (.slice b11 k11 d11))) M from hv1.mono fun k h1 h2 => mem_rng.2 ⟨h2, h1⟩)
            have HU2 := Lib.hid (show MsgU w2 (.agg (mCells M (.slice b9 k9 d9) (.slice b10 k10 d10) (.slice b11 k11 d11))) from hu1)
            have HM2 := Lib.hid hg.1; have HT2 := Lib.hid hg.2; have HL2 := Lib.hid (HL0.out.grow (T' := rng w0.heap.size w2.heap.size))
            have HE2 := Lib.hid hE2
            have HZ2 := Lib.hid (Blk.new w2 (zc 0) 34)
            have HD2 := Lib.hid (Ext.alloc w2 (.cells (zc 0) 34))
            clear hv1 hu1 hE2 hg
            go_upto_region 21 with (refine wpList_store_row rfl 34 (.tmp 11) (.tmp 64) rfl w2.heap.size (mCells M (.slice b9 k9 d9) (.slice b10 k10 d10) (.slice b11 k11 d11)) rfl rfl 34 _ HZ2.out (mCells_size _ _ _ _) rfl (mCells_one _ _ _ _ _ _ _ _ _ _) ?_)
            have hb5 := HZ2.out.row (mCells M (.slice b9 k9 d9) (.slice b10 k10 d10) (.slice b11 k11 d11))
            have hE5 := setRow_ext HD2.out (Nat.le_refl _) (mCells M (.slice b9 k9 d9) (.slice b10 k10 d10) (.slice b11 k11 d11))
            generalize (w2.alloc (.cells (zc 0) 34)).setRow w2.heap.size (mCells M (.slice b9 k9 d9) (.slice b10 k10 d10) (.slice b11 k11 d11)) = w3 at *
            obtain ⟨X, hX⟩ : ∃ X, X = w2.heap.size := ⟨_, rfl⟩
            rw [← hX] at hb5 ⊢
            have HB3 := Lib.hid (show Blk w3 X #[.int .i64 M.kind, .int .u64 M.src, .int .u64 M.dst, .int .u64 M.term, .int .u64 M.index, .int .u64 M.logTerm, .int .u64 M.commit, .int .u64 M.stamp, .bool M.yes, .slice b9 k9 d9, .slice b10 k10 d10, .slice b11 k11 d11] 34 from hb5)
            have HX := Lib.hid hX; have HE3 := Lib.hid hE5
            have HM3 := Lib.hid (HM2.out.ext hE5)
            clear hb5 hE5 hX HZ2 HD2
            have hsend := nsend_c HM3.out.net (by have := HP0.out.len; omega) (.agg (mCells M (.slice b9 k9 d9) (.slice b10 k10 d10) (.slice b11 k11 d11))) M ((HV2.out.ext HE3.out).toV) HMOK.out
            rw [HP0.out.send HMOK.out] at hsend
            obtain ⟨E, hE⟩ : ∃ E, E = rsendE M ws S.length := ⟨_, rfl⟩
            rw [← hE] at hsend
            have HSEND := Lib.hid hsend; have HE := Lib.hid hE
            clear hsend hE
            go_wp2_with (refine wpList_load_row rfl 34 (.tmp 11) rfl X rfl 34 _ (0, 0) _ HB3.out Try.underlying34 rfl (by kernel_rfl) ?_)
            refine HSEND.out.mono ?_
            rintro e w4 ⟨rfl, lv', l', hN4, hC4, hb4, hc4⟩
            have hl4 : ∀ q ∈ l', q ∈ l ∨ From w3.heap.size q.1 := fun q hq => by
              rcases hc4 with ⟨_, h, _⟩ | ⟨_, bv, h1, h⟩
              · rw [h] at hq; exact .inl hq
              · rw [h] at hq
                rcases List.mem_append.1 hq with h2 | h2
                · exact .inl h2
                · rw [List.mem_singleton.1 h2]; exact .inr h1
            have hnm : ∀ t ∈ NMut p m lv, t < w0.heap.size := fun t ht => (HP0.out.st.net.mut_lt t ht).1
            have HM4 := Lib.hid (HM3.out.netStep hN4 hC4 hb4 hl4); have HL4 := Lib.hid (HL2.out.netStep HM3.out hb4 hl4); have HT4 := Lib.hid (HT2.out.netStep HM3.out hb4 hl4)
            have h03 : Ext w0 w3 := HE2.out.trans HE3.out
            have HB64 := Lib.hid ((HB60.out.ext h03).chg hC4 (HL2.out.mu T6 (by simp))); have HB94 := Lib.hid ((HB9.out.ext h03).chg hC4 (HL2.out.mu T9 (by simp))); have HB104 := Lib.hid ((HB10.out.ext h03).chg hC4 (HL2.out.mu T10 (by simp)))
            have HB4 := Lib.hid (HB3.out.chg hC4 (fun hm => by have := hnm _ hm; have := HX.out; have := HE2.out.size; omega))
            have hR : ∀ t ∈ NMut p m lv, ¬ t ∈ rng w0.heap.size w2.heap.size := fun t ht hm => by have := hnm t ht; have := (mem_rng.1 hm).1; omega
            have HV4 := Lib.hid ((HV2.out.ext HE3.out).chg hC4 hR); have HU4 := Lib.hid ((HU2.out.chgR HV2.out (Chg.ext HE3.out : Chg [] w2 w3) (by simp)).chgR (HV2.out.ext HE3.out) hC4 hR)
            have HCC := Lib.hid hc4; have HN4 := Lib.hid hN4
            clear hN4 hC4 hb4 hc4 hl4 hnm h03 hR HSEND HB3
            have j0 := HB64.out.cell 5 rfl; have j1 := HB64.out.cell 6 rfl; have j2 := HB64.out.cell 7 rfl; have j3 := HB64.out.cell 8 rfl; have j4 := HB64.out.cell 9 rfl; have j5 := HB64.out.cell 10 rfl; have j6 := HB64.out.cell 11 rfl; have j7 := HB64.out.cell 12 rfl; have j8 := HB64.out.cell 13 rfl; have j9 := HB64.out.cell 14 rfl; have j10 := HB64.out.cell 15 rfl; have j11 := HB64.out.cell 16 rfl; simp only [List.getElem_toArray, List.getElem_cons_zero, List.getElem_cons_succ] at j0 j1 j2 j3 j4 j5 j6 j7 j8 j9 j10 j11
            go_wp2_with fail
            clear j0 j1 j2 j3 j4 j5 j6 j7 j8 j9 j10 j11
            refine (copied19 (.agg (mCells M (.slice a9 m9 c9) (.slice a10 m10 c10) (.slice a11 m11 c11))) M w4 (HMV.out.ext (HE1.out.trans HN4.out.old)) HBDM.out).mono ?_
            rintro e w5 ⟨v2, rfl, hv2, -, hE5⟩
            obtain ⟨e9, n9, f9, e10, n10, f10, e11, n11, f11, rfl⟩ := hv2.toV.shape
            have HM5 := Lib.hid (HM4.out.ext hE5)
            have hq : MsgR (fun k => k ∉ r :: (NMut p m lv' ++ (rng w0.heap.size w2.heap.size ++ A0))) w5 (mV (M, (.slice e9 n9 f9), (.slice e10 n10 f10), (.slice e11 n11 f11))) M := hv2.mono fun k h1 h2 hm => by
              rcases List.mem_cons.1 hm with h3 | h3
              · have := HM4.out.rlt; omega
              · have := HM4.out.lt k h3; omega
            have HQ := Lib.hid hq; have HE5 := Lib.hid hE5
            clear hv2 hq hE5
            go_wp2_with fail
            refine (rsend_c HM5.out.ref HM5.out.lt (by have := HP0.out.slen; have := HP0.out.len; omega) (M, (.slice e9 n9 f9), (.slice e10 n10 f10), (.slice e11 n11 f11)) HQ.out HMOK.out).mono ?_
            rintro e w6 ⟨rfl, ls', hC6, hc6⟩
            dsimp only at hc6
            dsimp only
            rw [← HE.out] at hc6 ⊢
            have hfin : ∃ S' ls'', MSt w1 p m r w6 lv' l' k W ls'' wv S' ws (NMut p m lv' ++ (rng w0.heap.size w2.heap.size ++ A0)) ∧ l'.map (·.2) = S'.map (·.1) ∧ l'.length ≤ 256 := by
              rcases hc6 with ⟨h1, h2⟩ | ⟨h1, h3⟩
              · rcases HCC.out with ⟨_, h4, _⟩ | ⟨h4, _⟩
                · exact ⟨S, ls, HM5.out.ext h2, by rw [h4]; exact HP0.out.eq, by rw [h4]; exact HP0.out.len⟩
                · exact absurd h4 h1
              · rcases HCC.out with ⟨h4, _⟩ | ⟨_, bv, _, h6⟩
                · exact absurd h1 h4
                · refine ⟨_, ls', HM5.out.refStep h3 hC6, by rw [h6, List.map_append, List.map_append, HP0.out.eq]; rfl, ?_⟩
                  rw [h6, List.length_append]
                  have e1 := HE.out
                  rw [h1] at e1
                  unfold rsendE at e1
                  rw [HP0.out.slen] at e1
                  split at e1
                  · exact absurd e1 (by decide)
                  · split at e1
                    · exact absurd e1 (by decide)
                    · split at e1
                      · exact absurd e1 (by decide)
                      · simp; omega
            have hr6 := HL0.out.ne HP0.out.st
            have hrl := HP0.out.st.rlt
            have HF := Lib.hid hfin
            have HB66 := Lib.hid ((HB64.out.ext HE5.out).chg hC6 (by simp; exact hr6 T6 (by simp))); have HB96 := Lib.hid ((HB94.out.ext HE5.out).chg hC6 (by simp; exact hr6 T9 (by simp))); have HB106 := Lib.hid ((HB104.out.ext HE5.out).chg hC6 (by simp; exact hr6 T10 (by simp)))
            have HB6X := Lib.hid ((HB4.out.ext HE5.out).chg hC6 (by simp; have := HX.out; have := HE2.out.size; omega))
            have hR : ∀ t ∈ [r], ¬ t ∈ rng w0.heap.size w2.heap.size := fun t ht hm => by simp at ht; have := (mem_rng.1 hm).1; omega
            have HV6 := Lib.hid ((HV4.out.ext HE5.out).chg hC6 hR); have HU6 := Lib.hid ((HU4.out.chgR HV4.out (Chg.ext HE5.out : Chg [] w4 w5) (by simp)).chgR (HV4.out.ext HE5.out) hC6 hR)
            have HS6 := Lib.hid (show w2.heap.size ≤ w6.heap.size from by have h1 := HE3.out.size; have h2 := HN4.out; have h3 := HE5.out.size; have h4 := hC6.size; have h5 := HB4.out.lt; have := HX.out; omega)
            clear hfin hr6 hrl hR hC6 hc6 HM5 HQ
            go_wp2_with (refine wpList_load_row rfl 34 (.tmp 11) rfl X rfl 34 _ (0, 0) _ HB6X.out Try.underlying34 rfl (by kernel_rfl) ?_)
            refine (spoil_c HV6.out HU6.out (fun t ht => by have := (mem_rng.1 ht).2; have := HS6.out; omega)).mono ?_
            rintro e w7 ⟨rfl, hC7⟩
            have HC7 := Lib.hid hC7
            clear hC7
            go_wp2_with fail
            go_meet
            obtain ⟨S', ls'', hM6, heq, hlen⟩ := HF.out
            have hw : ∀ t ∈ rng w0.heap.size w2.heap.size, w1.heap.size ≤ t := fun t ht => by have := (mem_rng.1 ht).1; have := HP0.out.st.net.old.size; omega
            have hM7 := hM6.store HT4.out hw HC7.out
            have hT : ∀ t ∈ [T6, T9, T10], t ∉ rng w0.heap.size w2.heap.size := fun t ht hm => by have := HNE.out.2.2.2.1 t ht; have := (mem_rng.1 hm).1; omega
            exact ⟨E, lv', l', k, W, ls'', wv, S', ws, _, Msg.zero, rfl, rfl, ⟨hM7, HP0.out.same, heq, hlen, by have := HP0.out.kn; omega, by have := HP0.out.wn; omega⟩, HB66.out.chg HC7.out (hT T6 (by simp)), XRow.zero (HB96.out.chg HC7.out (hT T9 (by simp))), XRow.zero (HB106.out.chg HC7.out (hT T10 (by simp))), MsgOk.zero⟩
        -- 1: Take
        · as_aux_lemma =>
            clear c2 c3 c4
            obtain ⟨⟨Mx, cx⟩, hX⟩ : ∃ X, X = atN (l.map (·.2)) oi := ⟨_, rfl⟩
            have hat := HP0.out.atN oi
            have hnat := ntake_c HP0.out.st.net (by have := HP0.out.len; omega) oi HIO.out
            rw [← hX] at hat hnat
            have HAT := Lib.hid hat; have HNAT := Lib.hid hnat
            clear hat hnat hX
            go_wp2_with fail
            refine HNAT.out.mono ?_
            rintro e w2 ⟨lv', l', x, rfl, hx, hN2, hC2, hb2, hc2⟩
            dsimp only at hx hc2
            have hl2 : ∀ q ∈ l', q ∈ l ∨ From w0.heap.size q.1 := fun q hq => by
              rcases hc2 with ⟨_, h, _⟩ | ⟨_, h⟩
              · rw [h] at hq; exact .inl hq
              · rw [h] at hq; exact .inl (List.mem_of_mem_eraseIdx hq)
            obtain ⟨b9, k9, d9, b10, k10, d10, b11, k11, d11, rfl⟩ := hx.shape
            have HM2 := Lib.hid (HP0.out.st.netStep hN2 hC2 hb2 hl2); have HL2 := Lib.hid (HL0.out.netStep HP0.out.st hb2 hl2)
            have HXV := Lib.hid hx; have HCC := Lib.hid hc2
            have HB62 := Lib.hid (HB60.out.chg hC2 (HL0.out.mu T6 (by simp))); have HB92 := Lib.hid (HB9.out.chg hC2 (HL0.out.mu T9 (by simp))); have HB102 := Lib.hid (HB10.out.chg hC2 (HL0.out.mu T10 (by simp)))
            clear hN2 hC2 hb2 hl2 hc2 hx c1
            go_upto_region 26 with (refine wpList_store_row rfl 34 (.tmp 9) (.tmp 82) rfl T9 (mCells Mx (.slice b9 k9 d9) (.slice b10 k10 d10) (.slice b11 k11 d11)) rfl rfl 34 _ HB92.out (mCells_size _ _ _ _) rfl (mCells_one _ _ _ _ _ _ _ _ _ _) ?_)
            have hb9 := HB92.out.row (mCells Mx (.slice b9 k9 d9) (.slice b10 k10 d10) (.slice b11 k11 d11))
            have hC3 : Chg [T9] w2 (w2.setRow T9 (mCells Mx (.slice b9 k9 d9) (.slice b10 k10 d10) (.slice b11 k11 d11))) := Chg.some (grown_row w2 T9 _) (.inl (by simp))
            generalize w2.setRow T9 (mCells Mx (.slice b9 k9 d9) (.slice b10 k10 d10) (.slice b11 k11 d11)) = w3 at *
            have hM3 := HM2.out.store (HL2.out.of (T' := [T9]) (by simp)) (fun t ht => HNE.out.2.2.2.2 t (by simp at ht; simp [ht])) hC3
            have hxv := HXV.out.chg hC3 (fun t ht => HNE.out.2.2.2.1 t (by simp at ht; simp [ht]))
            have hb6 := HB62.out.chg hC3 (by simp; exact HNE.out.1); have hb10 := HB102.out.chg hC3 (by simp; exact Ne.symm HNE.out.2.2.1)
            have c1 := hb6.cell 1 rfl
            simp only [List.getElem_toArray, List.getElem_cons_zero, List.getElem_cons_succ] at c1
            have HM3 := Lib.hid hM3; have HXV3 := Lib.hid hxv; have HB63 := Lib.hid hb6; have HB93 := Lib.hid hb9; have HB103 := Lib.hid hb10
            clear hM3 hxv hb6 hb9 hb10 hC3 HXV HB92 HM2 HB62 HB102
            go_wp2_with fail
            refine (rtake_c HM3.out.ref HM3.out.lt (by have := HP0.out.slen; have := HP0.out.len; omega) oi HIO.out).mono ?_
            rintro e w4 ⟨y, cy, rfl, hcase⟩
            have hC4 : Chg [r] w3 w4 := by
              rcases hcase with ⟨_, _, _, h⟩ | ⟨_, _, q, _, _, ls', _, h⟩
              · exact Chg.ext h
              · exact h
            obtain ⟨rfl, e9, n9, f9, e10, n10, f10, e11, n11, f11, rfl, hmok, hyv⟩ := ycase HM3.out.ref (HL2.out.sub T10 (by simp)) hC4 HAT.out (hcase.imp (fun ⟨h1, h2, h3, _⟩ => ⟨h1, h2, h3⟩) fun ⟨h1, h2, q, h3, h4, _⟩ => ⟨q, h3, h1, h2, h4⟩)
            have hM4 : ∃ S' ls', MSt w1 p m r w4 lv' l' k W ls' wv S' ws (NMut p m lv' ++ A0) ∧ l'.map (·.2) = S'.map (·.1) ∧ l'.length ≤ 256 := by
              rcases hcase with ⟨h1, _, h3, h⟩ | ⟨h1, h2, q, h3, _, ls', h4, h⟩
              · rcases HCC.out with ⟨_, h5, _⟩ | ⟨h5, _⟩
                · exact ⟨S, ls, HM3.out.ext h, by rw [h5]; exact HP0.out.eq, by rw [h5]; exact HP0.out.len⟩
                · rw [h5] at h3; exact absurd h3 (by decide)
              · rcases HCC.out with ⟨h5, _⟩ | ⟨_, h5⟩
                · exact absurd h2 h5
                · refine ⟨_, ls', HM3.out.refStep h4 h, ?_, ?_⟩
                  · rw [h5, ← eraseMap, ← eraseMap, HP0.out.eq]
                  · rw [h5]
                    have := List.length_eraseIdx_le l oi.toNat
                    have := HP0.out.len
                    omega
            have HM4 := Lib.hid hM4; have HC4 := Lib.hid hC4; have HYV := Lib.hid hyv; have HOKX := Lib.hid hmok
            have hr6 := HL2.out.ne HM3.out
            have HB104 := Lib.hid (HB103.out.chg hC4 (by simp; exact hr6 T10 (by simp))); have HB94 := Lib.hid (HB93.out.chg hC4 (by simp; exact hr6 T9 (by simp))); have HB64 := Lib.hid (HB63.out.chg hC4 (by simp; exact hr6 T6 (by simp)))
            have HXV4 := Lib.hid (HXV3.out.chg hC4 (fun t ht => by simp at ht; subst ht; exact HP0.out.st.rlt))
            clear hM4 hC4 hyv hmok hcase c1 hr6
            go_wp2_with (refine wpList_store_row rfl 34 (.tmp 10) (.tmp 89) rfl T10 (mCells Mx (.slice e9 n9 f9) (.slice e10 n10 f10) (.slice e11 n11 f11)) rfl rfl 34 _ HB104.out (mCells_size _ _ _ _) rfl (mCells_one _ _ _ _ _ _ _ _ _ _) ?_)
            go_meet
            obtain ⟨S', ls', hM4, heq, hlen⟩ := HM4.out
            have hb10 := HB104.out.row (mCells Mx (.slice e9 n9 f9) (.slice e10 n10 f10) (.slice e11 n11 f11))
            have hC5 : Chg [T10] w4 (w4.setRow T10 (mCells Mx (.slice e9 n9 f9) (.slice e10 n10 f10) (.slice e11 n11 f11))) := Chg.some (grown_row w4 T10 _) (.inl (by simp))
            have hM5 := hM4.store (HL2.out.of (T' := [T10]) (by simp)) (fun t ht => HNE.out.2.2.2.2 t (by simp at ht; simp [ht])) hC5
            have hxv := (HXV4.out.chg hC5 (fun t ht => HNE.out.2.2.2.1 t (by simp at ht; simp [ht]))).low
            exact ⟨_, lv', l', k, W, ls', wv, S', ws, _, Mx, rfl, rfl, ⟨hM5, HP0.out.same, heq, hlen, by have := HP0.out.kn; omega, by have := HP0.out.wn; omega⟩, HB64.out.chg hC5 (by simp; exact HNE.out.2.1), ⟨_, _, _, _, _, _, _, _, _, HB94.out.chg hC5 (by simp; exact HNE.out.2.2.1), hxv⟩, ⟨_, _, _, _, _, _, _, _, _, hb10, HYV.out _ hC5⟩, HOKX.out⟩
        -- 2: At
        · as_aux_lemma =>
            clear c2 c3 c4
            obtain ⟨⟨Mx, cx⟩, hX⟩ : ∃ X, X = atN (l.map (·.2)) oi := ⟨_, rfl⟩
            have hat := HP0.out.atN oi
            have hnat := nat_c HP0.out.st.net (by have := HP0.out.len; omega) oi HIO.out
            rw [← hX] at hat hnat
            have HAT := Lib.hid hat; have HNAT := Lib.hid hnat
            clear hat hnat hX
            go_wp2_with fail
            refine HNAT.out.mono ?_
            rintro e w2 ⟨x, rfl, hx, hE2⟩
            dsimp only at hx
            obtain ⟨b9, k9, d9, b10, k10, d10, b11, k11, d11, rfl⟩ := hx.shape
            have HE2 := Lib.hid hE2; have HXV := Lib.hid hx
            have HB92 := Lib.hid (HB9.out.ext hE2)
            clear hE2 hx c1
            go_upto_region 29 with (refine wpList_store_row rfl 34 (.tmp 9) (.tmp 98) rfl T9 (mCells Mx (.slice b9 k9 d9) (.slice b10 k10 d10) (.slice b11 k11 d11)) rfl rfl 34 _ HB92.out (mCells_size _ _ _ _) rfl (mCells_one _ _ _ _ _ _ _ _ _ _) ?_)
            have hb9 := HB92.out.row (mCells Mx (.slice b9 k9 d9) (.slice b10 k10 d10) (.slice b11 k11 d11))
            have hC3 : Chg [T9] w2 (w2.setRow T9 (mCells Mx (.slice b9 k9 d9) (.slice b10 k10 d10) (.slice b11 k11 d11))) := Chg.some (grown_row w2 T9 _) (.inl (by simp))
            generalize w2.setRow T9 (mCells Mx (.slice b9 k9 d9) (.slice b10 k10 d10) (.slice b11 k11 d11)) = w3 at *
            have hM3 := (HP0.out.st.ext HE2.out).store (HL0.out.of (T' := [T9]) (by simp)) (fun t ht => HNE.out.2.2.2.2 t (by simp at ht; simp [ht])) hC3
            have hxv := HXV.out.chg hC3 (fun t ht => HNE.out.2.2.2.1 t (by simp at ht; simp [ht]))
            have hb6 := (HB60.out.ext HE2.out).chg hC3 (by simp; exact HNE.out.1); have hb10 := (HB10.out.ext HE2.out).chg hC3 (by simp; exact Ne.symm HNE.out.2.2.1)
            have c1 := hb6.cell 1 rfl
            simp only [List.getElem_toArray, List.getElem_cons_zero, List.getElem_cons_succ] at c1
            have HM3 := Lib.hid hM3; have HXV3 := Lib.hid hxv; have HB63 := Lib.hid hb6; have HB93 := Lib.hid hb9; have HB103 := Lib.hid hb10
            clear hM3 hxv hb6 hb9 hb10 hC3 HXV HB92
            go_wp2_with fail
            refine (rat_c HM3.out.ref (by have := HP0.out.slen; have := HP0.out.len; omega) oi HIO.out).mono ?_
            rintro e w4 ⟨hE4, y, cy, rfl, hcase⟩
            obtain ⟨rfl, e9, n9, f9, e10, n10, f10, e11, n11, f11, rfl, hmok, hyv⟩ := ycase HM3.out.ref (HL0.out.sub T10 (by simp)) (Chg.ext hE4) HAT.out (hcase.imp id fun ⟨h1, h2, q, h3, h4⟩ => ⟨q, h3, h1, h2, h4⟩)
            have HE4 := Lib.hid hE4; have HYV := Lib.hid hyv; have HOKX := Lib.hid hmok
            have HB104 := Lib.hid (HB103.out.ext hE4)
            clear hE4 hyv hmok hcase c1
            go_wp2_with (refine wpList_store_row rfl 34 (.tmp 10) (.tmp 105) rfl T10 (mCells Mx (.slice e9 n9 f9) (.slice e10 n10 f10) (.slice e11 n11 f11)) rfl rfl 34 _ HB104.out (mCells_size _ _ _ _) rfl (mCells_one _ _ _ _ _ _ _ _ _ _) ?_)
            go_meet
            have hb10 := HB104.out.row (mCells Mx (.slice e9 n9 f9) (.slice e10 n10 f10) (.slice e11 n11 f11))
            have hC5 : Chg [T10] w4 (w4.setRow T10 (mCells Mx (.slice e9 n9 f9) (.slice e10 n10 f10) (.slice e11 n11 f11))) := Chg.some (grown_row w4 T10 _) (.inl (by simp))
            have hM5 := (HM3.out.ext HE4.out).store (HL0.out.of (T' := [T10]) (by simp)) (fun t ht => HNE.out.2.2.2.2 t (by simp at ht; simp [ht])) hC5
            have hxv := ((HXV3.out.ext HE4.out).chg hC5 (fun t ht => HNE.out.2.2.2.1 t (by simp at ht; simp [ht]))).low
            exact ⟨_, lv, l, k, W, ls, wv, S, ws, A0, Mx, rfl, rfl, ⟨hM5, HP0.out.same, HP0.out.eq, HP0.out.len, by have := HP0.out.kn; omega, by have := HP0.out.wn; omega⟩, (HB63.out.ext HE4.out).chg hC5 (by simp; exact HNE.out.2.1), ⟨_, _, _, _, _, _, _, _, _, (HB93.out.ext HE4.out).chg hC5 (by simp; exact HNE.out.2.2.1), hxv⟩, ⟨_, _, _, _, _, _, _, _, _, hb10, HYV.out _ hC5⟩, HOKX.out⟩
        -- 3: Twice
        · as_aux_lemma =>
            clear c2 c3 c4
            go_wp2_with fail
            refine (ntwice_c HP0.out.st.net (by have := HP0.out.len; omega) oi HIO.out).mono ?_
            rintro e w2 ⟨rfl, lv', l', hN2, hC2, hb2, hc2⟩
            have hl2 : ∀ q ∈ l', q ∈ l ∨ From w0.heap.size q.1 := fun q hq => by
              rcases hc2 with ⟨_, h, _⟩ | ⟨_, q', h1, h⟩
              · rw [h] at hq; exact .inl hq
              · rw [h] at hq
                rcases List.mem_append.1 hq with h2 | h2
                · exact .inl h2
                · rw [List.mem_singleton.1 h2]; exact .inl (List.mem_of_getElem? h1)
            have hM2 := HP0.out.st.netStep hN2 hC2 hb2 hl2
            have hT := HP0.out.twice oi
            rw [hT] at hc2 ⊢
            have hb6 := HB60.out.chg hC2 (HL0.out.mu T6 (by simp)); have hb9 := HB9.out.chg hC2 (HL0.out.mu T9 (by simp)); have hb10 := HB10.out.chg hC2 (HL0.out.mu T10 (by simp))
            have HM2 := Lib.hid hM2; have HB62 := Lib.hid hb6; have HB92 := Lib.hid hb9; have HB102 := Lib.hid hb10; have HCC := Lib.hid hc2
            have c1' := hb6.cell 1 rfl
            simp only [List.getElem_toArray, List.getElem_cons_zero, List.getElem_cons_succ] at c1'
            clear hM2 hb6 hb9 hb10 hc2 hl2 hN2 hC2 hb2 hT c1
            go_wp2_with fail
            refine (rtwice_c HM2.out.ref HM2.out.lt (by have := HP0.out.slen; have := HP0.out.len; omega) oi HIO.out).mono ?_
            rintro e w3 ⟨rfl, ls', hC3, hc3⟩
            have hr6 := HL0.out.ne HP0.out.st
            have hb6 := HB62.out.chg hC3 (by simp; exact hr6 T6 (by simp)); have hb9 := HB92.out.chg hC3 (by simp; exact hr6 T9 (by simp)); have hb10 := HB102.out.chg hC3 (by simp; exact hr6 T10 (by simp))
            have HC3 := Lib.hid hC3; have HC3C := Lib.hid hc3; have HB63 := Lib.hid hb6; have HB93 := Lib.hid hb9; have HB103 := Lib.hid hb10
            clear hC3 hc3 hr6 hb6 hb9 hb10 c1'
            go_wp2_with fail
            go_meet
            have hfin : ∃ l'' S'' ls'', l'' = l' ∧ MSt w1 p m r w3 lv' l'' k W ls'' wv S'' ws (NMut p m lv' ++ A0) ∧ l''.map (·.2) = S''.map (·.1) ∧ l''.length ≤ 256 := by
              rcases HC3C.out with ⟨h1, h2⟩ | ⟨h1, q, h2, h3⟩
              · rcases HCC.out with ⟨_, h4, _⟩ | ⟨h4, _⟩
                · exact ⟨l', S, ls, rfl, HM2.out.ext h2, by rw [h4]; exact HP0.out.eq, by rw [h4]; exact HP0.out.len⟩
                · exact absurd h4 h1
              · rcases HCC.out with ⟨h4, _⟩ | ⟨_, q', h5, h6⟩
                · exact absurd h1 h4
                · refine ⟨l', S ++ [q], ls', rfl, HM2.out.refStep h3 HC3.out, ?_, ?_⟩
                  · rw [h6, List.map_append, List.map_append, HP0.out.eq]
                    have e1 := congrArg (fun z => z[oi.toNat]?) HP0.out.eq
                    simp only [List.getElem?_map, h5, h2, Option.map_some] at e1
                    simp only [List.map_cons, List.map_nil]
                    rw [Option.some.inj e1]
                  · rw [h6, List.length_append]
                    have e1 := h1
                    unfold rtwiceE at e1
                    rw [HP0.out.slen] at e1
                    split at e1
                    · exact absurd e1 (by decide)
                    · split at e1
                      · exact absurd e1 (by decide)
                      · simp; omega
            obtain ⟨l'', S'', ls'', rfl, k1, k2, k3⟩ := hfin
            exact ⟨_, lv', l'', k, W, ls'', wv, S'', ws, _, Msg.zero, rfl, rfl, ⟨k1, HP0.out.same, k2, k3, by have := HP0.out.kn; omega, by have := HP0.out.wn; omega⟩, HB63.out, XRow.zero HB93.out, XRow.zero HB103.out, MsgOk.zero⟩
        -- 4: Block
        · as_aux_lemma =>
            clear c1
            go_wp2_with fail
            refine (nblock_c HP0.out.st.net (by have := HP0.out.kn; unfold maxLen; omega) HUA.out HUB.out oy).mono ?_
            rintro e w2 ⟨rfl, hN2, hC2⟩
            have hC2' : Chg (NMut p m lv) w0 w2 := hC2.mono fun t ht => .inl (by simp at ht; subst ht; simp [NMut])
            have hM2 := HP0.out.st.netStep hN2 hC2' (fun t ht => .inl ht) (fun q hq => .inl hq)
            have hb6 := HB60.out.chg hC2' (HL0.out.mu T6 (by simp)); have hb9 := HB9.out.chg hC2' (HL0.out.mu T9 (by simp)); have hb10 := HB10.out.chg hC2' (HL0.out.mu T10 (by simp))
            have HM2 := Lib.hid hM2; have HB62 := Lib.hid hb6; have HB92 := Lib.hid hb9; have HB102 := Lib.hid hb10
            have k2 := hb6.cell 2 rfl; have k3 := hb6.cell 3 rfl; have k4 := hb6.cell 4 rfl
            simp only [List.getElem_toArray, List.getElem_cons_zero, List.getElem_cons_succ] at k2 k3 k4
            clear hM2 hb6 hb9 hb10 hN2 hC2 hC2' c2 c3 c4
            go_wp2_with fail
            refine (rblock_c HM2.out.ref.rw HM2.out.lt (by have := HP0.out.wn; omega) oa ob oy).mono ?_
            rintro e w3 ⟨rfl, wv', hR3, hC3⟩
            have hr6 := HL0.out.ne HP0.out.st
            have hb6 := HB62.out.chg hC3 (by simp; exact hr6 T6 (by simp)); have hb9 := HB92.out.chg hC3 (by simp; exact hr6 T9 (by simp)); have hb10 := HB102.out.chg hC3 (by simp; exact hr6 T10 (by simp))
            have HB63 := Lib.hid hb6; have HB93 := Lib.hid hb9; have HB103 := Lib.hid hb10
            have HM3 := Lib.hid (HM2.out.refStep (HM2.out.ref.block hR3 hC3) hC3)
            clear hC3 hR3 hr6 hb6 hb9 hb10 k2 k3 k4
            go_wp2_with fail
            go_meet
            exact ⟨0, lv, l, k + 1, _, ls, wv', S, _, _, Msg.zero, rfl, rfl, ⟨HM3.out, HP0.out.same.block HUA.out HUB.out oy, HP0.out.eq, HP0.out.len, by have := HP0.out.kn; omega, by have := HP0.out.wn; have := blockW_len ws oa ob oy; omega⟩, HB63.out, XRow.zero HB93.out, XRow.zero HB103.out, MsgOk.zero⟩
        -- 5: Send again and again
        · as_aux_lemma =>
            clear c2 c3 c4
            obtain ⟨D, hD, hD1, hD2⟩ := d300 oi
            have HD := Lib.hid hD
            clear hD
            go_wp2_with fail
            go_loopg [7, 8, 12, 13] 300 (fun g v7 v8 v12 _v13 wx => ∃ (j : Nat) (code : Int) (lv' : Value) (l' : List Item) (ls' : Value) (S' : List MQ) (A' : List Nat), v12 = .int .i64 (j : Int) ∧ j + g = 300 ∧ v7 = .int .i64 code ∧ v8 = .int .i64 code ∧ PSt w1 p m r i wx lv' l' k W ls' wv S' ws A' ∧ Loc [T6, T9, T10] p m r lv' l' A' ∧ Blk wx T6 #[.int .i64 kd, .int .i64 oi, .int .u64 oa, .int .u64 ob, .bool oy, .int .i64 M.kind, .int .u64 M.src, .int .u64 M.dst, .int .u64 M.term, .int .u64 M.index, .int .u64 M.logTerm, .int .u64 M.commit, .int .u64 M.stamp, .bool M.yes, .slice a9 m9 c9, .slice a10 m10 c10, .slice a11 m11 c11] 47 ∧ Blk wx T9 (zc 0) 34 ∧ Blk wx T10 (zc 0) 34)
            case atStart => exact ⟨0, 0, lv, l, ls, S, A0, rfl, by omega, rfl, rfl, HP0.out, HL0.out, HB60.out, HB9.out, HB10.out⟩
            case round =>
              obtain ⟨j, code, lv', l', ls', S', A', rfl, hj, rfl, rfl, hP, hL, hb6, hb9, hb10⟩ := hrel
              have HPj := Lib.hid hP; have HLj := Lib.hid hL; have HB6j := Lib.hid hb6; have HB9j := Lib.hid hb9; have HB10j := Lib.hid hb10
              have c1 := hb6.cell 1 rfl
              simp only [List.getElem_toArray, List.getElem_cons_zero, List.getElem_cons_succ] at c1
              clear hP hL hb6 hb9 hb10
              have hDD := HD.out
              have hoi := HIO.out
              by_cases hlt : (j : Int) < D
              · have hj3 : j < 300 := by omega
                go_upto_region 16 with fail
                have hok : MsgOk (wayM 1 2 (1 + (j : Int))) := wayM_ok (by unfold U64; omega) (by unfold U64; omega) (by unfold U64; omega)
                clear c1 hDD hoi
                go_wp2_with fail
                obtain ⟨t, ht⟩ : ∃ t : Int, t = 1 + (j : Int) := ⟨_, rfl⟩
                rw [← ht] at hok ⊢
                have HOKV := Lib.hid hok
                clear ht hok
                refine (vote_c t _).mono ?_
                rintro e w2 ⟨rfl, hE2⟩
                have HE2 := Lib.hid hE2
                have HZ2 := Lib.hid (Blk.new w2 (zc 0) 34)
                have HD2 := Lib.hid (Ext.alloc w2 (.cells (zc 0) 34))
                clear hE2
                go_upto_region 17 with (refine wpList_store_row rfl 34 (.tmp 13) (.tmp 53) rfl w2.heap.size (wayC 1 2 t) rfl rfl 34 _ HZ2.out (wayC_size _ _ _) rfl (wayC_one _ _ _) ?_)
                have hb5 := HZ2.out.row (wayC 1 2 t)
                have hE5 := setRow_ext HD2.out (Nat.le_refl _) (wayC 1 2 t)
                generalize (w2.alloc (.cells (zc 0) 34)).setRow w2.heap.size (wayC 1 2 t) = w3 at *
                obtain ⟨X, hX⟩ : ∃ X, X = w2.heap.size := ⟨_, rfl⟩
                rw [← hX] at hb5 ⊢
                have HB3 := Lib.hid (show Blk w3 X #[.int .i64 2, .int .u64 1, .int .u64 2, .int .u64 t, .int .u64 0, .int .u64 0, .int .u64 0, .int .u64 0, .bool false, .slice none 0 0, .slice none 0 0, .slice none 0 0] 34 from hb5)
                have hE3 := HE2.out.trans hE5
                have hPP := HPj.out.ext hE3
                have HX := Lib.hid (show ∀ t ∈ NMut p m lv', t < X from fun t ht => by have h1 := (HPj.out.st.net.mut_lt t ht).1; have h2 := HE2.out.size; omega)
                have HXR := Lib.hid (show r < X from by have h1 := HPj.out.st.rlt; have h2 := HE2.out.size; omega)
                have HP3 := Lib.hid hPP; have HE3 := Lib.hid hE3
                have hsend := nsend_c HP3.out.st.net (by have := HP3.out.len; omega) (.agg (wayC 1 2 t)) (wayM 1 2 t) (wayV_msg _ 0 1 2 t) HOKV.out
                rw [HP3.out.send HOKV.out] at hsend
                obtain ⟨E, hE⟩ : ∃ E, E = rsendE (wayM 1 2 t) ws S'.length := ⟨_, rfl⟩
                rw [← hE] at hsend
                have HSEND := Lib.hid hsend; have HE := Lib.hid hE
                clear hb5 hE5 hE3 hPP hX HZ2 HD2 hsend hE
                go_wp2_with (refine wpList_load_row rfl 34 (.tmp 13) rfl X rfl 34 _ (0, 0) _ HB3.out Try.underlying34 rfl (by kernel_rfl) ?_)
                refine HSEND.out.mono ?_
                rintro e w4 ⟨rfl, lv2, l2, hN4, hC4, hb4, hc4⟩
                have hl4 : ∀ q ∈ l2, q ∈ l' ∨ From w3.heap.size q.1 := fun q hq => by
                  rcases hc4 with ⟨_, h, _⟩ | ⟨_, bv, h1, h⟩
                  · rw [h] at hq; exact .inl hq
                  · rw [h] at hq
                    rcases List.mem_append.1 hq with h2 | h2
                    · exact .inl h2
                    · rw [List.mem_singleton.1 h2]; exact .inr h1
                have HM4 := Lib.hid (HP3.out.st.netStep hN4 hC4 hb4 hl4); have HL4 := Lib.hid (HLj.out.netStep HP3.out.st hb4 hl4)
                have HB64 := Lib.hid ((HB6j.out.ext HE3.out).chg hC4 (HLj.out.mu T6 (by simp))); have HB94 := Lib.hid ((HB9j.out.ext HE3.out).chg hC4 (HLj.out.mu T9 (by simp))); have HB104 := Lib.hid ((HB10j.out.ext HE3.out).chg hC4 (HLj.out.mu T10 (by simp)))
                have HB4 := Lib.hid (HB3.out.chg hC4 (fun hm => by have := HX.out _ hm; omega))
                have HCC := Lib.hid hc4
                clear hN4 hC4 hb4 hc4 hl4 HSEND HB3
                go_wp2_with (refine wpList_load_row rfl 34 (.tmp 13) rfl X rfl 34 _ (0, 0) _ HB4.out Try.underlying34 rfl (by kernel_rfl) ?_)
                refine (rsend_c HM4.out.ref HM4.out.lt (by have := HP3.out.slen; have := HP3.out.len; omega) (wayM 1 2 t, .slice none 0 0, .slice none 0 0, .slice none 0 0) ((wayV_msg w4 w4.heap.size 1 2 t).toR.mono fun k h1 h2 => by omega) HOKV.out).mono ?_
                rintro e w6 ⟨rfl, ls2, hC6, hc6⟩
                dsimp only at hc6
                dsimp only
                rw [← HE.out] at hc6 ⊢
                have hfin : ∃ S2 ls3, MSt w1 p m r w6 lv2 l2 k W ls3 wv S2 ws (NMut p m lv2 ++ A') ∧ l2.map (·.2) = S2.map (·.1) ∧ l2.length ≤ 256 := by
                  rcases hc6 with ⟨h1, h2⟩ | ⟨h1, h3⟩
                  · rcases HCC.out with ⟨_, h4, _⟩ | ⟨h4, _⟩
                    · exact ⟨S', ls', HM4.out.ext h2, by rw [h4]; exact HP3.out.eq, by rw [h4]; exact HP3.out.len⟩
                    · exact absurd h4 h1
                  · rcases HCC.out with ⟨h4, _⟩ | ⟨_, bv, _, h6⟩
                    · exact absurd h1 h4
                    · refine ⟨_, ls2, HM4.out.refStep h3 hC6, by rw [h6, List.map_append, List.map_append, HP3.out.eq]; rfl, ?_⟩
                      rw [h6, List.length_append]
                      have e1 := HE.out
                      rw [h1] at e1
                      unfold rsendE at e1
                      rw [HP3.out.slen] at e1
                      split at e1
                      · exact absurd e1 (by decide)
                      · split at e1
                        · exact absurd e1 (by decide)
                        · split at e1
                          · exact absurd e1 (by decide)
                          · simp; omega
                have hr6 := HLj.out.ne HPj.out.st
                have HF := Lib.hid hfin
                have HB66 := Lib.hid (HB64.out.chg hC6 (by simp; exact hr6 T6 (by simp))); have HB96 := Lib.hid (HB94.out.chg hC6 (by simp; exact hr6 T9 (by simp))); have HB106 := Lib.hid (HB104.out.chg hC6 (by simp; exact hr6 T10 (by simp)))
                clear hfin hr6 hC6 hc6
                go_wp2_with fail
                go_roundg (300 - (j + 1))
                case measure => omega
                case rel =>
                  obtain ⟨S2, ls3, hM6, heq, hlen⟩ := HF.out
                  exact ⟨j + 1, E, lv2, l2, ls3, S2, _, by go_num, by omega, rfl, rfl, ⟨hM6, HP3.out.same, heq, hlen, HP3.out.kn, HP3.out.wn⟩, HL4.out, HB66.out, HB96.out, HB106.out⟩
              · have hge : D ≤ (j : Int) := by omega
                clear hlt
                go_wp2_with fail
                go_meet
                exact ⟨code, lv', l', k, W, ls', wv, S', ws, A', Msg.zero, rfl, rfl, HPj.out.up (by omega), HB6j.out, XRow.zero HB9j.out, XRow.zero HB10j.out, MsgOk.zero⟩
      case rest =>
        as_aux_lemma =>
          obtain ⟨code, lv', l', k', W', ls', wv', S', ws', A', M', rfl, rfl, hP, hB6, ⟨x9, y9, z9, x10, y10, z10, x11, y11, z11, hbx, hvx⟩, ⟨u9, s9, t9, u10, s10, t10, u11, s11, t11, hby, hvy⟩, hok'⟩ := hcut
          obtain ⟨L, hL⟩ : ∃ L, L = l'.length := ⟨_, rfl⟩
          obtain ⟨sa, sc, rfl, hsc1, hsc2, -⟩ := hP.st.ref.list
          have p0 := hP.st.ref.rw.rb.cell 0 rfl
          simp only [List.getElem_toArray, List.getElem_cons_zero, List.length_map] at p0
          rw [hP.slen, ← hL] at p0
          rw [List.length_map, hP.slen, ← hL] at hsc1
          replace hsc2 : sc ≤ 9223372036854775807 := by unfold maxLen at hsc2; omega
          have d2 := hB6.cell 2 rfl; have d3 := hB6.cell 3 rfl
          simp only [List.getElem_toArray, List.getElem_cons_zero, List.getElem_cons_succ] at d2 d3
          obtain ⟨z, hz⟩ : ∃ z, z = decide ((oa, ob) ∈ ws') := ⟨_, rfl⟩
          have HZ := Lib.hid hz
          have HZW := Lib.hid (show wall W' oa ob = z from by rw [hz]; exact hP.same oa ob HUA.out HUB.out)
          have HPc := Lib.hid hP; have HLL := Lib.hid hL; have HOKM := Lib.hid hok'
          have HBX := Lib.hid (show Blk wc T9 #[.int .i64 M'.kind, .int .u64 M'.src, .int .u64 M'.dst, .int .u64 M'.term, .int .u64 M'.index, .int .u64 M'.logTerm, .int .u64 M'.commit, .int .u64 M'.stamp, .bool M'.yes, .slice x9 y9 z9, .slice x10 y10 z10, .slice x11 y11 z11] 34 from hbx); have HBY := Lib.hid (show Blk wc T10 #[.int .i64 M'.kind, .int .u64 M'.src, .int .u64 M'.dst, .int .u64 M'.term, .int .u64 M'.index, .int .u64 M'.logTerm, .int .u64 M'.commit, .int .u64 M'.stamp, .bool M'.yes, .slice u9 s9 t9, .slice u10 s10 t10, .slice u11 s11 t11] 34 from hby); have HVX := Lib.hid hvx; have HVY := Lib.hid hvy
          clear hP hL hz hok' hbx hby hvx hvy hB6 hk1 hk2 hk3 hk4 hk5 c0 c1 c2 c3 c4
          go_upto_region 36 with fail
          apply Mono.region1 34 Ext ((.is _) :: (.is _) :: (.is _) :: (.is _) :: (.is _) :: (.is _) :: (.is _) :: (.is _) :: (.is _) :: (.is _) :: (.is _) :: (.is _) :: (.is _) :: (.is _) :: (.is _) :: (.is _) :: (.is _) :: (.is _) :: (.is _) :: (.is _) :: (.is _) :: (.is _) :: (.is _) :: (.is _) :: (.is _) :: (.is _) :: (.is _) :: (.is _) :: (.is _) :: (.is _) :: (.is _) :: (.is _) :: (.is _) :: (.is _) :: []) (by kernel_rfl) Ext.refl (fun _ _ _ => Ext.trans) (by kernel_rfl) rfl rfl trivial
          focus
            iterate 4 (apply Mono.step_is; (· refine Mono.obl_mk fun w9 hE9 _ K hK => ?_; (have q0 := hE9.cell (show wc.drew.cell? _ = _ from p0)); (have q2 := hE9.cell (show wc.drew.cell? _ = _ from d2)); (have q3 := hE9.cell (show wc.drew.cell? _ = _ from d3)); clear hE9; go_wp2_with fail; simp only [Act.put, List.setIfInBounds_toArray, List.set_cons_succ, List.set_cons_zero] at hK; exact hK _ _ (Ext.refl _) (Mono.is_rfl _ _)); simp only [Act.put, List.setIfInBounds_toArray, List.set_cons_succ, List.set_cons_zero])
            apply Mono.step_is
            · refine Mono.obl_mk fun w9 hE9 _ K hK => ?_
              obtain ⟨j0, j1, j2, j3, j4, j5, j6, j7, j8, j9, j10, j11⟩ := (HBX.out.ext ((Ext.drew wc).trans hE9)).twelve
              clear hE9
              go_wp2_with fail
              simp only [Act.put, List.setIfInBounds_toArray, List.set_cons_succ, List.set_cons_zero] at hK
              exact hK _ _ (Ext.refl _) (Mono.is_rfl _ _)
            simp only [Act.put, List.setIfInBounds_toArray, List.set_cons_succ, List.set_cons_zero]
            apply Mono.step_is
            · refine Mono.obl_mk fun w9 hE9 _ K hK => ?_
              obtain ⟨j0, j1, j2, j3, j4, j5, j6, j7, j8, j9, j10, j11⟩ := (HBY.out.ext ((Ext.drew wc).trans hE9)).twelve
              clear hE9
              go_wp2_with fail
              simp only [Act.put, List.setIfInBounds_toArray, List.set_cons_succ, List.set_cons_zero] at hK
              exact hK _ _ (Ext.refl _) (Mono.is_rfl _ _)
            simp only [Act.put, List.setIfInBounds_toArray, List.set_cons_succ, List.set_cons_zero]
            apply Mono.step_is
            · refine Mono.obl_mk fun w9 hE9 _ K hK => ?_
              have HE9 := Lib.hid ((Ext.drew wc).trans hE9)
              clear hE9
              go_wp2_with fail
              refine (rmsame_ret _ _ M' M' 0 0 w9 (HVX.out.ext HE9.out) (HVY.out.ext HE9.out) HOKM.out HOKM.out).mono ?_
              rintro e w10 ⟨rfl, hE10⟩
              rw [decide_eq_true rfl]
              go_wp2_with fail
              simp only [Act.put, List.setIfInBounds_toArray, List.set_cons_succ, List.set_cons_zero] at hK
              exact hK _ _ hE10 (Mono.is_rfl _ _)
            simp only [Act.put, List.setIfInBounds_toArray, List.set_cons_succ, List.set_cons_zero]
            iterate 8 (apply Mono.step_is; (· refine Mono.obl_mk fun w9 hE9 _ K hK => ?_; (have q0 := hE9.cell (show wc.drew.cell? _ = _ from p0)); (have q2 := hE9.cell (show wc.drew.cell? _ = _ from d2)); (have q3 := hE9.cell (show wc.drew.cell? _ = _ from d3)); clear hE9; go_wp2_with fail; simp only [Act.put, List.setIfInBounds_toArray, List.set_cons_succ, List.set_cons_zero] at hK; exact hK _ _ (Ext.refl _) (Mono.is_rfl _ _)); simp only [Act.put, List.setIfInBounds_toArray, List.set_cons_succ, List.set_cons_zero])
            apply Mono.step_is
            · refine Mono.obl_mk fun w9 hE9 _ K hK => ?_
              have HE9 := Lib.hid ((Ext.drew wc).trans hE9)
              clear hE9
              go_wp2_with fail
              refine (nblocked_c (HPc.out.st.net.ext HE9.out) HUA.out HUB.out).mono ?_
              rintro e w10 ⟨rfl, hE10⟩
              rw [HZW.out]
              go_wp2_with fail
              simp only [Act.put, List.setIfInBounds_toArray, List.set_cons_succ, List.set_cons_zero] at hK
              exact hK _ _ hE10 (Mono.is_rfl _ _)
            simp only [Act.put, List.setIfInBounds_toArray, List.set_cons_succ, List.set_cons_zero]
            iterate 5 (apply Mono.step_is; (· refine Mono.obl_mk fun w9 hE9 _ K hK => ?_; (have q0 := hE9.cell (show wc.drew.cell? _ = _ from p0)); (have q2 := hE9.cell (show wc.drew.cell? _ = _ from d2)); (have q3 := hE9.cell (show wc.drew.cell? _ = _ from d3)); clear hE9; go_wp2_with fail; simp only [Act.put, List.setIfInBounds_toArray, List.set_cons_succ, List.set_cons_zero] at hK; exact hK _ _ (Ext.refl _) (Mono.is_rfl _ _)); simp only [Act.put, List.setIfInBounds_toArray, List.set_cons_succ, List.set_cons_zero])
            apply Mono.step_is
            · refine Mono.obl_mk fun w9 hE9 _ K hK => ?_
              have HE9 := Lib.hid ((Ext.drew wc).trans hE9)
              clear hE9
              go_wp2_with fail
              refine (rblocked_c (HPc.out.st.ref.ext HE9.out).rw oa ob).mono ?_
              rintro e w10 ⟨rfl, rfl⟩
              rw [← HZ.out]
              go_wp2_with fail
              simp only [Act.put, List.setIfInBounds_toArray, List.set_cons_succ, List.set_cons_zero] at hK
              exact hK _ _ (Ext.refl _) (Mono.is_rfl _ _)
            simp only [Act.put, List.setIfInBounds_toArray, List.set_cons_succ, List.set_cons_zero]
            iterate 4 (apply Mono.step_is; (· refine Mono.obl_mk fun w9 hE9 _ K hK => ?_; (have q0 := hE9.cell (show wc.drew.cell? _ = _ from p0)); (have q2 := hE9.cell (show wc.drew.cell? _ = _ from d2)); (have q3 := hE9.cell (show wc.drew.cell? _ = _ from d3)); clear hE9; go_wp2_with fail; simp only [Act.put, List.setIfInBounds_toArray, List.set_cons_succ, List.set_cons_zero] at hK; exact hK _ _ (Ext.refl _) (Mono.is_rfl _ _)); simp only [Act.put, List.setIfInBounds_toArray, List.set_cons_succ, List.set_cons_zero])
            apply Mono.step_is
            · refine Mono.obl_mk fun w9 hE9 _ K hK => ?_
              have HE9 := Lib.hid ((Ext.drew wc).trans hE9)
              clear hE9
              go_wp2_with fail
              refine (nlen_c (HPc.out.st.net.ext HE9.out)).mono ?_
              rintro e w10 ⟨rfl, rfl⟩
              rw [← HLL.out]
              go_wp2_with fail
              simp only [Act.put, List.setIfInBounds_toArray, List.set_cons_succ, List.set_cons_zero] at hK
              exact hK _ _ (Ext.refl _) (Mono.is_rfl _ _)
            simp only [Act.put, List.setIfInBounds_toArray, List.set_cons_succ, List.set_cons_zero]
            iterate 7 (apply Mono.step_is; (· refine Mono.obl_mk fun w9 hE9 _ K hK => ?_; (have q0 := hE9.cell (show wc.drew.cell? _ = _ from p0)); (have q2 := hE9.cell (show wc.drew.cell? _ = _ from d2)); (have q3 := hE9.cell (show wc.drew.cell? _ = _ from d3)); clear hE9; go_wp2_with fail; simp only [Act.put, List.setIfInBounds_toArray, List.set_cons_succ, List.set_cons_zero] at hK; exact hK _ _ (Ext.refl _) (Mono.is_rfl _ _)); simp only [Act.put, List.setIfInBounds_toArray, List.set_cons_succ, List.set_cons_zero])
            refine Mono.step_end fun w9 hE9 hkn => ?_
            simp only [List.drop_succ_cons, List.drop_zero]
            clear hkn p0 d2 d3
            have HE9 := Lib.hid ((Ext.drew wc).trans hE9)
            clear hE9
            go_wp2_with fail
            go_roundg (40 - (i + 1))
            case measure => omega
            case rel => exact ⟨i + 1, lv', l', k', W', _, wv', S', ws', A', by go_num, by omega, HPc.out.ext HE9.out⟩
    · by_cases hlt : i < N
      · have hlt' : (i : Int) < (N : Int) := by omega
        have hge : (40 : Int) ≤ (i : Int) := by omega
        clear hgo
        go_wp2_with fail
        refine (nsame_c HP.out.st.net HP.out.st.ref (by have := HP.out.len; omega) HP.out.eq).mono ?_
        rintro e w9 ⟨rfl, hE9⟩
        go_wp2_with fail
        go_ret
        exact ⟨rfl, (HE1.out.trans HP.out.st.net.old).trans hE9⟩
      · have hge : (N : Int) ≤ (i : Int) := by omega
        clear hgo
        go_wp2_with fail
        refine (nsame_c HP.out.st.net HP.out.st.ref (by have := HP.out.len; omega) HP.out.eq).mono ?_
        rintro e w9 ⟨rfl, hE9⟩
        go_wp2_with fail
        go_ret
        exact ⟨rfl, (HE1.out.trans HP.out.st.net.old).trans hE9⟩
end Go.Proofs.Ytjodgbabfhcilaa
