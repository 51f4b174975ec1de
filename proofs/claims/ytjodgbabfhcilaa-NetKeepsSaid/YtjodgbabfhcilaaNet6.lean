/- net: Take. -/
import Derived.Test.YtjodgbabfhcilaaNet5
set_option linter.unusedSimpArgs false
set_option linter.unusedVariables false
namespace Go.Proofs.Ytjodgbabfhcilaa
open Go Go.RowKit Go.Maps

/-- What Take leaves. -/
def TakeOut (w0 w : World) (p m k : Nat) (lv : Value) (l : List Item) (W : WL) (i : Int) (X : Msg × Int) (e : Ending) (w' : World) : Prop :=
  ∃ lv' l' v, e = .returned (.tuple #[v, .int .i64 X.2]) ∧ MsgV w' w.heap.size v X.1 ∧ NetS w0 w' p m lv' l' k W ∧ Chg (NMut p m lv) w w' ∧ (∀ t ∈ lv'.ownBlock.toList, t ∈ lv.ownBlock.toList ∨ w.heap.size ≤ t) ∧
    (X.2 ≠ 0 ∧ l' = l ∧ lv' = lv ∧ Ext w w' ∨ X.2 = 0 ∧ l' = l.eraseIdx i.toNat)
set_option maxHeartbeats 1000000 in
theorem ntake_fin (p : Nat) (c : Int) (c0 c1 c2 c3 c4 c5 c6 c7 c8 c9 c10 c11 : Value) (F : World) (tmps : Array Value) (R : Ending → World → Prop) (hB : Blk F p #[c0, c1, c2, c3, c4, c5, c6, c7, c8, c9, c10, c11] 34)
    (h4 : tmps[4]? = some (ptr p)) (h5 : tmps[5]? = some (.int .i64 c)) (hR : R (.returned (.tuple #[.agg #[c0, c1, c2, c3, c4, c5, c6, c7, c8, c9, c10, c11], .int .i64 c])) F) :
    bodyPost Try.prog Try.f10 R .ret { tmps := tmps, defers := [] } F := by
  obtain ⟨x0, x1, x2, x3, x4, x5, x6, x7, x8, x9, x10, x11⟩ := hB.twelve
  refine bodyPost_ret (v := .tuple #[.agg #[c0, c1, c2, c3, c4, c5, c6, c7, c8, c9, c10, c11], .int .i64 c]) ?_ rfl hR
  simp [results, Try.results10, go_sem, h4, h5, x0, x1, x2, x3, x4, x5, x6, x7, x8, x9, x10, x11]
theorem MsgV.to {w : World} {B B' : Nat} {v : Value} {x : Msg} (h : MsgV w B v x) (hB : B' ≤ B) : MsgV w B' v x := by
  obtain ⟨ev, mv, iv, e, k1, k2, k3⟩ := h
  exact ⟨ev, mv, iv, e, k1.low hB, ⟨k2.1, k2.2.mono hB⟩, k3.1, k3.2.mono hB⟩
theorem eraseMap {α β : Type} (f : α → β) : ∀ (l : List α) (n : Nat), (l.map f).eraseIdx n = (l.eraseIdx n).map f
  | [], n => by simp
  | x :: r, 0 => by simp
  | x :: r, n + 1 => by simp [eraseMap f r n]
/-- A change beside the net. -/
theorem NetS.aside {w0 w w' : World} {p m k : Nat} {lv : Value} {l : List Item} {W : WL} {T : List Nat} (h : NetS w0 w p m lv l k W) (hg : Chg T w w') (hT : ∀ t ∈ T, t ∉ NMut p m lv ∧ w0.heap.size ≤ t) (hq : ∀ q ∈ l, ∀ bs, wrM q.2 = some bs → OffL q.1 (u8s bs) T) : NetS w0 w' p m lv l k W := by
  have hp : p ∉ T := fun hm => (hT p hm).1 (by simp [NMut])
  have hm : m ∉ T := fun hm => (hT m hm).1 (by simp [NMut])
  refine ⟨h.pb.chg hg hp, own_off h.own hg (fun t ht hm => (hT t hm).1 (by simp only [NMut, List.mem_cons]; exact .inr (.inr ht))), own_chgM h.wl hg hm, fun q hql => ?_, h.pm, h.pl, h.ml, h.newp, h.newm, Chg.below h.old hg h.old.size (fun t ht => (hT t ht).2)⟩
  obtain ⟨bs, h1, h2, h3, h4⟩ := h.it q hql
  exact ⟨bs, h1, h2.chg hg (hq q hql bs h1), h3, h4⟩
/-- What was under way in w lies ahead of what is newer. -/
theorem NetS.offNew {w0 w : World} {p m k : Nat} {lv : Value} {l : List Item} {W : WL} {T : List Nat} (h : NetS w0 w p m lv l k W) (hT : ∀ t ∈ T, w.heap.size ≤ t) : ∀ q ∈ l, ∀ bs, wrM q.2 = some bs → OffL q.1 (u8s bs) T := fun q hq bs hb a n c e hne hm => by
  obtain ⟨bs', h1, h2, _⟩ := h.it q hq
  obtain rfl : bs' = bs := Option.some.inj (h1.symm.trans hb)
  have := h2.ltB e hne
  have := hT _ hm
  omega
/-- One is taken out. -/
theorem NetS.take {w0 w w4 : World} {p m k g L lc n : Nat} {l : List Item} {W : WL} (h : NetS w0 w p m (.slice (some ⟨g, 0, none⟩) L lc) l k W) (hn : n < l.length) (hL : L = l.length)
    (ho : w4.ownsRow w0.heap.size 32 1 (.slice (some ⟨g, 0, none⟩) (L - 1) lc) (L - 1) ((l.map (·.1)).eraseIdx n)) (hC : Chg [g] w w4) :
    NetS w0 (w4.setCell ⟨p, 0, none⟩ (.slice (some ⟨g, 0, none⟩) (L - 1) lc)) p m (.slice (some ⟨g, 0, none⟩) (L - 1) lc) (l.eraseIdx n) k W ∧ Chg [p, m, g] w (w4.setCell ⟨p, 0, none⟩ (.slice (some ⟨g, 0, none⟩) (L - 1) lc)) := by
  have hpg : p ≠ g := fun e => h.pl (by simp [Value.ownBlock, e])
  have hmg : m ≠ g := fun e => h.ml (by simp [Value.ownBlock, e])
  have hC3 : Chg [p, m, g] w (w4.setCell ⟨p, 0, none⟩ (.slice (some ⟨g, 0, none⟩) (L - 1) lc)) := (hC.mono fun t ht => .inl (by simp at ht; simp [ht])).trans (Chg.set p 0 _ (by simp))
  have hC2 : Chg [p, g] w (w4.setCell ⟨p, 0, none⟩ (.slice (some ⟨g, 0, none⟩) (L - 1) lc)) := (hC.mono fun t ht => .inl (by simp at ht; simp [ht])).trans (Chg.set p 0 _ (by simp))
  refine ⟨⟨by simpa using (h.pb.chg hC (by simpa using hpg)).set 0 (.slice (some ⟨g, 0, none⟩) (L - 1) lc), ?_, own_chgM h.wl hC2 (by simp; exact ⟨Ne.symm h.pm, hmg⟩), ?_, h.pm, by simpa [Value.ownBlock] using hpg, by simpa [Value.ownBlock] using hmg, h.newp, h.newm, ?_⟩, hC3⟩
  · have e1 : (l.eraseIdx n).length = L - 1 := by rw [List.length_eraseIdx, if_pos hn, hL]
    have e2 : (l.eraseIdx n).map (·.1) = (l.map (·.1)).eraseIdx n := (eraseMap _ _ _).symm
    rw [e1, e2]
    exact own_off ho (Chg.set (S := [p]) p 0 _ (by simp)) (fun t ht hm => by simp [Value.ownBlock] at ht; simp at hm; exact hpg (by rw [← hm, ht]))
  · intro q hq
    exact (h.it q (List.mem_of_mem_eraseIdx hq)).step hC3 (fun t ht => .inl (by simpa [NMut, Value.ownBlock] using ht)) (fun t ht => .inl (by simpa [NMut, Value.ownBlock] using ht))
  · exact Chg.below h.old hC3 h.old.size (fun t ht => (h.mut_lt t (by simpa [NMut, Value.ownBlock] using ht)).2)

set_option maxRecDepth 100000 in
set_option maxHeartbeats 4000000 in
theorem ntake_c {w0 w : World} {p m k : Nat} {lv : Value} {l : List Item} {W : WL} (h : NetS w0 w p m lv l k W) (hl : l.length ≤ 1000) (i : Int) (hi : -9223372036854775808 ≤ i ∧ i ≤ 9223372036854775807) :
    Calls Try.prog 10 #[ptr p, .int .i64 i] w (TakeOut w0 w p m k lv l W i (atN (l.map (·.2)) i)) := by
  obtain ⟨w1, hw1⟩ : ∃ w1, w1 = w.alloc (.cells (zc 0) 34) := ⟨_, rfl⟩
  have HE1 := Lib.hid (show Ext w w1 from by rw [hw1]; exact Ext.alloc _ _)
  have HB1 := Lib.hid (show Blk w1 w.heap.size (zc 0) 34 from by rw [hw1]; exact Blk.new _ _ _)
  have HS1 := Lib.hid (show w1.heap.size = w.heap.size + 1 from by rw [hw1]; simp)
  have HW := Lib.hid hw1
  have HN := Lib.hid h
  have HAT := Lib.hid (nat_c (h.ext HE1.out) hl i hi)
  obtain ⟨X, hX⟩ : ∃ X, X = atN (l.map (·.2)) i := ⟨_, rfl⟩
  rw [← hX] at HAT ⊢
  unfold atN at hX
  rw [List.length_map] at hX
  have HX := Lib.hid hX
  clear hw1 h hX
  go_enter Try.func10, Try.ntmps10
  go_upto_region 1 with fail
  rw [← HW.out]
  clear HW
  go_wp2_with fail
  refine HAT.out.mono ?_
  rintro e w2 ⟨v2, rfl, hv2, hE2⟩
  obtain ⟨a9, m9, c9, a10, m10, c10, a11, m11, c11, rfl⟩ := hv2.shape
  obtain ⟨X1, X2⟩ := X
  dsimp only at hE2 hv2
  have HE2 := Lib.hid (HE1.out.trans hE2); have HB2 := Lib.hid (HB1.out.ext hE2); have HV2 := Lib.hid hv2
  have HS2 := Lib.hid (show w1.heap.size ≤ w2.heap.size from hE2.size)
  have HB3 := Lib.hid (Blk.new w2 (zc 0) 34)
  have HE3 := Lib.hid (Ext.alloc w2 (.cells (zc 0) 34))
  clear hE2 hv2 HB1 HAT
  go_upto_region 2 with (refine wpList_store_row rfl 34 (.tmp 6) (.tmp 12) rfl w2.heap.size (mCells X1 (.slice a9 m9 c9) (.slice a10 m10 c10) (.slice a11 m11 c11)) rfl rfl 34 _ HB3.out (mCells_size _ _ _ _) rfl (mCells_one _ _ _ _ _ _ _ _ _ _) ?_)
  have hb4 := HB3.out.row (mCells X1 (.slice a9 m9 c9) (.slice a10 m10 c10) (.slice a11 m11 c11))
  have hE4 := setRow_ext HE3.out (Nat.le_refl _) (mCells X1 (.slice a9 m9 c9) (.slice a10 m10 c10) (.slice a11 m11 c11))
  generalize (w2.alloc (.cells (zc 0) 34)).setRow w2.heap.size (mCells X1 (.slice a9 m9 c9) (.slice a10 m10 c10) (.slice a11 m11 c11)) = w4 at *
  have HB6 := Lib.hid hb4; have HB4 := Lib.hid (HB2.out.ext hE4); have HV4 := Lib.hid (HV2.out.ext hE4); have HE4 := Lib.hid (HE2.out.trans hE4)
  have HN4 := Lib.hid (HN.out.ext HE4.out)
  clear hb4 hE4 HB3 HE3 HB2 HV2 HE2
  by_cases hr : 0 ≤ i ∧ i < (l.length : Int)
  · obtain ⟨n, rfl⟩ := Int.eq_ofNat_of_zero_le hr.1
    have hnl : n < l.length := by omega
    have HXX := HX.out
    rw [if_pos hr] at HXX
    obtain ⟨hx1, rfl⟩ := Prod.mk.inj HXX
    obtain ⟨L, hL⟩ : ∃ L, L = l.length := ⟨_, rfl⟩
    have HL := Lib.hid hL
    obtain ⟨g, lc, rfl, hnc, hcm⟩ : ∃ g lc, lv = .slice (some ⟨g, 0, none⟩) L lc ∧ L ≤ lc ∧ lc ≤ maxLen := by
      rcases HN4.out.own.2 with ⟨_, h1⟩ | ⟨g, cap, cur, h1, _, hh, h4, h5, _⟩
      · omega
      · exact ⟨g, cap, by rw [h1, hL], by rw [hL]; exact h4, h5⟩
    rw [← hL] at hl hnl hr
    have p0 := HN4.out.pb.cell 0 rfl
    simp only [List.getElem_toArray, List.getElem_cons_zero] at p0
    have hn1 := hr.2
    obtain ⟨j, hj⟩ : ∃ j, j = n + 1 := ⟨_, rfl⟩
    have hj1 : (n : Int) + 1 = (j : Int) := by omega
    have HOWN := Lib.hid (show w4.ownsRow w0.heap.size 32 1 (.slice (some ⟨g, 0, none⟩) L lc) L (l.map (·.1)) from by have := HN4.out.own; rw [← hL] at this; exact this)
    have HJ := Lib.hid hj; have HLN := Lib.hid (show n < l.length by rw [← hL]; exact hnl)
    have HML := Lib.hid (show ∀ t ∈ [p, m, g], t < w.heap.size from fun t ht => (HN.out.mut_lt t (by simpa [NMut, Value.ownBlock] using ht)).1)
    have HNW := Lib.hid (HN.out.old.size)
    clear HXX hx1 hL hj hr hi HX HE1
    go_wp2_with fail
    refine (ndel_c w0.heap.size g L lc n j (l.map (·.1)) w4 HOWN.out hnl HJ.out hl HN4.out.one).mono ?_
    rintro e w5 ⟨rfl, ho5, hC5⟩
    obtain ⟨hN6, hC6⟩ := HN4.out.take HLN.out HL.out ho5 hC5
    have hpb5 := HN4.out.pb.chg hC5 (by have := HN4.out.pl; simpa [Value.ownBlock] using this)
    have q0 := hpb5.cell 0 rfl
    have hfz := hpb5.free 0
    simp only [List.getElem_toArray, List.getElem_cons_zero] at q0
    have HN6 := Lib.hid hN6; have HC6 := Lib.hid hC6
    clear p0 hpb5 ho5 hC5 hN6 hC6
    go_upto_region 4 with fail
    generalize w5.setCell ⟨p, 0, none⟩ (.slice (some ⟨g, 0, none⟩) (L - 1) lc) = w6 at *
    have hml := HML.out
    have HB66 := Lib.hid (HB6.out.chg HC6.out (fun hm => by have := hml _ hm; have := HS1.out; have := HS2.out; omega))
    have HB46 := Lib.hid (HB4.out.chg HC6.out (fun hm => by have := hml _ hm; omega))
    have HV6 := Lib.hid (HV4.out.chg HC6.out (fun t ht => by have := hml t ht; have := HS1.out; omega))
    clear q0 hfz hml
    go_wp2_with (first | (refine wpList_load_row rfl 34 (.tmp 6) rfl w2.heap.size rfl 34 _ (0, 0) _ HB66.out Try.underlying34 rfl (by kernel_rfl) ?_) | (refine wpList_store_row rfl 34 (.tmp 4) (.tmp 27) rfl w.heap.size (mCells X1 (.slice a9 m9 c9) (.slice a10 m10 c10) (.slice a11 m11 c11)) rfl rfl 34 _ HB46.out (mCells_size _ _ _ _) rfl (mCells_one _ _ _ _ _ _ _ _ _ _) ?_))
    have hbk := HB46.out.row (mCells X1 (.slice a9 m9 c9) (.slice a10 m10 c10) (.slice a11 m11 c11))
    have hg := Chg.some (S := [w.heap.size]) (grown_row w6 w.heap.size (mCells X1 (.slice a9 m9 c9) (.slice a10 m10 c10) (.slice a11 m11 c11))) (.inl (by simp))
    have hN := HN6.out
    refine ntake_fin w.heap.size 0 _ _ _ _ _ _ _ _ _ _ _ _ _ _ _ hbk rfl rfl ⟨.slice (some ⟨g, 0, none⟩) (L - 1) lc, l.eraseIdx n, _, rfl, (HV6.out.chg hg (fun t ht => by simp at ht; have := HS1.out; omega)).to (by have := HS1.out; omega), ?_, ?_, fun t ht => .inl (by simpa [Value.ownBlock] using ht), .inr ⟨rfl, by simp⟩⟩
    · refine hN.aside hg (fun t ht => ?_) (fun q hq bs hb => HN.out.offNew (T := [w.heap.size]) (by simp) q (List.mem_of_mem_eraseIdx hq) bs hb)
      simp at ht
      subst ht
      exact ⟨fun hm => by have := HML.out w.heap.size (by simpa [NMut, Value.ownBlock] using hm); omega, HNW.out⟩
    · refine ((Chg.ext HE4.out : Chg (NMut p m (.slice (some ⟨g, 0, none⟩) L lc)) w w4).trans (HC6.out.mono fun t ht => .inl (by simpa [NMut, Value.ownBlock] using ht))).trans' hg (fun t ht => .inr (by simp at ht; omega))
  · have HXX := HX.out
    rw [if_neg hr] at HXX
    obtain ⟨rfl, rfl⟩ := Prod.mk.inj HXX
    clear HXX hr hi
    go_wp2_with (first | (refine wpList_load_row rfl 34 (.tmp 6) rfl w2.heap.size rfl 34 _ (0, 0) _ HB6.out Try.underlying34 rfl (by kernel_rfl) ?_) | (refine wpList_store_row rfl 34 (.tmp 4) (.tmp 27) rfl w.heap.size (mCells Msg.zero (.slice a9 m9 c9) (.slice a10 m10 c10) (.slice a11 m11 c11)) rfl rfl 34 _ HB4.out (mCells_size _ _ _ _) rfl (mCells_one _ _ _ _ _ _ _ _ _ _) ?_))
    have hbk := HB4.out.row (mCells Msg.zero (.slice a9 m9 c9) (.slice a10 m10 c10) (.slice a11 m11 c11))
    have hg := Chg.some (S := [w.heap.size]) (grown_row w4 w.heap.size (mCells Msg.zero (.slice a9 m9 c9) (.slice a10 m10 c10) (.slice a11 m11 c11))) (.inl (by simp))
    have hE := setRow_ext HE4.out (Nat.le_refl _) (mCells Msg.zero (.slice a9 m9 c9) (.slice a10 m10 c10) (.slice a11 m11 c11))
    refine ntake_fin w.heap.size 9 _ _ _ _ _ _ _ _ _ _ _ _ _ _ _ hbk rfl rfl ⟨lv, l, _, rfl, ?_, HN.out.ext hE, Chg.ext hE, fun t ht => .inl ht, .inl ⟨by decide, rfl, rfl, hE⟩⟩
    exact (HV4.out.chg hg (fun t ht => by simp at ht; have := HS1.out; omega)).to (by have := HS1.out; omega)
end Go.Proofs.Ytjodgbabfhcilaa
