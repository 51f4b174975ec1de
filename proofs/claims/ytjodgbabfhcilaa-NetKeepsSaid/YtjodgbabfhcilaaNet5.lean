/- net: Twice and Take. -/
import Derived.Test.YtjodgbabfhcilaaNet4
import Derived.Test.YtjodgbabfhcilaaMono3
set_option linter.unusedSimpArgs false
set_option linter.unusedVariables false
namespace Go.Proofs.Ytjodgbabfhcilaa
open Go Go.RowKit Go.Maps

/-- What Twice answers. -/
def twiceN (n : Nat) (i : Int) : Int := if 0 ≤ i ∧ i < (n : Int) then (if 256 ≤ n then 7 else 0) else 9
/-- What Twice leaves. -/
def TwiceOut (w0 w : World) (p m k : Nat) (lv : Value) (l : List Item) (W : WL) (i : Int) (e : Int) (w' : World) : Prop :=
  ∃ lv' l', NetS w0 w' p m lv' l' k W ∧ Chg (NMut p m lv) w w' ∧ (∀ t ∈ lv'.ownBlock.toList, t ∈ lv.ownBlock.toList ∨ w.heap.size ≤ t) ∧
    (e ≠ 0 ∧ l' = l ∧ lv' = lv ∧ Ext w w' ∨ e = 0 ∧ ∃ q, l[i.toNat]? = some q ∧ l' = l ++ [q])
theorem TwiceOut.none' {w0 w w' : World} {p m k : Nat} {lv : Value} {l : List Item} {W : WL} {i : Int} {e : Int} (h : NetS w0 w p m lv l k W) (hE : Ext w w') (he : e ≠ 0) : TwiceOut w0 w p m k lv l W i e w' :=
  ⟨lv, l, h.ext hE, Chg.ext hE, fun t ht => .inl ht, .inl ⟨he, rfl, rfl, hE⟩⟩
set_option maxHeartbeats 4000000 in
theorem ntwice_nil (i : Int) (hi : -9223372036854775808 ≤ i ∧ i ≤ 9223372036854775807) (w : World) : Calls Try.prog 19 #[.pointer none, .int .i64 i] w fun e w' => e = .returned (.int .i64 9) ∧ w' = w := by
  by_cases h0 : i < 0
  · go_enter Try.func19, Try.ntmps19
    go_wp2_with fail
    go_ret
    exact ⟨rfl, rfl⟩
  · have h1 : 0 ≤ i := by omega
    clear h0
    go_enter Try.func19, Try.ntmps19
    go_wp2_with fail
    refine (nlen_nil w).mono ?_
    rintro e w2 ⟨rfl, rfl⟩
    go_wp2_with fail
    go_ret
    exact ⟨rfl, rfl⟩
/-- A slice of one new element. -/
def One1 (B : Nat) (u : Value) (v : Value) (w : World) : Prop := ∃ g, v = .slice (some ⟨g, 0, none⟩) 1 1 ∧ B ≤ g ∧ w.cell? ⟨g, 0, none⟩ = some u
/-- The list with one more, ahead of its store. -/
def More1 (w0 w : World) (lv u : Value) (l : List Item) (v : Value) (wx : World) : Prop :=
  wx.ownsRow w0.heap.size 32 1 v (l.length + 1) (l.map (·.1) ++ [u]) ∧ Chg lv.ownBlock.toList w wx ∧ (v.ownBlock = lv.ownBlock ∨ ∃ g, v.ownBlock = some g ∧ w.heap.size ≤ g)
theorem One1.ext {B : Nat} {u v : Value} {w w' : World} (h : One1 B u v w) (hE : Ext w w') : One1 B u v w' := by
  obtain ⟨g, h1, h2, h3⟩ := h
  exact ⟨g, h1, h2, hE.cell h3⟩
theorem One1.chg {B : Nat} {u v : Value} {w w' : World} {g : Nat} (h : One1 B u v w) (hE : Chg [g] w w') (hg : g < B) : One1 B u v w' := by
  obtain ⟨g', h1, h2, h3⟩ := h
  exact ⟨g', h1, h2, cell_chg hE h3 (by simp; omega)⟩
theorem More1.ext {w0 w : World} {lv u : Value} {l : List Item} {v : Value} {wx wy : World} (h : More1 w0 w lv u l v wx) (hE : Ext wx wy) : More1 w0 w lv u l v wy :=
  ⟨own_ext h.1 hE, h.2.1.trans' (Chg.ext hE : Chg [] wx wy) (by simp), h.2.2⟩
set_option maxRecDepth 100000 in
set_option maxHeartbeats 4000000 in
theorem ntwice_c {w0 w : World} {p m k : Nat} {lv : Value} {l : List Item} {W : WL} (h : NetS w0 w p m lv l k W) (hl : l.length ≤ 1000) (i : Int) (hi : -9223372036854775808 ≤ i ∧ i ≤ 9223372036854775807) :
    Calls Try.prog 19 #[ptr p, .int .i64 i] w fun e w' => e = .returned (.int .i64 (twiceN l.length i)) ∧ TwiceOut w0 w p m k lv l W i (twiceN l.length i) w' := by
  obtain ⟨hi0, hi1⟩ := hi
  have HN := Lib.hid h
  obtain ⟨X, hX⟩ : ∃ X, X = twiceN l.length i := ⟨_, rfl⟩
  rw [← hX]
  unfold twiceN at hX
  by_cases h0 : i < 0
  · obtain rfl : X = 9 := by rw [hX, if_neg (by omega)]
    clear hX h
    go_enter Try.func19, Try.ntmps19
    go_wp2_with fail
    go_ret
    exact ⟨rfl, TwiceOut.none' HN.out (Ext.refl _) (by decide)⟩
  obtain ⟨n, rfl⟩ := Int.eq_ofNat_of_zero_le (show 0 ≤ i by omega)
  have h1 : (0 : Int) ≤ (n : Int) := by omega
  clear h0
  obtain ⟨L, hL⟩ : ∃ L, L = l.length := ⟨_, rfl⟩
  have HL := Lib.hid hL
  rw [← hL] at hX hl
  clear hL
  have hLE := Lib.hid (nlen_c h)
  rw [← HL.out] at hLE
  by_cases h2 : L ≤ n
  · obtain rfl : X = 9 := by rw [hX, if_neg (by omega)]
    have h3 : (L : Int) ≤ (n : Int) := by omega
    clear hX h
    go_enter Try.func19, Try.ntmps19
    go_wp2_with fail
    refine hLE.out.mono ?_
    rintro e w2 ⟨rfl, rfl⟩
    go_wp2_with fail
    go_ret
    exact ⟨rfl, TwiceOut.none' HN.out (Ext.refl _) (by decide)⟩
  have h3 : n < L := by omega
  have h4 : (n : Int) < (L : Int) := by omega
  clear h2
  obtain ⟨q, hq⟩ : ∃ q, l[n]? = some q := ⟨_, List.getElem?_eq_getElem (by have := HL.out; omega)⟩
  have hit := h.it q (List.mem_of_getElem? hq)
  have HIT := Lib.hid hit
  obtain ⟨va, vn, vc, hv⟩ := hit.shape
  obtain ⟨g, lc, rfl, hnc, hcl⟩ : ∃ g lc, lv = .slice (some ⟨g, 0, none⟩) L lc ∧ L ≤ lc ∧ w.cell? ⟨g, n, none⟩ = some q.1 := by
    rcases h.own.2 with ⟨_, h1⟩ | ⟨g, cap, cur, h1, _, hh, h4, _, h5, h6⟩
    · have := HL.out; omega
    · refine ⟨g, cap, by rw [h1, HL.out], by rw [HL.out]; exact h4, ?_⟩
      refine (show Blk w g cur _ from hh).cell n ?_
      have hn : (cur.toList.take (l.length * 1))[n]? = some q.1 := by rw [h6, List.getElem?_map, hq]; rfl
      rw [List.getElem?_take] at hn
      split at hn
      · simpa using hn
      · cases hn
  have p0 := h.pb.cell 0 rfl
  simp only [List.getElem_toArray, List.getElem_cons_zero] at p0
  by_cases hfull : 256 ≤ L
  · obtain rfl : X = 7 := by rw [hX, if_pos (by omega), if_pos hfull]
    have hf : (256 : Int) ≤ (L : Int) := by omega
    clear hX h hit hfull
    go_enter Try.func19, Try.ntmps19
    go_wp2_with fail
    refine hLE.out.mono ?_
    rintro e w2 ⟨rfl, rfl⟩
    go_wp2_with fail
    go_ret
    exact ⟨rfl, TwiceOut.none' HN.out (Ext.refl _) (by decide)⟩
  · obtain rfl : X = 0 := by rw [hX, if_pos (by omega), if_neg hfull]
    have hf : (L : Int) < 256 := by omega
    rw [hv] at hcl
    have HQ := Lib.hid hq; have HV := Lib.hid hv
    clear hX h hit hfull hq hv
    go_enter Try.func19, Try.ntmps19
    go_wp2_with fail
    refine hLE.out.mono ?_
    rintro e w2 ⟨rfl, rfl⟩
    go_upto_region 5 with fail
    rw [show decide ((n : Int) < 0) = false from decide_eq_false (by omega), show decide (L ≤ n) = false from decide_eq_false (by omega), show decide ((256 : Int) ≤ (L : Int)) = false from decide_eq_false (by omega)]
    simp only [Bool.or_self]
    have hgl : g < w2.heap.size := (HN.out.mut_lt g (by simp [NMut, Value.ownBlock])).1
    have HGL := Lib.hid hgl
    clear hgl
    apply Mono3.region2 16 13 Ext (Chg [g]) [.is _, .is _, .is _, .is _, .is _, .is _, .is _, .is _, .is _, .is _, .is _, .is _, .rel (One1 w2.heap.size (.slice va vn vc)), .rel (More1 w0 w2 (.slice (some ⟨g, 0, none⟩) L lc) (.slice va vn vc) l), .is _, .is _] (by kernel_rfl) ⟨fun _ _ h => Chg.ext h, fun _ _ _ => Ext.trans, fun _ _ _ => Chg.trans⟩ (Ext.refl _) (by kernel_rfl) rfl rfl ⟨fun u w w' h hE => h.chg (show Chg [g] w w' from hE) HGL.out, fun u w w' h hE => h.ext (show Ext w w' from hE), trivial⟩
    focus
      iterate 1 (apply Mono3.step_is; (· refine Mono3.obl_quiet (by decide) (by kernel_rfl) fun w12 hE12 hkn K hK => ?_; clear hE12 hkn; go_wp2_with fail; simp only [Act.put, List.setIfInBounds_toArray, List.set_cons_succ, List.set_cons_zero] at hK; exact hK _ _ (Ext.refl _) (Mono3.is_rfl _ _)); simp only [Act.put, List.setIfInBounds_toArray, List.set_cons_succ, List.set_cons_zero])
      iterate 11 (apply Mono3.step_is; (· refine Mono3.obl_early (by decide) (by kernel_rfl) fun w12 hE12 hkn K hK => ?_; (have q0 := hE12.cell (show w2.drew.cell? _ = _ from p0)); (have q1 := hE12.cell (show w2.drew.cell? _ = _ from hcl)); clear hE12 hkn; go_wp2_with fail; simp only [Act.put, List.setIfInBounds_toArray, List.set_cons_succ, List.set_cons_zero] at hK; exact hK _ _ (Ext.refl _) (Mono3.is_rfl _ _)); simp only [Act.put, List.setIfInBounds_toArray, List.set_cons_succ, List.set_cons_zero])
      refine Mono3.step_rel (Mono3.obl_early (by decide) (by kernel_rfl) fun w12 hE12 hkn K hK => ?_) fun v33 => ?_
      · have HS := Lib.hid (show w2.heap.size ≤ w12.heap.size from hE12.size)
        clear hkn hE12
        go_wp2_with fail
        simp only [Act.put, List.setIfInBounds_toArray, List.set_cons_succ, List.set_cons_zero] at hK
        exact hK _ _ (Ext.alloc _ _) (Mono3.rel_mk ⟨_, rfl, HS.out, (Blk.new w12 #[.slice va vn vc] 32).cell 0 rfl⟩)
      simp only [Act.put, List.setIfInBounds_toArray, List.set_cons_succ, List.set_cons_zero]
      refine Mono3.step_rel (Mono3.obl_loud fun w12 hE12 hkn K hK => ?_) fun v34 => ?_
      · obtain ⟨g1, rfl, hg1, hc1⟩ := hkn.1 (by kernel_rfl)
        have HC1 := Lib.hid hc1
        have HE12 := Lib.hid (show Ext w2 w12 from (Ext.drew w2).trans hE12)
        have HOWN := Lib.hid (show w12.ownsRow w0.heap.size 32 1 (.slice (some ⟨g, 0, none⟩) L lc) L (l.map (·.1)) from by have := own_ext HN.out.own HE12.out; rw [← HL.out] at this; exact this)
        obtain ⟨i0, hi0, hz0, hz1, hz2⟩ := elS.info
        clear hE12 hkn hc1
        go_wp2_with (at_builtin; refine wpList_append_own_at w12 rfl (.tmp 25) (.tmp 33) _ rfl w0.heap.size 32 i0 _ 1 24 elS.ty hi0 hz0 hz1 hz2 elS.one (by decide) (.slice (some ⟨g, 0, none⟩) L lc) L (l.map (·.1)) rfl HOWN.out ⟨g1, 0, none⟩ 1 1 [.slice va vn vc] rfl rfl (fun j u hj => by cases j with | zero => simp at hj; subst hj; exact HC1.out | succ j => simp at hj) (fun u hu => by simp at hu; subst hu; rfl) (by unfold maxLen; omega) (by omega) (Nat.le_trans HN.out.old.size HE12.out.size) ?_; intro v' w5 ho5 hg5 _ hb5; have HR5 := Lib.hid (show More1 w0 w2 (.slice (some ⟨g, 0, none⟩) L lc) (.slice va vn vc) l v' w5 from ⟨by rw [← HL.out]; exact ho5, (Chg.ext HE12.out : Chg (Value.slice (some ⟨g, 0, none⟩) L lc).ownBlock.toList w2 w12).trans (Chg.grown hg5), hb5.imp id fun e => ⟨_, e, HE12.out.size⟩⟩); have HC5 := Lib.hid (show Chg [g] w12 w5 from Chg.grown hg5); clear ho5 hg5 hb5)
        simp only [Act.put, List.setIfInBounds_toArray, List.set_cons_succ, List.set_cons_zero] at hK
        exact hK _ _ HC5.out (Mono3.rel_mk HR5.out)
      simp only [Act.put, List.setIfInBounds_toArray, List.set_cons_succ, List.set_cons_zero]
      iterate 2 (apply Mono3.step_is; (· refine Mono3.obl_quiet (by decide) (by kernel_rfl) fun w12 hE12 hkn K hK => ?_; clear hE12 hkn; go_wp2_with fail; simp only [Act.put, List.setIfInBounds_toArray, List.set_cons_succ, List.set_cons_zero] at hK; exact hK _ _ (Ext.refl _) (Mono3.is_rfl _ _)); simp only [Act.put, List.setIfInBounds_toArray, List.set_cons_succ, List.set_cons_zero])
      refine Mono3.step_end fun w12 hE12 hkn => ?_
      simp only [List.drop_succ_cons, List.drop_zero]
      obtain ⟨ho5, hC5, hb5⟩ := hkn.2.1
      obtain ⟨xa, xn, xc, rfl⟩ := own_shape ho5
      have hpb5 := HN.out.pb.chg hC5 HN.out.pl
      have q0 := hpb5.cell 0 rfl
      have hfz := hpb5.free 0
      simp only [List.getElem_toArray, List.getElem_cons_zero] at q0
      have HO5 := Lib.hid ho5; have HC5 := Lib.hid hC5; have HB5 := Lib.hid hb5
      clear hE12 hkn hpb5 ho5 hC5 hb5 p0 hcl
      go_wp2_with fail
      go_ret
      have HQS : (.slice va vn vc, q.2) = q := by rw [← HV.out]
      obtain ⟨r1, r2, r3⟩ := HN.out.push q (by rw [HV.out]; exact HO5.out) HC5.out HB5.out HIT.out
      exact ⟨rfl, _, _, r1, r2, r3, .inr ⟨rfl, q, HQ.out, rfl⟩⟩
end Go.Proofs.Ytjodgbabfhcilaa
