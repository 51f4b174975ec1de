/- tabellionref19: Twice (printed by wip/gen/nrtwice.py). -/
import Derived.Test.YtjodgbabfhcilaaNetd
set_option linter.unusedSimpArgs false
set_option linter.unusedVariables false
namespace Go.Proofs.Ytjodgbabfhcilaa
open Go Go.RowKit Go.Maps

/-- Where the list's cells lie. -/
def NewsAt (w : World) (sa : Option Addr) (L : Nat) (rows : List Value) : Prop := ∀ W : World, Ext w W → (sa = none ∧ L = 0) ∨ ∃ ad, sa = some ad ∧ ∀ j u, rows[j]? = some u → W.cell? (ad.add j) = some u
/-- What the document's Twice answers. -/
def rtwiceE (n : Nat) (i : Int) : Int := if ¬ (0 ≤ i ∧ i < (n : Int)) then 9 else if 256 ≤ n then 7 else 0
set_option maxRecDepth 100000 in
set_option maxHeartbeats 8000000 in
theorem rtwice_c {w : World} {r : Nat} {ls wv : Value} {S : List MQ} {ws : List (Int × Int)} {A : List Nat} (h : RefN w r ls wv S ws A) (hA : ∀ t ∈ A, t < w.heap.size) (hl : S.length ≤ 1000) (i : Int) (hi : -9223372036854775808 ≤ i ∧ i ≤ 9223372036854775807) :
    Calls Try.prog 20 #[ptr r, .int .i64 i] w fun e w' => e = .returned (.int .i64 (rtwiceE S.length i)) ∧ ∃ ls', Chg [r] w w' ∧ (rtwiceE S.length i ≠ 0 ∧ Ext w w' ∨ rtwiceE S.length i = 0 ∧ ∃ q, S[i.toNat]? = some q ∧ RefN w' r ls' wv (S ++ [q]) ws A) := by
  have HH := Lib.hid h; have HA := Lib.hid hA; have HLS := Lib.hid hl; have HI := Lib.hid hi
  obtain ⟨E, hE⟩ : ∃ E, E = rtwiceE S.length i := ⟨_, rfl⟩
  rw [← hE]
  have HE := Lib.hid hE
  obtain ⟨L, hL⟩ : ∃ L, L = S.length := ⟨_, rfl⟩
  obtain ⟨sa, sc, rfl, hsc1, hsc2, hrows⟩ := h.list
  have HL := Lib.hid hL; have HROWS := Lib.hid hrows
  rw [List.length_map, ← hL] at hsc1
  rw [← hL] at hl
  replace hsc2 : sc ≤ 9223372036854775807 := by unfold maxLen at hsc2; omega
  clear h hA hE hL hrows hi
  go_enter Try.func20, Try.ntmps20
  go_wp2_with fail
  refine (rat_c HH.out HLS.out i HI.out).mono ?_
  rintro e w2 ⟨hE2, v, c, rfl, hcase⟩
  have HE2 := Lib.hid hE2
  have HZ2 := Lib.hid (Blk.new w2 (zc 0) 34)
  have HD2 := Lib.hid (Ext.alloc w2 (.cells (zc 0) 34))
  clear hE2
  rcases hcase with ⟨hr, rfl, rfl⟩ | ⟨hr, rfl, q, hq, rfl⟩
  · have HR := Lib.hid hr
    clear hr
    go_wp2_with (refine wpList_store_row rfl 34 (.tmp 5) (.tmp 11) rfl w2.heap.size (zc 0) rfl rfl 34 _ HZ2.out zc_size rfl zc_one ?_)
    go_ret
    have e1 : E = 9 := by rw [HE.out]; unfold rtwiceE; rw [if_pos HR.out]
    rw [e1]
    have hE5 := setRow_ext HD2.out (Nat.le_refl _) (zc 0)
    exact ⟨rfl, .slice none 0 0, Chg.ext (HE2.out.trans hE5), .inl ⟨by decide, HE2.out.trans hE5⟩⟩
  · have hqm := HH.out.ms q (List.mem_of_getElem? hq)
    have hlt : i.toNat < S.length := (List.getElem?_eq_some_iff.1 hq).1
    have HR := Lib.hid (show 0 ≤ i ∧ i < (S.length : Int) from ⟨hr, by omega⟩)
    have HSQ := Lib.hid hq; have HQ := Lib.hid hqm.1; have HOK := Lib.hid hqm.2
    obtain ⟨M, ev, mv, iv⟩ := q
    obtain ⟨a9, m9, c9, a10, m10, c10, a11, m11, c11, e⟩ := hqm.1.toV.shape
    simp only [mV, mCells, Value.agg.injEq, Array.mk.injEq, List.cons.injEq, and_true, true_and] at e
    obtain ⟨rfl, rfl, rfl⟩ := e
    clear hr hq hqm hlt
    go_upto_region 2 with (refine wpList_store_row rfl 34 (.tmp 5) (.tmp 11) rfl w2.heap.size (mCells M (.slice a9 m9 c9) (.slice a10 m10 c10) (.slice a11 m11 c11)) rfl rfl 34 _ HZ2.out (mCells_size _ _ _ _) rfl (mCells_one _ _ _ _ _ _ _ _ _ _) ?_)
    have hb5 := HZ2.out.row (mCells M (.slice a9 m9 c9) (.slice a10 m10 c10) (.slice a11 m11 c11))
    have hE5 := setRow_ext HD2.out (Nat.le_refl _) (mCells M (.slice a9 m9 c9) (.slice a10 m10 c10) (.slice a11 m11 c11))
    generalize (w2.alloc (.cells (zc 0) 34)).setRow w2.heap.size (mCells M (.slice a9 m9 c9) (.slice a10 m10 c10) (.slice a11 m11 c11)) = w5 at *
    obtain ⟨X, hX⟩ : ∃ X, X = w2.heap.size := ⟨_, rfl⟩
    rw [← hX] at hb5 ⊢
    have HE5 := Lib.hid (HE2.out.trans hE5)
    have HB5 := Lib.hid (show Blk w5 X #[.int .i64 M.kind, .int .u64 M.src, .int .u64 M.dst, .int .u64 M.term, .int .u64 M.index, .int .u64 M.logTerm, .int .u64 M.commit, .int .u64 M.stamp, .bool M.yes, .slice a9 m9 c9, .slice a10 m10 c10, .slice a11 m11 c11] 34 from hb5)
    have HN5 := Lib.hid (HH.out.ext HE5.out)
    clear hb5 hE5 hX HZ2 HD2
    generalize mV (M, .slice a9 m9 c9, .slice a10 m10 c10, .slice a11 m11 c11) = VV
    have p0 := HN5.out.rw.rb.cell 0 rfl
    simp only [List.getElem_toArray, List.getElem_cons_zero, List.length_map] at p0
    rw [← HL.out] at p0
    by_cases hfull : 256 ≤ L
    · have hf : (256 : Int) ≤ (L : Int) := by omega
      go_wp2_with fail
      go_ret
      have e1 : E = 7 := by rw [HE.out]; unfold rtwiceE; rw [if_neg (fun h => h HR.out), if_pos (by rw [← HL.out]; exact hfull)]
      rw [e1]
      exact ⟨rfl, .slice none 0 0, Chg.ext HE5.out, .inl ⟨by decide, HE5.out⟩⟩
    · have hf : (L : Int) < 256 := by omega
      have e1 : E = 0 := by rw [HE.out]; unfold rtwiceE; rw [if_neg (fun h => h HR.out), if_neg (by rw [← HL.out]; exact hfull)]
      have HE0 := Lib.hid e1
      clear hfull e1
      have HLEN := Lib.hid (show (S.map mC).flatten.length = L * 12 from by rw [mC_flat, HL.out])
      have HONE := Lib.hid (show ∀ u ∈ mC (M, .slice a9 m9 c9, .slice a10 m10 c10, .slice a11 m11 c11), u.oneCell' = true from fun u hu => by simp [mC] at hu; rcases hu with e | e | e | e | e | e | e | e | e | e | e | e <;> subst e <;> rfl)
      have HSA := Lib.hid (show NewsAt w sa L ((S.map mC).flatten) from fun W hW => by
        rcases HROWS.out with h0 | ⟨b, o, rfl, hc⟩
        · have h1 : S = [] := List.map_eq_nil_iff.1 h0
          have h2 : L = 0 := by rw [HL.out, h1]; rfl
          cases sa with
          | none => exact .inl ⟨rfl, h2⟩
          | some ad => exact .inr ⟨ad, rfl, fun j u hj => by rw [h0] at hj; simp at hj⟩
        · refine .inr ⟨_, rfl, fun j u hj => ?_⟩
          have := rows_news (W := W) (sb := b) (so := o) (d := 0) (S := S) (fun i r hr j' u' hu => hW.cell (hc i r hr j' u' hu)) j u hj
          simpa using this)
      clear HROWS
      rcases sa with _ | sad
      · go_upto_region 6 with fail
        rw [decide_eq_false (show ¬ ((256 : Int) ≤ (L : Int)) by omega)]
        apply Mono.region1 21 Ext [.is _, .is _, .is _, .is _, .is _, .is _, .is _, .is _, .is _, .is _, .is _, .is _, .is _, .is _, .is _, .is _, .is _, .rel (One12 (M, .slice a9 m9 c9, .slice a10 m10 c10, .slice a11 m11 c11)), .rel (More12 w5.heap.size ((S.map mC).flatten ++ mC (M, .slice a9 m9 c9, .slice a10 m10 c10, .slice a11 m11 c11)) (L + 1)), .is _, .is _] (by kernel_rfl) Ext.refl (fun _ _ _ => Ext.trans) (by kernel_rfl) rfl rfl ⟨fun _ _ _ h hE => h.ext hE, fun _ _ _ h hE => More12.ext h hE, trivial⟩
        focus
          iterate 16 (apply Mono.step_is; (· refine Mono.obl_mk fun w7 hE7 _ K hK => ?_; (have q0 := hE7.cell (show w5.drew.cell? _ = _ from p0)); clear hE7; go_wp2_with fail; simp only [Act.put, List.setIfInBounds_toArray, List.set_cons_succ, List.set_cons_zero] at hK; exact hK _ _ (Ext.refl _) (Mono.is_rfl _ _)); simp only [Act.put, List.setIfInBounds_toArray, List.set_cons_succ, List.set_cons_zero])
          apply Mono.step_is
          · refine Mono.obl_mk fun w7 hE7 _ K hK => ?_
            have HB7 := Lib.hid (HB5.out.ext ((Ext.drew w5).trans hE7))
            clear hE7
            go_wp2_with (refine wpList_load_row rfl 34 (.tmp 5) rfl X rfl 34 _ (0, 0) _ HB7.out Try.underlying34 rfl (by kernel_rfl) ?_)
            simp only [Act.put, List.setIfInBounds_toArray, List.set_cons_succ, List.set_cons_zero] at hK
            exact hK _ _ (Ext.refl _) (Mono.is_rfl _ _)
          simp only [Act.put, List.setIfInBounds_toArray, List.set_cons_succ, List.set_cons_zero]
          refine Mono.step_rel (Mono.obl_mk fun w12 hE12 _ K hK => ?_) fun v37 => ?_
          · clear hE12
            go_wp2_with fail
            simp only [Act.put, List.setIfInBounds_toArray, List.set_cons_succ, List.set_cons_zero] at hK
            exact hK _ _ (Ext.alloc _ _) (Mono.rel_mk ⟨w12.heap.size, rfl, fun j u hj => (Blk.new w12 _ _).cell j (by rw [List.getElem?_toArray]; exact hj)⟩)
          simp only [Act.put, List.setIfInBounds_toArray, List.set_cons_succ, List.set_cons_zero]
          refine Mono.step_rel (Mono.obl_mk fun w12 hE12 hkk K hK => ?_) fun v38 => ?_
          · obtain ⟨g1, rfl, hg1⟩ := hkk.1 (by kernel_rfl)
            have HG := Lib.hid hg1
            have HE12 := Lib.hid (show Ext w w12 from HE5.out.trans ((Ext.drew w5).trans hE12))
            have HS12 := Lib.hid (show w5.heap.size ≤ w12.heap.size from ((Ext.drew w5).trans hE12).size)
            clear hkk hE12 hg1
            go_wp2_with (at_builtin; refine wpList_append_full rfl (.tmp 37) (.tmp 39) _ rfl 12 144 Try.underlying22 infoMsg rfl (by omega) none L ((S.map mC).flatten) (mC (M, .slice a9 m9 c9, .slice a10 m10 c10, .slice a11 m11 c11)) rfl HLEN.out (by have := HSA.out w12 HE12.out; simpa using this) ⟨g1, 0, none⟩ rfl (mC_len _) (fun j u hj => by have := HG.out j u hj; cases j with | zero => exact this | succ k => simpa [Addr.add] using this) HONE.out (by omega) (by unfold maxLen; omega) ?_; intro v' w8 hh hE8; have HH8 := Lib.hid (own_low hh HS12.out); have HE8 := Lib.hid hE8; clear hh hE8)
            simp only [Act.put, List.setIfInBounds_toArray, List.set_cons_succ, List.set_cons_zero] at hK
            exact hK _ _ HE8.out (Mono.rel_mk HH8.out)
          simp only [Act.put, List.setIfInBounds_toArray, List.set_cons_succ, List.set_cons_zero]
          iterate 2 (apply Mono.step_is; (· refine Mono.obl_mk fun w7 hE7 _ K hK => ?_; (have q0 := hE7.cell (show w5.drew.cell? _ = _ from p0)); clear hE7; go_wp2_with fail; simp only [Act.put, List.setIfInBounds_toArray, List.set_cons_succ, List.set_cons_zero] at hK; exact hK _ _ (Ext.refl _) (Mono.is_rfl _ _)); simp only [Act.put, List.setIfInBounds_toArray, List.set_cons_succ, List.set_cons_zero])
          refine Mono.step_end fun w12 hE12 hkk => ?_
          simp only [List.drop_succ_cons, List.drop_zero]
          have HM := Lib.hid (show World.ownsRow _ _ _ _ _ _ _ from hkk.2.1)
          have HE12 := Lib.hid (show Ext w5 w12 from (Ext.drew w5).trans hE12)
          clear hkk
          have p1 := hE12.cell (show w5.drew.cell? _ = _ from p0)
          have f1 := (HN5.out.rw.rb.ext HE12.out).free 0
          clear hE12
          obtain ⟨ta, tn, tc, rfl⟩ := own_shape HM.out
          go_wp2_with fail
          go_ret
          have hq0 := HE0.out
          have hpush := RefN.push (lv' := .slice ta tn tc) HH.out HA.out (HE5.out.trans HE12.out) (by rw [← HL.out]; exact own_low HM.out HE5.out.size) HQ.out HOK.out
          rw [hq0]
          exact ⟨rfl, _, hpush.2, .inr ⟨rfl, _, HSQ.out, hpush.1⟩⟩
      · go_upto_region 6 with fail
        rw [decide_eq_false (show ¬ ((256 : Int) ≤ (L : Int)) by omega)]
        apply Mono.region1 21 Ext [.is _, .is _, .is _, .is _, .is _, .is _, .is _, .is _, .is _, .is _, .is _, .is _, .is _, .is _, .is _, .is _, .is _, .rel (One12 (M, .slice a9 m9 c9, .slice a10 m10 c10, .slice a11 m11 c11)), .rel (More12 w5.heap.size ((S.map mC).flatten ++ mC (M, .slice a9 m9 c9, .slice a10 m10 c10, .slice a11 m11 c11)) (L + 1)), .is _, .is _] (by kernel_rfl) Ext.refl (fun _ _ _ => Ext.trans) (by kernel_rfl) rfl rfl ⟨fun _ _ _ h hE => h.ext hE, fun _ _ _ h hE => More12.ext h hE, trivial⟩
        focus
          iterate 16 (apply Mono.step_is; (· refine Mono.obl_mk fun w7 hE7 _ K hK => ?_; (have q0 := hE7.cell (show w5.drew.cell? _ = _ from p0)); clear hE7; go_wp2_with fail; simp only [Act.put, List.setIfInBounds_toArray, List.set_cons_succ, List.set_cons_zero] at hK; exact hK _ _ (Ext.refl _) (Mono.is_rfl _ _)); simp only [Act.put, List.setIfInBounds_toArray, List.set_cons_succ, List.set_cons_zero])
          apply Mono.step_is
          · refine Mono.obl_mk fun w7 hE7 _ K hK => ?_
            have HB7 := Lib.hid (HB5.out.ext ((Ext.drew w5).trans hE7))
            clear hE7
            go_wp2_with (refine wpList_load_row rfl 34 (.tmp 5) rfl X rfl 34 _ (0, 0) _ HB7.out Try.underlying34 rfl (by kernel_rfl) ?_)
            simp only [Act.put, List.setIfInBounds_toArray, List.set_cons_succ, List.set_cons_zero] at hK
            exact hK _ _ (Ext.refl _) (Mono.is_rfl _ _)
          simp only [Act.put, List.setIfInBounds_toArray, List.set_cons_succ, List.set_cons_zero]
          refine Mono.step_rel (Mono.obl_mk fun w12 hE12 _ K hK => ?_) fun v37 => ?_
          · clear hE12
            go_wp2_with fail
            simp only [Act.put, List.setIfInBounds_toArray, List.set_cons_succ, List.set_cons_zero] at hK
            exact hK _ _ (Ext.alloc _ _) (Mono.rel_mk ⟨w12.heap.size, rfl, fun j u hj => (Blk.new w12 _ _).cell j (by rw [List.getElem?_toArray]; exact hj)⟩)
          simp only [Act.put, List.setIfInBounds_toArray, List.set_cons_succ, List.set_cons_zero]
          refine Mono.step_rel (Mono.obl_mk fun w12 hE12 hkk K hK => ?_) fun v38 => ?_
          · obtain ⟨g1, rfl, hg1⟩ := hkk.1 (by kernel_rfl)
            have HG := Lib.hid hg1
            have HE12 := Lib.hid (show Ext w w12 from HE5.out.trans ((Ext.drew w5).trans hE12))
            have HS12 := Lib.hid (show w5.heap.size ≤ w12.heap.size from ((Ext.drew w5).trans hE12).size)
            clear hkk hE12 hg1
            go_wp2_with (at_builtin; refine wpList_append_full rfl (.tmp 37) (.tmp 39) _ rfl 12 144 Try.underlying22 infoMsg rfl (by omega) (some sad) L ((S.map mC).flatten) (mC (M, .slice a9 m9 c9, .slice a10 m10 c10, .slice a11 m11 c11)) rfl HLEN.out (by have := HSA.out w12 HE12.out; simpa using this) ⟨g1, 0, none⟩ rfl (mC_len _) (fun j u hj => by have := HG.out j u hj; cases j with | zero => exact this | succ k => simpa [Addr.add] using this) HONE.out (by omega) (by unfold maxLen; omega) ?_; intro v' w8 hh hE8; have HH8 := Lib.hid (own_low hh HS12.out); have HE8 := Lib.hid hE8; clear hh hE8)
            simp only [Act.put, List.setIfInBounds_toArray, List.set_cons_succ, List.set_cons_zero] at hK
            exact hK _ _ HE8.out (Mono.rel_mk HH8.out)
          simp only [Act.put, List.setIfInBounds_toArray, List.set_cons_succ, List.set_cons_zero]
          iterate 2 (apply Mono.step_is; (· refine Mono.obl_mk fun w7 hE7 _ K hK => ?_; (have q0 := hE7.cell (show w5.drew.cell? _ = _ from p0)); clear hE7; go_wp2_with fail; simp only [Act.put, List.setIfInBounds_toArray, List.set_cons_succ, List.set_cons_zero] at hK; exact hK _ _ (Ext.refl _) (Mono.is_rfl _ _)); simp only [Act.put, List.setIfInBounds_toArray, List.set_cons_succ, List.set_cons_zero])
          refine Mono.step_end fun w12 hE12 hkk => ?_
          simp only [List.drop_succ_cons, List.drop_zero]
          have HM := Lib.hid (show World.ownsRow _ _ _ _ _ _ _ from hkk.2.1)
          have HE12 := Lib.hid (show Ext w5 w12 from (Ext.drew w5).trans hE12)
          clear hkk
          have p1 := hE12.cell (show w5.drew.cell? _ = _ from p0)
          have f1 := (HN5.out.rw.rb.ext HE12.out).free 0
          clear hE12
          obtain ⟨ta, tn, tc, rfl⟩ := own_shape HM.out
          go_wp2_with fail
          go_ret
          have hq0 := HE0.out
          have hpush := RefN.push (lv' := .slice ta tn tc) HH.out HA.out (HE5.out.trans HE12.out) (by rw [← HL.out]; exact own_low HM.out HE5.out.size) HQ.out HOK.out
          rw [hq0]
          exact ⟨rfl, _, hpush.2, .inr ⟨rfl, _, HSQ.out, hpush.1⟩⟩
end Go.Proofs.Ytjodgbabfhcilaa
