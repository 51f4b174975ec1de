/- tabellionlaw19: same. PRINTED BY gen/nsame.py -/
import Derived.Test.YtjodgbabfhcilaaSpw
import Derived.Test.YtjodgbabfhcilaaBun10
import Derived.Test.YtjodgbabfhcilaaMsm
set_option linter.unusedSimpArgs false
set_option linter.unusedVariables false
namespace Go.Proofs.Ytjodgbabfhcilaa
open Go Go.RowKit Go.Maps

/-- The numbers from a to b - 1. -/
def rng (a b : Nat) : List Nat := (List.range (b - a)).map (· + a)
theorem mem_rng {a b t : Nat} : t ∈ rng a b ↔ a ≤ t ∧ t < b := by
  unfold rng
  rw [List.mem_map]
  constructor
  · rintro ⟨i, h, rfl⟩
    rw [List.mem_range] at h
    omega
  · rintro ⟨h1, h2⟩
    exact ⟨t - a, by rw [List.mem_range]; omega, by omega⟩
theorem MsgU.ext {w w' : World} {B : Nat} {v : Value} {M : Msg} (h : MsgU w v) (hV : MsgV w B v M) (hE : Ext w w') : MsgU w' v := h.chg hV (Chg.ext hE : Chg [] w w') (by simp)
theorem MsgV.rng {w : World} {B : Nat} {v : Value} {M : Msg} (h : MsgV w B v M) : MsgR (· ∈ rng B w.heap.size) w v M := h.toR.mono fun k h1 h2 => mem_rng.2 ⟨h2, h1⟩
set_option maxRecDepth 100000 in
set_option maxHeartbeats 8000000 in
theorem nsame_c {w0 w : World} {p m k r : Nat} {lv ls wv : Value} {l : List Item} {W : WL} {S : List MQ} {ws : List (Int × Int)} {A : List Nat} (h : NetS w0 w p m lv l k W) (hr : RefN w r ls wv S ws A) (hl : l.length ≤ 1000) (he : l.map (·.2) = S.map (·.1)) :
    Calls Try.prog 26 #[ptr p, ptr r] w (RetIs (.bool true) w) := by
  have HN := Lib.hid h; have HR := Lib.hid hr; have HL := Lib.hid hl; have HE := Lib.hid he
  obtain ⟨L, hL⟩ : ∃ L, L = l.length := ⟨_, rfl⟩
  have hSL : S.length = L := by have := congrArg List.length he; simp at this; omega
  obtain ⟨sa, sc, rfl, hsc1, hsc2, hrows⟩ := hr.list
  rw [List.length_map, hSL] at hsc1
  have p0 := hr.rw.rb.cell 0 rfl
  simp only [List.getElem_toArray, List.getElem_cons_zero, List.length_map] at p0
  rw [hSL] at p0
  have HLL := Lib.hid hL; have HSL := Lib.hid hSL; have HROWS := Lib.hid hrows
  rw [← hL] at hl
  replace hsc2 : sc ≤ 9223372036854775807 := by unfold maxLen at hsc2; omega
  clear h hr he hL hSL hrows
  go_enter Try.func26, Try.ntmps26
  go_upto_region 1 with fail
  apply Mono.region1 8 Ext [.is _, .is _, .is _, .is _, .is _, .is _, .is _, .is _] (by kernel_rfl) Ext.refl (fun _ _ _ => Ext.trans) (by kernel_rfl) rfl rfl trivial
  focus
    iterate 1 (apply Mono.step_is; (· refine Mono.obl_mk fun w9 hE9 _ K hK => ?_; (have q0 := hE9.cell (show w.drew.cell? _ = _ from p0)); clear hE9; go_wp2_with fail; simp only [Act.put, List.setIfInBounds_toArray, List.set_cons_succ, List.set_cons_zero] at hK; exact hK _ _ (Ext.refl _) (Mono.is_rfl _ _)); simp only [Act.put, List.setIfInBounds_toArray, List.set_cons_succ, List.set_cons_zero])
    apply Mono.step_is
    · refine Mono.obl_mk fun w9 hE9 _ K hK => ?_
      go_wp2_with fail
      refine (nlen_c (HN.out.ext ((Ext.drew w).trans hE9))).mono ?_
      rintro e w10 ⟨rfl, rfl⟩
      rw [← HLL.out]
      go_wp2_with fail
      simp only [Act.put, List.setIfInBounds_toArray, List.set_cons_succ, List.set_cons_zero] at hK
      exact hK _ _ (Ext.refl _) (Mono.is_rfl _ _)
    simp only [Act.put, List.setIfInBounds_toArray, List.set_cons_succ, List.set_cons_zero]
    iterate 6 (apply Mono.step_is; (· refine Mono.obl_mk fun w9 hE9 _ K hK => ?_; (have q0 := hE9.cell (show w.drew.cell? _ = _ from p0)); clear hE9; go_wp2_with fail; simp only [Act.put, List.setIfInBounds_toArray, List.set_cons_succ, List.set_cons_zero] at hK; exact hK _ _ (Ext.refl _) (Mono.is_rfl _ _)); simp only [Act.put, List.setIfInBounds_toArray, List.set_cons_succ, List.set_cons_zero])
    refine Mono.step_end fun w1 hE1 hkn => ?_
    simp only [List.drop_succ_cons, List.drop_zero]
    clear hkn
    have HE1 := Lib.hid ((Ext.drew w).trans hE1)
    clear hE1 p0
    go_wp2_with fail
    go_loopg [5, 6, 7] L (fun g v5 v6 v7 wr => ∃ (i : Nat), v5 = .int .i64 (i : Int) ∧ i + g = L ∧ Ext w wr)
    case atStart => exact ⟨0, rfl, by omega, HE1.out⟩
    case round =>
      obtain ⟨i, rfl, hi, hEr⟩ := hrel
      have HEr := Lib.hid hEr
      have p0 := (HR.out.ext hEr).rw.rb.cell 0 rfl
      simp only [List.getElem_toArray, List.getElem_cons_zero, List.length_map] at p0
      rw [HSL.out] at p0
      clear hEr
      by_cases hlt : i < L
      · have hlt' : (i : Int) < (L : Int) := by omega
        obtain ⟨q, hq⟩ : ∃ q, S[i]? = some q := ⟨_, List.getElem?_eq_getElem (by have := HSL.out; omega)⟩
        have hqm := HR.out.ms q (List.mem_of_getElem? hq)
        have hat : atN (l.map (·.2)) (i : Int) = (q.1, 0) := by
          unfold atN
          rw [if_pos ⟨by omega, by rw [List.length_map, ← HLL.out]; omega⟩, HE.out, Int.toNat_natCast, List.getElem?_map, hq]
          rfl
        have HAT := Lib.hid (nat_u (HN.out.ext HEr.out) HL.out (i : Int) (by omega))
        have HATE := Lib.hid hat
        have HQ := Lib.hid hqm.1; have HOK := Lib.hid hqm.2
        obtain ⟨M, ev, mv, iv⟩ := q
        obtain ⟨a9, m9, c9, a10, m10, c10, a11, m11, c11, e⟩ := hqm.1.toV.shape
        simp only [mV, mCells, Value.agg.injEq, Array.mk.injEq, List.cons.injEq, and_true, true_and] at e
        obtain ⟨rfl, rfl, rfl⟩ := e
        obtain ⟨sb, so, rfl, hcr⟩ : ∃ sb so, sa = some ⟨sb, so, none⟩ ∧ ∀ (j : Nat) u, (mC (M, .slice a9 m9 c9, .slice a10 m10 c10, .slice a11 m11 c11))[j]? = some u → wr.cell? ⟨sb, so + i * 12 + j, none⟩ = some u := by
          rcases HROWS.out with h3 | ⟨b, o, ha, hc⟩
          · have h5 : (S.map mC).length = 0 := by rw [h3]; rfl
            rw [List.length_map] at h5
            have := HSL.out
            omega
          · exact ⟨b, o, ha, fun j u hj => HEr.out.cell (hc i _ (by rw [List.getElem?_map, hq]; rfl) j u hj)⟩
        have HCR := Lib.hid hcr
        clear hq hqm hat hcr
        go_wp2_with fail
        refine HAT.out.mono ?_
        rw [HATE.out]
        rintro e w2 ⟨v, rfl, hv, hE2, hu⟩
        obtain ⟨b9, k9, d9, b10, k10, d10, b11, k11, d11, rfl⟩ := hv.shape
        have HV := Lib.hid hv; have HU := Lib.hid hu; have HE2 := Lib.hid hE2
        have HZ2 := Lib.hid (Blk.new w2 (zc 0) 34)
        have HD2 := Lib.hid (Ext.alloc w2 (.cells (zc 0) 34))
        clear hv hu hE2 p0
        go_upto_region 7 with (refine wpList_store_row rfl 34 (.tmp 6) (.tmp 29) rfl w2.heap.size (mCells M (.slice b9 k9 d9) (.slice b10 k10 d10) (.slice b11 k11 d11)) rfl rfl 34 _ HZ2.out (mCells_size _ _ _ _) rfl (mCells_one _ _ _ _ _ _ _ _ _ _) ?_)
        have hb5 := HZ2.out.row (mCells M (.slice b9 k9 d9) (.slice b10 k10 d10) (.slice b11 k11 d11))
        have hE5 := setRow_ext HD2.out (Nat.le_refl _) (mCells M (.slice b9 k9 d9) (.slice b10 k10 d10) (.slice b11 k11 d11))
        generalize (w2.alloc (.cells (zc 0) 34)).setRow w2.heap.size (mCells M (.slice b9 k9 d9) (.slice b10 k10 d10) (.slice b11 k11 d11)) = w5 at *
        obtain ⟨X, hX⟩ : ∃ X, X = w2.heap.size := ⟨_, rfl⟩
        rw [← hX] at hb5 ⊢
        have HX := Lib.hid hX
        have HE5 := Lib.hid hE5
        have HB5 := Lib.hid (show Blk w5 X #[.int .i64 M.kind, .int .u64 M.src, .int .u64 M.dst, .int .u64 M.term, .int .u64 M.index, .int .u64 M.logTerm, .int .u64 M.commit, .int .u64 M.stamp, .bool M.yes, .slice b9 k9 d9, .slice b10 k10 d10, .slice b11 k11 d11] 34 from hb5)
        have HW5 := Lib.hid (HEr.out.trans (HE2.out.trans hE5))
        clear hX hb5 hE5 HZ2 HD2
        have p0 := (HR.out.ext HW5.out).rw.rb.cell 0 rfl
        simp only [List.getElem_toArray, List.getElem_cons_zero, List.length_map] at p0
        rw [HSL.out] at p0
        apply Mono.region1 14 Ext [.is _, .is _, .is _, .is _, .is _, .is _, .is _, .is _, .is _, .is _, .is _, .is _, .is _, .is _] (by kernel_rfl) Ext.refl (fun _ _ _ => Ext.trans) (by kernel_rfl) rfl rfl trivial
        focus
          iterate 3 (apply Mono.step_is; (· refine Mono.obl_mk fun w9 hE9 _ K hK => ?_; (have q0 := hE9.cell (show w5.drew.cell? _ = _ from p0)); clear hE9; go_wp2_with fail; simp only [Act.put, List.setIfInBounds_toArray, List.set_cons_succ, List.set_cons_zero] at hK; exact hK _ _ (Ext.refl _) (Mono.is_rfl _ _)); simp only [Act.put, List.setIfInBounds_toArray, List.set_cons_succ, List.set_cons_zero])
          apply Mono.step_is
          · refine Mono.obl_mk fun w9 hE9 _ K hK => ?_
            have HB9 := Lib.hid (HB5.out.ext ((Ext.drew w5).trans hE9))
            obtain ⟨j0, j1, j2, j3, j4, j5, j6, j7, j8, j9, j10, j11⟩ := HB9.out.twelve
            clear hE9
            go_wp2_with fail
            simp only [Act.put, List.setIfInBounds_toArray, List.set_cons_succ, List.set_cons_zero] at hK
            exact hK _ _ (Ext.refl _) (Mono.is_rfl _ _)
          simp only [Act.put, List.setIfInBounds_toArray, List.set_cons_succ, List.set_cons_zero]
          iterate 6 (apply Mono.step_is; (· refine Mono.obl_mk fun w9 hE9 _ K hK => ?_; (have q0 := hE9.cell (show w5.drew.cell? _ = _ from p0)); clear hE9; go_wp2_with fail; simp only [Act.put, List.setIfInBounds_toArray, List.set_cons_succ, List.set_cons_zero] at hK; exact hK _ _ (Ext.refl _) (Mono.is_rfl _ _)); simp only [Act.put, List.setIfInBounds_toArray, List.set_cons_succ, List.set_cons_zero])
          apply Mono.step_is
          · refine Mono.obl_mk fun w9 hE9 _ K hK => ?_
            have hc9 : ∀ (j : Nat) u, (mC (M, .slice a9 m9 c9, .slice a10 m10 c10, .slice a11 m11 c11))[j]? = some u → w9.cell? ⟨sb, so + i * 12 + j, none⟩ = some u := fun j u hj => hE9.cell ((Ext.drew w5).cell (HE5.out.cell (HE2.out.cell (HCR.out j u hj))))
            have g0 := hc9 0 _ rfl; have g1 := hc9 1 _ rfl; have g2 := hc9 2 _ rfl; have g3 := hc9 3 _ rfl; have g4 := hc9 4 _ rfl; have g5 := hc9 5 _ rfl; have g6 := hc9 6 _ rfl; have g7 := hc9 7 _ rfl; have g8 := hc9 8 _ rfl; have g9 := hc9 9 _ rfl; have g10 := hc9 10 _ rfl; have g11 := hc9 11 _ rfl; dsimp only at g0 g1 g2 g3 g4 g5 g6 g7 g8 g9 g10 g11; rw [Nat.add_zero] at g0
            clear hE9 hc9
            go_wp2_with fail
            simp only [Act.put, List.setIfInBounds_toArray, List.set_cons_succ, List.set_cons_zero] at hK
            exact hK _ _ (Ext.refl _) (Mono.is_rfl _ _)
          simp only [Act.put, List.setIfInBounds_toArray, List.set_cons_succ, List.set_cons_zero]
          apply Mono.step_is
          · refine Mono.obl_mk fun w9 hE9 _ K hK => ?_
            have HE9 := Lib.hid ((Ext.drew w5).trans hE9)
            clear hE9
            go_wp2_with fail
            refine (rmsame_ret _ _ M M _ _ w9 (HV.out.ext (HE5.out.trans HE9.out)) (HQ.out.toV.ext (HW5.out.trans HE9.out)) HOK.out HOK.out).mono ?_
            rintro e w10 ⟨rfl, hE10⟩
            rw [decide_eq_true rfl]
            go_wp2_with fail
            simp only [Act.put, List.setIfInBounds_toArray, List.set_cons_succ, List.set_cons_zero] at hK
            exact hK _ _ hE10 (Mono.is_rfl _ _)
          simp only [Act.put, List.setIfInBounds_toArray, List.set_cons_succ, List.set_cons_zero]
          iterate 2 (apply Mono.step_is; (· refine Mono.obl_mk fun w9 hE9 _ K hK => ?_; (have q0 := hE9.cell (show w5.drew.cell? _ = _ from p0)); clear hE9; go_wp2_with fail; simp only [Act.put, List.setIfInBounds_toArray, List.set_cons_succ, List.set_cons_zero] at hK; exact hK _ _ (Ext.refl _) (Mono.is_rfl _ _)); simp only [Act.put, List.setIfInBounds_toArray, List.set_cons_succ, List.set_cons_zero])
          refine Mono.step_end fun w6 hE6 hkn => ?_
          simp only [List.drop_succ_cons, List.drop_zero]
          clear hkn p0
          have HE6 := Lib.hid ((Ext.drew w5).trans hE6)
          have HB6 := Lib.hid (HB5.out.ext HE6.out)
          clear hE6
          go_wp2_with (refine wpList_load_row rfl 34 (.tmp 6) rfl X rfl 34 _ (0, 0) _ HB6.out Try.underlying34 rfl (by kernel_rfl) ?_)
          refine (spoil_c (S := rng wr.heap.size w2.heap.size) (v := .agg (mCells M (.slice b9 k9 d9) (.slice b10 k10 d10) (.slice b11 k11 d11))) (M := M) (HV.out.rng.ext (HE5.out.trans HE6.out)) (HU.out.ext HV.out (HE5.out.trans HE6.out)) (fun t ht => by have := (mem_rng.1 ht).2; have := HE5.out.size; have := HE6.out.size; omega)).mono ?_
          rintro e w7 ⟨rfl, hC7⟩
          have hE7 : Ext wr w7 := ((Chg.ext (HE2.out.trans (HE5.out.trans HE6.out)) : Chg (rng wr.heap.size w2.heap.size) wr w6).trans hC7).toExt (fun t ht => (mem_rng.1 ht).1)
          have HE7 := Lib.hid hE7
          clear hC7 hE7
          go_wp2_with fail
          go_roundg (L - (i + 1))
          case measure => omega
          case rel => exact ⟨i + 1, by go_num, by omega, HEr.out.trans HE7.out⟩
      · have hge : (L : Int) ≤ (i : Int) := by omega
        clear hlt
        go_wp2_with fail
        go_ret
        exact ⟨rfl, HEr.out⟩
end Go.Proofs.Ytjodgbabfhcilaa
