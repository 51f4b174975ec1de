/- tabellionlaw10: run.open, run.set. -/
import Derived.Test.YtapclkjpokbgbaaDoorCel8
set_option linter.unusedSimpArgs false
set_option linter.unusedVariables false
namespace Go.Proofs.YtapclkjpokbgbaaDoor
open Go Go.RowKit Go.Maps

set_option maxRecDepth 100000 in
set_option maxHeartbeats 2000000 in
/-- A run's cell is opened anew, on a disk where nothing waits. -/
theorem ropen_c (w0 : World) (r d c x n cnt cnt' : Nat) (O : List Nat) (S : Dk) (h m q : Nat × Nat) (cov ov : Bool) (kv : Value) (torn : Int) (w : World) (H : RunS w0 w r d c x n O S cnt h m cov ov) (hoff : S.off = false) (hw0 : S.waits = []) (hpk : pickC voteN S.now = (cnt', q)) (hq : q = h ∨ q = m) :
    Calls Tryd.prog 27 #[dptr r, kv, .int .i64 torn] w fun e w' => e = .returned (.bool true) ∧ ∃ c', RunS w0 w' r d c' x n O S cnt' q q false false ∧ w.heap.size ≤ c' ∧ Chg [r, x] w w' := by
  have HH := Lib.hid H; have HPK := Lib.hid hpk; have HQ := Lib.hid hq; have HOF := Lib.hid hoff; have HW0 := Lib.hid hw0
  obtain ⟨c0, c1, c2⟩ := H.rb.three
  have hnp := H.cr
  clear H hpk hq hoff hw0 hnp
  go_enter Tryd.func27, Tryd.ntmps27
  go_wp2_with fail
  go_loopg [7, 8, 9] 1 (fun g v7 v8 v9 wr => v7 = .int .i64 0 ∧ wr = w ∧ g = 1)
  case atStart => exact ⟨rfl, rfl, rfl⟩
  case round =>
    obtain ⟨rfl, rfl, hg⟩ := hrel
    clear hg
    go_wp2_with fail
    refine (open_ok d n 48 O [] S voteN wr HH.out.dk (by omega) (by decide) HOF.out HW0.out).mono ?_
    rintro e w1 ⟨c', rfl, hcw, hC, hE1⟩
    rw [HPK.out] at hC
    have HC := Lib.hid hC; have HH1 := Lib.hid (HH.out.ext hE1)
    have hcO : c' ∉ O := fun hm => by have := HH.out.dk.low c' hm; omega
    have hcr : c' ≠ r := fun e => by have := HH.out.rb.lt; omega
    have hcx : c' ≠ x := fun e => by have := Blk.lt HH.out.xb; omega
    have hcn : w0.heap.size ≤ c' := Nat.le_trans HH.out.old.size hcw
    have HCW := Lib.hid hcw; have HEE1 := Lib.hid hE1
    replace c0 := hE1.cell c0; replace c1 := hE1.cell c1; replace c2 := hE1.cell c2
    clear hC hE1 hcw
    go_upto_region 9 with fail
    apply Mono.region1 16 Ext [.is _, .is _, .is _, .is _, .is _, .is _, .is _, .is _, .is _, .is _, .is _, .is _, .is _, .is _, .is _, .is _] (by kernel_rfl) Ext.refl (fun _ _ _ => Ext.trans) (by kernel_rfl) rfl rfl trivial
    focus
      iterate 12 (apply Mono.step_is; (· refine Mono.obl_mk fun w5 hE5 _ K hK => ?_; (have j2 := hE5.cell (show w1.drew.cell? _ = _ from c2)); clear hE5; go_wp2_with fail; simp only [Act.put, List.setIfInBounds_toArray, List.set_cons_succ, List.set_cons_zero] at hK; exact hK _ _ (Ext.refl _) (Mono.is_rfl _ _)); simp only [Act.put, List.setIfInBounds_toArray, List.set_cons_succ, List.set_cons_zero])
      apply Mono.step_is
      · refine Mono.obl_mk fun w5 hE5 _ K hK => ?_
        go_wp2_with fail
        refine (get_c c' d voteN cnt' q.1 q.2 false w5 (Blk.ext HC.out ((Ext.drew _).trans hE5))).mono ?_
        rintro e w6 ⟨rfl, hE6⟩
        go_wp2_with fail
        simp only [Act.put, List.setIfInBounds_toArray, List.set_cons_succ, List.set_cons_zero] at hK
        exact hK _ _ hE6 (Mono.is_rfl _ _)
      simp only [Act.put, List.setIfInBounds_toArray, List.set_cons_succ, List.set_cons_zero]
      apply Mono.step_is
      · refine Mono.obl_mk fun w5 hE5 _ K hK => ?_
        go_wp2_with fail
        refine (fits_c x h m ov q w5 (Blk.ext HH1.out.xb ((Ext.drew _).trans hE5)) HQ.out).mono ?_
        rintro e w6 ⟨rfl, hE6⟩
        go_wp2_with fail
        simp only [Act.put, List.setIfInBounds_toArray, List.set_cons_succ, List.set_cons_zero] at hK
        exact hK _ _ hE6 (Mono.is_rfl _ _)
      simp only [Act.put, List.setIfInBounds_toArray, List.set_cons_succ, List.set_cons_zero]
      iterate 2 (apply Mono.step_is; (· refine Mono.obl_mk fun w5 hE5 _ K hK => ?_; clear hE5; go_wp2_with fail; simp only [Act.put, List.setIfInBounds_toArray, List.set_cons_succ, List.set_cons_zero] at hK; exact hK _ _ (Ext.refl _) (Mono.is_rfl _ _)); simp only [Act.put, List.setIfInBounds_toArray, List.set_cons_succ, List.set_cons_zero])
      refine Mono.step_end fun w5 hE5 hkn => ?_
      simp only [List.drop_succ_cons, List.drop_zero]
      clear hkn
      have hE15 := (Ext.drew w1).trans hE5
      have HEE5 := Lib.hid (HEE1.out.trans hE15)
      have HH5 := Lib.hid (HH1.out.ext hE15); have HC5 := Lib.hid (Blk.ext HC.out hE15)
      replace c1 := hE15.cell c1
      have hfz := HH5.out.rb.free 1
      clear hE5 hE15 c0 c2
      go_upto_region 12 with fail
      obtain ⟨w6, hw6⟩ : ∃ w6, w6 = w5.setCell ⟨r, 1, none⟩ (dptr c') := ⟨_, rfl⟩
      have hg6 : Chg [r] w5 w6 := by rw [hw6]; exact Chg.set _ 1 _ (by simp)
      have hR6 : Blk w6 r #[dptr d, dptr c', dptr x] 67 := by rw [hw6]; simpa using HH5.out.rb.set 1 (dptr c')
      have hC6 : CelB w6 c' d voteN cnt' q.1 q.2 false := Blk.chg HC5.out hg6 (by simp; exact hcr)
      have hX6 : RefB w6 x h m ov := Blk.chg HH5.out.xb hg6 (by simp; exact Ne.symm HH5.out.rx)
      have hrn : NoB w5 r := NoB.blk HH5.out.rb (by intro y hy z; simp at hy; rcases hy with rfl | rfl | rfl <;> simp [dptr])
      have hD6 := HH5.out.dk.chg hg6 (fun t ht => by simp at ht; subst ht; exact ⟨HH5.out.rO, .inl hrn⟩)
      have hO6 : Ext w0 w6 := Chg.below HH5.out.old hg6 HH5.out.old.size (fun t ht => by simp at ht; subst ht; exact HH5.out.newr)
      rw [show w5.setCell ⟨r, 1, none⟩ (.pointer (some ⟨c', 0, none⟩)) = w6 from hw6.symm]
      obtain ⟨e0, e1, e2⟩ := hR6.three
      have HG6 := Lib.hid (show Chg [r, x] wr w6 from (Chg.ext HEE5.out).trans' hg6 fun t ht => .inl (by simp at ht; subst ht; simp))
      have HR6 := Lib.hid hR6; have HC6 := Lib.hid hC6; have HX6 := Lib.hid hX6; have HD6 := Lib.hid hD6; have HO6 := Lib.hid hO6
      clear hw6 hg6 hR6 hC6 hX6 hrn hD6 hO6 hfz c1 e0 e1
      apply Mono.region1 6 Ext [.is _, .is _, .is _, .is _, .is _, .is _] (by kernel_rfl) Ext.refl (fun _ _ _ => Ext.trans) (by kernel_rfl) rfl rfl trivial
      focus
        iterate 5 (apply Mono.step_is; (· refine Mono.obl_mk fun w7 hE7 _ K hK => ?_; (have j2 := hE7.cell (show w6.drew.cell? _ = _ from e2)); clear hE7; go_wp2_with fail; simp only [Act.put, List.setIfInBounds_toArray, List.set_cons_succ, List.set_cons_zero] at hK; exact hK _ _ (Ext.refl _) (Mono.is_rfl _ _)); simp only [Act.put, List.setIfInBounds_toArray, List.set_cons_succ, List.set_cons_zero])
        apply Mono.step_is
        · refine Mono.obl_mk fun w7 hE7 _ K hK => ?_
          go_wp2_with fail
          refine (get_c c' d voteN cnt' q.1 q.2 false w7 (Blk.ext HC6.out ((Ext.drew _).trans hE7))).mono ?_
          rintro e w8 ⟨rfl, hE8⟩
          go_wp2_with fail
          simp only [Act.put, List.setIfInBounds_toArray, List.set_cons_succ, List.set_cons_zero] at hK
          exact hK _ _ hE8 (Mono.is_rfl _ _)
        simp only [Act.put, List.setIfInBounds_toArray, List.set_cons_succ, List.set_cons_zero]
        refine Mono.step_end fun w7 hE7 hkn => ?_
        simp only [List.drop_succ_cons, List.drop_zero]
        clear hkn
        have hE67 := (Ext.drew w6).trans hE7
        have HG7 := Lib.hid (HG6.out.trans' (T := []) (Chg.ext hE67) (by simp))
        have HC7 := Lib.hid (Blk.ext HC6.out hE67); have HX7 := Lib.hid (Blk.ext HX6.out hE67); have HD7 := Lib.hid (HD6.out.ext hE67); have HO7 := Lib.hid (HO6.out.trans hE67); have HR7 := Lib.hid (HR6.out.ext hE67)
        clear hE7 hE67 e2
        go_wp2_with fail
        refine (took_c x h m ov q.1 q.2 w7 HX7.out).mono ?_
        rintro e w8 ⟨rfl, hx8, hg8⟩
        have hxn : NoB w7 x := NoB.blk HX7.out (by intro y hy z; simp at hy; rcases hy with rfl | rfl | rfl | rfl | rfl <;> simp)
        have HF := Lib.hid (show RunS w0 w8 r d c' x n O S cnt' q q false false from ⟨HD7.out.chg hg8 (fun t ht => by simp at ht; subst ht; exact ⟨HH5.out.xO, .inl hxn⟩), Blk.chg HC7.out hg8 (by simp; exact hcx), HR7.out.chg hg8 (by simp; exact HH5.out.rx), hx8, hcO, HH5.out.rO, HH5.out.xO, hcr, hcx, HH5.out.rx, Chg.below HO7.out hg8 HO7.out.size (fun t ht => by simp at ht; subst ht; exact HH5.out.newx), HH5.out.newO, hcn, HH5.out.newr, HH5.out.newx⟩)
        have HG8 := Lib.hid (HG7.out.trans' hg8 fun t ht => .inl (by simp at ht; subst ht; simp))
        clear hx8 hg8 hxn
        go_wp2_with fail
        go_ret
        exact ⟨rfl, c', HF.out, HCW.out, HG8.out⟩
end Go.Proofs.YtapclkjpokbgbaaDoor
