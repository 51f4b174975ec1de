/- tabellionlaw10: run.set. -/
import Derived.Test.YtapclkjpokbgbaaDoorCel9
set_option linter.unusedSimpArgs false
set_option linter.unusedVariables false
namespace Go.Proofs.YtapclkjpokbgbaaDoor
open Go Go.RowKit Go.Maps

/-- What a set leaves of a run. -/
def SetFin (w0 : World) (z r d c x n cnt : Nat) (h : Nat × Nat) (t v : Nat) (R : Int × Dk) (w : World) : Prop :=
  z ≤ w.heap.size ∧ ∃ O', (R.1 = 0 ∧ RunS w0 w r d c x (n + 1) O' R.2 (cnt + 1) (t, v) (t, v) false false) ∨ (R.1 = 6 ∧ RunS w0 w r d c x (n + 1) O' R.2 cnt h (t, v) true true)
theorem SetFin.ext {w0 : World} {z r d c x n cnt : Nat} {h : Nat × Nat} {t v : Nat} {R : Int × Dk} {w w' : World} (H : SetFin w0 z r d c x n cnt h t v R w) (hE : Ext w w') : SetFin w0 z r d c x n cnt h t v R w' := by
  obtain ⟨hz, O', h | h⟩ := H
  · exact ⟨Nat.le_trans hz hE.size, O', .inl ⟨h.1, h.2.ext hE⟩⟩
  · exact ⟨Nat.le_trans hz hE.size, O', .inr ⟨h.1, h.2.ext hE⟩⟩
set_option maxRecDepth 100000 in
set_option maxHeartbeats 2000000 in
theorem rset_c (w0 : World) (r d c x n cnt : Nat) (O : List Nat) (S : Dk) (h m : Nat × Nat) (t v : Nat) (w : World) (H : RunS w0 w r d c x n O S cnt h m false false) (hn1 : n ≤ 1000) (hw0 : S.waits = []) (h1 : cnt + 1 < 18446744073709551616) (h2 : t < 18446744073709551616) (h3 : v < 18446744073709551616)
    (hR : (setS voteN S cnt t v).1 = 0 ∨ (setS voteN S cnt t v).1 = 6 ∧ (setS voteN S cnt t v).2.off = true) :
    Calls Tryd.prog 25 #[dptr r, hardV t v] w fun e w' => e = .returned (.bool true) ∧ SetFin w0 w.heap.size r d c x n cnt h t v (setS voteN S cnt t v) w' := by
  obtain ⟨R, hRe⟩ : ∃ R, R = setS voteN S cnt t v := ⟨_, rfl⟩
  rw [← hRe] at hR ⊢
  have HR := Lib.hid hR; have HRE := Lib.hid hRe; have HH := Lib.hid H; have HW0 := Lib.hid hw0
  clear hR hRe H hw0
  go_enter Tryd.func25, Tryd.ntmps25
  simp only [hardV]
  obtain ⟨w1, hw1⟩ : ∃ w1, w1 = w.alloc (.cells #[.int .u64 t, .int .u64 v] 24) := ⟨_, rfl⟩
  have hE1 : Ext w w1 := by rw [hw1]; exact Ext.alloc _ _
  have hP : Blk w1 w.heap.size #[.int .u64 t, .int .u64 v] 24 := by rw [hw1]; exact Blk.new _ _ _
  go_upto_region 1 with fail
  rw [← hw1]
  obtain ⟨p, hp⟩ : ∃ p, p = w.heap.size := ⟨_, rfl⟩
  rw [← hp] at hP ⊢
  have hpc : p ≠ c := fun e => by have := Blk.lt HH.out.cel; omega
  have hpO : p ∉ O := fun hm => by have := HH.out.dk.low p hm; omega
  have hpx : p ≠ x := fun e => by have := Blk.lt HH.out.xb; omega
  have H1 := Lib.hid (HH.out.ext hE1); have HP := Lib.hid hP
  obtain ⟨c0, c1, c2⟩ := H1.out.rb.three
  have q0 := hP.cell 0 rfl; have q1 := hP.cell 1 rfl
  simp only [List.getElem_toArray, List.getElem_cons_zero, List.getElem_cons_succ] at q0 q1
  have HSZ1 := Lib.hid hE1.size
  clear hE1 hP hw1 hp HH
  apply Mono.region1 5 Ext [.is _, .is _, .is _, .is _, .is _] (by kernel_rfl) Ext.refl (fun _ _ _ => Ext.trans) (by kernel_rfl) rfl rfl trivial
  focus
    iterate 5 (apply Mono.step_is; (· refine Mono.obl_mk fun w7 hE7 _ K hK => ?_; (have j1 := hE7.cell (show w1.drew.cell? _ = _ from c1)); (have i0 := hE7.cell (show w1.drew.cell? _ = _ from q0)); (have i1 := hE7.cell (show w1.drew.cell? _ = _ from q1)); clear hE7; go_wp2_with fail; simp only [Act.put, List.setIfInBounds_toArray, List.set_cons_succ, List.set_cons_zero] at hK; exact hK _ _ (Ext.refl _) (Mono.is_rfl _ _)); simp only [Act.put, List.setIfInBounds_toArray, List.set_cons_succ, List.set_cons_zero])
    refine Mono.step_end fun w5 hE5 hkn => ?_
    simp only [List.drop_succ_cons, List.drop_zero]
    clear hkn
    have hE15 := (Ext.drew w1).trans hE5
    have HSZ5 := Lib.hid (Nat.le_trans HSZ1.out hE15.size)
    have H5 := Lib.hid (H1.out.ext hE15); have HP5 := Lib.hid (HP.out.ext hE15)
    clear hE5 hE15 c0 c1 c2 q0 q1 H1 HP
    go_wp2_with fail
    refine (set_c c d n O S voteN cnt h.1 h.2 t v w5 H5.out.dk H5.out.cel H5.out.cO (by decide) hn1 HW0.out h1 h2 h3).mono ?_
    rintro e w6 ⟨rfl, O6, hd6, hcO6, hn6, hg6, hz0, hz6⟩
    rw [← HRE.out] at hd6 hz0 hz6 ⊢
    have hrO : r ∉ c :: O := fun hm => by rcases List.mem_cons.1 hm with e | e; exact H5.out.cr e.symm; exact H5.out.rO e
    have hxO : x ∉ c :: O := fun hm => by rcases List.mem_cons.1 hm with e | e; exact H5.out.cx e.symm; exact H5.out.xO e
    have hpcO : p ∉ c :: O := fun hm => by rcases List.mem_cons.1 hm with e | e; exact hpc e; exact hpO e
    have hR6 := H5.out.rb.chg hg6 hrO
    have hX6 := Blk.chg H5.out.xb hg6 hxO
    have hP6 := HP5.out.chg hg6 hpcO
    have hold : Ext w0 w6 := Chg.below H5.out.old hg6 H5.out.old.size (fun t ht => by rcases List.mem_cons.1 ht with e | e; rw [e]; exact H5.out.newc; exact H5.out.newO t e)
    have hnewO : ∀ t ∈ O6, w0.heap.size ≤ t := fun t ht => by
      rcases hn6 t ht with e | e
      · exact H5.out.newO t e
      · have := H5.out.old.size; omega
    have hrO6 := new_off hn6 H5.out.rO H5.out.rb.lt
    have hxO6 := new_off hn6 H5.out.xO (Blk.lt H5.out.xb)
    obtain ⟨c0, c1, c2⟩ := hR6.three
    obtain ⟨x0, x1, x2, x3, x4⟩ := Blk.five (show Blk w6 x #[.int .u64 h.1, .int .u64 h.2, .int .u64 m.1, .int .u64 m.2, .bool false] 70 from hX6)
    have q0 := hP6.cell 0 rfl; have q1 := hP6.cell 1 rfl
    simp only [List.getElem_toArray, List.getElem_cons_zero, List.getElem_cons_succ] at q0 q1
    have HD6 := Lib.hid hd6; have HZ0 := Lib.hid hz0; have HZ6 := Lib.hid hz6; have HR6 := Lib.hid hR6; have HX6 := Lib.hid hX6; have HP6 := Lib.hid hP6; have HOLD := Lib.hid hold; have HNO := Lib.hid hnewO
    have HSZ6 := Lib.hid (Nat.le_trans HSZ5.out hg6.size)
    clear hd6 hn6 hg6 hz0 hz6 hR6 hX6 hP6 hold hnewO hrO hxO hpcO x0 x1 x2 x3
    go_upto_block 0 with fail
    go_cut [] (fun wc => SetFin w0 w.heap.size r d c x n cnt h t v R wc)
    case first =>
      obtain ⟨R1, R2⟩ := R
      rcases HR.out with hR1 | ⟨hR1, hoff⟩
      · have hR1' : R1 = 0 := hR1
        subst hR1'
        have HC6 := Lib.hid (HZ0.out rfl)
        clear hR1 HR HZ0 HZ6 x4
        go_upto_region 7 with fail
        apply Mono.region1 5 Ext [.is _, .is _, .is _, .is _, .is _] (by kernel_rfl) Ext.refl (fun _ _ _ => Ext.trans) (by kernel_rfl) rfl rfl trivial
        focus
          iterate 5 (apply Mono.step_is; (· refine Mono.obl_mk fun w7 hE7 _ K hK => ?_; (have j2 := hE7.cell (show w6.drew.cell? _ = _ from c2)); (have i0 := hE7.cell (show w6.drew.cell? _ = _ from q0)); (have i1 := hE7.cell (show w6.drew.cell? _ = _ from q1)); clear hE7; go_wp2_with fail; simp only [Act.put, List.setIfInBounds_toArray, List.set_cons_succ, List.set_cons_zero] at hK; exact hK _ _ (Ext.refl _) (Mono.is_rfl _ _)); simp only [Act.put, List.setIfInBounds_toArray, List.set_cons_succ, List.set_cons_zero])
          refine Mono.step_end fun w7 hE7 hkn => ?_
          simp only [List.drop_succ_cons, List.drop_zero]
          clear hkn
          have hE67 := (Ext.drew w6).trans hE7
          have HX7 := Lib.hid (Blk.ext HX6.out hE67); have HE67 := Lib.hid hE67
          clear hE7 hE67 c0 c1 c2 q0 q1
          go_wp2_with fail
          refine (took_c x h m false t v w7 HX7.out).mono ?_
          rintro e w8 ⟨rfl, hx8, hg8⟩
          have hxn : NoB w7 x := NoB.blk HX7.out (by intro y hy z; simp at hy; rcases hy with rfl | rfl | rfl | rfl | rfl <;> simp)
          have HF := Lib.hid (show RunS w0 w8 r d c x (n + 1) O6 R2 (cnt + 1) (t, v) (t, v) false false from ⟨(HD6.out.ext HE67.out).chg hg8 (fun t ht => by simp at ht; subst ht; exact ⟨hxO6, .inl hxn⟩), Blk.chg (Blk.ext HC6.out HE67.out) hg8 (by simp; exact H5.out.cx), (HR6.out.ext HE67.out).chg hg8 (by simp; exact H5.out.rx), hx8, hcO6, hrO6, hxO6, H5.out.cr, H5.out.cx, H5.out.rx, Chg.below (HOLD.out.trans HE67.out) hg8 (HOLD.out.trans HE67.out).size (fun t ht => by simp at ht; subst ht; exact H5.out.newx), HNO.out, H5.out.newc, H5.out.newr, H5.out.newx⟩)
          have HSZ8 := Lib.hid (Nat.le_trans HSZ6.out (Nat.le_trans HE67.out.size hg8.size))
          clear hx8 hg8 hxn
          go_wp2_with fail
          go_meet
          exact ⟨HSZ8.out, O6, .inl ⟨rfl, HF.out⟩⟩
      · have hR1' : R1 = 6 := hR1
        subst hR1'
        have HC6 := Lib.hid (HZ6.out rfl); have HOFF := Lib.hid hoff
        clear hR1 HR HZ0 HZ6 x4 hoff
        go_wp2_with fail
        refine (down_c d (n + 1) 48 O6 [] R2 w6 HD6.out).mono ?_
        rintro e w7 ⟨rfl, rfl⟩
        rw [show R2.off = true from HOFF.out]
        go_upto_region 12 with fail
        apply Mono.region1 5 Ext [.is _, .is _, .is _, .is _, .is _] (by kernel_rfl) Ext.refl (fun _ _ _ => Ext.trans) (by kernel_rfl) rfl rfl trivial
        focus
          iterate 5 (apply Mono.step_is; (· refine Mono.obl_mk fun w8 hE8 _ K hK => ?_; (have j2 := hE8.cell (show w7.drew.cell? _ = _ from c2)); (have i0 := hE8.cell (show w7.drew.cell? _ = _ from q0)); (have i1 := hE8.cell (show w7.drew.cell? _ = _ from q1)); clear hE8; go_wp2_with fail; simp only [Act.put, List.setIfInBounds_toArray, List.set_cons_succ, List.set_cons_zero] at hK; exact hK _ _ (Ext.refl _) (Mono.is_rfl _ _)); simp only [Act.put, List.setIfInBounds_toArray, List.set_cons_succ, List.set_cons_zero])
          refine Mono.step_end fun w8 hE8 hkn => ?_
          simp only [List.drop_succ_cons, List.drop_zero]
          clear hkn
          have hE78 := (Ext.drew w7).trans hE8
          have HX8 := Lib.hid (Blk.ext HX6.out hE78); have HE78 := Lib.hid hE78
          clear hE8 hE78 c0 c1 c2 q0 q1
          go_wp2_with fail
          refine (lostw_c x h m false t v w8 HX8.out).mono ?_
          rintro e w9 ⟨rfl, hx9, hg9⟩
          have hxn : NoB w8 x := NoB.blk HX8.out (by intro y hy z; simp at hy; rcases hy with rfl | rfl | rfl | rfl | rfl <;> simp)
          have HF := Lib.hid (show RunS w0 w9 r d c x (n + 1) O6 R2 cnt h (t, v) true true from ⟨(HD6.out.ext HE78.out).chg hg9 (fun t ht => by simp at ht; subst ht; exact ⟨hxO6, .inl hxn⟩), Blk.chg (Blk.ext HC6.out HE78.out) hg9 (by simp; exact H5.out.cx), (HR6.out.ext HE78.out).chg hg9 (by simp; exact H5.out.rx), hx9, hcO6, hrO6, hxO6, H5.out.cr, H5.out.cx, H5.out.rx, Chg.below (HOLD.out.trans HE78.out) hg9 (HOLD.out.trans HE78.out).size (fun t ht => by simp at ht; subst ht; exact H5.out.newx), HNO.out, H5.out.newc, H5.out.newr, H5.out.newx⟩)
          have HSZ9 := Lib.hid (Nat.le_trans HSZ6.out (Nat.le_trans HE78.out.size hg9.size))
          clear hx9 hg9 hxn
          go_wp2_with fail
          go_meet
          exact ⟨HSZ9.out, O6, .inr ⟨rfl, HF.out⟩⟩
    case rest =>
    have hgen : ∃ n' O' S' cnt' h' m' cov' ov', RunS w0 wc r d c x n' O' S' cnt' h' m' cov' ov' := by
      obtain ⟨_, O', hc | hc⟩ := hcut
      · exact ⟨_, _, _, _, _, _, _, _, hc.2⟩
      · exact ⟨_, _, _, _, _, _, _, _, hc.2⟩
    obtain ⟨n', O', S', cnt', h', m', cov', ov', hG⟩ := hgen
    have HC := Lib.hid hcut; have HG := Lib.hid hG
    obtain ⟨e0, e1, e2⟩ := hG.rb.three
    obtain ⟨y0, y1, y2, y3, y4⟩ := Blk.five (show Blk wc x #[.int .u64 h'.1, .int .u64 h'.2, .int .u64 m'.1, .int .u64 m'.2, .bool ov'] 70 from hG.xb)
    clear hcut hG e0 y2 y3 y4 c0 c1 c2 q0 q1 x4 HR HZ0 HZ6 HD6 HR6 HX6 HP6 HOLD HNO
    go_upto_region 13 with fail
    apply Mono.region1 14 Ext [.is _, .is _, .is _, .is _, .is _, .is _, .is _, .is _, .is _, .is _, .is _, .is _, .is _, .is _] (by kernel_rfl) Ext.refl (fun _ _ _ => Ext.trans) (by kernel_rfl) rfl rfl trivial
    focus
      iterate 4 (apply Mono.step_is; (· refine Mono.obl_mk fun w7 hE7 _ K hK => ?_; (have j1 := hE7.cell (show wc.drew.cell? _ = _ from e1)); (have j2 := hE7.cell (show wc.drew.cell? _ = _ from e2)); (have i0 := hE7.cell (show wc.drew.cell? _ = _ from y0)); (have i1 := hE7.cell (show wc.drew.cell? _ = _ from y1)); clear hE7; go_wp2_with fail; simp only [Act.put, List.setIfInBounds_toArray, List.set_cons_succ, List.set_cons_zero] at hK; exact hK _ _ (Ext.refl _) (Mono.is_rfl _ _)); simp only [Act.put, List.setIfInBounds_toArray, List.set_cons_succ, List.set_cons_zero])
      apply Mono.step_is
      · refine Mono.obl_mk fun w7 hE7 _ K hK => ?_
        go_wp2_with fail
        refine (get_c c d voteN cnt' h'.1 h'.2 cov' w7 (Blk.ext HG.out.cel ((Ext.drew _).trans hE7))).mono ?_
        rintro e w8 ⟨rfl, hE8⟩
        simp only [hardV]
        go_wp2_with fail
        simp only [Act.put, List.setIfInBounds_toArray, List.set_cons_succ, List.set_cons_zero] at hK
        exact hK _ _ hE8 (Mono.is_rfl _ _)
      simp only [Act.put, List.setIfInBounds_toArray, List.set_cons_succ, List.set_cons_zero]
      iterate 9 (apply Mono.step_is; (· refine Mono.obl_mk fun w7 hE7 _ K hK => ?_; (have j1 := hE7.cell (show wc.drew.cell? _ = _ from e1)); (have j2 := hE7.cell (show wc.drew.cell? _ = _ from e2)); (have i0 := hE7.cell (show wc.drew.cell? _ = _ from y0)); (have i1 := hE7.cell (show wc.drew.cell? _ = _ from y1)); clear hE7; go_wp2_with fail; simp only [Act.put, List.setIfInBounds_toArray, List.set_cons_succ, List.set_cons_zero] at hK; exact hK _ _ (Ext.refl _) (Mono.is_rfl _ _)); simp only [Act.put, List.setIfInBounds_toArray, List.set_cons_succ, List.set_cons_zero])
      refine Mono.step_end fun w7 hE7 hkn => ?_
      simp only [List.drop_succ_cons, List.drop_zero]
      clear hkn
      have HF := Lib.hid (HC.out.ext ((Ext.drew wc).trans hE7))
      clear hE7 e1 e2 y0 y1
      go_wp2_with fail
      go_ret
      exact ⟨rfl, HF.out⟩
end Go.Proofs.YtapclkjpokbgbaaDoor
