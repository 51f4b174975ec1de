/- tabellionlaw10: a run; begin, open. -/
import Derived.Test.YtapclkjpokbgbaaDoorCel7
set_option linter.unusedSimpArgs false
set_option linter.unusedVariables false
namespace Go.Proofs.YtapclkjpokbgbaaDoor
open Go Go.RowKit Go.Maps

def voteN : ByteArray := ⟨#[118, 111, 116, 101]⟩
theorem vote_named (k : Nat) : namedB (cfile voteN k) = true := by
  rcases Nat.mod_two_eq_zero_or_one k with h | h
  · rw [cfile_par _ (show k % 2 = 0 % 2 by omega)]; decide
  · rw [cfile_par _ (show k % 2 = 1 % 2 by omega)]; decide
/-- A run: its disk d, its cell c, and what it may be x; all made since w0. -/
structure RunS (w0 w : World) (r d c x n : Nat) (O : List Nat) (S : Dk) (cnt : Nat) (h m : Nat × Nat) (cov ov : Bool) : Prop where
  dk : DkS w d n 48 O [] S
  cel : CelB w c d voteN cnt h.1 h.2 cov
  rb : Blk w r #[dptr d, dptr c, dptr x] 67
  xb : RefB w x h m ov
  cO : c ∉ O
  rO : r ∉ O
  xO : x ∉ O
  cr : c ≠ r
  cx : c ≠ x
  rx : r ≠ x
  old : Ext w0 w
  newO : ∀ t ∈ O, w0.heap.size ≤ t
  newc : w0.heap.size ≤ c
  newr : w0.heap.size ≤ r
  newx : w0.heap.size ≤ x
section
variable {w0 w w' : World} {r d c x n n' cnt : Nat} {O O' : List Nat} {S S' : Dk} {h m : Nat × Nat} {cov ov : Bool}
theorem RunS.ext (H : RunS w0 w r d c x n O S cnt h m cov ov) (hE : Ext w w') : RunS w0 w' r d c x n O S cnt h m cov ov :=
  ⟨H.dk.ext hE, Blk.ext H.cel hE, H.rb.ext hE, Blk.ext H.xb hE, H.cO, H.rO, H.xO, H.cr, H.cx, H.rx, H.old.trans hE, H.newO, H.newc, H.newr, H.newx⟩
theorem new_off (hn : ∀ t ∈ O', t ∈ O ∨ w.heap.size ≤ t) {b : Nat} (hb : b ∉ O) (hl : b < w.heap.size) : b ∉ O' := fun hm => by
  rcases hn b hm with h | h
  · exact hb h
  · omega
/-- A call on the disk. -/
theorem RunS.disk (H : RunS w0 w r d c x n O S cnt h m cov ov) (hd : DkS w' d n' 48 O' [] S') (ht : DkTo O w w' O') : RunS w0 w' r d c x n' O' S' cnt h m cov ov :=
  ⟨hd, Blk.chg H.cel ht.1 H.cO, H.rb.chg ht.1 H.rO, Blk.chg H.xb ht.1 H.xO, new_off ht.2.1 H.cO (Blk.lt H.cel), new_off ht.2.1 H.rO H.rb.lt, new_off ht.2.1 H.xO (Blk.lt H.xb), H.cr, H.cx, H.rx, ht.toExt H.old H.newO, ht.new H.newO H.old.size, H.newc, H.newr, H.newx⟩
/-- What the cell may be turns. -/
theorem RunS.ref {h' m' : Nat × Nat} {ov' cov' : Bool} {cnt' : Nat} (H : RunS w0 w r d c x n O S cnt h m cov ov) (hx : RefB w' x h' m' ov') (hg : Chg [x] w w') (hc : CelB w c d voteN cnt' h'.1 h'.2 cov') : RunS w0 w' r d c x n O S cnt' h' m' cov' ov' :=
  ⟨H.dk.chg hg (fun t ht => by simp at ht; subst ht; exact ⟨H.xO, .inl (NoB.blk H.xb (by intro y hy z; simp at hy; rcases hy with rfl | rfl | rfl | rfl | rfl <;> simp))⟩), Blk.chg hc hg (by simp; exact H.cx), H.rb.chg hg (by simp; exact H.rx), hx, H.cO, H.rO, H.xO, H.cr, H.cx, H.rx, Chg.below H.old hg H.old.size (fun t ht => by simp at ht; subst ht; exact H.newx), H.newO, H.newc, H.newr, H.newx⟩
/-- Another cell in the old one's place. -/
theorem RunS.cell {c' cnt' : Nat} {h' : Nat × Nat} {ov' cov' : Bool} {m' : Nat × Nat} (H : RunS w0 w r d c x n O S cnt h m cov ov) (hc : CelB w c' d voteN cnt' h'.1 h'.2 cov') (hcO : c' ∉ O) (hcr : c' ≠ r) (hcx : c' ≠ x) (hn : w0.heap.size ≤ c') (hxx : RefB w x h' m' ov') :
    RunS w0 (w.setCell ⟨r, 1, none⟩ (dptr c')) r d c' x n O S cnt' h' m' cov' ov' := by
  have hg : Chg [r] w (w.setCell ⟨r, 1, none⟩ (dptr c')) := Chg.set _ 1 _ (by simp)
  exact ⟨H.dk.chg hg (fun t ht => by simp at ht; subst ht; exact ⟨H.rO, .inl (NoB.blk H.rb (by intro y hy z; simp at hy; rcases hy with rfl | rfl | rfl <;> simp [dptr]))⟩), Blk.chg hc hg (by simp; exact hcr), by simpa using H.rb.set 1 (dptr c'), Blk.chg hxx hg (by simp; exact Ne.symm H.rx), hcO, H.rO, H.xO, hcr, hcx, H.rx, Chg.below H.old hg H.old.size (fun t ht => by simp at ht; subst ht; exact H.newr), H.newO, hn, H.newr, H.newx⟩
end
set_option maxRecDepth 100000 in
set_option maxHeartbeats 2000000 in
theorem begin_c (w : World) : Calls Tryd.prog 24 #[] w fun e w' => ∃ r d c x O, e = .returned (dptr r) ∧ RunS w w' r d c x 0 O (dkNew 1073741824) 0 (0, 0) (0, 0) false false := by
  have hpk := (CInv.new voteN).1.pick
  have HPK := Lib.hid hpk
  clear hpk
  go_enter Tryd.func24, Tryd.ntmps24
  go_wp2_with fail
  refine (new_c 48 1073741824 [] w (by omega) (by omega) (by simp)).mono ?_
  rintro e w1 ⟨d, rfl, hd, hE1, hdw⟩
  have HD := Lib.hid hd; have HE1 := Lib.hid hE1; have HDW := Lib.hid hdw
  clear hd hE1 hdw
  go_upto_region 2 with fail
  obtain ⟨x, hx⟩ : ∃ x, x = w1.heap.size := ⟨_, rfl⟩
  obtain ⟨r, hr⟩ : ∃ r, r = w1.heap.size + 1 := ⟨_, rfl⟩
  obtain ⟨wa, hwa⟩ : ∃ wa, wa = w1.alloc (.cells #[.int .u64 0, .int .u64 0, .int .u64 0, .int .u64 0, .bool false] 70) := ⟨_, rfl⟩
  have hEa : Ext w1 wa := by rw [hwa]; exact Ext.alloc _ _
  have hBa : Blk wa x #[.int .u64 0, .int .u64 0, .int .u64 0, .int .u64 0, .bool false] 70 := by rw [hwa, hx]; exact Blk.new _ _ _
  have hsa : wa.heap.size = r := by rw [hwa, hr]; simp
  rw [← hwa, ← hr, ← hx]
  obtain ⟨w2, hw2⟩ : ∃ w2, w2 = wa.alloc (.cells #[dptr d, .pointer none, dptr x] 67) := ⟨_, rfl⟩
  have hE2 : Ext wa w2 := by rw [hw2]; exact Ext.alloc _ _
  have hB2 : Blk w2 r #[dptr d, .pointer none, dptr x] 67 := by rw [hw2, ← hsa]; exact Blk.new _ _ _
  rw [show (wa.alloc (.cells #[dptr d, .pointer none, .pointer (some ⟨x, 0, none⟩)] 67)) = w2 from hw2.symm]
  have hdl : ∀ t ∈ [d, w.heap.size, w.heap.size + 1], t < x := fun t ht => by rw [hx]; exact HD.out.low t ht
  have HB2 := Lib.hid hB2; have HXB := Lib.hid (hBa.ext hE2); have HD2 := Lib.hid (HD.out.ext (hEa.trans hE2)); have HE2 := Lib.hid (HE1.out.trans (hEa.trans hE2)); have HDL := Lib.hid hdl
  have hxw : w.heap.size ≤ x := by rw [hx]; exact HE1.out.size
  have hrx : r = x + 1 := by rw [hr, hx]
  have hrl : r < w2.heap.size := hB2.lt
  have HRX := Lib.hid hrx
  obtain ⟨c0, c1, c2⟩ := hB2.three
  clear hx hr hwa hEa hBa hsa hw2 hE2 hB2 hdl hrx
  go_wp2_with fail
  refine (open_ok d 0 48 _ [] (dkNew 1073741824) voteN w2 HD2.out (by omega) (by decide) rfl rfl).mono ?_
  rintro e w3 ⟨c, rfl, hcw, hC, hE3⟩
  rw [HPK.out] at hC
  have HC := Lib.hid hC; have HE3 := Lib.hid hE3
  replace c0 := hE3.cell c0; replace c1 := hE3.cell c1; replace c2 := hE3.cell c2
  have hf := (HB2.out.ext hE3).free 1
  have hcr : r < c := by omega
  clear hC hE3 hcw hrl
  go_wp2_with fail
  refine (get_c c d voteN 0 0 0 false w3 HC.out).mono ?_
  rintro e w4 ⟨rfl, hE4⟩
  have HE4 := Lib.hid (HE3.out.trans hE4); have HC4 := Lib.hid (Blk.ext HC.out hE4)
  have hf4 := (HB2.out.ext HE4.out).free 1
  replace c0 := hE4.cell c0; replace c1 := hE4.cell c1; replace c2 := hE4.cell c2
  clear hE4 hf
  simp only [hardV]
  go_wp2_with fail
  go_ret
  have hg : Chg [r] w4 (w4.setCell ⟨r, 1, none⟩ (dptr c)) := Chg.set _ 1 _ (by simp)
  have hR : Blk (w4.setCell ⟨r, 1, none⟩ (dptr c)) r #[dptr d, dptr c, dptr x] 67 := by simpa using (HB2.out.ext HE4.out).set 1 (dptr c)
  have hrn : NoB w4 r := NoB.blk (HB2.out.ext HE4.out) (by intro y hy z; simp at hy; rcases hy with rfl | rfl | rfl <;> simp [dptr])
  have hrO : r ∉ [d, w.heap.size, w.heap.size + 1] := fun hm => by have := HDL.out r hm; have := HRX.out; omega
  have hnd : ∀ t ∈ [d, w.heap.size, w.heap.size + 1], w.heap.size ≤ t := fun t ht => by simp at ht; have := HDW.out; omega
  refine ⟨r, d, c, x, _, rfl, ⟨(HD2.out.ext HE4.out).chg hg (fun t ht => by simp at ht; subst ht; exact ⟨hrO, .inl hrn⟩), Blk.chg HC4.out hg (by simp; omega), hR, Blk.chg (HXB.out.ext HE4.out) hg (by simp; have := HRX.out; omega), fun hm => by have := HDL.out c hm; have := HRX.out; omega, hrO, fun hm => by have := HDL.out x hm; omega, by omega, by have := HRX.out; omega, by have := HRX.out; omega, Chg.below (HE2.out.trans HE4.out) hg (HE2.out.trans HE4.out).size (fun t ht => by simp at ht; subst ht; have := HRX.out; omega), hnd, by have := HRX.out; omega, by have := HRX.out; omega, hxw⟩⟩
end Go.Proofs.YtapclkjpokbgbaaDoor
