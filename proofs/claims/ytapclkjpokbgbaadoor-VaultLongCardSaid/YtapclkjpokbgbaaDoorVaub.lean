/- tabellionlaw11: a run; begin. -/
import Derived.Test.YtapclkjpokbgbaaDoorVau8
set_option linter.unusedSimpArgs false
set_option linter.unusedVariables false
namespace Go.Proofs.YtapclkjpokbgbaaDoor
open Go Go.RowKit Go.Maps

def snapN : ByteArray := ⟨#[115, 110, 97, 112]⟩
theorem snap4 : named4 snapN = true := by decide
theorem Blk.three {w : World} {b : Nat} {e : TypeId} {c0 c1 c2 : Value} (h : Blk w b #[c0, c1, c2] e) :
    w.cell? ⟨b, 0, none⟩ = some c0 ∧ w.cell? ⟨b, 1, none⟩ = some c1 ∧ w.cell? ⟨b, 2, none⟩ = some c2 := ⟨h.cell 0 rfl, h.cell 1 rfl, h.cell 2 rfl⟩
theorem new_off11 {w : World} {O O' : List Nat} (hn : ∀ t ∈ O', t ∈ O ∨ w.heap.size ≤ t) {b : Nat} (hb : b ∉ O) (hl : b < w.heap.size) : b ∉ O' := fun hm => by
  rcases hn b hm with h | h
  · exact hb h
  · omega
section
variable {w0 w w' : World} {v d n n' : Nat} {O O' F : List Nat} {S S' : Dk} {name : ByteArray} {t : Txt} {ov : Bool} {bv : Value}
/-- Other blocks change. -/
theorem VS.chg (H : VS w0 w v d n O F S name t ov bv) {T : List Nat} (hg : Chg T w w') (hT : ∀ k ∈ T, k ∉ O ∧ k ≠ v ∧ (NoB w k ∨ k ∈ F) ∧ w0.heap.size ≤ k) : VS w0 w' v d n O F S name t ov bv :=
  ⟨H.dk.chg hg (fun k hk => ⟨(hT k hk).1, (hT k hk).2.2.1.imp id .inl⟩), Blk.chg H.vb hg (fun hm => (hT _ hm).2.1 rfl), H.rd.chgA H.offF hg (fun k hk => (hT k hk).2.2.1.imp id .inl), H.len, H.fr, H.off, H.offF, H.vO, Chg.below H.old hg H.old.size (fun k hk => (hT k hk).2.2.2), H.newO, H.newv⟩
/-- A call on the disk. -/
theorem VS.disk (H : VS w0 w v d n O F S name t ov bv) (hd : DkS w' d n' 32768 O' F S') (ht : DkTo O w w' O') : VS w0 w' v d n' O' F S' name t ov bv :=
  ⟨hd, Blk.chg H.vb ht.1 H.vO, H.rd.chg ht.1 H.off, H.len, H.fr, H.off.more H.rd ht.2.1, H.offF, new_off11 ht.2.1 H.vO (Blk.lt H.vb), ht.toExt H.old H.newO, ht.new H.newO H.old.size, H.newv⟩
/-- Foreign blocks, made since; none. -/
theorem VS.foreign (H : VS w0 w v d n O F S name t ov bv) (hE : Ext w w') {F' : List Nat} (hF : ∀ k ∈ F', k ∈ F ∨ w.heap.size ≤ k) (hl : ∀ k ∈ F', k < w'.heap.size) : VS w0 w' v d n O F' S name t ov bv :=
  ⟨H.dk.foreign hE hF hl, Blk.ext H.vb hE, H.rd.ext hE, H.len, H.fr, H.off, H.offF.more H.rd hF, H.vO, H.old.trans hE, H.newO, H.newv⟩
end
theorem rvau_nob {w : World} {x : Nat} {h m : Txt} {ov : Bool} (H : RVauB w x h m ov) : NoB w x := NoB.blk H (by intro y hy z; simp at hy; rcases hy with rfl | rfl | rfl | rfl | rfl <;> simp)
theorem run_nob {w : World} {r d v x : Nat} (H : Blk w r #[dptr d, dptr v, dptr x] 55) : NoB w r := NoB.blk H (by intro y hy z; simp at hy; rcases hy with rfl | rfl | rfl <;> simp [dptr])
/-- A run: its disk d, its vault v with the text tv, and what it may be x (ti, or m). -/
structure RunV (w0 w : World) (r d v x n : Nat) (O : List Nat) (S : Dk) (tv ti m : Txt) (vov ov : Bool) (bv : Value) : Prop where
  vs : VS w0 w v d n O [] S snapN tv vov bv
  rb : Blk w r #[dptr d, dptr v, dptr x] 55
  xb : RVauB w x ti m ov
  rO : r ∉ O
  xO : x ∉ O
  vr : v ≠ r
  vx : v ≠ x
  rx : r ≠ x
  newr : w0.heap.size ≤ r
  newx : w0.heap.size ≤ x
section
variable {w0 w w' : World} {r d v x n n' : Nat} {O O' : List Nat} {S S' : Dk} {tv ti m : Txt} {vov ov : Bool} {bv : Value}
theorem RunV.ext (H : RunV w0 w r d v x n O S tv ti m vov ov bv) (hE : Ext w w') : RunV w0 w' r d v x n O S tv ti m vov ov bv :=
  ⟨H.vs.ext hE, H.rb.ext hE, Blk.ext H.xb hE, H.rO, H.xO, H.vr, H.vx, H.rx, H.newr, H.newx⟩
theorem RunV.disk (H : RunV w0 w r d v x n O S tv ti m vov ov bv) (hd : DkS w' d n' 32768 O' [] S') (ht : DkTo O w w' O') : RunV w0 w' r d v x n' O' S' tv ti m vov ov bv :=
  ⟨H.vs.disk hd ht, H.rb.chg ht.1 H.rO, Blk.chg H.xb ht.1 H.xO, new_off11 ht.2.1 H.rO H.rb.lt, new_off11 ht.2.1 H.xO (Blk.lt H.xb), H.vr, H.vx, H.rx, H.newr, H.newx⟩
/-- What the vault may be turns. -/
theorem RunV.ref {ti' m' : Txt} {ov' : Bool} (H : RunV w0 w r d v x n O S tv ti m vov ov bv) (hx : RVauB w' x ti' m' ov') (hg : Chg [x] w w') : RunV w0 w' r d v x n O S tv ti' m' vov ov' bv :=
  ⟨H.vs.chg hg (fun k hk => by simp at hk; subst hk; exact ⟨H.xO, Ne.symm H.vx, .inl (rvau_nob H.xb), H.newx⟩), H.rb.chg hg (by simp; exact H.rx), hx, H.rO, H.xO, H.vr, H.vx, H.rx, H.newr, H.newx⟩
/-- A put. -/
theorem RunV.put {tv' : Txt} {vov' : Bool} {bv' : Value} (H : RunV w0 w r d v x n O S tv ti m vov ov bv) (hg : Chg (v :: O) w w') (hO : ∀ k ∈ O', k ∈ O ∨ w.heap.size ≤ k) (hV : VS w0 w' v d n' O' [] S' snapN tv' vov' bv') : RunV w0 w' r d v x n' O' S' tv' ti m vov' ov bv' :=
  ⟨hV, H.rb.chg hg (fun hm => (List.mem_cons.1 hm).elim (fun e => H.vr e.symm) H.rO), Blk.chg H.xb hg (fun hm => (List.mem_cons.1 hm).elim (fun e => H.vx e.symm) H.xO), new_off11 hO H.rO H.rb.lt, new_off11 hO H.xO (Blk.lt H.xb), H.vr, H.vx, H.rx, H.newr, H.newx⟩
/-- Another vault in the old one's place. -/
theorem RunV.turn {v' : Nat} {q : Txt} {vov' : Bool} {bv' : Value} (H : RunV w0 w r d v x n O S tv ti m vov ov bv) (hV : VS w0 w v' d n O [] S snapN q vov' bv') (hr : v' ≠ r) (hx : v' ≠ x) : RunV w0 (w.setCell ⟨r, 1, none⟩ (dptr v')) r d v' x n O S q ti m vov' ov bv' := by
  have hg : Chg [r] w (w.setCell ⟨r, 1, none⟩ (dptr v')) := Chg.set _ 1 _ (by simp)
  exact ⟨hV.chg hg (fun k hk => by simp at hk; subst hk; exact ⟨H.rO, Ne.symm hr, .inl (run_nob H.rb), H.newr⟩), by simpa using H.rb.set 1 (dptr v'), Blk.chg H.xb hg (by simp; exact Ne.symm H.rx), H.rO, H.xO, hr, hx, H.rx, H.newr, H.newx⟩
end
set_option maxRecDepth 100000 in
set_option maxHeartbeats 2000000 in
theorem vbegin_c (w : World) : Calls Tryd.prog 20 #[] w fun e w' => ∃ r d v x O S bv, e = .returned (dptr r) ∧ RunV w w' r d v x 1 O S ([], false) ([], false) ([], false) false false bv ∧ VInv snapN S ([], false) ∧ S.fuse = -1 ∧ S.room = 1073741824 := by
  have HV0 := Lib.hid (VInv.new snapN 1073741824)
  go_enter Tryd.func20, Tryd.ntmps20
  go_wp2_with fail
  refine (new_c 32768 1073741824 [] w (by omega) (by omega) (by simp)).mono ?_
  rintro e w1 ⟨d, rfl, hd, hE1, hdw⟩
  have HD := Lib.hid hd; have HE1 := Lib.hid hE1
  have HNO := Lib.hid (show ∀ k ∈ [d, w.heap.size, w.heap.size + 1], w.heap.size ≤ k from fun t ht => by simp at ht; omega)
  clear hd hE1 hdw
  go_upto_region 2 with fail
  obtain ⟨x, hx⟩ : ∃ x, x = w1.heap.size := ⟨_, rfl⟩
  obtain ⟨r, hr⟩ : ∃ r, r = w1.heap.size + 1 := ⟨_, rfl⟩
  obtain ⟨wa, hwa⟩ : ∃ wa, wa = w1.alloc (.cells #[.string ⟨#[]⟩, .bool false, .string ⟨#[]⟩, .bool false, .bool false] 52) := ⟨_, rfl⟩
  have hEa : Ext w1 wa := by rw [hwa]; exact Ext.alloc _ _
  have hBa : Blk wa x #[.string ⟨#[]⟩, .bool false, .string ⟨#[]⟩, .bool false, .bool false] 52 := by rw [hwa, hx]; exact Blk.new _ _ _
  have hsa : wa.heap.size = r := by rw [hwa, hr]; simp
  rw [← hwa, ← hr, ← hx]
  obtain ⟨w2, hw2⟩ : ∃ w2, w2 = wa.alloc (.cells #[dptr d, .pointer none, dptr x] 55) := ⟨_, rfl⟩
  have hE2 : Ext wa w2 := by rw [hw2]; exact Ext.alloc _ _
  have hB2 : Blk w2 r #[dptr d, .pointer none, dptr x] 55 := by rw [hw2, ← hsa]; exact Blk.new _ _ _
  rw [show (wa.alloc (.cells #[dptr d, .pointer none, .pointer (some ⟨x, 0, none⟩)] 55)) = w2 from hw2.symm]
  have hdl : ∀ t ∈ [d, w.heap.size, w.heap.size + 1], t < x := fun t ht => by rw [hx]; exact HD.out.low t ht
  have hxw : w.heap.size ≤ x := by rw [hx]; exact HE1.out.size
  have hrx : r = x + 1 := by rw [hr, hx]
  have hxO : x ∉ [d, w.heap.size, w.heap.size + 1] := fun hm => by have := hdl x hm; omega
  have hrO : r ∉ [d, w.heap.size, w.heap.size + 1] := fun hm => by have := hdl r hm; omega
  have HB2 := Lib.hid hB2; have HXB := Lib.hid (hBa.ext hE2); have HD2 := Lib.hid (HD.out.ext (hEa.trans hE2)); have HE2 := Lib.hid (HE1.out.trans (hEa.trans hE2))
  have HXO := Lib.hid hxO; have HRO := Lib.hid hrO; have HRX := Lib.hid hrx
  obtain ⟨c0, c1, c2⟩ := hB2.three
  clear hx hr hwa hEa hBa hsa hw2 hE2 hB2 hdl hxO hrO hrx
  go_wp2_with fail
  refine (vopen_s w d 0 _ (dkNew 1073741824) snapN ([], false) w2 HD2.out (by omega) snap4 HV0.out.toVOpn (by simp) HE2.out HNO.out).mono ?_
  rintro e w3 ⟨hO, hE3, O', ht3, hd3, hnO3, h⟩
  rcases hO with ⟨o1, hI3, o3, o4, _⟩ | ⟨_, o2, _⟩
  rotate_left
  · exact absurd rfl o2
  obtain ⟨S3, hS3⟩ : ∃ S3, S3 = (openV (dkNew 1073741824) snapN).2 := ⟨_, rfl⟩
  rcases h with ⟨h6, _⟩ | ⟨_, v, bv, rfl, hvn, hVS⟩
  · exact absurd (o1.symm.trans h6) (by decide)
  rw [← hS3] at hI3 o3 hVS
  have hf3 : S3.fuse = -1 := by rw [hS3]; exact o4 rfl
  have hrO' := new_off11 ht3.2.1 HRO.out HB2.out.lt
  have hxO' := new_off11 ht3.2.1 HXO.out HXB.out.lt
  have hrv : r < v := by have := HB2.out.lt; omega
  have HI3 := Lib.hid hI3; have HVS := Lib.hid hVS; have HR3 := Lib.hid o3; have HF3 := Lib.hid hf3
  have HB3 := Lib.hid (HB2.out.chg ht3.1 HRO.out); have HX3 := Lib.hid (HXB.out.chg ht3.1 HXO.out)
  clear hI3 hVS ht3 hd3 hnO3 o3 o4 hS3 o1 hvn c0 c1 c2 hf3 HXB HB2 HD2
  go_wp2_with fail
  refine (text_c v d snapN bv [] false false w3 HVS.out.vb HVS.out.rd (by simp)).mono ?_
  rintro e w4 ⟨rfl, hE4⟩
  have HVS4 := Lib.hid (HVS.out.ext hE4); have HB4 := Lib.hid (HB3.out.ext hE4); have HX4 := Lib.hid (HX3.out.ext hE4)
  obtain ⟨c0, c1, c2⟩ := HB4.out.three
  have hf4 := HB4.out.free 1
  clear hE4 HVS HB3 HX3
  simp only [textV]
  have hs0 : strOfNums [] = ⟨#[]⟩ := rfl
  rw [hs0]
  clear hs0
  go_wp2_with fail
  go_ret
  have hrx := HRX.out
  have hg : Chg [r] w4 (w4.setCell ⟨r, 1, none⟩ (dptr v)) := Chg.set _ 1 _ (by simp)
  have hR : Blk (w4.setCell ⟨r, 1, none⟩ (dptr v)) r #[dptr d, dptr v, dptr x] 55 := by simpa using HB4.out.set 1 (dptr v)
  have hrn : NoB w4 r := NoB.blk HB4.out (by intro y hy z; simp at hy; rcases hy with rfl | rfl | rfl <;> simp [dptr])
  refine ⟨r, d, v, x, O', S3, bv, rfl, ⟨HVS4.out.chg hg (fun k hk => by simp at hk; subst hk; exact ⟨hrO', by omega, .inl hrn, by omega⟩), hR, Blk.chg (show RVauB w4 x ([], false) ([], false) false from HX4.out) hg (by simp; omega), hrO', hxO', by omega, by omega, by omega, by omega, hxw⟩, HI3.out, HF3.out, HR3.out⟩
end Go.Proofs.YtapclkjpokbgbaaDoor
