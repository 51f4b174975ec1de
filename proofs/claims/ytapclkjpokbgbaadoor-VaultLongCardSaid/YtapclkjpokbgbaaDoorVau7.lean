/- tabellionlaw11: awake. -/
import Derived.Test.YtapclkjpokbgbaaDoorVauP
set_option linter.unusedSimpArgs false
set_option linter.unusedVariables false
namespace Go.Proofs.YtapclkjpokbgbaaDoor
open Go Go.RowKit Go.Maps

/-- A vault of a disk, with its text. -/
structure VS (w0 w : World) (v d n : Nat) (O F : List Nat) (S : Dk) (name : ByteArray) (t : Txt) (ov : Bool) (bv : Value) : Prop where
  dk : DkS w d n 32768 O F S
  vb : VauB w v d name bv t.2 ov
  rd : Rd w bv (u8s t.1)
  len : t.1.length ≤ 32768
  fr : From w0.heap.size bv
  off : OffL bv (u8s t.1) O
  offF : OffL bv (u8s t.1) F
  vO : v ∉ O
  old : Ext w0 w
  newO : ∀ k ∈ O, w0.heap.size ≤ k
  newv : w0.heap.size ≤ v
theorem VS.ext {w0 w w' : World} {v d n : Nat} {O F : List Nat} {S : Dk} {name : ByteArray} {t : Txt} {ov : Bool} {bv : Value} (H : VS w0 w v d n O F S name t ov bv) (hE : Ext w w') : VS w0 w' v d n O F S name t ov bv :=
  ⟨H.dk.ext hE, Blk.ext H.vb hE, H.rd.ext hE, H.len, H.fr, H.off, H.offF, H.vO, H.old.trans hE, H.newO, H.newv⟩
/-- Opened on a disk where nothing waits. -/
theorem vopen_s (w0 : World) (d n : Nat) (O : List Nat) (S : Dk) (name : ByteArray) (t : Txt) (w : World) (hd : DkS w d n 32768 O [] S) (hn : n < 100000) (hnm : named4 name = true) (hV : VOpn name S t) (hl : t.1.length ≤ 32768) (h0 : Ext w0 w) (hO : ∀ k ∈ O, w0.heap.size ≤ k) :
    Calls Tryd.prog 16 #[dptr d, .string name] w fun e w' => OpenOut name S t (openV S name) ∧ Ext w0 w' ∧ ∃ O', DkTo O w w' O' ∧ DkS w' d (n + 1) 32768 O' [] (openV S name).2 ∧ (∀ k ∈ O', w0.heap.size ≤ k) ∧
      ((openV S name).1 = 6 ∧ e = .returned (.tuple #[.pointer none, .int .i64 6]) ∨ (openV S name).1 = 0 ∧ ∃ v bv, e = .returned (.tuple #[dptr v, .int .i64 0]) ∧ w.heap.size ≤ v ∧ VS w0 w' v d (n + 1) O' [] (openV S name).2 name t false bv) := by
  refine (vopen_c d n 32768 O [] S name w hd (by omega) (by rw [hV.waits]; simp) (by omega) hnm hV.off).mono ?_
  rintro e w' ⟨O', h1, h2, h3⟩
  have hE := h2.toExt h0 hO
  have hO' := h2.new hO h0.size
  refine ⟨hV.open, hE, O', h2, h1, hO', ?_⟩
  rcases h3 with h3 | ⟨h3, v, bv, rfl, hv, hvO, hb, hr, hf, ho, _⟩
  · exact .inl h3
  · rw [hV.read.1] at hr ho
    rw [hV.read.2] at hb
    exact .inr ⟨h3, v, bv, rfl, hv, h1, hb, hr, hl, hf.mono h0.size, ho, (fun _ _ _ _ _ h => by cases h), hvO, hE, hO', Nat.le_trans h0.size hv⟩
/-- A put of a text within the limit, on a quiet disk. -/
theorem vput_s (w0 : World) (v d n : Nat) (O F : List Nat) (S : Dk) (name : ByteArray) (t : Txt) (cv bv : Value) (b : List Int) (w : World) (H : VS w0 w v d n O F S name t false cv) (hn : n ≤ 1000) (hnm : named4 name = true) (hV : VInv name S t) (hu : (usedF S.now : Int) + b.length ≤ S.room) (hb : Rd w bv (u8s b)) (hbO : OffL bv (u8s b) O) (hb8 : B8 b) (hbl : b.length ≤ 32768) :
    Calls Tryd.prog 17 #[dptr v, bv] w fun e w' => PutOut name S t b (putV S name b) ∧ e = .returned (.int .i64 (putV S name b).1) ∧ Chg (v :: O) w w' ∧
      ∃ O', (∀ k ∈ O', k ∈ O ∨ w.heap.size ≤ k) ∧ ∃ cv', ((putV S name b).1 = 0 ∧ VS w0 w' v d (n + 2) O' F (putV S name b).2 name (b, true) false cv' ∧ From w.heap.size cv' ∨ (putV S name b).1 = 6 ∧ VS w0 w' v d (n + 2) O' F (putV S name b).2 name t true cv') := by
  refine (vput_c v d n 32768 O F S name cv t.2 b bv w H.dk H.vb H.rd.shape H.vO hnm (by omega) (by rw [hV.waits]; simp) (by omega) (by omega) hb hbO hb8 hbl).mono ?_
  rintro e w' ⟨rfl, O', h1, h2, h3, h4, h5, h6⟩
  have hP := hV.put hnm hu
  have hE : Ext w0 w' := Chg.below H.old h4 H.old.size (fun k hk => by rcases List.mem_cons.1 hk with e | e; rw [e]; exact H.newv; exact H.newO k e)
  have hO' : ∀ k ∈ O', w0.heap.size ≤ k := fun k hk => by
    rcases h3 k hk with e | e
    · exact H.newO k e
    · exact Nat.le_trans H.old.size e
  refine ⟨hP, rfl, h4, O', h3, ?_⟩
  rcases hP with ⟨p1, p2⟩ | ⟨p1, p2⟩
  · obtain ⟨bv', k1, k2, k3, k4⟩ := h5 p1
    exact ⟨bv', .inl ⟨p1, ⟨h1, k1, k2, hbl, k3.mono H.old.size, k4, k3.off (fun k hk => H.dk.lowF k hk), h2, hE, hO', H.newv⟩, k3⟩⟩
  · have k1 := h6 (by rw [p1]; decide)
    rw [p1] at k1
    have hvx : ∀ a n c, cv = .slice (some a) n c → u8s t.1 ≠ [] → a.block ≠ v := by
      intro a n c e hne e2
      obtain ⟨a', c', hv', _, _, h3⟩ := H.rd
      rcases h3 with h3 | ⟨b', o, ha, hc⟩
      · exact hne h3
      · rw [e] at hv'
        injection hv' with x1 x2 x3
        rw [ha] at x1
        injection x1 with x1
        have hpos : 0 < (u8s t.1).length := by cases hh : u8s t.1 with | nil => exact absurd hh hne | cons _ _ => simp
        have := hc 0 _ (List.getElem?_eq_getElem hpos)
        rw [x1] at e2
        simp only at e2
        rw [e2] at this
        have hnb := vau_nob H.vb H.rd.shape
        refine hnb (o + 0) ((t.1)[0]'(by simpa [u8s] using hpos)) ?_
        rw [this]; simp [u8s]
    exact ⟨cv, .inr ⟨p1, h1, k1, H.rd.chg h4 (fun a n c e hne hm => by
      rcases List.mem_cons.1 hm with e2 | e2
      · exact hvx a n c e hne e2
      · exact H.off a n c e hne e2), H.len, H.fr, H.off.more H.rd h3, H.offF, h2, hE, hO', H.newv⟩⟩
end Go.Proofs.YtapclkjpokbgbaaDoor
