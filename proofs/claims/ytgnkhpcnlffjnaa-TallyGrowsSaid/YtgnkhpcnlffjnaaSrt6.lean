/- The library's sort at numbers of 64 bits: the pivot lies in its range. -/
import Derived.Test.YtgnkhpcnlffjnaaSrt1
namespace Go.Proofs.Ytgnkhpcnlffjnaa
open Go Go.RowKit Go.Sort

/-- Block sb is a counter. -/
def Cnt (w : World) (sb : Nat) : Prop := ∃ s : Int, Blk w sb #[.int .i64 s] 3
theorem Cnt.grown {w w' : World} {sb : Nat} {r : Option Nat} (h : Cnt w sb) (hg : w.grownBy w' r) (hr : some sb ≠ r) : Cnt w' sb := by
  obtain ⟨s, hb⟩ := h; exact ⟨s, hb.grown hg hr⟩
def Ord2 (p q sb : Nat) (w : World) (en : Ending) (w' : World) : Prop :=
  (∃ x y : Nat, en = .returned (.tuple #[.int .i64 (x : Int), .int .i64 (y : Int)]) ∧ ((x = p ∧ y = q) ∨ (x = q ∧ y = p))) ∧ w.grownBy w' (some sb) ∧ Cnt w' sb
def Med3 (p q r sb : Nat) (w : World) (en : Ending) (w' : World) : Prop :=
  (∃ x : Nat, en = .returned (.int .i64 (x : Int)) ∧ (x = p ∨ x = q ∨ x = r)) ∧ w.grownBy w' (some sb) ∧ Cnt w' sb

set_option maxHeartbeats 1000000 in
theorem order2_c (g n cap p q sb : Nat) (d : Array Int) (w : World) (h : Arr w g d n) (hp : p < n) (hq : q < n) (hc : Cap n cap) (hs : Cnt w sb) :
    Calls Try.prog 43 #[.slice (some ⟨g, 0, none⟩) n cap, .int .i64 (p : Int), .int .i64 (q : Int), .pointer (some ⟨sb, 0, none⟩)] w (Ord2 p q sb w) := by
  have hc1 := hc.le
  have hc2 := hc.most
  obtain ⟨s, hs⟩ := hs
  have c0 := hs.cell 0 rfl
  have f0 := hs.free 0
  obtain ⟨x, hx⟩ : ∃ x, x = d[p]! := ⟨_, rfl⟩
  obtain ⟨y, hy⟩ : ∃ y, y = d[q]! := ⟨_, rfl⟩
  have cx := h.cell hp
  have cy := h.cell hq
  rw [← hx] at cx
  rw [← hy] at cy
  have HB := Lib.hid hs
  clear hx hy hs h
  go_enter Try.func43, Try.ntmps43
  go_wp2
  go_quiet (first | (go_at_call 32; refine Calls.quiet_of_same (less_c _ _ _)))
  go_wp2
  · go_ret2
    refine ⟨⟨q, p, rfl, Or.inr ⟨rfl, rfl⟩⟩, grown_trans1 (grown_drewN (grown_refl _ _) _) (grown_set _ _ _ _), ?_⟩
    exact ⟨_, by have := (show Blk (w.drewN nq) sb #[.int .i64 s] 3 from HB.out).set 0 (.int .i64 (wrap64 (s + 1))); simpa using this⟩
  · go_ret2
    exact ⟨⟨p, q, rfl, Or.inl ⟨rfl, rfl⟩⟩, grown_drewN (grown_refl _ _) _, s, HB.out⟩

set_option maxHeartbeats 1000000 in
theorem median_c (g n cap p q r sb : Nat) (d : Array Int) (w : World) (h : Arr w g d n) (hp : p < n) (hq : q < n) (hr : r < n) (hc : Cap n cap) (hs : Cnt w sb) (hne : sb ≠ g) :
    Calls Try.prog 41 #[.slice (some ⟨g, 0, none⟩) n cap, .int .i64 (p : Int), .int .i64 (q : Int), .int .i64 (r : Int), .pointer (some ⟨sb, 0, none⟩)] w (Med3 p q r sb w) := by
  have H := Lib.hid h; have HS := Lib.hid hs; have HC := Lib.hid hc; have HNE := Lib.hid hne
  clear h hs hc hne
  go_enter Try.func41, Try.ntmps41
  go_wp2_with fail
  refine (order2_c g n cap p q sb d w H.out hp hq HC.out HS.out).mono ?_
  rintro en w1 ⟨⟨a1, b1, rfl, h1⟩, hg1, hs1⟩
  have G1 := Lib.hid hg1; have S1 := Lib.hid hs1; have A1 := Lib.hid (H.out.grown hg1 (by have := HNE.out; intro e; exact this (Option.some.inj e).symm))
  have ha1 : a1 < n := by omega
  have hb1 : b1 < n := by omega
  have H1 := Lib.hid h1
  clear hg1 hs1 h1
  go_wp2_with fail
  refine (order2_c g n cap b1 r sb d w1 A1.out hb1 hr HC.out S1.out).mono ?_
  rintro en w2 ⟨⟨a2, b2, rfl, h2⟩, hg2, hs2⟩
  have G2 := Lib.hid (grown_trans1 G1.out hg2); have S2 := Lib.hid hs2; have A2 := Lib.hid (A1.out.grown hg2 (by have := HNE.out; intro e; exact this (Option.some.inj e).symm))
  have ha2 : a2 < n := by omega
  have H2 := Lib.hid h2
  clear hg2 hs2 h2
  go_wp2_with fail
  refine (order2_c g n cap a1 a2 sb d w2 A2.out ha1 ha2 HC.out S2.out).mono ?_
  rintro en w3 ⟨⟨a3, b3, rfl, h3⟩, hg3, hs3⟩
  have H3 := Lib.hid h3; have G3 := Lib.hid (grown_trans1 G2.out hg3); have S3 := Lib.hid hs3
  clear h3 hg3 hs3
  go_wp2_with fail
  go_ret
  have q1 := H1.out; have q2 := H2.out; have q3 := H3.out
  exact ⟨⟨b3, rfl, by omega⟩, G3.out, S3.out⟩

set_option maxHeartbeats 1000000 in
theorem medadj_c (g n cap p sb : Nat) (d : Array Int) (w : World) (h : Arr w g d n) (hp0 : 1 ≤ p) (hp : p + 1 < n) (hc : Cap n cap) (hs : Cnt w sb) (hne : sb ≠ g) :
    Calls Try.prog 40 #[.slice (some ⟨g, 0, none⟩) n cap, .int .i64 (p : Int), .pointer (some ⟨sb, 0, none⟩)] w (Med3 (p - 1) p (p + 1) sb w) := by
  have hc1 := hc.le
  have hc2 := hc.most
  have H := Lib.hid h; have HS := Lib.hid hs; have HC := Lib.hid hc; have HNE := Lib.hid hne
  clear h hs hc hne
  go_enter Try.func40, Try.ntmps40
  go_wp2_with fail
  have e1 : (p : Int) - 1 = ((p - 1 : Nat) : Int) := by omega
  have e2 : (p : Int) + 1 = ((p + 1 : Nat) : Int) := by omega
  rw [e1, e2]
  clear e1 e2
  refine (median_c g n cap (p - 1) p (p + 1) sb d w H.out (by omega) (by omega) hp HC.out HS.out HNE.out).mono ?_
  rintro en w1 ⟨⟨x, rfl, hx⟩, hg, hs1⟩
  have G1 := Lib.hid hg; have S1 := Lib.hid hs1; have HX := Lib.hid hx
  clear hg hs1 hx
  go_wp2_with fail
  go_ret
  exact ⟨⟨x, rfl, HX.out⟩, G1.out, S1.out⟩
end Go.Proofs.Ytgnkhpcnlffjnaa
