/- The library's sort at numbers of 64 bits: choosePivot. -/
import Derived.Test.YtgnkhpcnlffjnaaSrt6
namespace Go.Proofs.Ytgnkhpcnlffjnaa
open Go Go.RowKit Go.Sort

def Piv (g n a b : Nat) (d : Array Int) (w : World) (en : Ending) (w' : World) : Prop :=
  (∃ (p : Nat) (h : Int), en = .returned (.tuple #[.int .i64 (p : Int), .int .i64 h]) ∧ a ≤ p ∧ p < b) ∧ At w g n d w'

theorem piv_at {w w' : World} {g n sb : Nat} {d : Array Int} (h : Arr w g d n) (hE : Ext w w') : At w g n d w' := by
  refine ⟨Ext.grownBy hE _, h.grown (r := none) (Ext.grownBy hE _) (by simp)⟩

set_option maxHeartbeats 4000000 in
theorem pivot_c (g n cap a b : Nat) (d : Array Int) (w : World) (h : Arr w g d n) (hab : a < b) (hb : b ≤ n) (hc : Cap n cap) :
    Calls Try.prog 29 #[.slice (some ⟨g, 0, none⟩) n cap, .int .i64 (a : Int), .int .i64 (b : Int)] w (Piv g n a b d w) := by
  have hc1 := hc.le
  have hc2 := hc.most
  obtain ⟨L, rfl⟩ : ∃ L, b = a + L := ⟨b - a, by omega⟩
  have H := Lib.hid h; have HC := Lib.hid hc
  have hlt := h.lt
  have hA0 := h.grown (r := none) (Ext.grownBy (Ext.alloc w (.cells #[.int .i64 0] 3)) _) (by simp)
  have hS0 : Cnt (w.alloc (.cells #[.int .i64 0] 3)) w.heap.size := ⟨0, Blk.new _ _ _⟩
  have hE0 := Ext.alloc w (.cells #[.int .i64 0] 3)
  have HA0 := Lib.hid hA0; have HS0 := Lib.hid hS0; have HE0 := Lib.hid hE0
  clear h hc hA0 hS0 hE0
  go_enter Try.func29, Try.ntmps29
  go_upto_region 6 with fail
  have e1 : (a : Int) + (L : Int) - (a : Int) = (L : Int) := by omega
  rw [e1]
  obtain ⟨i, hi⟩ : ∃ i : Nat, i = a + L / 4 := ⟨_, rfl⟩
  obtain ⟨j, hj⟩ : ∃ j : Nat, j = a + L / 4 * 2 := ⟨_, rfl⟩
  obtain ⟨k, hk⟩ : ∃ k : Nat, k = a + L / 4 * 3 := ⟨_, rfl⟩
  have ei : (a : Int) + (L : Int) / 4 = (i : Int) := by omega
  have ej : (a : Int) + (L : Int) / 4 * 2 = (j : Int) := by omega
  have ek : (a : Int) + (L : Int) / 4 * 3 = (k : Int) := by omega
  rw [ei, ej, ek]
  have hj0 : a ≤ j ∧ j < a + L := by omega
  obtain ⟨hj1, hj2⟩ := hj0
  have hbn := hb
  by_cases h8 : 8 ≤ L
  · have hijk : a + 2 ≤ i ∧ i < a + L - 1 ∧ a + 2 ≤ j ∧ j < a + L - 1 ∧ a + 2 ≤ k ∧ k < a + L - 1 := by omega
    obtain ⟨g1, g2, g3, g4, g5, g6⟩ := hijk
    clear e1 ei ej ek hi hj hk
    by_cases h50 : 50 ≤ L
    · go_wp2_with fail
      refine (medadj_c g n cap i w.heap.size d _ HA0.out (by omega) (by omega) HC.out HS0.out (by omega)).mono ?_
      rintro en w1 ⟨⟨x1, rfl, hx1⟩, hg1, hs1⟩
      have hx1' : a < x1 ∧ x1 < a + L := by omega
      obtain ⟨p1, p2⟩ := hx1'
      have hE1 : Ext w w1 := Below.grown HE0.out hg1 HE0.out.size fun k hk => by cases hk; exact Nat.le_refl _
      have A1 := Lib.hid (HA0.out.grown hg1 (by intro e; have := Option.some.inj e; omega)); have S1 := Lib.hid hs1; have E1 := Lib.hid hE1
      clear hx1 hg1 hs1 hE1
      go_wp2_with fail
      refine (medadj_c g n cap j w.heap.size d _ A1.out (by omega) (by omega) HC.out S1.out (by omega)).mono ?_
      rintro en w2 ⟨⟨x2, rfl, hx2⟩, hg2, hs2⟩
      have hx2' : a < x2 ∧ x2 < a + L := by omega
      obtain ⟨p3, p4⟩ := hx2'
      have hE2 : Ext w w2 := Below.grown E1.out hg2 E1.out.size fun k hk => by cases hk; exact Nat.le_refl _
      have A2 := Lib.hid (A1.out.grown hg2 (by intro e; have := Option.some.inj e; omega)); have S2 := Lib.hid hs2; have E2 := Lib.hid hE2
      clear hx2 hg2 hs2 hE2
      go_wp2_with fail
      refine (medadj_c g n cap k w.heap.size d _ A2.out (by omega) (by omega) HC.out S2.out (by omega)).mono ?_
      rintro en w3 ⟨⟨x3, rfl, hx3⟩, hg3, hs3⟩
      have hx3' : a < x3 ∧ x3 < a + L := by omega
      obtain ⟨p5, p6⟩ := hx3'
      have hE3 : Ext w w3 := Below.grown E2.out hg3 E2.out.size fun k hk => by cases hk; exact Nat.le_refl _
      have A3 := Lib.hid (A2.out.grown hg3 (by intro e; have := Option.some.inj e; omega)); have S3 := Lib.hid hs3; have E3 := Lib.hid hE3
      clear hx3 hg3 hs3 hE3
      go_wp2_with fail
      refine (median_c g n cap x1 x2 x3 w.heap.size d _ A3.out (by omega) (by omega) (by omega) HC.out S3.out (by omega)).mono ?_
      rintro en w4 ⟨⟨x4, rfl, hx4⟩, hg4, hs4⟩
      have hx4' : a < x4 ∧ x4 < a + L := by omega
      obtain ⟨p7, p8⟩ := hx4'
      have hE4 : Ext w w4 := Below.grown E3.out hg4 E3.out.size fun k hk => by cases hk; exact Nat.le_refl _
      have S4 := Lib.hid hs4; have E4 := Lib.hid hE4
      clear hx4 hg4 hs4 hE4
      obtain ⟨s, hs⟩ := S4.out
      have cs := hs.cell 0 rfl
      have HE9 : Hid (Ext w w4) := Lib.hid (E4.out)
      clear hs
      go_wp2_with fail
      all_goals
        go_ret2
        exact ⟨⟨x4, _, rfl, by omega, by omega⟩, piv_at (sb := 0) H.out HE9.out⟩
    · go_wp2_with fail
      refine (median_c g n cap i j k w.heap.size d _ HA0.out (by omega) (by omega) (by omega) HC.out HS0.out (by omega)).mono ?_
      rintro en w4 ⟨⟨x4, rfl, hx4⟩, hg4, hs4⟩
      have hx4' : a < x4 ∧ x4 < a + L := by omega
      obtain ⟨p7, p8⟩ := hx4'
      have hE4 : Ext w w4 := Below.grown HE0.out hg4 HE0.out.size fun k hk => by cases hk; exact Nat.le_refl _
      have S4 := Lib.hid hs4; have E4 := Lib.hid hE4
      clear hx4 hg4 hs4 hE4
      obtain ⟨s, hs⟩ := S4.out
      have cs := hs.cell 0 rfl
      have HE9 : Hid (Ext w w4) := Lib.hid (E4.out)
      clear hs
      go_wp2_with fail
      all_goals
        go_ret2
        exact ⟨⟨x4, _, rfl, by omega, by omega⟩, piv_at (sb := 0) H.out HE9.out⟩
  · clear e1 ei ej ek hi hj hk
    obtain ⟨s, hs⟩ := HS0.out
    have cs := hs.cell 0 rfl
    have HE9 : Hid (Ext w (w.alloc (.cells #[.int .i64 0] 3))) := Lib.hid (HE0.out)
    clear hs
    go_wp2_with fail
    all_goals
      go_ret2
      exact ⟨⟨j, _, rfl, by omega, by omega⟩, piv_at (sb := 0) H.out HE9.out⟩
end Go.Proofs.Ytgnkhpcnlffjnaa
