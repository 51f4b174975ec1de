/- The library's sort at numbers of 64 bits: breakPatterns. -/
import Derived.Test.YtgnkhpcnlffjnaaSrt1
import Derived.Test.YtgnkhpcnlffjnaaShelf
import Derived.Sort.Walk7a
import Derived.Laws.ShiftsVar
namespace Go.Proofs.Ytgnkhpcnlffjnaa
open Go Go.RowKit Go.Sort

theorem xor_rng (a b : Int) : 0 ≤ bits .xor .u64 a b ∧ bits .xor .u64 a b < 18446744073709551616 := by
  show 0 ≤ IntKind.u64.wrap _ ∧ IntKind.u64.wrap _ < _
  rw [IntKind.wrap_u64]; omega
theorem and_rng (a b : Int) (hb : 0 ≤ b ∧ b < 18446744073709551616) : 0 ≤ bits .and .u64 a b ∧ bits .and .u64 a b ≤ b := by
  show 0 ≤ IntKind.u64.wrap ((BitVec.ofInt 64 a &&& BitVec.ofInt 64 b).toNat : Int) ∧ IntKind.u64.wrap ((BitVec.ofInt 64 a &&& BitVec.ofInt 64 b).toNat : Int) ≤ b
  obtain ⟨m, rfl⟩ := Int.eq_ofNat_of_zero_le hb.1
  have h2 : (BitVec.ofInt 64 (m : Int)).toNat = m := by
    rw [BitVec.ofInt_natCast, BitVec.toNat_ofNat]; exact Nat.mod_eq_of_lt (by omega)
  rw [BitVec.toNat_and, h2, IntKind.wrap_u64]
  have := @Nat.and_le_right (BitVec.ofInt 64 a).toNat m
  omega

set_option maxHeartbeats 1000000 in
theorem next_c (rb : Nat) (X : Int) (w : World) (hX : 0 ≤ X ∧ X < 18446744073709551616) (hB : Blk w rb #[.int .u64 X] 67) :
    Calls Try.prog 39 #[.pointer (some ⟨rb, 0, none⟩)] w fun en w' => ∃ Y : Int, en = .returned (.int .u64 Y) ∧ (0 ≤ Y ∧ Y < 18446744073709551616) ∧ w.grownBy w' (some rb) ∧ Blk w' rb #[.int .u64 Y] 67 := by
  obtain ⟨A, hA⟩ : ∃ A, bits .xor .u64 X (IntKind.u64.wrap (X * 8192)) = A := ⟨_, rfl⟩
  obtain ⟨B, hB2⟩ : ∃ B, bits .xor .u64 A (A / 128) = B := ⟨_, rfl⟩
  obtain ⟨C, hC⟩ : ∃ C, bits .xor .u64 B (IntKind.u64.wrap (B * 131072)) = C := ⟨_, rfl⟩
  have rA := xor_rng X (IntKind.u64.wrap (X * 8192))
  have rB := xor_rng A (A / 128)
  have rC := xor_rng B (IntKind.u64.wrap (B * 131072))
  rw [hA] at rA
  rw [hB2] at rB
  rw [hC] at rC
  obtain ⟨rA1, rA2⟩ := rA
  obtain ⟨rB1, rB2⟩ := rB
  obtain ⟨hX1, hX2⟩ := hX
  have RC := Lib.hid rC
  have c0 := hB.cell 0 rfl
  have f0 := hB.free 0
  have HB := Lib.hid (hB.set 0 (.int .u64 C))
  have hss : ∀ v v', (w.setCell ⟨rb, 0, none⟩ v).setCell ⟨rb, 0, none⟩ v' = w.setCell ⟨rb, 0, none⟩ v' := setCell_setCell w rb 0
  clear rC hB
  go_enter Try.func39, Try.ntmps39
  go_wp2
  go_region
  all_goals go_wp2
  all_goals go_region
  all_goals go_wp2
  all_goals go_region
  all_goals go_wp2
  go_ret
  have hb : Blk (w.setCell ⟨rb, 0, none⟩ (.int .u64 C)) rb #[.int .u64 C] 67 := by simpa using HB.out
  exact ⟨C, rfl, RC.out, grown_drew (grown_drew (grown_drew (grown_set _ _ _ _))), hb⟩

theorem nextpow_c (n : Nat) (hn : n < 4611686018427387904) (w : World) :
    Calls Try.prog 38 #[.int .i64 (n : Int)] w fun e w' => e = .returned (.int .u64 ((1 <<< bitsLen n : Nat) : Int)) ∧ w' = w := by
  have hLen : ∀ w, Calls Try.prog 24 #[.int .u64 (n : Int)] w fun e w' => e = .returned (.int .i64 (bitsLen n : Nat)) ∧ w' = w := fun w => by
    have h := Try.bits_Len (n : Int) w (by omega) (by omega)
    rwa [Int.toNat_natCast, bitLen_eq _ (by omega)] at h
  have hk : bitsLen n ≤ 62 := (bitsLen_le_iff n 62).2 (by omega)
  have hp := wrap_two_pow (bitsLen n) hk
  go_enter Try.func38, Try.ntmps38
  go_wp2_with (first | (go_at_call 24; refine (hLen _).mono ?_; rintro e w' ⟨rfl, rfl⟩))
  go_ret
  exact ⟨rfl, rfl⟩

theorem pow_rng (L : Nat) (h8 : 8 ≤ L) : L < 1 <<< bitsLen L ∧ 1 <<< bitsLen L ≤ 2 * L := by
  rw [Nat.one_shiftLeft]
  exact ⟨lt_two_pow_bitsLen L, two_pow_bitsLen_le (by omega)⟩
def BreakP (g n a b : Nat) (d : Array Int) (w : World) (en : Ending) (w' : World) : Prop := ∃ d', PermIn a b d d' ∧ SortP g n d' w en w'

set_option maxHeartbeats 4000000 in
theorem break_c (g n cap a b : Nat) (d : Array Int) (w : World) (h : Arr w g d n) (hab : a ≤ b) (hb : b ≤ n) (hc : Cap n cap) :
    Calls Try.prog 28 #[.slice (some ⟨g, 0, none⟩) n cap, .int .i64 (a : Int), .int .i64 (b : Int)] w (BreakP g n a b d w) := by
  have hc1 := hc.le
  have hc2 := hc.most
  obtain ⟨L, rfl⟩ : ∃ L, b = a + L := ⟨b - a, by omega⟩
  have H := Lib.hid h
  have hlt := h.lt
  have hsz := h.size
  have HSZ := Lib.hid hsz
  clear h hsz
  by_cases h8 : 8 ≤ L
  · obtain ⟨M, hM⟩ : ∃ M, M = 1 <<< bitsLen L := ⟨_, rfl⟩
    have hM2 := pow_rng L h8
    rw [← hM] at hM2
    obtain ⟨hM3, hM4⟩ := hM2
    have HM := Lib.hid hM
    clear hM
    have hA0 : At w g n d (w.alloc (.cells #[.int .u64 (L : Int)] 67)) := ⟨Ext.grownBy (Ext.alloc _ _) _, H.out.grown (r := none) (Ext.grownBy (Ext.alloc _ _) _) (by simp)⟩
    have hB0 : Blk (w.alloc (.cells #[.int .u64 (L : Int)] 67)) w.heap.size #[.int .u64 (L : Int)] 67 := Blk.new _ _ _
    have HA0 := Lib.hid hA0; have HB0 := Lib.hid hB0
    clear hA0 hB0
    go_enter Try.func28, Try.ntmps28
    go_upto_region 1 with fail
    have e1 : (a : Int) + (L : Int) - (a : Int) = (L : Int) := by omega
    rw [e1]
    have e2 : IntKind.u64.wrap (L : Int) = (L : Int) := by rw [IntKind.wrap_u64]; omega
    go_wp2_with fail
    refine (nextpow_c L (by omega) _).mono ?_
    rintro en w1 ⟨rfl, rfl⟩
    rw [← HM.out]
    clear e2
    go_wp2_with fail
    have HSM : Hid (IntKind.u64.wrap ((M : Int) - 1) = (M : Int) - 1) := Lib.hid (by rw [IntKind.wrap_u64]; omega)
    go_loopg [9] 3 (fun gh v wr => ∃ (i : Nat) (dk : Array Int) (X : Int), v = .int .i64 (i : Int) ∧ i + gh = a + L / 4 * 2 + 2 ∧ a + L / 4 * 2 ≤ i + 1 ∧ PermIn a (a + L) d dk ∧ At w g n dk wr ∧ Blk wr w.heap.size #[.int .u64 X] 67 ∧ 0 ≤ X ∧ X < 18446744073709551616)
    case atStart => exact ⟨a + L / 4 * 2 - 1, d, (L : Int), by congr 1; omega, by omega, by omega, permIn_refl _ _ _, HA0.out, HB0.out, by omega, by omega⟩
    case round =>
      obtain ⟨i, dk, X, rfl, hi1, hi2, hP, hA, hB, hX1, hX2⟩ := hrel
      have HP := Lib.hid hP; have HA := Lib.hid hA; have HB := Lib.hid hB
      clear hP hA hB
      by_cases hle : i ≤ a + L / 4 * 2 + 1
      · have hlz : (i : Int) ≤ (a : Int) + (L : Int) / 4 * 2 + 1 := by omega
        go_wp2_with fail
        refine (next_c w.heap.size X wr ⟨hX1, hX2⟩ HB.out).mono ?_
        rintro en w2 ⟨Y, rfl, ⟨hY1, hY2⟩, hg2, hB2⟩
        have hA2 : At w g n dk w2 := ⟨grown_trans HA.out.ex hg2 (.inr fun i hi => by have := Option.some.inj hi; omega), HA.out.arr.grown hg2 (by intro e; have := Option.some.inj e; omega)⟩
        have hand := and_rng Y ((M : Int) - 1) ⟨by omega, by omega⟩
        obtain ⟨o, ho⟩ := Int.eq_ofNat_of_zero_le hand.1
        rw [ho] at hand
        have ho2 : o + 1 ≤ M := by omega
        have HA2 := Lib.hid hA2; have HB2 := Lib.hid hB2
        clear hA2 hg2 hB2 hand
        have hin : a ≤ i ∧ i < a + L := by omega
        obtain ⟨hin1, hin2⟩ := hin
        obtain ⟨x, hx⟩ : ∃ x, x = dk[i]! := ⟨_, rfl⟩
        have cx := HA2.out.arr.cell (t := i) (by omega)
        rw [← hx] at cx
        have fx := HA2.out.arr.free i
        have HX := Lib.hid hx
        clear hx
        by_cases hoL : L ≤ o
        · obtain ⟨q, rfl⟩ : ∃ q, o = L + q := ⟨o - L, by omega⟩
          obtain ⟨y, hy⟩ : ∃ y, y = dk[a + q]! := ⟨_, rfl⟩
          have cy := HA2.out.arr.cell (t := a + q) (by omega)
          rw [← hy] at cy
          have fy := HA2.out.arr.free (a + q)
          obtain ⟨v1, hv1⟩ := cell?_setCell_some (w := w2) (p := ⟨g, i, none⟩) (x := .int .u64 y) (q := ⟨g, a + q, none⟩) (v := .int .u64 y) cy
          have HSW := Lib.hid (HA2.out.swap HX.out hy (by omega) (by omega))
          have HP2 := Lib.hid (permIn_trans _ _ _ _ _ HP.out (swp_permIn dk a (a + L) i (a + q) (by omega) (by omega) (by omega) (by omega) (by rw [HA2.out.arr.size]; omega)))
          clear hy
          have HB3 : Hid (∀ u v : Value, Blk ((w2.drew.setCell ⟨g, i, none⟩ u).setCell ⟨g, a + q, none⟩ v) w.heap.size #[.int .u64 Y] 67) := Lib.hid fun u v => ((show Blk w2.drew w.heap.size #[.int .u64 Y] 67 from HB2.out).other _ _ (by simp; omega)).other _ _ (by simp; omega)
          go_wp2_with fail
          rw [show (L : Int) + (q : Int) - (L : Int) = (q : Int) by omega]
          go_region
          go_wp2
          go_roundg (gk - 1)
          case rel => exact ⟨i + 1, _, Y, rfl, by omega, by omega, HP2.out, HSW.out, HB3.out _ _, hY1, hY2⟩
          case measure => omega
        · obtain ⟨y, hy⟩ : ∃ y, y = dk[a + o]! := ⟨_, rfl⟩
          have cy := HA2.out.arr.cell (t := a + o) (by omega)
          rw [← hy] at cy
          have fy := HA2.out.arr.free (a + o)
          obtain ⟨v1, hv1⟩ := cell?_setCell_some (w := w2) (p := ⟨g, i, none⟩) (x := .int .u64 y) (q := ⟨g, a + o, none⟩) (v := .int .u64 y) cy
          have HSW := Lib.hid (HA2.out.swap HX.out hy (by omega) (by omega))
          have HP2 := Lib.hid (permIn_trans _ _ _ _ _ HP.out (swp_permIn dk a (a + L) i (a + o) (by omega) (by omega) (by omega) (by omega) (by rw [HA2.out.arr.size]; omega)))
          clear hy
          have HB3 : Hid (∀ u v : Value, Blk ((w2.drew.setCell ⟨g, i, none⟩ u).setCell ⟨g, a + o, none⟩ v) w.heap.size #[.int .u64 Y] 67) := Lib.hid fun u v => ((show Blk w2.drew w.heap.size #[.int .u64 Y] 67 from HB2.out).other _ _ (by simp; omega)).other _ _ (by simp; omega)
          go_wp2_with fail
          go_region
          go_wp2
          go_roundg (gk - 1)
          case rel => exact ⟨i + 1, _, Y, rfl, by omega, by omega, HP2.out, HSW.out, HB3.out _ _, hY1, hY2⟩
          case measure => omega
      · have hlz : ¬ ((i : Int) ≤ (a : Int) + (L : Int) / 4 * 2 + 1) := by omega
        go_wp2
        go_end0
        exact ⟨dk, HP.out, rfl, HA.out⟩
  · go_enter Try.func28, Try.ntmps28
    go_upto_region 1 with fail
    have e1 : (a : Int) + (L : Int) - (a : Int) = (L : Int) := by omega
    rw [e1]
    go_wp2
    go_end0
    exact ⟨d, permIn_refl _ _ _, rfl, At.refl H.out⟩
end Go.Proofs.Ytgnkhpcnlffjnaa
