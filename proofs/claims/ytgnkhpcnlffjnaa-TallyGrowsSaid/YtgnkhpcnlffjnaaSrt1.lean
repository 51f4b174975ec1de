/- The library's sort at numbers of 64 bits: Less, the reversal, the insertion sort. -/
import Derived.Test.YtgnkhpcnlffjnaaSort0
import Derived.Test.YtgnkhpcnlffjnaaProg
import Derived.Sort.WalkA
namespace Go.Proofs.Ytgnkhpcnlffjnaa
open Go Go.RowKit Go.Sort

theorem less_c (x y : Int) (w : World) : Calls Try.prog 32 #[.int .u64 x, .int .u64 y] w fun e w' => e = .returned (.bool (ltInt x y)) ∧ w' = w := by
  go_enter Try.func32, Try.ntmps32
  go_wp2
  all_goals
    go_ret
    refine ⟨?_, rfl⟩
    simp [ltInt]

set_option maxHeartbeats 1000000 in
theorem rev_c (g n cap a b : Nat) (d : Array Int) (w : World) (h : Arr w g d n) (hab : a ≤ b) (hb : b ≤ n) (hc : Cap n cap) :
    Calls Try.prog 30 #[.slice (some ⟨g, 0, none⟩) n cap, .int .i64 (a : Int), .int .i64 (b : Int)] w (SortP g n (reverseRange d a b) w) := by
  have hc1 := hc.le
  have hc2 := hc.most
  obtain ⟨R, hR⟩ : ∃ R, R = reverseRange d a b := ⟨_, rfl⟩
  rw [← hR]
  have HR := Lib.hid hR; have H := Lib.hid h
  clear hR h
  go_enter Try.func30, Try.ntmps30
  go_wp2
  go_loopg [6, 7] (b + 1 - a) (fun gh i j wr => ∃ (p : Nat) (q : Int) (dk : Array Int), i = .int .i64 (p : Int) ∧ j = .int .i64 q ∧ a ≤ p ∧ p ≤ b ∧ (p : Int) + q = (a : Int) + (b : Int) - 1 ∧ p + gh = b + 1 ∧ At w g n dk wr ∧ reverseLoop p q.toNat dk = R)
  case atStart => exact ⟨a, (b : Int) - 1, d, rfl, rfl, Nat.le_refl _, hab, by omega, by omega, At.refl H.out, by rw [HR.out, reverseRange]; congr 1; omega⟩
  case round =>
    obtain ⟨p, q, dk, rfl, rfl, hp1, hp2, hpq, hgh, hA, hL⟩ := hrel
    have HA := Lib.hid hA; have HL := Lib.hid hL
    clear hA hL
    by_cases hlt : (p : Int) < q
    · obtain ⟨q, rfl⟩ := Int.eq_ofNat_of_zero_le (show 0 ≤ q by omega)
      have hp : p < n := by omega
      have hq : q < n := by omega
      obtain ⟨x, hx⟩ : ∃ x, x = dk[p]! := ⟨_, rfl⟩
      obtain ⟨y, hy⟩ : ∃ y, y = dk[q]! := ⟨_, rfl⟩
      have cx := HA.out.arr.cell hp
      have cy := HA.out.arr.cell hq
      rw [← hx] at cx
      rw [← hy] at cy
      have fx := HA.out.arr.free p
      have fy := HA.out.arr.free q
      have HS := Lib.hid (HA.out.swap hx hy hp hq)
      obtain ⟨M, hM⟩ : ∃ M, gk = M + 1 := ⟨gk - 1, by omega⟩
      have HN : Hid (reverseLoop (p + 1) (q - 1) (Sort.swp dk p q) = R) := Lib.hid (by rw [← HL.out, Int.toNat_natCast]; conv => rhs; rw [reverseLoop, if_pos (by omega)])
      clear hx hy
      go_wp2
      go_region
      go_wp2
      go_roundg M
      case rel => exact ⟨p + 1, (q : Int) - 1, Sort.swp dk p q, rfl, rfl, by omega, by omega, by omega, by omega, HS.out, by rw [← HN.out]; congr 1; omega⟩
      case measure => omega
    · go_wp2
      have hE : dk = R := by rw [← HL.out, reverseLoop, if_neg (by omega)]
      go_end0
      exact ⟨rfl, hE ▸ HA.out⟩

set_option maxHeartbeats 2000000 in
theorem ins_c (g n cap a b : Nat) (d : Array Int) (w : World) (h : Arr w g d n) (hab : a ≤ b) (hb : b ≤ n) (hc : Cap n cap) :
    Calls Try.prog 26 #[.slice (some ⟨g, 0, none⟩) n cap, .int .i64 (a : Int), .int .i64 (b : Int)] w (SortP g n (insertionSort ltInt d a b) w) := by
  have hc1 := hc.le
  have hc2 := hc.most
  obtain ⟨R, hR⟩ : ∃ R, R = insertionSort ltInt d a b := ⟨_, rfl⟩
  rw [← hR]
  have HR := Lib.hid hR; have H := Lib.hid h
  clear hR h
  go_enter Try.func26, Try.ntmps26
  go_wp2
  go_loopg [6] (b + 1 - a) (fun gh i wr => ∃ (p : Nat) (dk : Array Int), i = .int .i64 (p : Int) ∧ a < p ∧ p + gh = b + 2 ∧ At w g n dk wr ∧ insOuter ltInt a b p dk = R)
  case atStart => exact ⟨a + 1, d, by go_num, by omega, by omega, At.refl H.out, by rw [HR.out, insertionSort]⟩
  case round =>
    obtain ⟨p, dk, rfl, hp1, hgh, hA, hL⟩ := hrel
    have HA := Lib.hid hA; have HL := Lib.hid hL
    clear hA hL
    by_cases hlt : p < b
    · obtain ⟨M, hM⟩ : ∃ M, gk = M + 1 := ⟨gk - 1, by omega⟩
      have HN : Hid (insOuter ltInt a b (p + 1) (insInner ltInt a p dk) = R) := Lib.hid (by rw [← HL.out, insOuter_go _ _ _ _ _ hlt])
      go_wp2
      go_loopg [7] p (fun gj j wr2 => ∃ dj : Array Int, j = .int .i64 (gj : Int) ∧ a ≤ gj ∧ gj ≤ p ∧ At w g n dj wr2 ∧ insInner ltInt a gj dj = insInner ltInt a p dk)
      case atStart => exact ⟨dk, rfl, by omega, Nat.le_refl _, HA.out, rfl⟩
      case round =>
        obtain ⟨dj, rfl, hj1, hj2, hA2, hI⟩ := hrel
        have HA2 := Lib.hid hA2; have HI := Lib.hid hI
        clear hA2 hI
        by_cases hja : a < gk
        · obtain ⟨x, hx⟩ : ∃ x, x = dj[gk]! := ⟨_, rfl⟩
          obtain ⟨y, hy⟩ : ∃ y, y = dj[gk - 1]! := ⟨_, rfl⟩
          have cx := HA2.out.arr.cell (t := gk) (by omega)
          have cy := HA2.out.arr.cell (t := gk - 1) (by omega)
          rw [← hx] at cx
          rw [← hy] at cy
          have fx := HA2.out.arr.free gk
          have fy := HA2.out.arr.free (gk - 1)
          have HX := Lib.hid hx; have HY := Lib.hid hy
          clear hx hy
          go_wp2
          go_quiet (first | (go_at_call 32; refine Calls.quiet_of_same (less_c _ _ _)))
          go_wp2
          · have hl : ltInt x y = true := by assumption
            have HS : Hid (∀ m, At w g n (Sort.swp dj gk (gk - 1)) (((wr.drewN m).setCell ⟨g, gk, none⟩ (.int .u64 y)).setCell ⟨g, gk - 1, none⟩ (.int .u64 x))) := Lib.hid fun m => HA2.out.swapN HX.out HY.out (by omega) (by omega) m
            have HI2 : Hid (insInner ltInt a (gk - 1) (Sort.swp dj gk (gk - 1)) = insInner ltInt a p dk) := Lib.hid (by rw [← HI.out]; exact (insInner_go ltInt a gk dj hja (by rw [← HX.out, ← HY.out]; exact hl)).symm)
            go_region
            all_goals go_wp2
            go_roundg (gk - 1)
            case rel => exact ⟨Sort.swp dj gk (gk - 1), by congr 1; omega, by omega, by omega, HS.out _, HI2.out⟩
            case measure => omega
          · have hl : ltInt x y = false := by assumption
            go_roundg M
            case rel => exact ⟨p + 1, dj, rfl, by omega, by omega, HA2.out.drewN _, by rw [← HN.out, ← HI.out, insInner_stop _ _ _ _ (Or.inr (by rw [← HX.out, ← HY.out]; exact hl))]⟩
            case measure => omega
        · go_wp2
          go_quiet (first | (go_at_call 32; refine Calls.quiet_of_same (less_c _ _ _)))
          go_wp2
          go_roundg M
          case rel => exact ⟨p + 1, dj, rfl, by omega, by omega, HA2.out.drewN _, by rw [← HN.out, ← HI.out, insInner_stop _ _ _ _ (Or.inl (by omega))]⟩
          case measure => omega
    · go_wp2
      have hE : dk = R := by rw [← HL.out, insOuter_stop _ _ _ _ _ hlt]
      go_end0
      exact ⟨rfl, hE ▸ HA.out⟩
end Go.Proofs.Ytgnkhpcnlffjnaa
