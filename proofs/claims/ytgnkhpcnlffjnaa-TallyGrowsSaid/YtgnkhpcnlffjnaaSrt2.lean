/- The library's sort at numbers of 64 bits: the heap. -/
import Derived.Test.YtgnkhpcnlffjnaaSrt1
import Derived.Sort.WalkB3
namespace Go.Proofs.Ytgnkhpcnlffjnaa
open Go Go.RowKit Go.Sort

set_option maxHeartbeats 4000000 in
theorem sift_c (g n cap lo hi first : Nat) (d : Array Int) (w : World) (h : Arr w g d n) (hlo : lo ≤ hi) (hb : first + hi ≤ n) (hc : Cap n cap) :
    Calls Try.prog 37 #[.slice (some ⟨g, 0, none⟩) n cap, .int .i64 (lo : Int), .int .i64 (hi : Int), .int .i64 (first : Int)] w (SortP g n (siftDown ltInt hi first lo d) w) := by
  have hc1 := hc.le
  have hc2 := hc.most
  obtain ⟨R, hR⟩ : ∃ R, R = siftDown ltInt hi first lo d := ⟨_, rfl⟩
  rw [← hR]
  have HR := Lib.hid hR; have H := Lib.hid h
  clear hR h
  go_enter Try.func37, Try.ntmps37
  go_wp2
  go_loopg [8, 9] (hi - lo) (fun gh i _c wr => ∃ (r : Nat) (dk : Array Int), i = .int .i64 (r : Int) ∧ r ≤ hi ∧ r + gh = hi ∧ At w g n dk wr ∧ siftDown ltInt hi first r dk = R)
  case atStart => exact ⟨lo, d, rfl, hlo, by omega, At.refl H.out, HR.out.symm⟩
  case round =>
    obtain ⟨r, dk, rfl, hr, hgh, hA, hL⟩ := hrel
    have HA := Lib.hid hA; have HL := Lib.hid hL
    clear hA hL
    by_cases h1 : 2 * r + 1 < hi
    · have h0z : ¬ ((hi : Int) ≤ 2 * (r : Int) + 1) := by omega
      obtain ⟨x, hx⟩ : ∃ x, x = dk[first + r]! := ⟨_, rfl⟩
      obtain ⟨y, hy⟩ : ∃ y, y = dk[first + (2 * r + 1)]! := ⟨_, rfl⟩
      have cx := HA.out.arr.cell (t := first + r) (by omega)
      have cy := HA.out.arr.cell (t := first + (2 * r + 1)) (by omega)
      rw [← hx] at cx
      rw [← hy] at cy
      have fx := HA.out.arr.free (first + r)
      have fy := HA.out.arr.free (first + (2 * r + 1))
      have HX := Lib.hid hx; have HY := Lib.hid hy
      clear hx hy
      by_cases h2 : 2 * r + 2 < hi
      · obtain ⟨z, hz⟩ : ∃ z, z = dk[first + (2 * r + 2)]! := ⟨_, rfl⟩
        have cz := HA.out.arr.cell (t := first + (2 * r + 2)) (by omega)
        rw [← hz] at cz
        have fz := HA.out.arr.free (first + (2 * r + 2))
        have HZ := Lib.hid hz
        clear hz
        have h1z : 2 * (r : Int) + 1 + 1 < (hi : Int) := by omega
        have cz1 : wr.cell? ⟨g, first + (2 * r + 1) + 1, none⟩ = some (.int .u64 z) := by rw [show first + (2 * r + 1) + 1 = first + (2 * r + 2) by omega]; exact cz
        have cz2 : wr.cell? ⟨g, first + (2 * r + 1 + 1), none⟩ = some (.int .u64 z) := by rw [show first + (2 * r + 1 + 1) = first + (2 * r + 2) by omega]; exact cz
        go_wp2
        go_big_quiet (first | (go_at_call 32; refine Calls.quiet_of_same (less_c _ _ _)))
        go_wp2
        · have hl : ltInt y z = true := by assumption
          have HA2 : Hid (At w g n dk (wr.drewN nq)) := Lib.hid (HA.out.drewN _)
          clear cx cy fx fy cz cz1 cz2 fz
          generalize wr.drewN nq = wr2 at *
          have cx := HA2.out.arr.cell (t := first + r) (by omega)
          have cv := HA2.out.arr.cell (t := first + (2 * r + 2)) (by omega)
          rw [← HX.out] at cx
          rw [← HZ.out] at cv
          have cv2 : wr2.cell? ⟨g, first + (2 * r + 1 + 1), none⟩ = some (.int .u64 z) := by rw [show first + (2 * r + 1 + 1) = first + (2 * r + 2) by omega]; exact cv
          have fx := HA2.out.arr.free (first + r)
          have fv := HA2.out.arr.free (first + (2 * r + 2))
          have fv2 := HA2.out.arr.free (first + (2 * r + 1 + 1))
          go_big_quiet (first | (go_at_call 32; refine Calls.quiet_of_same (less_c _ _ _)))
          go_wp2
          · have hs : ltInt x z = false := by
              have : (!ltInt x z) = true := by assumption
              simpa using this
            have hE : dk = R := by rw [← HL.out]; exact (sd_right_stop ltInt dk h2 (by rw [← HY.out, ← HZ.out]; exact hl) (by rw [← HX.out, ← HZ.out]; exact hs)).symm
            (try simp only [Exit.inBlock, Exit.then]); refine bodyPost_ret (results_none rfl _ _ _) rfl ?_
            exact ⟨rfl, hE ▸ HA2.out.drewN _⟩
          · have hs : ltInt x z = true := by
              have : (!ltInt x z) = false := by assumption
              simpa using this
            have HS : Hid (∀ m, At w g n (Sort.swp dk (first + r) (first + (2 * r + 2))) (((wr2.drewN m).setCell ⟨g, first + r, none⟩ (.int .u64 z)).setCell ⟨g, first + (2 * r + 1 + 1), none⟩ (.int .u64 x))) := Lib.hid fun m => HA2.out.swapN HX.out HZ.out (by omega) (by omega) m
            have HN : Hid (siftDown ltInt hi first (2 * r + 2) (Sort.swp dk (first + r) (first + (2 * r + 2))) = R) := Lib.hid (by rw [← HL.out]; exact (sd_right_go ltInt dk h2 (by rw [← HY.out, ← HZ.out]; exact hl) (by rw [← HX.out, ← HZ.out]; exact hs)).symm)
            go_region
            go_wp2
            go_roundg (hi - (2 * r + 2))
            case rel => exact ⟨(2 * r + 2), Sort.swp dk (first + r) (first + (2 * r + 2)), by congr 1, by omega, by omega, HS.out _, HN.out⟩
            case measure => omega
        · have hl : ltInt y z = false := by assumption
          have HA2 : Hid (At w g n dk (wr.drewN nq)) := Lib.hid (HA.out.drewN _)
          clear cx cy fx fy cz cz1 cz2 fz
          generalize wr.drewN nq = wr2 at *
          have cx := HA2.out.arr.cell (t := first + r) (by omega)
          have cv := HA2.out.arr.cell (t := first + (2 * r + 1)) (by omega)
          rw [← HX.out] at cx
          rw [← HY.out] at cv
          have fx := HA2.out.arr.free (first + r)
          have fv := HA2.out.arr.free (first + (2 * r + 1))
          go_big_quiet (first | (go_at_call 32; refine Calls.quiet_of_same (less_c _ _ _)))
          go_wp2
          · have hs : ltInt x y = false := by
              have : (!ltInt x y) = true := by assumption
              simpa using this
            have hE : dk = R := by rw [← HL.out]; exact (sd_left_stop ltInt dk h1 (fun _ => by rw [← HY.out, ← HZ.out]; exact hl) (by rw [← HX.out, ← HY.out]; exact hs)).symm
            (try simp only [Exit.inBlock, Exit.then]); refine bodyPost_ret (results_none rfl _ _ _) rfl ?_
            exact ⟨rfl, hE ▸ HA2.out.drewN _⟩
          · have hs : ltInt x y = true := by
              have : (!ltInt x y) = false := by assumption
              simpa using this
            have HS : Hid (∀ m, At w g n (Sort.swp dk (first + r) (first + (2 * r + 1))) (((wr2.drewN m).setCell ⟨g, first + r, none⟩ (.int .u64 y)).setCell ⟨g, first + (2 * r + 1), none⟩ (.int .u64 x))) := Lib.hid fun m => HA2.out.swapN HX.out HY.out (by omega) (by omega) m
            have HN : Hid (siftDown ltInt hi first (2 * r + 1) (Sort.swp dk (first + r) (first + (2 * r + 1))) = R) := Lib.hid (by rw [← HL.out]; exact (sd_left_go ltInt dk h1 (fun _ => by rw [← HY.out, ← HZ.out]; exact hl) (by rw [← HX.out, ← HY.out]; exact hs)).symm)
            go_region
            go_wp2
            go_roundg (hi - (2 * r + 1))
            case rel => exact ⟨(2 * r + 1), Sort.swp dk (first + r) (first + (2 * r + 1)), by congr 1, by omega, by omega, HS.out _, HN.out⟩
            case measure => omega
      · have h1z : decide (2 * (r : Int) + 1 + 1 < (hi : Int)) = false := decide_eq_false (by omega)
        go_wp2
        go_big_quiet (first | (go_at_call 32; refine Calls.quiet_of_same (less_c _ _ _)))
        go_wp2
        have HA2 : Hid (At w g n dk (wr.drewN nq)) := Lib.hid (HA.out.drewN _)
        clear cx cy fx fy 
        generalize wr.drewN nq = wr2 at *
        have cx := HA2.out.arr.cell (t := first + r) (by omega)
        have cv := HA2.out.arr.cell (t := first + (2 * r + 1)) (by omega)
        rw [← HX.out] at cx
        rw [← HY.out] at cv
        have fx := HA2.out.arr.free (first + r)
        have fv := HA2.out.arr.free (first + (2 * r + 1))
        go_big_quiet (first | (go_at_call 32; refine Calls.quiet_of_same (less_c _ _ _)))
        go_wp2
        · have hs : ltInt x y = false := by
            have : (!ltInt x y) = true := by assumption
            simpa using this
          have hE : dk = R := by rw [← HL.out]; exact (sd_left_stop ltInt dk h1 (fun h => absurd h h2) (by rw [← HX.out, ← HY.out]; exact hs)).symm
          (try simp only [Exit.inBlock, Exit.then]); refine bodyPost_ret (results_none rfl _ _ _) rfl ?_
          exact ⟨rfl, hE ▸ HA2.out.drewN _⟩
        · have hs : ltInt x y = true := by
            have : (!ltInt x y) = false := by assumption
            simpa using this
          have HS : Hid (∀ m, At w g n (Sort.swp dk (first + r) (first + (2 * r + 1))) (((wr2.drewN m).setCell ⟨g, first + r, none⟩ (.int .u64 y)).setCell ⟨g, first + (2 * r + 1), none⟩ (.int .u64 x))) := Lib.hid fun m => HA2.out.swapN HX.out HY.out (by omega) (by omega) m
          have HN : Hid (siftDown ltInt hi first (2 * r + 1) (Sort.swp dk (first + r) (first + (2 * r + 1))) = R) := Lib.hid (by rw [← HL.out]; exact (sd_left_go ltInt dk h1 (fun h => absurd h h2) (by rw [← HX.out, ← HY.out]; exact hs)).symm)
          go_region
          go_wp2
          go_roundg (hi - (2 * r + 1))
          case rel => exact ⟨(2 * r + 1), Sort.swp dk (first + r) (first + (2 * r + 1)), by congr 1, by omega, by omega, HS.out _, HN.out⟩
          case measure => omega
    · go_wp2
      have hE : dk = R := by rw [← HL.out, sd_end ltInt dk (by omega)]
      go_end0
      exact ⟨rfl, hE ▸ HA.out⟩

set_option maxHeartbeats 4000000 in
theorem heap_c (g n cap a b : Nat) (d : Array Int) (w : World) (h : Arr w g d n) (hab : a ≤ b) (hb : b ≤ n) (hc : Cap n cap) :
    Calls Try.prog 27 #[.slice (some ⟨g, 0, none⟩) n cap, .int .i64 (a : Int), .int .i64 (b : Int)] w (SortP g n (heapSort ltInt d a b) w) := by
  have hc1 := hc.le
  have hc2 := hc.most
  obtain ⟨L, rfl⟩ : ∃ L, b = a + L := ⟨b - a, by omega⟩
  obtain ⟨D1, hD1⟩ : ∃ D1, D1 = heapBuild ltInt L a ((L - 1) / 2 + 1) d := ⟨_, rfl⟩
  obtain ⟨R, hR⟩ : ∃ R, R = heapPop ltInt a L D1 := ⟨_, rfl⟩
  have hRR : heapSort ltInt d a (a + L) = R := by rw [hR, hD1, heapSort, Nat.add_sub_cancel_left]
  rw [hRR]
  have HR := Lib.hid hR; have H := Lib.hid h; have HD1 := Lib.hid hD1; have HC := Lib.hid hc
  clear hR h hRR hD1 hc
  go_enter Try.func27, Try.ntmps27
  go_wp2_with fail
  have e1 : (a : Int) + (L : Int) - (a : Int) = (L : Int) := by omega
  rw [e1]
  have HE2 : Hid (((L : Int) - 1).tdiv 2 = ((((L - 1) / 2 + 1 : Nat) : Int)) - 1) := Lib.hid (by
    have := half_start (a := 0) (b := L) (Nat.zero_le _)
    simpa using this)
  clear e1
  have hLn : a + L ≤ n := hb
  go_loopg [9] ((L - 1) / 2 + 1) (fun gh i wr => ∃ (q : Int) (dk : Array Int), i = .int .i64 q ∧ q + 1 = (gh : Int) ∧ gh ≤ (L - 1) / 2 + 1 ∧ At w g n dk wr ∧ heapBuild ltInt L a gh dk = D1)
  case atStart => exact ⟨_, d, by rw [HE2.out], by omega, Nat.le_refl _, At.refl H.out, HD1.out.symm⟩
  case round =>
    obtain ⟨q, dk, rfl, hq, hk, hA, hL⟩ := hrel
    have HA := Lib.hid hA; have HL := Lib.hid hL
    clear hA hL
    by_cases h0 : 0 ≤ q
    · obtain ⟨k, rfl⟩ := Int.eq_ofNat_of_zero_le h0
      obtain rfl : gk = k + 1 := by omega
      have HN : Hid (heapBuild ltInt L a k (siftDown ltInt L a k dk) = D1) := HL
      clear HL
      go_wp2_with fail
      refine (sift_c g n cap k L a dk wr HA.out.arr (by omega) (by omega) HC.out).mono ?_
      rintro en w2 ⟨rfl, hA2⟩
      have HA2 := Lib.hid (HA.out.trans hA2)
      clear hA2
      go_wp2_with fail
      go_roundg k
      case rel => exact ⟨(k : Int) - 1, siftDown ltInt L a k dk, rfl, by omega, by omega, HA2.out, HN.out⟩
      case measure => omega
    · obtain rfl : gk = 0 := by omega
      have hD : dk = D1 := HL.out
      subst hD
      go_wp2_with fail
      clear h0 hq hk
      go_loopg [10] L (fun gh i wr => ∃ (q : Int) (dj : Array Int), i = .int .i64 q ∧ q + 1 = (gh : Int) ∧ gh ≤ L ∧ At w g n dj wr ∧ heapPop ltInt a gh dj = R)
      case atStart => exact ⟨_, dk, rfl, by omega, Nat.le_refl _, HA.out, HR.out.symm⟩
      case round =>
        obtain ⟨q, dj, rfl, hq, hk, hA, hL⟩ := hrel
        have HA := Lib.hid hA; have HL := Lib.hid hL
        clear hA hL
        by_cases h0 : 0 ≤ q
        · obtain ⟨k, rfl⟩ := Int.eq_ofNat_of_zero_le h0
          obtain rfl : gk = k + 1 := by omega
          have HN : Hid (heapPop ltInt a k (siftDown ltInt k a 0 (Sort.swp dj a (a + k))) = R) := HL
          obtain ⟨x, hx⟩ : ∃ x, x = dj[a]! := ⟨_, rfl⟩
          obtain ⟨y, hy⟩ : ∃ y, y = dj[a + k]! := ⟨_, rfl⟩
          have cx := HA.out.arr.cell (t := a) (by omega)
          have cy := HA.out.arr.cell (t := a + k) (by omega)
          rw [← hx] at cx
          rw [← hy] at cy
          have fx := HA.out.arr.free a
          have fy := HA.out.arr.free (a + k)
          have HS := Lib.hid (HA.out.swap hx hy (by omega) (by omega))
          obtain ⟨v1, hv1⟩ := cell?_setCell_some (w := wr) (p := ⟨g, a, none⟩) (x := .int .u64 y) (q := ⟨g, a + k, none⟩) (v := .int .u64 y) cy
          clear HL hx hy
          go_wp2_with fail
          go_region
          clear cx cy fx fy hv1
          go_wp2_with fail
          refine (sift_c g n cap 0 k a (Sort.swp dj a (a + k)) _ HS.out.arr (by omega) (by omega) HC.out).mono ?_
          rintro en w2 ⟨rfl, hA2⟩
          have HA2 := Lib.hid (HS.out.trans hA2)
          clear hA2
          go_wp2_with fail
          go_roundg k
          case rel => exact ⟨(k : Int) - 1, _, rfl, by omega, by omega, HA2.out, HN.out⟩
          case measure => omega
        · obtain rfl : gk = 0 := by omega
          go_wp2_with fail
          go_end0
          have hD : dj = R := HL.out
          exact ⟨rfl, hD ▸ HA.out⟩
end Go.Proofs.Ytgnkhpcnlffjnaa
