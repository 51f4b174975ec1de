/- The library's sort at numbers of 64 bits: the partition of equal ones. -/
import Derived.Test.YtgnkhpcnlffjnaaSrt1
import Derived.Sort.WalkC
import Derived.Sort.WalkC4
import Derived.Deep.DeepCutAuto
import Derived.Deep.CutBlock
namespace Go.Proofs.Ytgnkhpcnlffjnaa
open Go Go.RowKit Go.Sort

set_option maxHeartbeats 4000000 in
theorem parteq_c (g n cap a b pivot : Nat) (d : Array Int) (w : World) (h : Arr w g d n) (hap : a ≤ pivot) (hpb : pivot < b) (hb : b ≤ n) (hc : Cap n cap) :
    Calls Try.prog 33 #[.slice (some ⟨g, 0, none⟩) n cap, .int .i64 (a : Int), .int .i64 (b : Int), .int .i64 (pivot : Int)] w (fun en w' => en = .returned (.int .i64 ((partitionEqual ltInt d a b pivot).1 : Int)) ∧ At w g n (partitionEqual ltInt d a b pivot).2 w') := by
  have hc1 := hc.le
  have hc2 := hc.most
  obtain ⟨R, hR⟩ : ∃ R, R = partEqLoop ltInt a (a + 1) (b - 1) (Sort.swp d a pivot) := ⟨_, rfl⟩
  have hRR : partitionEqual ltInt d a b pivot = R := by rw [hR, partitionEqual]
  rw [hRR]
  have HR := Lib.hid hR
  obtain ⟨x, hx⟩ : ∃ x, x = d[a]! := ⟨_, rfl⟩
  obtain ⟨y, hy⟩ : ∃ y, y = d[pivot]! := ⟨_, rfl⟩
  have cx := h.cell (t := a) (by omega)
  have cy := h.cell (t := pivot) (by omega)
  rw [← hx] at cx
  rw [← hy] at cy
  have fx := h.free a
  have fy := h.free pivot
  obtain ⟨v1, hv1⟩ := cell?_setCell_some (w := w) (p := ⟨g, a, none⟩) (x := .int .u64 y) (q := ⟨g, pivot, none⟩) (v := .int .u64 y) cy
  have HS := Lib.hid ((At.refl h).swap hx hy (by omega) (by omega))
  clear hR hRR hx hy
  go_enter Try.func33, Try.ntmps33
  go_wp2
  go_region
  clear cx cy fx fy hv1
  go_wp2
  go_loopg [9, 10] (b - 1 - a) (fun gh vi vj wr => ∃ (i j : Nat) (dk : Array Int), vi = .int .i64 (i : Int) ∧ vj = .int .i64 (j : Int) ∧ a < i ∧ i ≤ j + 1 ∧ j < b ∧ gh + i = j + 1 ∧ At w g n dk wr ∧ partEqLoop ltInt a i j dk = R)
  case atStart => exact ⟨a + 1, b - 1, _, rfl, by congr 1; omega, by omega, by omega, by omega, by omega, HS.out, HR.out.symm⟩
  case round =>
    obtain ⟨i, j, dk, rfl, rfl, hai, hij, hjb, hgh, hA, hL⟩ := hrel
    have HA := Lib.hid hA; have HL := Lib.hid hL
    clear hA hL
    go_upto_block 2 with fail
    go_cut [9] (fun v wc => ∃ i2 : Nat, v = .int .i64 (i2 : Int) ∧ i2 = scanUp (fun x => !ltInt dk[a]! x) dk j i ∧ At w g n dk wc)
    case first =>
      go_wp2
      go_loopg [9] (j + 1 - i) (fun gh v wc => ∃ p : Nat, v = .int .i64 (p : Int) ∧ i ≤ p ∧ p + gh = j + 1 ∧ At w g n dk wc ∧ scanUp (fun x => !ltInt dk[a]! x) dk j p = scanUp (fun x => !ltInt dk[a]! x) dk j i)
      case atStart => exact ⟨i, rfl, Nat.le_refl _, by omega, HA.out, rfl⟩
      case round =>
        obtain ⟨p, rfl, hp1, hp2, hA3, hS⟩ := hrel
        have HA3 := Lib.hid hA3; have HS := Lib.hid hS
        clear hA3 hS
        by_cases hle : p ≤ j
        · obtain ⟨x, hxx⟩ : ∃ x, x = dk[p]! := ⟨_, rfl⟩
          obtain ⟨A, hAA⟩ : ∃ A, A = dk[a]! := ⟨_, rfl⟩
          have cx := HA3.out.arr.cell (t := p) (by omega)
          have ca := HA3.out.arr.cell (t := a) (by omega)
          rw [← hxx] at cx
          rw [← hAA] at ca
          have HXX := Lib.hid hxx; have HAA := Lib.hid hAA
          clear hxx hAA
          
          go_wp2
          go_big_quiet (first | (go_at_call 32; refine Calls.quiet_of_same (less_c _ _ _)))
          go_wp2
          · have hx : (!ltInt A x) = true := by assumption
            rw [HAA.out] at hx
            go_roundg (j - p)
            case rel => exact ⟨p + 1, rfl, by omega, by omega, HA3.out.drewN _, by rw [← HS.out]; exact (scanUp_go _ dk j p hle (by rw [← HXX.out]; first | exact hx | simpa [HAA.out] using hx)).symm⟩
            case measure => omega
          · have hx : (!ltInt A x) = false := by assumption
            rw [HAA.out] at hx
            go_meet
            exact ⟨p, rfl, by rw [← HS.out]; exact (scanUp_end _ dk j p (Or.inr (by rw [← HXX.out]; first | exact hx | simpa [HAA.out] using hx))).symm, HA3.out.drewN _⟩
        · have hz : decide ((p : Int) ≤ (j : Int)) = false := decide_eq_false (by omega)
          go_wp2
          go_big_quiet (first | (go_at_call 32; refine Calls.quiet_of_same (less_c _ _ _)))
          go_wp2
          go_meet
          exact ⟨p, rfl, by rw [← HS.out]; exact (scanUp_end _ dk j p (Or.inl hle)).symm, HA3.out.drewN _⟩
    case rest =>
      obtain ⟨i2, rfl, hi2, hA⟩ := hcut
      have hi3 : i ≤ i2 := by rw [hi2]; exact scanUp_ge _ _ _ _
      have hi4 : i2 ≤ j + 1 := by
        rw [hi2]; exact (scanUp_spec (fun x => !ltInt dk[a]! x) dk j _ i rfl).2.1 hij
      have HA2 := Lib.hid hA; have HI2 := Lib.hid hi2
      clear hA hi2
      go_upto_block 4 with fail
      go_cut [10] (fun v wc => ∃ j2 : Nat, v = .int .i64 (j2 : Int) ∧ j2 = scanDown (fun x => ltInt dk[a]! x) dk i2 j ∧ At w g n dk wc)
      case first =>
        go_wp2
        go_loopg [10] j (fun gh v wc => ∃ p : Nat, v = .int .i64 (p : Int) ∧ p ≤ j ∧ gh = p ∧ i2 ≤ p + 1 ∧ At w g n dk wc ∧ scanDown (fun x => ltInt dk[a]! x) dk i2 p = scanDown (fun x => ltInt dk[a]! x) dk i2 j)
        case atStart => exact ⟨j, by first | rfl | (congr 1; omega), Nat.le_refl _, rfl, by omega, HA2.out, rfl⟩
        case round =>
          obtain ⟨p, rfl, hp1, hgp, hp3, hA3, hS⟩ := hrel
          have HA3 := Lib.hid hA3; have HS := Lib.hid hS
          clear hA3 hS
          by_cases hle : i2 ≤ p
          · obtain ⟨x, hxx⟩ : ∃ x, x = dk[p]! := ⟨_, rfl⟩
            obtain ⟨A, hAA⟩ : ∃ A, A = dk[a]! := ⟨_, rfl⟩
            have cx := HA3.out.arr.cell (t := p) (by omega)
            have ca := HA3.out.arr.cell (t := a) (by omega)
            rw [← hxx] at cx
            rw [← hAA] at ca
            have HXX := Lib.hid hxx; have HAA := Lib.hid hAA
            clear hxx hAA
            
            go_wp2
            go_big_quiet (first | (go_at_call 32; refine Calls.quiet_of_same (less_c _ _ _)))
            go_wp2
            · have hx : ltInt A x = true := by assumption
              rw [HAA.out] at hx
              go_roundg (p - 1)
              case rel => exact ⟨p - 1, by congr 1; omega, by omega, rfl, by omega, HA3.out.drewN _, by rw [← HS.out]; exact (scanDown_go _ dk i2 p hle (by omega) (by rw [← HXX.out]; first | exact hx | simpa [HAA.out] using hx)).symm⟩
              case measure => omega
            · have hx : ltInt A x = false := by assumption
              rw [HAA.out] at hx
              go_meet
              exact ⟨p, rfl, by rw [← HS.out]; exact (scanDown_end _ dk i2 p (Or.inr (by rw [← HXX.out]; first | exact hx | simpa [HAA.out] using hx))).symm, HA3.out.drewN _⟩
          · have hz : decide ((i2 : Int) ≤ (p : Int)) = false := decide_eq_false (by omega)
            go_wp2
            go_big_quiet (first | (go_at_call 32; refine Calls.quiet_of_same (less_c _ _ _)))
            go_wp2
            go_meet
            exact ⟨p, rfl, by rw [← HS.out]; exact (scanDown_end _ dk i2 p (Or.inl hle)).symm, HA3.out.drewN _⟩
      case rest =>
        obtain ⟨j2, rfl, hj2, hA⟩ := hcut
        have hj3 : j2 ≤ j := by rw [hj2]; exact scanDown_le _ _ _ _
        have HA3 := Lib.hid hA; have HJ2 := Lib.hid hj2
        clear hA hj2
        by_cases hgt : j2 < i2
        · go_wp2
          have hE : R = (i2, dk) := by rw [← HL.out]; exact partEq_break ltInt a i j dk HI2.out HJ2.out hgt
          go_ret
          rw [hE]
          exact ⟨rfl, HA3.out⟩
        · have hlt : i2 < j2 := scans_lt ltInt a i j dk (by omega) HI2.out HJ2.out (by omega)
          have HN : Hid (partEqLoop ltInt a (i2 + 1) (j2 - 1) (Sort.swp dk i2 j2) = R) := Lib.hid (by rw [← HL.out]; exact (partEq_go ltInt a i j dk HI2.out HJ2.out (by omega)).symm)
          obtain ⟨x, hx⟩ : ∃ x, x = dk[i2]! := ⟨_, rfl⟩
          obtain ⟨y, hy⟩ : ∃ y, y = dk[j2]! := ⟨_, rfl⟩
          have cx := HA3.out.arr.cell (t := i2) (by omega)
          have cy := HA3.out.arr.cell (t := j2) (by omega)
          rw [← hx] at cx
          rw [← hy] at cy
          have fx := HA3.out.arr.free i2
          have fy := HA3.out.arr.free j2
          have HS2 := Lib.hid (HA3.out.swap hx hy (by omega) (by omega))
          clear hx hy
          go_wp2
          go_region
          go_wp2
          go_roundg (j2 - 1 - i2)
          case rel => exact ⟨i2 + 1, j2 - 1, _, rfl, by congr 1; omega, by omega, by omega, by omega, by omega, HS2.out, HN.out⟩
          case measure => omega
end Go.Proofs.Ytgnkhpcnlffjnaa
