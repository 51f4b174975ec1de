/- The library's sort at numbers of 64 bits: the partition. -/
import Derived.Test.YtgnkhpcnlffjnaaSrt3
namespace Go.Proofs.Ytgnkhpcnlffjnaa
open Go Go.RowKit Go.Sort

set_option maxHeartbeats 8000000 in
set_option maxRecDepth 100000 in
theorem part_c (g n cap a b pivot : Nat) (d : Array Int) (w : World) (h : Arr w g d n) (hap : a ≤ pivot) (hpb : pivot < b) (hb : b ≤ n) (hc : Cap n cap) :
    Calls Try.prog 34 #[.slice (some ⟨g, 0, none⟩) n cap, .int .i64 (a : Int), .int .i64 (b : Int), .int .i64 (pivot : Int)] w (fun en w' => en = .returned (.tuple #[.int .i64 ((partition ltInt d a b pivot).1 : Int), .bool (partition ltInt d a b pivot).2.1]) ∧ At w g n (partition ltInt d a b pivot).2.2 w') := by
  have hc1 := hc.le
  have hc2 := hc.most
  obtain ⟨R, hR⟩ : ∃ R, R = partition ltInt d a b pivot := ⟨_, rfl⟩
  rw [← hR]
  have HR := Lib.hid hR
  obtain ⟨x, hx⟩ : ∃ x, x = d[a]! := ⟨_, rfl⟩
  obtain ⟨y, hy⟩ : ∃ y, y = d[pivot]! := ⟨_, rfl⟩
  have cx := h.cell (t := a) (by omega)
  have cy := h.cell (t := pivot) (by omega)
  rw [← hx] at cx
  rw [← hy] at cy
  have fx := h.free a
  have fy := h.free pivot
  obtain ⟨v1, hv1⟩ := cell?_setCell_some (w := w) (p := ⟨g, a, none⟩) (x := .int .u64 y) (q := ⟨g, pivot, none⟩) (v := .int .u64 y) cy
  have hsw := (At.refl h).swap hx hy (by omega) (by omega)
  obtain ⟨dk, hdk⟩ : ∃ dk, dk = Sort.swp d a pivot := ⟨_, rfl⟩
  rw [← hdk] at hsw
  have HS := Lib.hid hsw; have HDK := Lib.hid hdk
  clear hR hx hy hsw hdk
  go_enter Try.func34, Try.ntmps34
  go_wp2
  go_region
  clear cx cy fx fy hv1
  go_upto_block 0 with fail
  go_cut [10] (fun v wc => ∃ i2 : Nat, v = .int .i64 (i2 : Int) ∧ i2 = scanUp (fun x => ltInt x dk[a]!) dk (b - 1) (a + 1) ∧ At w g n dk wc)
  case first =>
    go_wp2
    go_loopg [10] ((b - 1) + 1 - (a + 1)) (fun gh v wc => ∃ p : Nat, v = .int .i64 (p : Int) ∧ (a + 1) ≤ p ∧ p + gh = (b - 1) + 1 ∧ At w g n dk wc ∧ scanUp (fun x => ltInt x dk[a]!) dk (b - 1) p = scanUp (fun x => ltInt x dk[a]!) dk (b - 1) (a + 1))
    case atStart => exact ⟨(a + 1), rfl, Nat.le_refl _, by omega, HS.out, rfl⟩
    case round =>
      obtain ⟨p, rfl, hp1, hp2, hA3, hS⟩ := hrel
      have HA3 := Lib.hid hA3; have HS := Lib.hid hS
      clear hA3 hS
      by_cases hle : p ≤ (b - 1)
      · obtain ⟨x, hxx⟩ : ∃ x, x = dk[p]! := ⟨_, rfl⟩
        obtain ⟨A, hAA⟩ : ∃ A, A = dk[a]! := ⟨_, rfl⟩
        have cx := HA3.out.arr.cell (t := p) (by omega)
        have ca := HA3.out.arr.cell (t := a) (by omega)
        rw [← hxx] at cx
        rw [← hAA] at ca
        have HXX := Lib.hid hxx; have HAA := Lib.hid hAA
        clear hxx hAA
        have hz1 : decide ((p : Int) ≤ ((b : Int) - 1)) = true := decide_eq_true (by omega)
        go_wp2
        go_big_quiet (first | (go_at_call 32; refine Calls.quiet_of_same (less_c _ _ _)))
        go_wp2
        · have hx : ltInt x A = true := by assumption
          rw [HAA.out] at hx
          go_roundg ((b - 1) - p)
          case rel => exact ⟨p + 1, rfl, by omega, by omega, HA3.out.drewN _, by rw [← HS.out]; exact (scanUp_go _ dk (b - 1) p hle (by rw [← HXX.out]; first | exact hx | simpa [HAA.out] using hx)).symm⟩
          case measure => omega
        · have hx : ltInt x A = false := by assumption
          rw [HAA.out] at hx
          go_meet
          exact ⟨p, rfl, by rw [← HS.out]; exact (scanUp_end _ dk (b - 1) p (Or.inr (by rw [← HXX.out]; first | exact hx | simpa [HAA.out] using hx))).symm, HA3.out.drewN _⟩
      · have hz : decide ((p : Int) ≤ ((b : Int) - 1)) = false := decide_eq_false (by omega)
        go_wp2
        go_big_quiet (first | (go_at_call 32; refine Calls.quiet_of_same (less_c _ _ _)))
        go_wp2
        go_meet
        exact ⟨p, rfl, by rw [← HS.out]; exact (scanUp_end _ dk (b - 1) p (Or.inl hle)).symm, HA3.out.drewN _⟩
  case rest =>
    obtain ⟨i2, rfl, hi2, hA⟩ := hcut
    have hi3 : a + 1 ≤ i2 := by rw [hi2]; exact scanUp_ge _ _ _ _
    have hi4 : i2 ≤ b - 1 + 1 := by
      rw [hi2]; exact (scanUp_spec (fun x => ltInt x dk[a]!) dk (b - 1) _ (a + 1) rfl).2.1 (by omega)
    have HA2 := Lib.hid hA; have HI2 := Lib.hid hi2
    clear hA hi2 HS
    go_upto_block 2 with fail
    go_cut [11] (fun v wc => ∃ j2 : Nat, v = .int .i64 (j2 : Int) ∧ j2 = scanDown (fun x => !ltInt x dk[a]!) dk i2 (b - 1) ∧ At w g n dk wc)
    case first =>
      go_wp2
      go_loopg [11] (b - 1) (fun gh v wc => ∃ p : Nat, v = .int .i64 (p : Int) ∧ p ≤ (b - 1) ∧ gh = p ∧ i2 ≤ p + 1 ∧ At w g n dk wc ∧ scanDown (fun x => !ltInt x dk[a]!) dk i2 p = scanDown (fun x => !ltInt x dk[a]!) dk i2 (b - 1))
      case atStart => exact ⟨(b - 1), by first | rfl | (congr 1; omega), Nat.le_refl _, rfl, by omega, HA2.out, rfl⟩
      case round =>
        obtain ⟨p, rfl, hp1, hgp, hp3, hA3, hS⟩ := hrel
        have HA3 := Lib.hid hA3; have HS := Lib.hid hS
        clear hA3 hS
        by_cases hle : i2 ≤ p
        · obtain ⟨x, hxx⟩ : ∃ x, x = dk[p]! := ⟨_, rfl⟩
          obtain ⟨A, hAA⟩ : ∃ A, A = dk[a]! := ⟨_, rfl⟩
          have cx := HA3.out.arr.cell (t := p) (by omega)
          have ca := HA3.out.arr.cell (t := a) (by omega)
          rw [← hxx] at cx
          rw [← hAA] at ca
          have HXX := Lib.hid hxx; have HAA := Lib.hid hAA
          clear hxx hAA
          
          go_wp2
          go_big_quiet (first | (go_at_call 32; refine Calls.quiet_of_same (less_c _ _ _)))
          go_wp2
          · have hx : (!ltInt x A) = true := by assumption
            rw [HAA.out] at hx
            go_roundg (p - 1)
            case rel => exact ⟨p - 1, by congr 1; omega, by omega, rfl, by omega, HA3.out.drewN _, by rw [← HS.out]; exact (scanDown_go _ dk i2 p hle (by omega) (by rw [← HXX.out]; first | exact hx | simpa [HAA.out] using hx)).symm⟩
            case measure => omega
          · have hx : (!ltInt x A) = false := by assumption
            rw [HAA.out] at hx
            go_meet
            exact ⟨p, rfl, by rw [← HS.out]; exact (scanDown_end _ dk i2 p (Or.inr (by rw [← HXX.out]; first | exact hx | simpa [HAA.out] using hx))).symm, HA3.out.drewN _⟩
        · have hz : decide ((i2 : Int) ≤ (p : Int)) = false := decide_eq_false (by omega)
          go_wp2
          go_big_quiet (first | (go_at_call 32; refine Calls.quiet_of_same (less_c _ _ _)))
          go_wp2
          go_meet
          exact ⟨p, rfl, by rw [← HS.out]; exact (scanDown_end _ dk i2 p (Or.inl hle)).symm, HA3.out.drewN _⟩
    case rest =>
      obtain ⟨j2, rfl, hj2, hA⟩ := hcut
      have hj3 : j2 ≤ b - 1 := by rw [hj2]; exact scanDown_le _ _ _ _
      have HA3 := Lib.hid hA; have HJ2 := Lib.hid hj2
      clear hA hj2 HA2
      have hj0 : j2 + 1 ≥ i2 := by
        rw [HJ2.out]; exact (scanDown_spec (fun x => !ltInt x dk[a]!) dk i2 (b - 1)).2.1 (by omega)
      by_cases hgt : j2 < i2
      · have hE : R = (j2, true, Sort.swp dk j2 a) := by rw [HR.out]; exact part_first_break ltInt d a b pivot rfl rfl HDK.out HI2.out HJ2.out hgt
        have HE := Lib.hid hE
        clear hE
        obtain ⟨x, hx⟩ : ∃ x, x = dk[j2]! := ⟨_, rfl⟩
        obtain ⟨y, hy⟩ : ∃ y, y = dk[a]! := ⟨_, rfl⟩
        have cx := HA3.out.arr.cell (t := j2) (by omega)
        have cy := HA3.out.arr.cell (t := a) (by omega)
        rw [← hx] at cx
        rw [← hy] at cy
        have fx := HA3.out.arr.free j2
        have fy := HA3.out.arr.free a
        obtain ⟨v1, hv1⟩ := cell?_setCell_some (w := wc) (p := ⟨g, j2, none⟩) (x := .int .u64 y) (q := ⟨g, a, none⟩) (v := .int .u64 y) cy
        have HSW := Lib.hid (HA3.out.swap hx hy (by omega) (by omega))
        clear hx hy
        go_wp2
        go_region
        go_wp2
        go_ret2
        rw [HE.out]
        exact ⟨rfl, HSW.out⟩
      · have hlt : i2 < j2 := part_scans_lt ltInt a (a + 1) (b - 1) dk (by omega) HI2.out HJ2.out (by omega)
        obtain ⟨Q, hQ⟩ : ∃ Q, Q = partLoop ltInt a (i2 + 1) (j2 - 1) (Sort.swp dk i2 j2) := ⟨_, rfl⟩
        have hE : R = (Q.1, false, Sort.swp Q.2 Q.1 a) := by rw [HR.out, hQ]; exact part_first_go ltInt d a b pivot rfl rfl HDK.out HI2.out HJ2.out (by omega)
        have HE := Lib.hid hE; have HQ := Lib.hid hQ
        clear hE hQ
        obtain ⟨x, hx⟩ : ∃ x, x = dk[i2]! := ⟨_, rfl⟩
        obtain ⟨y, hy⟩ : ∃ y, y = dk[j2]! := ⟨_, rfl⟩
        have cx := HA3.out.arr.cell (t := i2) (by omega)
        have cy := HA3.out.arr.cell (t := j2) (by omega)
        rw [← hx] at cx
        rw [← hy] at cy
        have fx := HA3.out.arr.free i2
        have fy := HA3.out.arr.free j2
        have HSW := Lib.hid (HA3.out.swap hx hy (by omega) (by omega))
        clear hx hy
        go_wp2
        go_region
        clear cx cy fx fy
        clear hi4 hj0 hgt
        have hab : a < b := by omega
        go_upto_block 4 with fail
        go_cut [11] (fun v wc => v = .int .i64 (Q.1 : Int) ∧ a ≤ Q.1 ∧ Q.1 < b ∧ At w g n Q.2 wc)
        case first =>
          go_wp2
          go_loopg [10, 11] (j2 - 1 - i2) (fun gh vi vj wr => ∃ (i j : Nat) (dl : Array Int), vi = .int .i64 (i : Int) ∧ vj = .int .i64 (j : Int) ∧ a < i ∧ i ≤ j + 1 ∧ j < b ∧ gh + i = j + 1 ∧ At w g n dl wr ∧ partLoop ltInt a i j dl = Q)
          case atStart => exact ⟨i2 + 1, j2 - 1, _, rfl, by first | rfl | (congr 1; omega), by omega, by omega, by omega, by omega, HSW.out, HQ.out.symm⟩
          case round =>
            obtain ⟨i, j, dl, rfl, rfl, hai, hij, hjb, hgh, hA, hL⟩ := hrel
            have HA := Lib.hid hA; have HL := Lib.hid hL
            clear hA hL
            go_upto_block 6 with fail
            go_cut [10] (fun v wc => ∃ i3 : Nat, v = .int .i64 (i3 : Int) ∧ i3 = scanUp (fun x => ltInt x dl[a]!) dl j i ∧ At w g n dl wc)
            case first =>
              go_wp2
              go_loopg [10] (j + 1 - i) (fun gh v wc => ∃ p : Nat, v = .int .i64 (p : Int) ∧ i ≤ p ∧ p + gh = j + 1 ∧ At w g n dl wc ∧ scanUp (fun x => ltInt x dl[a]!) dl j p = scanUp (fun x => ltInt x dl[a]!) dl j i)
              case atStart => exact ⟨i, rfl, Nat.le_refl _, by omega, HA.out, rfl⟩
              case round =>
                obtain ⟨p, rfl, hp1, hp2, hA3, hS⟩ := hrel
                have HA3 := Lib.hid hA3; have HS := Lib.hid hS
                clear hA3 hS
                by_cases hle : p ≤ j
                · obtain ⟨x, hxx⟩ : ∃ x, x = dl[p]! := ⟨_, rfl⟩
                  obtain ⟨A, hAA⟩ : ∃ A, A = dl[a]! := ⟨_, rfl⟩
                  have cx := HA3.out.arr.cell (t := p) (by omega)
                  have ca := HA3.out.arr.cell (t := a) (by omega)
                  rw [← hxx] at cx
                  rw [← hAA] at ca
                  have HXX := Lib.hid hxx; have HAA := Lib.hid hAA
                  clear hxx hAA
                  
                  go_wp2
                  go_big_quiet (first | (go_at_call 32; refine Calls.quiet_of_same (less_c _ _ _)))
                  go_wp2
                  · have hx : ltInt x A = true := by assumption
                    rw [HAA.out] at hx
                    go_roundg (j - p)
                    case rel => exact ⟨p + 1, rfl, by omega, by omega, HA3.out.drewN _, by rw [← HS.out]; exact (scanUp_go _ dl j p hle (by rw [← HXX.out]; first | exact hx | simpa [HAA.out] using hx)).symm⟩
                    case measure => omega
                  · have hx : ltInt x A = false := by assumption
                    rw [HAA.out] at hx
                    go_meet
                    exact ⟨p, rfl, by rw [← HS.out]; exact (scanUp_end _ dl j p (Or.inr (by rw [← HXX.out]; first | exact hx | simpa [HAA.out] using hx))).symm, HA3.out.drewN _⟩
                · have hz : decide ((p : Int) ≤ (j : Int)) = false := decide_eq_false (by omega)
                  go_wp2
                  go_big_quiet (first | (go_at_call 32; refine Calls.quiet_of_same (less_c _ _ _)))
                  go_wp2
                  go_meet
                  exact ⟨p, rfl, by rw [← HS.out]; exact (scanUp_end _ dl j p (Or.inl hle)).symm, HA3.out.drewN _⟩
            case rest =>
              obtain ⟨i3, rfl, hi2, hA⟩ := hcut
              have hi3 : i ≤ i3 := by rw [hi2]; exact scanUp_ge _ _ _ _
              have hi4 : i3 ≤ j + 1 := by
                rw [hi2]; exact (scanUp_spec (fun x => ltInt x dl[a]!) dl j _ i rfl).2.1 hij
              have HA2 := Lib.hid hA; have HI3 := Lib.hid hi2
              clear hA hi2
              go_upto_block 8 with fail
              go_cut [11] (fun v wc => ∃ j3 : Nat, v = .int .i64 (j3 : Int) ∧ j3 = scanDown (fun x => !ltInt x dl[a]!) dl i3 j ∧ At w g n dl wc)
              case first =>
                go_wp2
                go_loopg [11] j (fun gh v wc => ∃ p : Nat, v = .int .i64 (p : Int) ∧ p ≤ j ∧ gh = p ∧ i3 ≤ p + 1 ∧ At w g n dl wc ∧ scanDown (fun x => !ltInt x dl[a]!) dl i3 p = scanDown (fun x => !ltInt x dl[a]!) dl i3 j)
                case atStart => exact ⟨j, by first | rfl | (congr 1; omega), Nat.le_refl _, rfl, by omega, HA2.out, rfl⟩
                case round =>
                  obtain ⟨p, rfl, hp1, hgp, hp3, hA3, hS⟩ := hrel
                  have HA3 := Lib.hid hA3; have HS := Lib.hid hS
                  clear hA3 hS
                  by_cases hle : i3 ≤ p
                  · obtain ⟨x, hxx⟩ : ∃ x, x = dl[p]! := ⟨_, rfl⟩
                    obtain ⟨A, hAA⟩ : ∃ A, A = dl[a]! := ⟨_, rfl⟩
                    have cx := HA3.out.arr.cell (t := p) (by omega)
                    have ca := HA3.out.arr.cell (t := a) (by omega)
                    rw [← hxx] at cx
                    rw [← hAA] at ca
                    have HXX := Lib.hid hxx; have HAA := Lib.hid hAA
                    clear hxx hAA
                    
                    go_wp2
                    go_big_quiet (first | (go_at_call 32; refine Calls.quiet_of_same (less_c _ _ _)))
                    go_wp2
                    · have hx : (!ltInt x A) = true := by assumption
                      rw [HAA.out] at hx
                      go_roundg (p - 1)
                      case rel => exact ⟨p - 1, by congr 1; omega, by omega, rfl, by omega, HA3.out.drewN _, by rw [← HS.out]; exact (scanDown_go _ dl i3 p hle (by omega) (by rw [← HXX.out]; first | exact hx | simpa [HAA.out] using hx)).symm⟩
                      case measure => omega
                    · have hx : (!ltInt x A) = false := by assumption
                      rw [HAA.out] at hx
                      go_meet
                      exact ⟨p, rfl, by rw [← HS.out]; exact (scanDown_end _ dl i3 p (Or.inr (by rw [← HXX.out]; first | exact hx | simpa [HAA.out] using hx))).symm, HA3.out.drewN _⟩
                  · have hz : decide ((i3 : Int) ≤ (p : Int)) = false := decide_eq_false (by omega)
                    go_wp2
                    go_big_quiet (first | (go_at_call 32; refine Calls.quiet_of_same (less_c _ _ _)))
                    go_wp2
                    go_meet
                    exact ⟨p, rfl, by rw [← HS.out]; exact (scanDown_end _ dl i3 p (Or.inl hle)).symm, HA3.out.drewN _⟩
              case rest =>
                obtain ⟨j3, rfl, hj2, hA⟩ := hcut
                have hj3 : j3 ≤ j := by rw [hj2]; exact scanDown_le _ _ _ _
                have HA3 := Lib.hid hA; have HJ3 := Lib.hid hj2
                clear hA hj2
                have hj0 : j3 + 1 ≥ i3 := by
                  rw [HJ3.out]; exact (scanDown_spec (fun x => !ltInt x dl[a]!) dl i3 j).2.1 (by omega)
                by_cases hgt : j3 < i3
                · have hE : Q = (j3, dl) := by rw [← HL.out]; exact part_break ltInt a i j dl HI3.out HJ3.out hgt
                  go_wp2
                  go_meet
                  rw [hE]
                  exact ⟨rfl, by simp only []; omega, by simp only []; omega, HA3.out⟩
                · have hlt : i3 < j3 := part_scans_lt ltInt a i j dl (by omega) HI3.out HJ3.out (by omega)
                  have HN : Hid (partLoop ltInt a (i3 + 1) (j3 - 1) (Sort.swp dl i3 j3) = Q) := Lib.hid (by rw [← HL.out]; exact (part_go ltInt a i j dl HI3.out HJ3.out (by omega)).symm)
                  obtain ⟨x, hx⟩ : ∃ x, x = dl[i3]! := ⟨_, rfl⟩
                  obtain ⟨y, hy⟩ : ∃ y, y = dl[j3]! := ⟨_, rfl⟩
                  have cx := HA3.out.arr.cell (t := i3) (by omega)
                  have cy := HA3.out.arr.cell (t := j3) (by omega)
                  rw [← hx] at cx
                  rw [← hy] at cy
                  have fx := HA3.out.arr.free i3
                  have fy := HA3.out.arr.free j3
                  have HSW := Lib.hid (HA3.out.swap hx hy (by omega) (by omega))
                  clear hx hy
                  go_wp2
                  go_region
                  go_wp2
                  go_roundg (j3 - 1 - i3)
                  case rel => exact ⟨i3 + 1, j3 - 1, _, rfl, by congr 1; omega, by omega, by omega, by omega, by omega, HSW.out, HN.out⟩
                  case measure => omega
        case rest =>
          obtain ⟨rfl, hq1, hq2, hA⟩ := hcut
          obtain ⟨q, dq⟩ := Q
          simp only [] at hq1 hq2 hA HE
          have HA9 := Lib.hid hA
          clear hA HA3 HSW HQ
          obtain ⟨x, hx⟩ : ∃ x, x = dq[q]! := ⟨_, rfl⟩
          obtain ⟨y, hy⟩ : ∃ y, y = dq[a]! := ⟨_, rfl⟩
          have cx := HA9.out.arr.cell (t := q) (by omega)
          have cy := HA9.out.arr.cell (t := a) (by omega)
          rw [← hx] at cx
          rw [← hy] at cy
          have fx := HA9.out.arr.free q
          have fy := HA9.out.arr.free a
          obtain ⟨v1, hv1⟩ := cell?_setCell_some (w := wc) (p := ⟨g, q, none⟩) (x := .int .u64 y) (q := ⟨g, a, none⟩) (v := .int .u64 y) cy
          have HSW := Lib.hid (HA9.out.swap hx hy (by omega) (by omega))
          clear hx hy
          go_wp2
          go_region
          go_wp2
          go_ret2
          rw [HE.out]
          exact ⟨rfl, HSW.out⟩
end Go.Proofs.Ytgnkhpcnlffjnaa
