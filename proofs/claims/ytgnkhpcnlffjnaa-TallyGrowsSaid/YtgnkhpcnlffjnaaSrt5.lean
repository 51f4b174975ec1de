/- The library's sort at numbers of 64 bits: the partial insertion sort. -/
import Derived.Test.YtgnkhpcnlffjnaaSrt1
import Derived.Sort.WalkA6
import Derived.Deep.DeepCutAuto
import Derived.Deep.CutBlock
namespace Go.Proofs.Ytgnkhpcnlffjnaa
open Go Go.RowKit Go.Sort

theorem scanSorted_bd (lt : Int → Int → Bool) (d : Array Int) (b : Nat) : ∀ (m i : Nat), b - i ≤ m → i ≤ b → i ≤ scanSorted lt d b i ∧ scanSorted lt d b i ≤ b
  | 0, i, hm, hi => by rw [scanSorted]; split <;> (try simp_all) <;> omega
  | m + 1, i, hm, hi => by
    rw [scanSorted]
    split
    · rename_i h
      simp at h
      have := scanSorted_bd lt d b m (i + 1) (by omega) (by omega)
      omega
    · omega

set_option maxHeartbeats 8000000 in
set_option maxRecDepth 100000 in
theorem partial_c (g n cap a b : Nat) (d : Array Int) (w : World) (h : Arr w g d n) (hab : a < b) (hb : b ≤ n) (hc : Cap n cap) :
    Calls Try.prog 31 #[.slice (some ⟨g, 0, none⟩) n cap, .int .i64 (a : Int), .int .i64 (b : Int)] w (fun en w' => en = .returned (.bool (partialInsertionSort ltInt d a b).2) ∧ At w g n (partialInsertionSort ltInt d a b).1 w') := by
  have hc1 := hc.le
  have hc2 := hc.most
  obtain ⟨R, hR⟩ : ∃ R, R = partialInsertionSort ltInt d a b := ⟨_, rfl⟩
  rw [← hR]
  have HR := Lib.hid hR; have H := Lib.hid h
  clear hR h
  go_enter Try.func31, Try.ntmps31
  go_wp2
  go_loopg [7, 8] 5 (fun gh vi vs wr => ∃ (i s : Nat) (dk : Array Int), vi = .int .i64 (i : Int) ∧ vs = .int .i64 (s : Int) ∧ a < i ∧ i ≤ b ∧ s + gh = 5 ∧ At w g n dk wr ∧ partialIns ltInt a b (5 - s) i dk = R)
  case atStart => exact ⟨a + 1, 0, d, by go_num, rfl, by omega, by omega, rfl, At.refl H.out, by rw [HR.out, partialInsertionSort]⟩
  case round =>
    obtain ⟨i, s, dk, rfl, rfl, hai, hib, hgh, hA, hL⟩ := hrel
    have HA := Lib.hid hA; have HL := Lib.hid hL
    clear hA hL
    by_cases hs5 : s < 5
    · go_upto_block 2 with fail
      go_cut [7] (fun v wc => ∃ k : Nat, v = .int .i64 (k : Int) ∧ k = scanSorted ltInt dk b i ∧ At w g n dk wc)
      case first =>
        go_wp2
        go_loopg [7] (b - i) (fun gh v wc => ∃ p : Nat, v = .int .i64 (p : Int) ∧ i ≤ p ∧ p + gh = b ∧ At w g n dk wc ∧ scanSorted ltInt dk b p = scanSorted ltInt dk b i)
        case atStart => exact ⟨i, rfl, Nat.le_refl _, by omega, HA.out, rfl⟩
        case round =>
          obtain ⟨p, rfl, hp1, hp2, hA3, hS⟩ := hrel
          have HA3 := Lib.hid hA3; have HS := Lib.hid hS
          clear hA3 hS
          by_cases hle : p < b
          · obtain ⟨x, hx⟩ : ∃ x, x = dk[p]! := ⟨_, rfl⟩
            obtain ⟨y, hy⟩ : ∃ y, y = dk[p - 1]! := ⟨_, rfl⟩
            have cx := HA3.out.arr.cell (t := p) (by omega)
            have cy := HA3.out.arr.cell (t := p - 1) (by omega)
            rw [← hx] at cx
            rw [← hy] at cy
            have fx := HA3.out.arr.free (p)
            have fy := HA3.out.arr.free (p - 1)
            have HX := Lib.hid hx; have HY := Lib.hid hy
            clear hx hy
            go_wp2
            go_quiet (first | (go_at_call 32; refine Calls.quiet_of_same (less_c _ _ _)))
            go_wp2
            · have hl : ltInt x y = false := by
                have : (!ltInt x y) = true := by assumption
                simpa using this
              go_roundg (b - (p + 1))
              case rel => exact ⟨p + 1, rfl, by omega, by omega, HA3.out.drewN _, by rw [← HS.out]; exact (scanSorted_go ltInt dk b p hle (by rw [← HX.out, ← HY.out]; exact hl)).symm⟩
              case measure => omega
            · have hl : ltInt x y = true := by
                have : (!ltInt x y) = false := by assumption
                simpa using this
              go_meet
              exact ⟨p, rfl, by rw [← HS.out]; exact (scanSorted_stop ltInt dk b p (Or.inr (by rw [← HX.out, ← HY.out]; exact hl))).symm, HA3.out.drewN _⟩
          · have hz : decide ((p : Int) < (b : Int)) = false := decide_eq_false (by omega)
            go_wp2
            go_quiet (first | (go_at_call 32; refine Calls.quiet_of_same (less_c _ _ _)))
            go_wp2
            go_meet
            exact ⟨p, rfl, by rw [← HS.out]; exact (scanSorted_stop ltInt dk b p (Or.inl hle)).symm, HA3.out.drewN _⟩
      case rest =>
        obtain ⟨k, rfl, hk, hA⟩ := hcut
        obtain ⟨hk1, hk2⟩ : i ≤ k ∧ k ≤ b := by rw [hk]; exact scanSorted_bd ltInt dk b _ i (Nat.le_refl _) hib
        have HK := Lib.hid hk; have HA2 := Lib.hid hA
        clear hk hA HA
        by_cases hkb : k = b
        · have hE : R = (dk, true) := by rw [← HL.out]; exact pi_true ltInt a b s i dk hs5 (by rw [← HK.out, hkb])
          subst hkb
          go_wp2
          go_ret
          rw [hE]
          exact ⟨rfl, HA2.out⟩
        · have hbe : ((k : Int) == (b : Int)) = false := by rw [beq_eq_false_iff_ne]; omega
          have hne : scanSorted ltInt dk b i ≠ b := by rw [← HK.out]; exact hkb
          have HNE := Lib.hid hne; have HKB := Lib.hid hkb
          clear hne hkb
          by_cases h50 : b - a < 50
          · have hE : R = (dk, false) := by rw [← HL.out]; exact pi_short ltInt a b s i dk hs5 HNE.out h50
            have HE := Lib.hid hE
            clear hE
            go_wp2
            go_ret
            rw [HE.out]
            exact ⟨rfl, HA2.out⟩
          · have HN : Hid (partialIns ltInt a b (5 - (s + 1)) k (fixUp ltInt b k (fixDown ltInt a k (Sort.swp dk k (k - 1)))) = R) := Lib.hid (by rw [← HL.out]; exact (pi_go ltInt a b s i k dk hs5 HK.out.symm HKB.out h50).symm)
            have hkn : k < b := by have := HKB.out; omega
            have hk0 : 1 ≤ k := by omega
            obtain ⟨x, hx⟩ : ∃ x, x = dk[k]! := ⟨_, rfl⟩
            obtain ⟨y, hy⟩ : ∃ y, y = dk[k - 1]! := ⟨_, rfl⟩
            have cx := HA2.out.arr.cell (t := k) (by omega)
            have cy := HA2.out.arr.cell (t := k - 1) (by omega)
            rw [← hx] at cx
            rw [← hy] at cy
            have fx := HA2.out.arr.free (k)
            have fy := HA2.out.arr.free (k - 1)
            have HX := Lib.hid hx; have HY := Lib.hid hy
            clear hx hy
            have HSW := Lib.hid (HA2.out.swap HX.out HY.out (by omega) (by omega))
            obtain ⟨D1, hD1⟩ : ∃ D1, D1 = Sort.swp dk k (k - 1) := ⟨_, rfl⟩
            rw [← hD1] at HSW HN
            obtain ⟨D2, hD2⟩ : ∃ D2, D2 = fixDown ltInt a k D1 := ⟨_, rfl⟩
            rw [← hD2] at HN
            obtain ⟨D3, hD3⟩ : ∃ D3, D3 = fixUp ltInt b k D2 := ⟨_, rfl⟩
            rw [← hD3] at HN
            have HDD2 := Lib.hid hD2; have HDD3 := Lib.hid hD3
            clear hD1 hD2 hD3
            go_wp2_with fail
            go_region
            clear cx cy fx fy
            have HA1 := HSW
            clear HSW HA2
            go_upto_if 61 with fail
            go_cut [9] (fun _v wc => At w g n D2 wc)
            case first =>
              by_cases h2 : 2 ≤ k - a
              · have HD2 : Hid (D2 = shiftDown ltInt (k - 1) D1) := Lib.hid (by rw [HDD2.out, fixDown, if_pos h2])
                have hz : decide ((2 : Int) ≤ (k : Int) - (a : Int)) = true := decide_eq_true (by omega)
                go_wp2
                go_loopg [9] (k - 1) (fun gh v wc => ∃ dj : Array Int, v = .int .i64 (gh : Int) ∧ gh ≤ k - 1 ∧ At w g n dj wc ∧ shiftDown ltInt gh dj = D2)
                case atStart => exact ⟨_, by congr 1; omega, Nat.le_refl _, HA1.out, HD2.out.symm⟩
                case round =>
                  obtain ⟨dj, rfl, hg, hA, hS⟩ := hrel
                  have HA := Lib.hid hA; have HS := Lib.hid hS
                  clear hA hS
                  by_cases hle : 1 ≤ gk
                  · obtain ⟨x, hx⟩ : ∃ x, x = dj[gk]! := ⟨_, rfl⟩
                    obtain ⟨y, hy⟩ : ∃ y, y = dj[gk - 1]! := ⟨_, rfl⟩
                    have cx := HA.out.arr.cell (t := gk) (by omega)
                    have cy := HA.out.arr.cell (t := gk - 1) (by omega)
                    rw [← hx] at cx
                    rw [← hy] at cy
                    have fx := HA.out.arr.free (gk)
                    have fy := HA.out.arr.free (gk - 1)
                    have HX := Lib.hid hx; have HY := Lib.hid hy
                    clear hx hy
                    go_wp2
                    go_quiet (first | (go_at_call 32; refine Calls.quiet_of_same (less_c _ _ _)))
                    go_wp2
                    · have hl : ltInt x y = false := by
                        have : (!ltInt x y) = true := by assumption
                        simpa using this
                      have hE : dj = D2 := by rw [← HS.out]; exact (shiftDown_stop ltInt gk dj (Or.inr (by rw [← HX.out, ← HY.out]; exact hl))).symm
                      have HE := Lib.hid hE
                      clear hE
                      go_meet
                      exact HE.out ▸ HA.out.drewN _
                    · have hl : ltInt x y = true := by
                        have : (!ltInt x y) = false := by assumption
                        simpa using this
                      have HSW : Hid (∀ m, At w g n (Sort.swp dj gk (gk - 1)) (((wr.drewN m).setCell ⟨g, gk, none⟩ (.int .u64 y)).setCell ⟨g, gk - 1, none⟩ (.int .u64 x))) := Lib.hid fun m => HA.out.swapN HX.out HY.out (by omega) (by omega) m
                      have HN : Hid (shiftDown ltInt (gk - 1) (Sort.swp dj gk (gk - 1)) = D2) := Lib.hid (by rw [← HS.out]; exact (shiftDown_go ltInt gk dj hle (by rw [← HX.out, ← HY.out]; exact hl)).symm)
                      go_region
                      go_wp2
                      go_roundg (gk - 1)
                      case rel => exact ⟨_, by congr 1; omega, by omega, HSW.out _, HN.out⟩
                      case measure => omega
                  · go_wp2
                    have hE : dj = D2 := by rw [← HS.out]; exact (shiftDown_stop ltInt gk dj (Or.inl (by omega))).symm
                    have HE := Lib.hid hE
                    clear hE
                    go_meet
                    exact HE.out ▸ HA.out
              · have hE : D1 = D2 := by rw [HDD2.out, fixDown, if_neg h2]
                have HE := Lib.hid hE
                clear hE
                go_wp2
                go_meet
                exact HE.out ▸ HA1.out
            case rest =>
              have HA2 := Lib.hid hcut
              clear hcut HA1
              have HN0 := HN
              have HA1 := HA2
              by_cases h2 : 2 ≤ b - k
              · have HD2 : Hid (D3 = shiftUp ltInt b (k + 1) D2) := Lib.hid (by rw [HDD3.out, fixUp, if_pos h2])
                go_wp2
                go_loopg [10] (b - k) (fun gh v wc => ∃ (p : Nat) (dj : Array Int), v = .int .i64 (p : Int) ∧ k < p ∧ p + gh = b + 1 ∧ At w g n dj wc ∧ shiftUp ltInt b p dj = D3)
                case atStart => exact ⟨k + 1, _, by first | rfl | (congr 1; omega), by omega, by omega, HA1.out, HD2.out.symm⟩
                case round =>
                  obtain ⟨p, dj, rfl, hg, hgh2, hA, hS⟩ := hrel
                  have HA := Lib.hid hA; have HS := Lib.hid hS
                  clear hA hS
                  by_cases hle : p < b
                  · obtain ⟨x, hx⟩ : ∃ x, x = dj[p]! := ⟨_, rfl⟩
                    obtain ⟨y, hy⟩ : ∃ y, y = dj[p - 1]! := ⟨_, rfl⟩
                    have cx := HA.out.arr.cell (t := p) (by omega)
                    have cy := HA.out.arr.cell (t := p - 1) (by omega)
                    rw [← hx] at cx
                    rw [← hy] at cy
                    have fx := HA.out.arr.free (p)
                    have fy := HA.out.arr.free (p - 1)
                    have HX := Lib.hid hx; have HY := Lib.hid hy
                    clear hx hy
                    go_wp2
                    go_quiet (first | (go_at_call 32; refine Calls.quiet_of_same (less_c _ _ _)))
                    go_wp2
                    · have hl : ltInt x y = false := by
                        have : (!ltInt x y) = true := by assumption
                        simpa using this
                      have hE : dj = D3 := by rw [← HS.out]; exact (shiftUp_stop ltInt b p dj (Or.inr (by rw [← HX.out, ← HY.out]; exact hl))).symm
                      have HE := Lib.hid hE
                      clear hE
                      go_roundg (4 - s)
                      case rel => exact ⟨k, s + 1, D3, rfl, rfl, by omega, by omega, by omega, HE.out ▸ HA.out.drewN _, HN0.out⟩
                      case measure => omega
                    · have hl : ltInt x y = true := by
                        have : (!ltInt x y) = false := by assumption
                        simpa using this
                      have HSW : Hid (∀ m, At w g n (Sort.swp dj p (p - 1)) (((wr.drewN m).setCell ⟨g, p, none⟩ (.int .u64 y)).setCell ⟨g, p - 1, none⟩ (.int .u64 x))) := Lib.hid fun m => HA.out.swapN HX.out HY.out (by omega) (by omega) m
                      have HN : Hid (shiftUp ltInt b (p + 1) (Sort.swp dj p (p - 1)) = D3) := Lib.hid (by rw [← HS.out]; exact (shiftUp_go ltInt b p dj hle (by rw [← HX.out, ← HY.out]; exact hl)).symm)
                      go_region
                      go_wp2
                      go_roundg (b - p)
                      case rel => exact ⟨p + 1, _, rfl, by omega, by omega, HSW.out _, HN.out⟩
                      case measure => omega
                  · go_wp2
                    have hE : dj = D3 := by rw [← HS.out]; exact (shiftUp_stop ltInt b p dj (Or.inl hle)).symm
                    have HE := Lib.hid hE
                    clear hE
                    go_roundg (4 - s)
                    case rel => exact ⟨k, s + 1, D3, rfl, rfl, by omega, by omega, by omega, HE.out ▸ HA.out, HN0.out⟩
                    case measure => omega
              · have hE : D2 = D3 := by rw [HDD3.out, fixUp, if_neg h2]
                have HE := Lib.hid hE
                clear hE
                go_wp2
                go_roundg (4 - s)
                case rel => exact ⟨k, s + 1, D3, rfl, rfl, by omega, by omega, by omega, HE.out ▸ HA1.out, HN0.out⟩
                case measure => omega
    · obtain rfl : s = 5 := by omega
      have hE : R = (dk, false) := HL.out.symm
      go_wp2
      go_ret
      rw [hE]
      exact ⟨rfl, HA.out⟩
end Go.Proofs.Ytgnkhpcnlffjnaa
