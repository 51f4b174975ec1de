/- The library's sort at numbers of 64 bits: pdqsort, slices.Sort. -/
import Derived.Test.YtgnkhpcnlffjnaaSrt2
import Derived.Test.YtgnkhpcnlffjnaaSrt4
import Derived.Test.YtgnkhpcnlffjnaaSrt5
import Derived.Test.YtgnkhpcnlffjnaaSrt7
import Derived.Test.YtgnkhpcnlffjnaaSrt8
namespace Go.Proofs.Ytgnkhpcnlffjnaa
open Go Go.RowKit Go.Sort

def Sorted (a b : Nat) (d R : Array Int) : Prop := PermIn a b d R ∧ SortedIn ltInt a b R
def PdqP (g n a b : Nat) (d : Array Int) (w : World) (en : Ending) (w' : World) : Prop := ∃ R, Sorted a b d R ∧ SortP g n R w en w'

theorem pdq_ret {g n a b : Nat} {d : Array Int} {w W : World} {tmps : Array Value} (h : ∃ R, Sorted a b d R ∧ At w g n R W) :
    bodyPost Try.prog Try.f23 (PdqP g n a b d w) .ret { tmps := tmps, defers := [] } W := by
  obtain ⟨R, h1, h2⟩ := h
  exact bodyPost_ret (results_none rfl _ _ _) rfl ⟨R, h1, rfl, h2⟩

set_option maxHeartbeats 8000000 in
set_option maxRecDepth 100000 in
theorem pdq_c : ∀ (N g n cap a b lim0 : Nat) (d : Array Int) (w : World), b - a ≤ N → Arr w g d n → a ≤ b → b ≤ n → Cap n cap → lim0 ≤ 4611686018427387903 → Sort.Below ltInt a b d →
    Calls Try.prog 23 #[.slice (some ⟨g, 0, none⟩) n cap, .int .i64 (a : Int), .int .i64 (b : Int), .int .i64 (lim0 : Int)] w (PdqP g n a b d w) := by
  intro N
  induction N with
  | zero =>
    intro g n cap a b lim0 d w hN h hab hb hc hlim hB
    have hc1 := hc.le
    have hc2 := hc.most
    have H := Lib.hid h; have HC := Lib.hid hc
    clear h hc hB
    go_enter Try.func23, Try.ntmps23
    go_wp2_with fail
    refine wp_loop_rounds 1 ?_
    rw [rounds_succ]
    go_wp2_with fail
    refine (ins_c g n cap a b d w H.out hab hb HC.out).mono ?_
    rintro en w1 ⟨rfl, hA⟩
    have HA := Lib.hid hA
    clear hA
    go_wp2_with fail
    have := insertionSort_holds swo_ltInt d a b hab (by rw [H.out.size]; exact hb)
    exact pdq_ret ⟨_, this, HA.out⟩
  | succ N ih =>
    intro g n cap a b lim0 d w hN h hab hb hc hlim hB
    have hc1 := hc.le
    have hc2 := hc.most
    have H := Lib.hid h; have HC := Lib.hid hc; have IH := Lib.hid ih; have HB := Lib.hid hB
    clear h hc ih hB
    go_enter Try.func23, Try.ntmps23
    go_wp2_with fail
    go_loopg [1, 2, 3, 8, 9] (b - a) (fun gh va vb vl v8 v9 wr => ∃ (a1 b1 lim : Nat) (wb wp : Bool) (dk : Array Int), va = .int .i64 (a1 : Int) ∧ vb = .int .i64 (b1 : Int) ∧ vl = .int .i64 (lim : Int) ∧ v8 = .bool wb ∧ v9 = .bool wp ∧ a1 + gh = b1 ∧ b1 ≤ n ∧ b1 - a1 ≤ N + 1 ∧ lim ≤ 4611686018427387903 ∧ At w g n dk wr ∧ Sort.Below ltInt a1 b1 dk ∧ (∀ R, Sorted a1 b1 dk R → Sorted a b d R))
    case atStart => exact ⟨a, b, lim0, true, true, d, rfl, rfl, rfl, rfl, rfl, by omega, hb, hN, hlim, At.refl H.out, HB.out, fun _ h => h⟩
    case round =>
      obtain ⟨a1, b1, lim, wb, wp, dk, rfl, rfl, rfl, rfl, rfl, hg, hb1, hN1, hl1, hA, hB1, hK⟩ := hrel
      have HA := Lib.hid hA; have HB1 := Lib.hid hB1; have HK := Lib.hid hK
      clear hA hB1 hK
      have hab1 : a1 ≤ b1 := by omega
      by_cases h12 : b1 - a1 ≤ 12
      · go_wp2_with fail
        refine (ins_c g n cap a1 b1 dk wr HA.out.arr hab1 hb1 HC.out).mono ?_
        rintro en w1 ⟨rfl, hA⟩
        have HA1 := Lib.hid (HA.out.trans hA)
        clear hA
        go_wp2_with fail
        exact pdq_ret ⟨_, HK.out _ (insertionSort_holds swo_ltInt dk a1 b1 hab1 (by rw [HA.out.arr.size]; exact hb1)), HA1.out⟩
      · by_cases hl0 : lim = 0
        · subst hl0
          go_wp2_with fail
          refine (heap_c g n cap a1 b1 dk wr HA.out.arr hab1 hb1 HC.out).mono ?_
          rintro en w1 ⟨rfl, hA⟩
          have HA1 := Lib.hid (HA.out.trans hA)
          clear hA
          go_wp2_with fail
          exact pdq_ret ⟨_, HK.out _ (heapSort_holds swo_ltInt dk a1 b1 hab1 (by rw [HA.out.arr.size]; exact hb1)), HA1.out⟩
        · have hl00 : ((lim : Int) == 0) = false := by rw [beq_eq_false_iff_ne]; omega
          have HL0 := Lib.hid hl0
          clear hl0
          go_upto_if 35 with fail
          go_cut [3] (fun v wc => ∃ (lim2 : Nat) (d1 : Array Int), v = .int .i64 (lim2 : Int) ∧ lim2 ≤ 4611686018427387903 ∧ PermIn a1 b1 dk d1 ∧ At w g n d1 wc)
          case first =>
            cases wb with
            | true =>
              go_wp2_with fail
              go_meet
              exact ⟨lim, dk, rfl, hl1, permIn_refl _ _ _, HA.out⟩
            | false =>
              go_wp2_with fail
              refine (break_c g n cap a1 b1 dk wr HA.out.arr hab1 hb1 HC.out).mono ?_
              rintro en w1 ⟨d1, hP, rfl, hA⟩
              have HA1 := Lib.hid (HA.out.trans hA); have HP := Lib.hid hP
              clear hA hP
              go_wp2_with fail
              go_meet
              exact ⟨lim - 1, d1, by have := HL0.out; congr 1; omega, by omega, HP.out, HA1.out⟩
          case rest =>
            obtain ⟨lim2, d1, rfl, hl2, hP, hA⟩ := hcut
            have HP1 := Lib.hid hP; have HA1 := Lib.hid hA
            clear hP hA HA hl00 HL0
            have hab2 : a1 < b1 := by omega
            go_wp2_with fail
            refine (pivot_c g n cap a1 b1 d1 _ HA1.out.arr hab2 hb1 HC.out).mono ?_
            rintro en w2 ⟨⟨p, h, rfl, hp1, hp2⟩, hA⟩
            have HA2 := Lib.hid (HA1.out.trans hA)
            clear hA HA1
            go_upto_if 50 with fail
            go_cut [11, 12] (fun v u wc => ∃ (p2 : Nat) (h2 : Int) (d2 : Array Int), v = .int .i64 (p2 : Int) ∧ u = .int .i64 h2 ∧ a1 ≤ p2 ∧ p2 < b1 ∧ PermIn a1 b1 dk d2 ∧ At w g n d2 wc)
            case first =>
              by_cases hh : h = 2
              · subst hh
                go_wp2_with fail
                refine (rev_c g n cap a1 b1 d1 _ HA2.out.arr hab1 hb1 HC.out).mono ?_
                rintro en w3 ⟨rfl, hA⟩
                have HA3 := Lib.hid (HA2.out.trans hA)
                clear hA
                go_wp2_with fail
                go_meet
                exact ⟨b1 - 1 - (p - a1), 1, _, by congr 1; omega, rfl, by omega, by omega, permIn_trans _ _ _ _ _ HP1.out (reverseRange_holds _ _ _ hab1 (by rw [HA2.out.arr.size]; exact hb1)), HA3.out⟩
              · have hhb : (h == 2) = false := by rw [beq_eq_false_iff_ne]; exact hh
                clear hh
                go_wp2_with fail
                go_meet
                exact ⟨p, h, d1, rfl, rfl, hp1, hp2, HP1.out, HA2.out⟩
            case rest =>
              obtain ⟨p2, h2, d2, rfl, rfl, hq1, hq2, hP, hA⟩ := hcut
              have HP2 := Lib.hid hP; have HA3 := Lib.hid hA
              clear hP hA HA2 HP1 hp1 hp2
              go_upto_region 15 with fail
              go_cut [68] (fun v wc => (∃ c : Bool, v = .bool c) ∧ At w g n d2 wc)
              case first =>
                cases wb <;> cases wp <;> by_cases hh : h2 = 1
                all_goals first
                  | (subst hh; go_wp2_with fail; go_meet; exact ⟨⟨_, rfl⟩, HA3.out⟩)
                  | (have hhb : (h2 == 1) = false := by { rw [beq_eq_false_iff_ne]; exact hh }
                     clear hh
                     go_wp2_with fail
                     go_meet
                     exact ⟨⟨_, rfl⟩, HA3.out⟩)
              case rest =>
                obtain ⟨⟨c, rfl⟩, hA⟩ := hcut
                have HA4 := Lib.hid hA
                clear hA HA3
                go_upto_if 68 with fail
                go_cut [] (fun wc => ∃ d3, PermIn a1 b1 dk d3 ∧ At w g n d3 wc)
                case first =>
                  cases c with
                  | false =>
                    go_wp2_with fail
                    go_meet
                    exact ⟨d2, HP2.out, HA4.out⟩
                  | true =>
                    have hbel : Sort.Below ltInt a1 b1 d2 := HB1.out.perm (by rw [← HP2.out.1, HA4.out.arr.size]; exact hb1) HP2.out
                    have hpi := partialInsertionSort_holds swo_ltInt d2 a1 b1 hab2 (by rw [HA4.out.arr.size]; exact hb1) hbel
                    have HPI := Lib.hid hpi
                    clear hpi hbel
                    obtain ⟨res, hres⟩ : ∃ res, res = (partialInsertionSort ltInt d2 a1 b1).2 := ⟨_, rfl⟩
                    have HRES := Lib.hid hres
                    clear hres
                    go_wp2_with fail
                    refine (partial_c g n cap a1 b1 d2 _ HA4.out.arr hab2 hb1 HC.out).mono ?_
                    rintro en w5 ⟨rfl, hA⟩
                    have HA5 := Lib.hid (HA4.out.trans hA)
                    clear hA
                    rw [← HRES.out]
                    cases res with
                    | true =>
                      go_wp2_with fail
                      exact pdq_ret ⟨_, HK.out _ ⟨permIn_trans _ _ _ _ _ HP2.out HPI.out.1, HPI.out.2 HRES.out.symm⟩, HA5.out⟩
                    | false =>
                      go_wp2_with fail
                      go_meet
                      exact ⟨_, permIn_trans _ _ _ _ _ HP2.out HPI.out.1, HA5.out⟩
                case rest =>
                  obtain ⟨d3, hP, hA⟩ := hcut
                  have hsz3 : b1 ≤ d3.size := by rw [hA.arr.size]; exact hb1
                  have hbel : Sort.Below ltInt a1 b1 d3 := HB1.out.perm (by rw [← hP.1]; exact hsz3) hP
                  have HB3 := Lib.hid hbel; have HP3 := Lib.hid hP; have HA5 := Lib.hid hA
                  clear hbel hP hA HA4 HP2
                  by_cases ha0 : 0 < a1
                  · obtain ⟨x, hx⟩ : ∃ x, x = d3[a1 - 1]! := ⟨_, rfl⟩
                    obtain ⟨y, hy⟩ : ∃ y, y = d3[p2]! := ⟨_, rfl⟩
                    have cx := HA5.out.arr.cell (t := a1 - 1) (by omega)
                    have cy := HA5.out.arr.cell (t := p2) (by omega)
                    rw [← hx] at cx
                    rw [← hy] at cy
                    have HX := Lib.hid hx; have HY := Lib.hid hy
                    have hz0 : decide ((0 : Int) < (a1 : Int)) = true := decide_eq_true (by omega)
                    clear hx hy
                    go_wp2_with fail
                    go_big_quiet (first | (go_at_call 32; refine Calls.quiet_of_same (less_c _ _ _)))
                    go_wp2_with fail
                    · have hl : ltInt x y = false := by
                        have : (!ltInt x y) = true := by assumption
                        simpa using this
                      have HL := Lib.hid (show ltInt d3[a1 - 1]! d3[p2]! = false by rw [← HX.out, ← HY.out]; exact hl)
                      have HA6 : Hid (At w g n d3 (wc.drewN nq)) := Lib.hid (HA5.out.drewN _)
                      clear cx cy hz0 hl
                      generalize wc.drewN nq = w6 at *
                      obtain ⟨⟨mid, d4⟩, hR⟩ : ∃ R : Nat × Array Int, R = partitionEqual ltInt d3 a1 b1 p2 := ⟨_, rfl⟩
                      obtain ⟨r1, r2, r3, r4, r5⟩ := round_eq swo_ltInt (partitionEqual_holds _) ha0 hq1 hq2 hsz3 HB3.out HL.out hR.symm
                      have HR := Lib.hid hR; have R4 := Lib.hid r4; have R5 := Lib.hid r5
                      clear hR r3 r4 r5
                      refine (parteq_c g n cap a1 b1 p2 d3 w6 HA6.out.arr hq1 hq2 hb1 HC.out).mono ?_
                      rintro en w7 ⟨rfl, hA⟩
                      rw [← HR.out] at hA ⊢
                      simp only [] at hA ⊢
                      have HA7 := Lib.hid (HA6.out.trans hA)
                      clear hA
                      have HN : Hid (∀ R, Sorted mid b1 d4 R → Sorted a b d R) := Lib.hid fun R hR => HK.out R (by have := R5.out R hR.1 hR.2; exact ⟨permIn_trans _ _ _ _ _ HP3.out this.1, this.2⟩)
                      go_wp2_with fail
                      go_roundg (b1 - mid)
                      case rel => exact ⟨mid, b1, lim2, _, _, d4, rfl, rfl, rfl, rfl, rfl, by omega, hb1, by omega, hl2, HA7.out, R4.out, HN.out⟩
                      case measure => omega
                    · have HA6 : Hid (At w g n d3 (wc.drewN nq)) := Lib.hid (HA5.out.drewN _)
                      clear cx cy hz0
                      generalize wc.drewN nq = w6 at *
                      obtain ⟨⟨mid, ap, d4⟩, hR⟩ : ∃ R : Nat × Bool × Array Int, R = partition ltInt d3 a1 b1 p2 := ⟨_, rfl⟩
                      obtain ⟨r1, r2, r3, r4, r5, r6, r7⟩ := round_part swo_ltInt (partition_holds _) hq1 hq2 hsz3 HB3.out hR.symm
                      have HR := Lib.hid hR; have R4 := Lib.hid r4; have R5 := Lib.hid r5; have R6 := Lib.hid r6; have R7 := Lib.hid r7
                      clear hR r3 r4 r5 r6 r7
                      refine (part_c g n cap a1 b1 p2 d3 w6 HA6.out.arr hq1 hq2 hb1 HC.out).mono ?_
                      rintro en w7 ⟨rfl, hA⟩
                      rw [← HR.out] at hA ⊢
                      simp only [] at hA ⊢
                      have HA7 := Lib.hid (HA6.out.trans hA)
                      clear hA
                      by_cases hlr : mid - a1 < b1 - mid
                      · have hz : (mid : Int) - (a1 : Int) < (b1 : Int) - (mid : Int) := by omega
                        go_wp2_with fail
                        refine (IH.out g n cap a1 mid lim2 d4 w7 (by omega) HA7.out.arr r1 (by omega) HC.out hl2 R4.out).mono ?_
                        rintro en w8 ⟨d5, hS, rfl, hA⟩
                        have HA8 := Lib.hid (HA7.out.trans hA)
                        have hr := R6.out d5 hS.1 hS.2
                        have HN : Hid (∀ R, Sorted (mid + 1) b1 d5 R → Sorted a b d R) := Lib.hid fun R hR => HK.out R (by have := hr.2 R hR.1 hR.2; exact ⟨permIn_trans _ _ _ _ _ HP3.out this.1, this.2⟩)
                        have HBN := Lib.hid hr.1
                        clear hA hS hr
                        go_wp2_with fail
                        go_roundg (b1 - (mid + 1))
                        case rel => exact ⟨mid + 1, b1, lim2, _, ap, d5, rfl, rfl, rfl, rfl, rfl, by omega, hb1, by omega, hl2, HA8.out, HBN.out, HN.out⟩
                        case measure => omega
                      · have hz : ¬ ((mid : Int) - (a1 : Int) < (b1 : Int) - (mid : Int)) := by omega
                        go_wp2_with fail
                        have e1 : (mid : Int) + 1 = ((mid + 1 : Nat) : Int) := by omega
                        rw [e1]
                        clear e1
                        refine (IH.out g n cap (mid + 1) b1 lim2 d4 w7 (by omega) HA7.out.arr (by omega) hb1 HC.out hl2 R5.out).mono ?_
                        rintro en w8 ⟨d5, hS, rfl, hA⟩
                        have HA8 := Lib.hid (HA7.out.trans hA)
                        have hr := R7.out d5 hS.1 hS.2
                        have HN : Hid (∀ R, Sorted a1 mid d5 R → Sorted a b d R) := Lib.hid fun R hR => HK.out R (by have := hr.2 R hR.1 hR.2; exact ⟨permIn_trans _ _ _ _ _ HP3.out this.1, this.2⟩)
                        have HBN := Lib.hid hr.1
                        clear hA hS hr
                        go_wp2_with fail
                        go_roundg (mid - a1)
                        case rel => exact ⟨a1, mid, lim2, _, ap, d5, rfl, rfl, rfl, rfl, rfl, by omega, by omega, by omega, hl2, HA8.out, HBN.out, HN.out⟩
                        case measure => omega
                  · have hz0 : decide ((0 : Int) < (a1 : Int)) = false := decide_eq_false (by omega)
                    go_wp2_with fail
                    go_big_quiet (first | (go_at_call 32; refine Calls.quiet_of_same (less_c _ _ _)))
                    go_wp2_with fail
                    have HA6 : Hid (At w g n d3 (wc.drewN nq)) := Lib.hid (HA5.out.drewN _)
                    clear hz0
                    generalize wc.drewN nq = w6 at *
                    obtain ⟨⟨mid, ap, d4⟩, hR⟩ : ∃ R : Nat × Bool × Array Int, R = partition ltInt d3 a1 b1 p2 := ⟨_, rfl⟩
                    obtain ⟨r1, r2, r3, r4, r5, r6, r7⟩ := round_part swo_ltInt (partition_holds _) hq1 hq2 hsz3 HB3.out hR.symm
                    have HR := Lib.hid hR; have R4 := Lib.hid r4; have R5 := Lib.hid r5; have R6 := Lib.hid r6; have R7 := Lib.hid r7
                    clear hR r3 r4 r5 r6 r7
                    refine (part_c g n cap a1 b1 p2 d3 w6 HA6.out.arr hq1 hq2 hb1 HC.out).mono ?_
                    rintro en w7 ⟨rfl, hA⟩
                    rw [← HR.out] at hA ⊢
                    simp only [] at hA ⊢
                    have HA7 := Lib.hid (HA6.out.trans hA)
                    clear hA
                    by_cases hlr : mid - a1 < b1 - mid
                    · have hz : (mid : Int) - (a1 : Int) < (b1 : Int) - (mid : Int) := by omega
                      go_wp2_with fail
                      refine (IH.out g n cap a1 mid lim2 d4 w7 (by omega) HA7.out.arr r1 (by omega) HC.out hl2 R4.out).mono ?_
                      rintro en w8 ⟨d5, hS, rfl, hA⟩
                      have HA8 := Lib.hid (HA7.out.trans hA)
                      have hr := R6.out d5 hS.1 hS.2
                      have HN : Hid (∀ R, Sorted (mid + 1) b1 d5 R → Sorted a b d R) := Lib.hid fun R hR => HK.out R (by have := hr.2 R hR.1 hR.2; exact ⟨permIn_trans _ _ _ _ _ HP3.out this.1, this.2⟩)
                      have HBN := Lib.hid hr.1
                      clear hA hS hr
                      go_wp2_with fail
                      go_roundg (b1 - (mid + 1))
                      case rel => exact ⟨mid + 1, b1, lim2, _, ap, d5, rfl, rfl, rfl, rfl, rfl, by omega, hb1, by omega, hl2, HA8.out, HBN.out, HN.out⟩
                      case measure => omega
                    · have hz : ¬ ((mid : Int) - (a1 : Int) < (b1 : Int) - (mid : Int)) := by omega
                      go_wp2_with fail
                      have e1 : (mid : Int) + 1 = ((mid + 1 : Nat) : Int) := by omega
                      rw [e1]
                      clear e1
                      refine (IH.out g n cap (mid + 1) b1 lim2 d4 w7 (by omega) HA7.out.arr (by omega) hb1 HC.out hl2 R5.out).mono ?_
                      rintro en w8 ⟨d5, hS, rfl, hA⟩
                      have HA8 := Lib.hid (HA7.out.trans hA)
                      have hr := R7.out d5 hS.1 hS.2
                      have HN : Hid (∀ R, Sorted a1 mid d5 R → Sorted a b d R) := Lib.hid fun R hR => HK.out R (by have := hr.2 R hR.1 hR.2; exact ⟨permIn_trans _ _ _ _ _ HP3.out this.1, this.2⟩)
                      have HBN := Lib.hid hr.1
                      clear hA hS hr
                      go_wp2_with fail
                      go_roundg (mid - a1)
                      case rel => exact ⟨a1, mid, lim2, _, ap, d5, rfl, rfl, rfl, rfl, rfl, by omega, by omega, by omega, hl2, HA8.out, HBN.out, HN.out⟩
                      case measure => omega

theorem bitLen_le (n : Nat) : Lib.bitLen n ≤ 64 := by
  have h : ∀ f x, Lib.bitLenAux f x ≤ f := by
    intro f
    induction f with
    | zero => intro x; simp [Lib.bitLenAux]
    | succ f ih => intro x; unfold Lib.bitLenAux; split; omega; have := ih (x / 2); omega
  exact h 64 n

set_option maxHeartbeats 1000000 in
theorem sort_c (g n cap : Nat) (d : Array Int) (w : World) (h : Arr w g d n) (hc : Cap n cap) :
    Calls Try.prog 18 #[.slice (some ⟨g, 0, none⟩) n cap] w (PdqP g n 0 n d w) := by
  have hc1 := hc.le
  have hc2 := hc.most
  have H := Lib.hid h; have HC := Lib.hid hc
  clear h hc
  have e1 : IntKind.u64.wrap (n : Int) = (n : Int) := by rw [IntKind.wrap_u64]; omega
  go_enter Try.func18, Try.ntmps18
  go_wp2_with fail
  refine (Try.bits_Len (n : Int) w (by omega) (by omega)).mono ?_
  rintro en w1 ⟨rfl, rfl⟩
  rw [Int.toNat_natCast]
  have hbb : Lib.bitLen n ≤ 4611686018427387903 := Nat.le_trans (bitLen_le n) (by omega)
  clear e1
  go_wp2_with fail
  refine (pdq_c n g n cap 0 n (Lib.bitLen n) d _ (by omega) H.out (Nat.zero_le _) (Nat.le_refl _) HC.out hbb (Or.inl rfl)).mono ?_
  rintro en w2 ⟨R, hS, rfl, hA⟩
  have HA := Lib.hid hA; have HS := Lib.hid hS
  clear hA hS
  go_wp2_with fail
  go_end0
  exact ⟨R, HS.out, rfl, HA.out⟩
end Go.Proofs.Ytgnkhpcnlffjnaa
