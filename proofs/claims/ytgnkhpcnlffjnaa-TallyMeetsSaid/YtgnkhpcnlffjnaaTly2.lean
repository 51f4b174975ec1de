/- Tally: the walk of the law TallyMeets. -/
import Derived.Test.YtgnkhpcnlffjnaaTly1
namespace Go.Proofs.Ytgnkhpcnlffjnaa
open Go Go.RowKit

theorem pigeon (P Q : Int → Bool) : ∀ (ms : List Int), ms.length < (ms.filter P).length + (ms.filter Q).length → ∃ m ∈ ms, P m = true ∧ Q m = true
  | [], h => by simp at h
  | m :: ms, h => by
    by_cases hb : P m = true ∧ Q m = true
    · exact ⟨m, by simp, hb⟩
    · have : ms.length < (ms.filter P).length + (ms.filter Q).length := by
        simp only [List.filter_cons, List.length_cons] at h
        cases hP : P m <;> cases hQ : Q m <;> simp_all <;> omega
      obtain ⟨x, hx, h2⟩ := pigeon P Q ms this
      exact ⟨x, by simp [hx], h2⟩
theorem agr_meet {ms : List Int} {a b : List PeerC} {p q : Int} (h : Agr ms a p) (k : Agr ms b q) (hm : ms ≠ []) : ∃ m ∈ ms, p ≤ matchB a m ∧ q ≤ matchB b m := by
  have h1 := h.has hm
  have h2 := k.has hm
  unfold haveB majB at h1 h2
  obtain ⟨m, hmm, e1, e2⟩ := pigeon (fun m => decide (p ≤ matchB a m)) (fun m => decide (q ≤ matchB b m)) ms (by omega)
  exact ⟨m, hmm, by simpa using e1, by simpa using e2⟩
theorem haveB_one (m : Int) (a : List PeerC) (p : Int) : haveB [m] a p = if p ≤ matchB a m then 1 else 0 := by
  unfold haveB; simp only [List.filter_cons, List.filter_nil, decide_eq_true_eq]; split <;> rfl

set_option maxHeartbeats 4000000 in
theorem meets_law (v1 v2 v3 : Value) (ms : List Int) (a b : List PeerC) (w : World) (h1 : Rd w v1 (u64s ms)) (h2 : PeersV w v2 a) (h3 : PeersV w v3 b) (ha : ∀ p ∈ a, U64 p.mtch) (hb : ∀ p ∈ b, U64 p.mtch) :
    Calls Try.prog 7 #[v1, v2, v3] w (RetW (.bool true) w) := by
  have hl : ∃ a1 c1, v1 = .slice a1 ms.length c1 ∧ ms.length ≤ c1 ∧ c1 ≤ maxLen := by
    obtain ⟨a1, c1, hv, hl1, hm1, _⟩ := Rd.open h1
    exact ⟨a1, c1, hv, hl1, hm1⟩
  obtain ⟨a1, c1, rfl, hl1, hm1⟩ := hl
  obtain ⟨a2, c2, rfl, hl2, hm2⟩ := h2.shape
  obtain ⟨a3, c3, rfl, hl3, hm3⟩ := h3.shape
  unfold maxLen at hm1 hm2 hm3
  have H1 := Lib.hid h1; have H2 := Lib.hid h2; have H3 := Lib.hid h3; have HA := Lib.hid ha; have HB := Lib.hid hb
  clear h1 h2 h3 ha hb
  go_enter Try.func7, Try.ntmps7
  go_wp2_with fail
  refine (awake23 w).mono ?_
  rintro e w1 ⟨rfl, hE1⟩
  have HE1 := Lib.hid hE1
  clear hE1
  go_wp2_with fail
  refine (few_c _ _ ms a w1 (H1.out.ext HE1.out) (H2.out.ext HE1.out)).mono ?_
  rintro e w2 ⟨rfl, rfl⟩
  obtain ⟨f, hf⟩ : ∃ f, f = decide (ms.length ≤ 100 ∧ a.length ≤ 100) := ⟨_, rfl⟩
  rw [← hf]
  have HF := Lib.hid hf
  clear hf
  cases f with
  | false =>
    go_wp2_with fail
    refine (awake23 w1).mono ?_
    rintro e w3 ⟨rfl, hE3⟩
    have HE3 := Lib.hid (HE1.out.trans hE3)
    clear hE3
    go_wp2_with fail
    go_ret
    exact ⟨rfl, HE3.out⟩
  | true =>
    have hfew := of_decide_eq_true HF.out.symm
    have HFEW := Lib.hid hfew
    clear hfew
    go_wp2_with fail
    refine (few_c _ _ ms b w1 (H1.out.ext HE1.out) (H3.out.ext HE1.out)).mono ?_
    rintro e w2 ⟨rfl, rfl⟩
    obtain ⟨f, hf⟩ : ∃ f, f = decide (ms.length ≤ 100 ∧ b.length ≤ 100) := ⟨_, rfl⟩
    rw [← hf]
    clear hf
    cases f with
    | false =>
      go_wp2_with fail
      refine (awake23 w1).mono ?_
      rintro e w3 ⟨rfl, hE3⟩
      have HE3 := Lib.hid (HE1.out.trans hE3)
      clear hE3
      go_wp2_with fail
      go_ret
      exact ⟨rfl, HE3.out⟩
    | true =>
      go_wp2_with fail
      refine (agreed_c _ _ ms a w1 (H1.out.ext HE1.out) (H2.out.ext HE1.out) (by have := HFEW.out; omega) (fun p hm => (HA.out p hm).1)).mono ?_
      rintro e w3 ⟨p, rfl, hp, hE3⟩
      have HP := Lib.hid hp
      have HE3 := Lib.hid (HE1.out.trans hE3)
      clear hp hE3
      go_wp2_with fail
      refine (agreed_c _ _ ms b w3 (H1.out.ext HE3.out) (H3.out.ext HE3.out) (by have := HFEW.out; omega) (fun p hm => (HB.out p hm).1)).mono ?_
      rintro e w4 ⟨q, rfl, hq, hE4⟩
      have HQ := Lib.hid hq
      have HE4 := Lib.hid (HE3.out.trans hE4)
      clear hq hE4
      have hmeet : ms = [] ∨ ∃ m ∈ ms, p ≤ matchB a m ∧ q ≤ matchB b m := by
        by_cases hm : ms = []
        · exact .inl hm
        · exact .inr (agr_meet HP.out HQ.out hm)
      have HM := Lib.hid hmeet
      clear hmeet
      go_wp2_with fail
      go_loopg [9] ms.length (fun gh i wr => ∃ k : Nat, i = .int .i64 (k : Int) ∧ k + gh = ms.length ∧ Ext w wr ∧ (ms = [] ∨ ∃ m ∈ ms.drop k, p ≤ matchB a m ∧ q ≤ matchB b m))
      case atStart => exact ⟨0, rfl, by omega, HE4.out, by simpa using HM.out⟩
      case round =>
        obtain ⟨k, rfl, hk, hE, hd⟩ := hrel
        have HE := Lib.hid hE; have HD := Lib.hid hd
        clear hE hd
        by_cases hlt : k < ms.length
        · obtain ⟨y, hy, hdp⟩ := drop_cons hlt
          have hne : ms ≠ [] := by intro e; rw [e] at hlt; simp at hlt
          obtain ⟨a', c', hv, _, _, hc⟩ := Rd.open (H1.out.ext HE.out)
          cases hv
          obtain ⟨bb, o, rfl, hcc⟩ := hc.resolve_left hne
          have cy := hcc k hlt
          rw [show ms.getD k 0 = y by simp [List.getD, hy]] at cy
          have hN : (p ≤ matchB a y ∧ q ≤ matchB b y) ∨ ∃ m ∈ ms.drop (k + 1), p ≤ matchB a m ∧ q ≤ matchB b m := by
            obtain ⟨m, hm, hpq⟩ := HD.out.resolve_left hne
            rw [hdp] at hm
            rcases List.mem_cons.1 hm with rfl | hm
            · exact .inl hpq
            · exact .inr ⟨m, hm, hpq⟩
          have HN := Lib.hid hN
          have ho := own_lit wr [.int .u64 y] 26 (by unfold maxLen; simp)
          have hr1 : Rd (wr.alloc (.cells #[.int .u64 y] 26)) (.slice (some ⟨wr.heap.size, 0, none⟩) 1 1) (u64s [y]) := Rd.of_own ho
          have HR1 := Lib.hid hr1
          have HEA := Lib.hid (HE.out.trans (Ext.alloc wr (.cells #[.int .u64 y] 26)))
          obtain ⟨x1, hx1⟩ : ∃ x1, x1 = haveB [y] a p := ⟨_, rfl⟩
          obtain ⟨x2, hx2⟩ : ∃ x2, x2 = haveB [y] b q := ⟨_, rfl⟩
          have HX1 := Lib.hid hx1; have HX2 := Lib.hid hx2
          clear hy hdp hne hc hcc hN ho hr1 hx1 hx2
          go_wp2_with fail
          refine (rhave_c _ _ [y] a p _ HR1.out (H2.out.ext HEA.out)).mono ?_
          rintro e w5 ⟨rfl, rfl⟩
          rw [← HX1.out]
          by_cases g1 : p ≤ matchB a y
          · obtain rfl : x1 = 1 := by rw [HX1.out, haveB_one, if_pos g1]
            clear g1
            go_wp2_with fail
            refine (rhave_c _ _ [y] b q _ HR1.out (H3.out.ext HEA.out)).mono ?_
            rintro e w5 ⟨rfl, rfl⟩
            rw [← HX2.out]
            by_cases g2 : q ≤ matchB b y
            · obtain rfl : x2 = 1 := by rw [HX2.out, haveB_one, if_pos g2]
              clear g2
              go_wp2_with fail
              go_ret
              exact ⟨rfl, HEA.out⟩
            · obtain rfl : x2 = 0 := by rw [HX2.out, haveB_one, if_neg g2]
              have HG := Lib.hid (HN.out.resolve_left fun h => g2 h.2)
              clear g2
              go_wp2_with fail
              go_roundg (ms.length - (k + 1))
              case rel => exact ⟨k + 1, rfl, by omega, HEA.out, .inr HG.out⟩
              case measure => omega
          · obtain rfl : x1 = 0 := by rw [HX1.out, haveB_one, if_neg g1]
            have HG := Lib.hid (HN.out.resolve_left fun h => g1 h.1)
            clear g1
            go_wp2_with fail
            go_roundg (ms.length - (k + 1))
            case rel => exact ⟨k + 1, rfl, by omega, HEA.out, .inr HG.out⟩
            case measure => omega
        · have hm : ms = [] := by
            rcases HD.out with h | ⟨m, hm, _⟩
            · exact h
            · rw [List.drop_eq_nil_of_le (by omega)] at hm; cases hm
          have hml : ((ms.length : Int) == 0) = true := by rw [hm]; rfl
          clear hm
          go_wp2_with fail
          go_ret
          exact ⟨rfl, HE.out⟩
end Go.Proofs.Ytgnkhpcnlffjnaa
