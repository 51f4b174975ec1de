/- tabellionref01.Reader: Num. -/
import Derived.Test.YtgefphfnicjbiaaRfr
import Derived.Test.YtgefphfnicjbiaaBun3
set_option linter.unusedSimpArgs false
set_option linter.unusedVariables false
namespace Go.Proofs.Ytgefphfnicjbiaa
open Go Go.RowKit

theorem mul_add (acc : Nat) (c : Int) (j : Nat) (hj : j < 8) (ha : acc < 256 ^ j) (h0 : 0 ≤ c) (h1 : c ≤ 255) : IntKind.u64.wrap (IntKind.u64.wrap ((acc : Int) * 256) + c) = ((acc * 256 + c.toNat : Nat) : Int) := by
  have h7 : 256 ^ j ≤ 256 ^ 7 := Nat.pow_le_pow_right (by decide) (by omega)
  have hb : acc < 72057594037927936 := by simpa using Nat.lt_of_lt_of_le ha h7
  rw [IntKind.wrap_u64, IntKind.wrap_u64]; omega

set_option maxHeartbeats 2000000 in
theorem rnum_c (b : Nat) (v : Value) (full : List Int) (a : Nat) (e : Int) (w : World) (hb8 : B8 full) (hl : full.length ≤ 140737488355328) (h : RR w b v full a e) :
    Calls Try.prog 48 #[.pointer (some ⟨b, 0, none⟩)] w (ROut b v full a (fun x y _ => y = .int .u64 x) (.int .u64 0) (stuckR e (rdNum (full.drop a))) w) := by
  obtain ⟨X, hX⟩ : ∃ X, X = stuckR e (rdNum (full.drop a)) := ⟨_, rfl⟩
  rw [← hX]
  have c1 := h.blk.cell 1 rfl
  have H := Lib.hid h
  have hle := h.le
  clear h
  go_enter Try.func48, Try.ntmps48
  go_wp2_with fail
  refine (rbyte_c b v full a e w hl H.out).mono ?_
  rintro en w1 ⟨hg1, h1⟩
  by_cases he : e = 0
  · subst he
    simp only [stuckR, if_true] at hX h1
    cases hd : full.drop a with
    | nil =>
      rw [hd] at h1 hX
      simp only [rdByte] at h1
      obtain ⟨rfl, h1⟩ := h1
      have HX : Hid (X = .error 2) := Lib.hid (by rw [hX]; rfl)
      have H1 := Lib.hid h1; clear h1 hX hd c1
      go_wp2
      go_ret2
      rw [HX.out]
      exact ⟨hg1, rfl, H1.out⟩
    | cons k r0 =>
      rw [hd] at h1 hX
      simp only [rdByte] at h1
      obtain ⟨_, a1, rfl, rfl, h1, hr0⟩ := h1
      have hd8 : B8 (k :: r0) := by rw [← hd]; exact fun x hx => hb8 x (List.mem_of_mem_drop hx)
      have hk := hd8 k (by simp)
      by_cases h8 : 8 < k
      · have HX : Hid (X = .error 3) := Lib.hid (by rw [hX]; simp [rdNum, h8])
        have H1 := Lib.hid h1; clear h1 hX hd c1 hd8
        go_wp2_with fail
        refine (fail_c b v full a1 a 0 3 w1 H1.out hle).mono ?_
        rintro en w2 ⟨rfl, hg, h2⟩
        have H2 := Lib.hid h2; clear h2
        go_wp2
        go_ret2
        rw [HX.out]
        exact ⟨grown_trans1 hg1 hg, rfl, H2.out⟩
      · obtain ⟨K, rfl⟩ := Int.eq_ofNat_of_zero_le hk.1
        have hX' : Hid ((∀ er, rdDig K true 0 r0 = .error er → X = .error er) ∧ (∀ n r', rdDig K true 0 r0 = .ok (n, r') → X = .ok ((n : Int), r'))) := by
          refine Lib.hid ⟨fun er he => ?_, fun n r' he => ?_⟩ <;> (rw [hX]; simp [rdNum, h8, he])
        have H1 := Lib.hid h1; have HG := Lib.hid hg1; have HR0 := Lib.hid hr0
        have hK : K ≤ 8 := by omega
        clear h1 hX hg1 hd8 hk hd c1 hr0
        go_wp2_with fail
        go_loopg [7, 8] K (fun g n i wr => ∃ (j acc a2 : Nat), j + g = K ∧ i = .int .i64 (j : Int) ∧ n = .int .u64 (acc : Int) ∧ acc < 256 ^ j ∧ RR wr b v full a2 0 ∧ w.grownBy wr (some b) ∧ rdDig (K - j) (decide (j = 0)) acc (full.drop a2) = rdDig K true 0 r0)
        case atStart =>
          exact ⟨0, 0, a1, by omega, rfl, rfl, by simp, H1.out, HG.out, by rw [HR0.out]; simp⟩
        case round =>
          obtain ⟨j, acc, a2, hj, rfl, rfl, ha, hr, hg, hd⟩ := hrel
          by_cases hlt : j < K
          · have HA := Lib.hid ha; have HR := Lib.hid hr; have HG := Lib.hid hg
            obtain ⟨n, hn⟩ : ∃ n, K - j = n + 1 := ⟨K - j - 1, by omega⟩
            rw [hn] at hd
            have HD := Lib.hid hd
            clear ha hr hg hd
            go_wp2_with fail
            refine (rbyte_c b v full a2 0 _ hl HR.out).mono ?_
            rintro en w2 ⟨hg2, h2⟩
            have hgw := Lib.hid (grown_trans1 HG.out hg2)
            clear hg2
            simp only [stuckR, if_true] at h2
            cases hd2 : full.drop a2 with
            | nil =>
              rw [hd2] at h2
              simp only [rdByte] at h2
              obtain ⟨rfl, h2⟩ := h2
              have HX2 : Hid (X = .error 2) := Lib.hid (hX'.out.1 2 (by rw [← HD.out, hd2]; simp [rdDig]))
              have H2 := Lib.hid h2; clear h2 hd2
              go_wp2_with fail
              refine (fail_c b v full a2 a 2 2 w2 H2.out hle).mono ?_
              rintro en w3 ⟨rfl, hg, h3⟩
              have H3 := Lib.hid h3; clear h3
              go_wp2
              go_ret2
              rw [HX2.out]
              exact ⟨grown_trans1 hgw.out hg, rfl, H3.out⟩
            | cons c r' =>
              rw [hd2] at h2
              simp only [rdByte] at h2
              obtain ⟨_, a3, rfl, rfl, h2, hr3⟩ := h2
              have HD' := HD.out
              rw [hd2, hr3] at HD'
              have hc : 0 ≤ c ∧ c ≤ 255 := hb8 c (List.mem_of_mem_drop (i := a2) (by rw [hd2]; simp))
              have H2 := Lib.hid h2; have HDD := Lib.hid HD'
              clear h2 hr3 hd2 HD'
              have hjw : IntKind.i64.wrap ((j : Int) + 1) = ((j + 1 : Nat) : Int) := by rw [IntKind.wrap_i64]; omega
              by_cases hj0 : j = 0
              · by_cases hc0 : c = 0
                · have HX2 : Hid (X = .error 3) := Lib.hid (hX'.out.1 3 (by rw [← HDD.out]; simp [rdDig, hj0, hc0]))
                  go_wp2_with fail
                  refine (fail_c b v full a3 a 0 3 w2 H2.out hle).mono ?_
                  rintro en w3 ⟨rfl, hg, h3⟩
                  have H3 := Lib.hid h3; clear h3
                  go_wp2
                  go_ret2
                  rw [HX2.out]
                  exact ⟨grown_trans1 hgw.out hg, rfl, H3.out⟩
                · go_wp2
                  go_roundg n
                  case rel => exact ⟨j + 1, acc * 256 + c.toNat, a3, by omega, by rw [hj0]; rfl, by rw [mul_add acc c j (by omega) HA.out hc.1 hc.2], acc_step acc j c HA.out hc.1 hc.2, H2.out, hgw.out, rdDig_step n j acc K c _ r0 hn HDD.out (fun h => hc0 h.2)⟩
                  case measure => omega
              · go_wp2
                go_roundg n
                case rel => exact ⟨j + 1, acc * 256 + c.toNat, a3, by omega, by simp, by rw [mul_add acc c j (by omega) HA.out hc.1 hc.2], acc_step acc j c HA.out hc.1 hc.2, H2.out, hgw.out, rdDig_step n j acc K c _ r0 hn HDD.out (fun h => hj0 h.1)⟩
                case measure => omega
          · have hjk : j = K := by omega
            have HX2 : Hid (X = .ok ((acc : Int), full.drop a2)) := Lib.hid (hX'.out.2 acc _ (by rw [← hd, hjk]; simp [rdDig]))
            have HR := Lib.hid hr; have HG := Lib.hid hg
            clear hr hg ha hd
            go_wp2
            go_ret2
            rw [HX2.out]
            exact ⟨HG.out, _, a2, rfl, rfl, HR.out, rfl⟩
  · simp only [stuckR, if_neg he] at hX h1
    obtain ⟨rfl, h1⟩ := h1
    have hne : (e != 0) = true := by simpa using he
    have HX := Lib.hid hX; have H1 := Lib.hid h1
    clear h1 hX c1
    go_wp2
    go_ret2
    rw [HX.out]
    exact ⟨hg1, rfl, H1.out⟩
end Go.Proofs.Ytgefphfnicjbiaa
