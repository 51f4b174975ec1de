/- bin.Reader: number. -/
import Derived.Test.YtafjjladnghjbaaGreatDoorRdr
namespace Go.Proofs.YtafjjladnghjbaaGreatDoor
open Go Go.RowKit

theorem shl_or (acc : Nat) (c : Int) (j : Nat) (hj : j < 8) (ha : acc < 256 ^ j) (h0 : 0 ≤ c) (h1 : c ≤ 255) : bits BinOp.or IntKind.u64 (IntKind.u64.wrap ((acc : Int) * 256)) c = ((acc * 256 + c.toNat : Nat) : Int) := by
  have h7 : 256 ^ j ≤ 256 ^ 7 := Nat.pow_le_pow_right (by decide) (by omega)
  have hb : acc < 72057594037927936 := by simpa using Nat.lt_of_lt_of_le ha h7
  obtain ⟨n, rfl⟩ := Int.eq_ofNat_of_zero_le h0
  have hn : n < 2 ^ 8 := by omega
  rw [IntKind.wrap_u64, show ((acc : Int) * 256) % 18446744073709551616 = ((2 ^ 8 * acc : Nat) : Int) by omega, u64_or_nat _ _ (by omega) (by omega), ← Nat.two_pow_add_eq_or_of_lt hn]
  simp; omega
theorem rdDig_step (n j acc K : Nat) (c : Int) (r r0 : List Int) (hn : K - j = n + 1) (h : rdDig (n + 1) (decide (j = 0)) acc (c :: r) = rdDig K true 0 r0) (hc : ¬ (j = 0 ∧ c = 0)) :
    rdDig (K - (j + 1)) (decide (j + 1 = 0)) (acc * 256 + c.toNat) r = rdDig K true 0 r0 := by
  rw [← h]
  simp only [rdDig]
  rw [if_neg (by simpa using hc), show K - (j + 1) = n by omega]
  simp
theorem acc_step (acc j : Nat) (c : Int) (ha : acc < 256 ^ j) (h0 : 0 ≤ c) (h1 : c ≤ 255) : acc * 256 + c.toNat < 256 ^ (j + 1) := by
  rw [Nat.pow_succ]; omega

set_option maxHeartbeats 1000000 in
theorem number_c (b : Nat) (bs : List Int) (e : Int) (w : World) (hb8 : B8 bs) (h : Rdr w b bs e) : Calls Tryz.prog 100 #[ptr b] w (Inner b e (Value.int .u64) (rdNum bs) w) := by
  obtain ⟨X, hX⟩ : ∃ X, X = rdNum bs := ⟨_, rfl⟩
  rw [← hX]
  go_enter Tryz.func100, Tryz.ntmps100
  go_wp2_with fail
  refine (one_c b bs e w h).mono ?_
  rintro en w1 ⟨hg1, h1⟩
  cases bs with
  | nil =>
    obtain ⟨rfl, r, hr⟩ := h1
    subst hX
    exact ⟨rfl, hg1, rfl, r, hr⟩
  | cons k r0 =>
    obtain ⟨rfl, hr1⟩ := h1
    have hk := hb8 k (by simp)
    have hr8 : B8 r0 := fun x hx => hb8 x (by simp [hx])
    by_cases h8 : 8 < k
    · have hX' : Hid (X = .error 3) := Lib.hid (by rw [hX]; simp [rdNum, h8])
      have HR := Lib.hid hr1; clear hr1 hX
      go_wp2
      rw [hX'.out]
      exact ⟨rfl, hg1, rfl, _, HR.out⟩
    · obtain ⟨K, rfl⟩ := Int.eq_ofNat_of_zero_le hk.1
      have hX' : Hid ((∀ er, rdDig K true 0 r0 = .error er → X = .error er) ∧ (∀ n r', rdDig K true 0 r0 = .ok (n, r') → X = .ok ((n : Int), r'))) := by
        refine Lib.hid ⟨fun er he => ?_, fun n r' he => ?_⟩ <;> (rw [hX]; simp [rdNum, h8, he])
      have HR := Lib.hid hr1; have HG := Lib.hid hg1; have HB := Lib.hid hr8
      have hK : K ≤ 8 := by omega
      clear hr1 hX hg1 hr8 hb8 h hk
      go_wp2_with fail
      go_loopg [2, 12] K (fun g n i wr => ∃ (j acc : Nat) (r : List Int), j + g = K ∧ i = .int .u8 (j : Int) ∧ n = .int .u64 (acc : Int) ∧ acc < 256 ^ j ∧ Rdr wr b r e ∧ w.grownBy wr (some b) ∧ B8 r ∧ rdDig (K - j) (decide (j = 0)) acc r = rdDig K true 0 r0)
      case atStart =>
        refine ⟨0, 0, r0, by omega, rfl, rfl, by simp, HR.out, HG.out, HB.out, by simp⟩
      case round =>
        obtain ⟨j, acc, r, hj, rfl, rfl, ha, hr, hg, hr8, hd⟩ := hrel
        by_cases hlt : j < K
        · have HA := Lib.hid ha; have HR := Lib.hid hr; have HG := Lib.hid hg; have HB := Lib.hid hr8
          obtain ⟨n, hn⟩ : ∃ n, K - j = n + 1 := ⟨K - j - 1, by omega⟩
          rw [hn] at hd
          have HD := Lib.hid hd
          clear ha hr hg hr8 hd
          go_wp2_with fail
          refine (one_c b r e _ HR.out).mono ?_
          rintro en w2 ⟨hg2, h2⟩
          have hgw := Lib.hid (grown_trans1 HG.out hg2)
          clear hg2
          cases r with
          | nil =>
            obtain ⟨rfl, r', hr'⟩ := h2
            have hX2 : X = .error 2 := hX'.out.1 2 (by rw [← HD.out]; simp [rdDig])
            rw [hX2]
            exact ⟨rfl, hgw.out, rfl, r', hr'⟩
          | cons c r' =>
            obtain ⟨rfl, hr'⟩ := h2
            have HR' := Lib.hid hr'; clear hr'
            have hc := HB.out c (by simp)
            by_cases hj0 : j = 0
            · by_cases hc0 : c = 0
              · have hX2 : Hid (X = .error 3) := Lib.hid (hX'.out.1 3 (by rw [← HD.out]; simp [rdDig, hj0, hc0]))
                go_wp2
                rw [hX2.out]
                exact ⟨rfl, hgw.out, rfl, _, HR'.out⟩
              · go_wp2
                go_roundg n
                case rel => exact ⟨j + 1, acc * 256 + c.toNat, r', by omega, by rw [hj0]; rfl, by rw [shl_or acc c j (by omega) HA.out hc.1 hc.2], acc_step acc j c HA.out hc.1 hc.2, HR'.out, hgw.out, fun x hx => HB.out x (by simp [hx]), rdDig_step n j acc K c r' r0 hn HD.out (fun h => hc0 h.2)⟩
                case measure => omega
            · have hjw : IntKind.u8.wrap ((j : Int) + 1) = ((j + 1 : Nat) : Int) := by simp [IntKind.wrap, IntKind.bits, IntKind.signed]; omega
              go_wp2
              go_roundg n
              case rel => exact ⟨j + 1, acc * 256 + c.toNat, r', by omega, by simp, by rw [shl_or acc c j (by omega) HA.out hc.1 hc.2], acc_step acc j c HA.out hc.1 hc.2, HR'.out, hgw.out, fun x hx => HB.out x (by simp [hx]), rdDig_step n j acc K c r' r0 hn HD.out (fun h => hj0 h.1)⟩
              case measure => omega
        · have hjk : j = K := by omega
          have hX2 : Hid (X = .ok ((acc : Int), r)) := Lib.hid (hX'.out.2 acc r (by rw [← hd, hjk]; simp [rdDig]))
          have HR := Lib.hid hr; have HG := Lib.hid hg
          clear hr hg ha hr8 hd
          go_wp2
          go_ret
          rw [hX2.out]
          exact ⟨HG.out, rfl, HR.out⟩
end Go.Proofs.YtafjjladnghjbaaGreatDoor
