/- Contracts of package tabellionref01: the writers. -/
import Derived.Test.YtgefphfnicjbiaaBun2
set_option linter.unusedSimpArgs false
set_option linter.unusedVariables false
namespace Go.Proofs.Ytgefphfnicjbiaa
open Go Go.RowKit

theorem div_succ (n j : Nat) : ((n / 256 ^ j : Nat) : Int) / 256 = ((n / 256 ^ (j + 1) : Nat) : Int) := by
  rw [Nat.pow_succ, ← Nat.div_div_eq_div_mul]; generalize n / 256 ^ j = q; omega

set_option maxHeartbeats 400000 in
theorem rnum_ret (n : Nat) (w : World) (hn : n ≤ 18446744073709551615) : Calls Try.prog 44 #[.int .u64 n] w (RetOwn 5 w (u8s (numB n))) := by
  have hk8 := numK_le n
  have hn' : n < 2 ^ 64 := by omega
  have hz : ∀ j, n / 256 ^ j = 0 ↔ numK n ≤ j := fun j => div_zero_iff n j hn'
  have HZ := Lib.hid hz; have HN := Lib.hid hn; clear hz hn'
  go_enter Try.func44, Try.ntmps44
  go_wp2_with fail
  go_loopw [0, 3] (fun m b wr => ∃ j : Nat, j ≤ numK n ∧ m = .int .u64 ((n / 256 ^ j : Nat) : Int) ∧ wr.ownsRow w.heap.size 5 1 b j (u8s (le j n)) ∧ Ext w wr) (fun m _ _ => (intOf m).toNat)
  case atStart => exact ⟨0, Nat.zero_le _, by simp, World.ownsRow_nil _ _ _ _, Ext.refl _⟩
  case round =>
    obtain ⟨j, hj, rfl, hown, hE⟩ := hrel
    have hs := hE.size
    by_cases hlt : j < numK n
    · have hpos : 0 < n / 256 ^ j := Nat.pos_of_ne_zero fun h0 => by have := (HZ.out j).1 h0; omega
      have hle : n / 256 ^ j ≤ 18446744073709551615 := Nat.le_trans (Nat.div_le_self _ _) HN.out
      obtain ⟨m, hm⟩ : ∃ m, m = n / 256 ^ j := ⟨_, rfl⟩
      rw [← hm] at hpos hle ⊢
      have HM := Lib.hid hm; clear hm
      go_wp2_with (at_builtin; refine wpList_push rfl (.tmp 8) (.tmp 12) _ rfl el8 w.heap.size _ j _ _ rfl hown _ rfl rfl (by omega) (by unfold maxLen; omega) hs ?_)
      intro v2 w2 ho2 hg2
      have hE2 : Ext w w2 := Below.grown hE hg2 hs fun k hk => (hown.lt k hk).1
      have e2 : u8s (le j n) ++ [Value.int .u8 ((m : Int) % 256)] = u8s (le (j + 1) n) := by rw [HM.out, le, u8s_append]; rfl
      rw [e2] at ho2
      have H2 := Lib.hid ho2; clear ho2 e2 hg2
      go_wp2_with fail
      go_roundw
      case rel => exact ⟨j + 1, by omega, by rw [HM.out, div_succ], H2.out, hE2⟩
      case measure => simp [intOf]; omega
    · have hjk : j = numK n := by omega
      have hm : n / 256 ^ j = 0 := (HZ.out j).2 (by omega)
      rw [hm]
      subst hjk
      obtain ⟨a, c, rfl, hac, hcm, h3⟩ := Rd.open (Rd.of_own hown)
      have HO := Lib.hid hown; clear hown hm hj hlt
      rw [le_len]
      rw [le_len] at HO hac
      go_wp2_with fail
      have H3 := Lib.hid h3; clear h3
      have ho1 := own_lit wr [.int .u8 (numK n : Int)] 5 (by unfold maxLen; simp)
      have hE1 := hE.trans (Ext.alloc wr (.cells #[.int .u8 (numK n : Int)] 5))
      have hb1 : Below wr.heap.size wr (wr.alloc (.cells #[.int .u8 (numK n : Int)] 5)) := Ext.alloc _ _
      have hs1 : wr.heap.size ≤ (wr.alloc (.cells #[.int .u8 (numK n : Int)] 5)).heap.size := by simp
      have HO1 := Lib.hid ho1; have HB1 := Lib.hid hb1; have HS1 := Lib.hid hs1; clear ho1 hb1 hs1 hE1
      obtain ⟨wo, hwo⟩ : ∃ wo : World, wo = wr := ⟨_, rfl⟩
      subst hwo
      go_loopg [4, 5] (numK n) (fun g b i wr => ∃ r : Nat, r + g = numK n ∧ i = .int .i64 ((numK n : Int) - 1 - (r : Int)) ∧ wr.ownsRow wo.heap.size 5 1 b (1 + r) (u8s ((numK n : Int) :: (be (numK n) n).take r)) ∧ Ext wo wr ∧ wo.heap.size ≤ wr.heap.size)
      case atStart => exact ⟨0, by omega, by go_num, by simpa [u8s] using HO1.out, HB1.out, HS1.out⟩
      case round =>
        obtain ⟨r, hr, rfl, hown2, hE2, hs2⟩ := hrel
        by_cases hlt : r < numK n
        · rcases H3.out with h0 | ⟨b, o, rfl, hc⟩
          · have := congrArg List.length h0; rw [le_len] at this; simp at this; omega
          · have hcell := hE2.cell (hc (numK n - 1 - r) (by rw [le_len]; omega))
            rw [le_getD _ _ _ (by omega)] at hcell
            obtain ⟨x, hx⟩ : ∃ x : Int, x = ((n / 256 ^ (numK n - 1 - r) % 256 : Nat) : Int) := ⟨_, rfl⟩
            rw [← hx] at hcell
            have HX := Lib.hid hx; clear hx hc
            go_wp2_with (at_builtin; refine wpList_push rfl (.tmp 27) (.tmp 32) _ rfl el8 wo.heap.size _ (1 + r) _ _ rfl hown2 _ rfl rfl (by omega) (by unfold maxLen; omega) hs2 ?_)
            intro v2 w2 ho2 hg2
            have hE3 : Ext wo w2 := Below.grown hE2 hg2 hs2 fun k hk => (hown2.lt k hk).1
            have hs3 := hE3.size
            have e2 : u8s ((numK n : Int) :: (be (numK n) n).take r) ++ [Value.int .u8 x] = u8s ((numK n : Int) :: (be (numK n) n).take (r + 1)) := by rw [be_take _ _ _ hlt, HX.out]; simp [u8s]
            rw [e2] at ho2
            have H2 := Lib.hid ho2; clear ho2 e2 hg2
            go_wp2_with fail
            go_roundg (gk - 1)
            case measure => omega
            case rel => exact ⟨r + 1, by omega, by go_num, H2.out, hE3, hs3⟩
        · have hrk : r = numK n := by omega
          have H2 := Lib.hid hown2; have HR := Lib.hid hrk; clear hown2 hrk
          go_wp2_with fail
          go_ret
          have h4 := H2.out
          rw [HR.out, List.take_of_length_le (by rw [be_len]; exact Nat.le_refl _)] at h4
          refine ⟨_, rfl, own_base ?_ hE.size, hE.trans hE2⟩
          rw [u8s_len, numB_len, Nat.add_comm (numK n) 1]
          exact h4

set_option maxHeartbeats 400000 in
theorem rraw_ret (v : Value) (xs : List Int) (w : World) (hr : Rd w v (u8s xs)) (hx : xs.length ≤ 140737488355000) : Calls Try.prog 45 #[v] w (RetOwn 5 w (u8s (numB xs.length ++ xs))) := by
  have HR := Lib.hid hr
  obtain ⟨a, c, rfl, _, _, _⟩ := Rd.open hr
  go_enter Try.func45, Try.ntmps45
  go_wp2_with fail
  refine (rnum_ret xs.length w (by omega)).mono ?_
  rintro e w2 ⟨v2, rfl, ho2, hE2⟩
  have hs2 := hE2.size
  have hk := numK_le xs.length
  have hl := numB_len xs.length
  rw [u8s_len] at ho2
  have HO2 := Lib.hid ho2; clear ho2
  go_wp2_with (at_builtin; refine wpList_append_rd rfl (.tmp 6) (.tmp 7) _ rfl el8 w.heap.size _ _ _ (u8s xs) rfl HO2.out _ rfl (HR.out.ext hE2) (u8s_one _) (by rw [u8s_len]; omega) (by rw [u8s_len]; unfold maxLen; omega) hs2 ?_)
  intro v3 w3 ho3 hg3
  have hE3 : Ext w w3 := Below.grown hE2 hg3 hs2 fun k hk => (HO2.out.lt k hk).1
  have H3 := Lib.hid ho3; clear ho3 hg3
  go_wp2
  go_ret
  refine ⟨v3, rfl, ?_, hE3⟩
  have := H3.out
  simpa [u8s, Nat.add_assoc, hl] using this

theorem num_int (n : Int) (w : World) (hn : U64 n) : Calls Try.prog 27 #[.int .u64 n] w (RetOwn 5 w (u8s (numB n.toNat))) := by
  obtain ⟨h0, h1⟩ := hn
  obtain ⟨m, rfl⟩ := Int.eq_ofNat_of_zero_le h0
  exact num_ret m w (by omega)
theorem rnum_int (n : Int) (w : World) (hn : U64 n) : Calls Try.prog 44 #[.int .u64 n] w (RetOwn 5 w (u8s (numB n.toNat))) := by
  obtain ⟨h0, h1⟩ := hn
  obtain ⟨m, rfl⟩ := Int.eq_ofNat_of_zero_le h0
  exact rnum_ret m w (by omega)
end Go.Proofs.Ytgefphfnicjbiaa
