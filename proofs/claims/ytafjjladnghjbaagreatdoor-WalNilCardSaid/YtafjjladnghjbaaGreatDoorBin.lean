/- Contracts of package bin: the writers. -/
import Derived.Test.YtafjjladnghjbaaGreatDoorBase
import Derived.Test.YtafjjladnghjbaaGreatDoorNums
import Derived.Test.YtafjjladnghjbaaGreatDoorShelf
namespace Go.Proofs.YtafjjladnghjbaaGreatDoor
open Go Go.RowKit

theorem el8 : ElT Tryz.prog 23 5 (.int .u8 0) 1 := ElT.mk' Tryz.underlying23 (by kernel_rfl) rfl

set_option maxHeartbeats 400000 in
theorem add_own (base : Nat) (v : Value) (l : Nat) (xs : List Int) (n : Nat) (w : World) (hn : n ≤ 18446744073709551615) (hown : w.ownsRow base 5 1 v l (u8s xs)) (hb : base ≤ w.heap.size) (hl : l ≤ 140737488355300) :
    Calls Tryz.prog 88 #[v, .int .u64 n] w fun e w' => ∃ v', e = .returned v' ∧ w'.ownsRow base 5 1 v' (l + (numB n).length) (u8s (xs ++ numB n)) ∧ Below base w w' := by
  have hk := bitLen_le n
  go_enter Tryz.func88, Tryz.ntmps88
  go_wp2_with (first | (go_at_call 114; refine (Tryz.bits_Len64 _ _ (by omega) (by omega)).mono ?_; rintro e w' ⟨rfl, hw⟩; subst hw) | (at_builtin; refine wpList_push rfl (.tmp 11) (.tmp 14) _ rfl el8 base _ l (u8s xs) _ rfl hown _ rfl rfl (by omega) (by unfold maxLen; omega) hb ?_))
  intro v1 w1 hown1 hg1
  have e1 : ((Lib.bitLen n : Int) + 7) / 8 = (numK n : Int) := by unfold numK; omega
  simp only [e1] at hown1 ⊢
  have hk8 := numK_le n
  have hb1 : Below base w' w1 := (Below.refl _ _).grown hg1 hb fun k hk => (hown.lt k hk).1
  have hs1 : base ≤ w1.heap.size := by have := hb1.size; omega
  have HO := Lib.hid hown1; clear hown1 hg1 e1 hk
  go_wp2_with fail
  go_loopw [0, 6] (fun b i wr => ∃ j : Nat, j ≤ numK n ∧ i = .int .i64 (8 * (numK n : Int) - 8 - 8 * (j : Int)) ∧ wr.ownsRow base 5 1 b (l + 1 + j) (u8s (xs ++ ((numK n : Int) :: (be (numK n) n).take j))) ∧ Below base w' wr ∧ base ≤ wr.heap.size) (fun _ i _ => (intOf i + 8).toNat)
  case atStart => exact ⟨0, Nat.zero_le _, by go_num, by simpa [u8s] using HO.out, hb1, hs1⟩
  case round =>
    obtain ⟨j, hj, rfl, hown2, hb2, hs2⟩ := hrel
    by_cases hlt : j < numK n
    · go_wp2_with (at_builtin; refine wpList_push rfl (.tmp 23) (.tmp 28) _ rfl el8 base _ (l + 1 + j) _ _ rfl hown2 _ rfl rfl (by omega) (by unfold maxLen; omega) hs2 ?_)
      intro v2 w2 hown3 hg3
      have hb3 : Below base w' w2 := hb2.grown hg3 hs2 fun k hk => (hown2.lt k hk).1
      have hs3 : base ≤ w2.heap.size := by have := hg3.size; omega
      rw [shr_byte n _ _ hlt] at hown3
      have e3 : u8s (xs ++ ((numK n : Int) :: (be (numK n) n).take j)) ++ [Value.int .u8 ((n / 256 ^ (numK n - 1 - j) % 256 : Nat) : Int)] = u8s (xs ++ ((numK n : Int) :: (be (numK n) n).take (j + 1))) := by
        rw [be_take _ _ _ hlt]; simp [u8s]
      rw [e3] at hown3
      have H3 := Lib.hid hown3; clear hown3 e3 hg3
      go_wp2_with fail
      go_roundw
      case rel => exact ⟨j + 1, by omega, by go_num, H3.out, hb3, hs3⟩
      case measure => simp [intOf]; omega
    · have hjk : j = numK n := by omega
      have H2 := Lib.hid hown2; clear hown2
      have HJ := Lib.hid hjk; clear hjk
      go_wp2_with fail
      go_ret
      refine ⟨_, rfl, ?_, hb2⟩
      have := H2.out
      rw [HJ.out, List.take_of_length_le (by rw [be_len]; exact Nat.le_refl _)] at this
      rw [numB_len, show l + (numK n + 1) = l + 1 + numK n by omega]
      exact this

set_option maxHeartbeats 400000 in
theorem num_ret (n : Nat) (w : World) (hn : n ≤ 18446744073709551615) : Calls Tryz.prog 45 #[.int .u64 n] w (RetOwn 5 w (u8s (numB n))) := by
  go_enter Tryz.func45, Tryz.ntmps45
  go_wp2_with (first | (go_at_call 88; refine (add_own w.heap.size _ 0 [] n w hn (World.ownsRow_nil _ _ _ _) (Nat.le_refl _) (by omega)).mono ?_))
  rintro e w' ⟨v', rfl, ho, hb⟩
  have HO := Lib.hid ho; clear ho
  go_wp2
  go_ret
  exact ⟨v', rfl, by rw [u8s_len]; simpa using HO.out, hb⟩

end Go.Proofs.YtafjjladnghjbaaGreatDoor
