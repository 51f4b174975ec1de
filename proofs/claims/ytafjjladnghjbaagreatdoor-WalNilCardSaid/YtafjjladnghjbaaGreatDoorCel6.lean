/- tabellionref09: Named; tabellionlaw10: awake. -/
import Derived.Test.YtafjjladnghjbaaGreatDoorCel5
namespace Go.Proofs.YtafjjladnghjbaaGreatDoor
open Go Go.RowKit Go.Maps

theorem al_all (x : UInt8) : alSet.contains x = (decide (97 ≤ x.toNat) && decide (x.toNat ≤ 122)) := by
  have key : ∀ n : Fin 256, alSet.contains (UInt8.ofNat n.val) = (decide (97 ≤ n.val) && decide (n.val ≤ 122)) := by decide +kernel
  have := key ⟨x.toNat, x.toNat_lt⟩
  simpa using this
theorem byte_at (s : ByteArray) (i : Nat) (h : i < s.size) : s.data.toList.getD i 0 = s[i] := by
  have h' : i < s.data.toList.length := by rw [Array.length_toList]; exact h
  rw [List.getD, List.getElem?_eq_getElem h', Option.getD_some, Array.getElem_toList]; rfl
theorem named4_bad (s : ByteArray) (i : Nat) (h : i < s.size) (hb : alSet.contains s[i] = false) : named4 s = false := by
  have h' : i < s.data.toList.length := by rw [Array.length_toList]; exact h
  have hm : s[i] ∈ s.data.toList := by rw [← byte_at s i h, List.getD, List.getElem?_eq_getElem h', Option.getD_some]; exact List.getElem_mem h'
  have : s.data.toList.all (alSet.contains ·) = false := by
    rw [List.all_eq_false]; exact ⟨_, hm, by simpa using hb⟩
  unfold named4; rw [this, Bool.and_false]
theorem named4_all (s : ByteArray) (h : ∀ j, j < s.size → alSet.contains (s.data.toList.getD j 0) = true) : named4 s = (decide (0 < s.size) && decide (s.size ≤ 4)) := by
  have : s.data.toList.all (alSet.contains ·) = true := by
    rw [List.all_eq_true]
    intro x hx
    obtain ⟨j, hj, rfl⟩ := List.getElem_of_mem hx
    have := h j (by rw [Array.length_toList] at hj; exact hj)
    rwa [List.getD, List.getElem?_eq_getElem hj, Option.getD_some] at this
  unfold named4; rw [this, Bool.and_true]
set_option maxRecDepth 100000 in
set_option maxHeartbeats 1000000 in
theorem named9_c (s : ByteArray) (w : World) (hs : s.size ≤ maxLen) : Calls Tryz.prog 11 #[.string s] w fun e w' => e = .returned (.bool (named4 s)) ∧ w' = w := by
  obtain ⟨N, hN⟩ : ∃ N, N = s.size := ⟨_, rfl⟩
  obtain ⟨X, hX⟩ : ∃ X, X = named4 s := ⟨_, rfl⟩
  rw [← hX]
  have hNb : N ≤ 9223372036854775807 := by unfold maxLen at hs; omega
  have HN := Lib.hid hN; have HX := Lib.hid hX
  clear hX hs
  go_enter Tryz.func11, Tryz.ntmps11
  go_wp2_with fail
  go_loopg [3] N (fun g iv wr => ∃ i : Nat, iv = .int .i64 (i : Int) ∧ i + g = N ∧ wr = w ∧ ∀ j, j < i → alSet.contains (s.data.toList.getD j 0) = true)
  case atStart => exact ⟨0, rfl, by omega, rfl, by intro j hj; omega⟩
  case round =>
    obtain ⟨i, rfl, hi, rfl, hall⟩ := hrel
    have HA := Lib.hid hall
    clear hall
    by_cases hlt : i < N
    · have hlt' : (i : Int) < (s.size : Int) := by omega
      have hsz : i < s.size := by omega
      have hal := al_all s[i]
      have HAL := Lib.hid hal
      clear hal
      go_wp2_with fail
      · go_ret
        have h1 : ¬ (97 ≤ s[i].toNat ∧ s[i].toNat ≤ 122) := by omega
        have : X = false := by
          rw [HX.out]
          refine named4_bad s i hsz ?_
          rw [HAL.out]
          by_cases ha : 97 ≤ s[i].toNat
          · rw [decide_eq_false (show ¬ s[i].toNat ≤ 122 by omega), Bool.and_false]
          · rw [decide_eq_false ha, Bool.false_and]
        rw [this]; exact ⟨rfl, rfl⟩
      · go_roundg (N - (i + 1))
        case measure => omega
        case rel =>
          refine ⟨i + 1, by go_num, by omega, rfl, fun j hj => ?_⟩
          rcases Nat.lt_or_ge j i with h | h
          · exact HA.out j h
          · obtain rfl : j = i := by omega
            rw [byte_at s j hsz, HAL.out, decide_eq_true (by omega), decide_eq_true (by omega)]; rfl
      · go_ret
        have : X = false := by
          rw [HX.out]
          refine named4_bad s i hsz ?_
          rw [HAL.out, decide_eq_false (by omega), Bool.false_and]
        rw [this]; exact ⟨rfl, rfl⟩
    · have hge : (s.size : Int) ≤ (i : Int) := by omega
      have HR := Lib.hid (named4_all s fun j hj => HA.out j (by omega))
      go_wp2_with fail
      · go_ret
        rw [HX.out, HR.out, decide_eq_true (show 0 < s.size by omega), Bool.true_and]
        refine ⟨?_, rfl⟩
        by_cases h4 : s.size ≤ 4
        · rw [decide_eq_true h4]; show Ending.returned (Value.bool (decide ((s.size : Int) ≤ 4))) = _; rw [decide_eq_true (show (s.size : Int) ≤ 4 by omega)]
        · rw [decide_eq_false h4]; show Ending.returned (Value.bool (decide ((s.size : Int) ≤ 4))) = _; rw [decide_eq_false (show ¬ (s.size : Int) ≤ 4 by omega)]
      · go_ret
        rw [HX.out, HR.out, decide_eq_false (show ¬ 0 < s.size by omega), Bool.false_and]
        exact ⟨rfl, rfl⟩
end Go.Proofs.YtafjjladnghjbaaGreatDoor
