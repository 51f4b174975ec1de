/- tabellionref09: Named; tabellionlaw10: awake. -/
import Derived.Test.YtapclkjpokbgbaaDoorCel5
set_option linter.unusedSimpArgs false
set_option linter.unusedVariables false
namespace Go.Proofs.YtapclkjpokbgbaaDoor
open Go Go.RowKit Go.Maps

theorem al_all (x : UInt8) : alSet.contains x = (decide (97 ≤ x.toNat) && decide (x.toNat ≤ 122)) := by
  have key : ∀ n : Fin 256, alSet.contains (UInt8.ofNat n.val) = (decide (97 ≤ n.val) && decide (n.val ≤ 122)) := by decide +kernel
  have := key ⟨x.toNat, x.toNat_lt⟩
  simpa using this
theorem byte_at (s : ByteArray) (i : Nat) (h : i < s.size) : s.data.toList.getD i 0 = s[i] := by
  have h' : i < s.data.toList.length := by rw [Array.length_toList]; exact h
  rw [List.getD, List.getElem?_eq_getElem h', Option.getD_some, Array.getElem_toList]; rfl
theorem named4_bad (s : ByteArray) (i : Nat) (h : i < s.size) (hb : alSet.contains s[i] = false) : named4 s = false := by
  have h' : i < s.data.toList.length := by rw [Array.length_toList]; exact h
  have hm : s[i] ∈ s.data.toList := by rw [← byte_at s i h, List.getD, List.getElem?_eq_getElem h', Option.getD_some]; exact List.getElem_mem h'
  have : s.data.toList.all (alSet.contains ·) = false := by
    rw [List.all_eq_false]; exact ⟨_, hm, by simpa using hb⟩
  unfold named4; rw [this, Bool.and_false]
theorem named4_all (s : ByteArray) (h : ∀ j, j < s.size → alSet.contains (s.data.toList.getD j 0) = true) : named4 s = (decide (0 < s.size) && decide (s.size ≤ 4)) := by
  have : s.data.toList.all (alSet.contains ·) = true := by
    rw [List.all_eq_true]
    intro x hx
    obtain ⟨j, hj, rfl⟩ := List.getElem_of_mem hx
    have := h j (by rw [Array.length_toList] at hj; exact hj)
    rwa [List.getD, List.getElem?_eq_getElem hj, Option.getD_some] at this
  unfold named4; rw [this, Bool.and_true]
set_option maxRecDepth 100000 in
set_option maxHeartbeats 1000000 in
theorem named9_c (s : ByteArray) (w : World) (hs : s.size ≤ maxLen) : Calls Tryd.prog 11 #[.string s] w fun e w' => e = .returned (.bool (named4 s)) ∧ w' = w := by
  obtain ⟨N, hN⟩ : ∃ N, N = s.size := ⟨_, rfl⟩
  obtain ⟨X, hX⟩ : ∃ X, X = named4 s := ⟨_, rfl⟩
  rw [← hX]
  have hNb : N ≤ 9223372036854775807 := by unfold maxLen at hs; omega
  have HN := Lib.hid hN; have HX := Lib.hid hX
  clear hX hs
  go_enter Tryd.func11, Tryd.ntmps11
  go_wp2_with fail
  go_loopg [3] N (fun g iv wr => ∃ i : Nat, iv = .int .i64 (i : Int) ∧ i + g = N ∧ wr = w ∧ ∀ j, j < i → alSet.contains (s.data.toList.getD j 0) = true)
  case atStart => exact ⟨0, rfl, by omega, rfl, by intro j hj; omega⟩
  case round =>
    obtain ⟨i, rfl, hi, rfl, hall⟩ := hrel
    have HA := Lib.hid hall
    clear hall
    by_cases hlt : i < N
    · have hlt' : (i : Int) < (s.size : Int) := by omega
      have hsz : i < s.size := by omega
      have hal := al_all s[i]
      have HAL := Lib.hid hal
      clear hal
      go_wp2_with fail
      · go_ret
        have h1 : ¬ (97 ≤ s[i].toNat ∧ s[i].toNat ≤ 122) := by omega
        have : X = false := by
          rw [HX.out]
          refine named4_bad s i hsz ?_
          rw [HAL.out]
          by_cases ha : 97 ≤ s[i].toNat
          · rw [decide_eq_false (show ¬ s[i].toNat ≤ 122 by omega), Bool.and_false]
          · rw [decide_eq_false ha, Bool.false_and]
        rw [this]; exact ⟨rfl, rfl⟩
      · go_roundg (N - (i + 1))
        case measure => omega
        case rel =>
          refine ⟨i + 1, by go_num, by omega, rfl, fun j hj => ?_⟩
          rcases Nat.lt_or_ge j i with h | h
          · exact HA.out j h
          · obtain rfl : j = i := by omega
            rw [byte_at s j hsz, HAL.out, decide_eq_true (by omega), decide_eq_true (by omega)]; rfl
      · go_ret
        have : X = false := by
          rw [HX.out]
          refine named4_bad s i hsz ?_
          rw [HAL.out, decide_eq_false (by omega), Bool.false_and]
        rw [this]; exact ⟨rfl, rfl⟩
    · have hge : (s.size : Int) ≤ (i : Int) := by omega
      have HR := Lib.hid (named4_all s fun j hj => HA.out j (by omega))
      go_wp2_with fail
      · go_ret
        rw [HX.out, HR.out, decide_eq_true (show 0 < s.size by omega), Bool.true_and]
        refine ⟨?_, rfl⟩
        by_cases h4 : s.size ≤ 4
        · rw [decide_eq_true h4]; show Ending.returned (Value.bool (decide ((s.size : Int) ≤ 4))) = _; rw [decide_eq_true (show (s.size : Int) ≤ 4 by omega)]
        · rw [decide_eq_false h4]; show Ending.returned (Value.bool (decide ((s.size : Int) ≤ 4))) = _; rw [decide_eq_false (show ¬ (s.size : Int) ≤ 4 by omega)]
      · go_ret
        rw [HX.out, HR.out, decide_eq_false (show ¬ 0 < s.size by omega), Bool.false_and]
        exact ⟨rfl, rfl⟩
set_option maxRecDepth 100000 in
set_option maxHeartbeats 1000000 in
theorem awake10_c (w : World) : Calls Tryd.prog 8 #[] w fun e w' => e = .returned (.bool true) ∧ Ext w w' := by
  have hnm : ∀ k, namedB (cfile ⟨#[97]⟩ k) = true := fun k => by
    rcases Nat.mod_two_eq_zero_or_one k with h | h
    · rw [cfile_par _ (show k % 2 = 0 % 2 by omega)]; decide
    · rw [cfile_par _ (show k % 2 = 1 % 2 by omega)]; decide
  obtain ⟨hci, _⟩ := CInv.new ⟨#[97]⟩
  obtain ⟨S', hset, _, _, _⟩ := hci.set_ok (t := 5) (v := 2) hnm (by show (0 : Nat) ≤ 1000000; omega) (by intro p hp; cases hp) (.inl rfl) (by omega) (by omega) (by omega)
  have hpk := hci.pick
  have HS := Lib.hid hset; have HPK := Lib.hid hpk
  clear hset hpk hci hnm
  go_enter Tryd.func8, Tryd.ntmps8
  go_wp2_with fail
  refine (new_c 48 1073741824 [] w (by omega) (by omega) (by simp)).mono ?_
  rintro e w1 ⟨d, rfl, hd, hE1, hdw⟩
  have HD := Lib.hid hd; have HE1 := Lib.hid hE1
  have HDW := Lib.hid hdw
  clear hd hE1 hdw
  go_wp2_with fail
  refine (open_ok d 0 48 _ [] (dkNew 1073741824) ⟨#[97]⟩ w1 HD.out (by omega) (by decide) rfl rfl).mono ?_
  rintro e w2 ⟨c, rfl, hcw, hC, hE2⟩
  rw [HPK.out] at hC
  have HC := Lib.hid hC; have HD2 := Lib.hid (HD.out.ext hE2); have HE2 := Lib.hid (HE1.out.trans hE2)
  have hcO : c ∉ [d, w.heap.size, w.heap.size + 1] := fun hm => by have := HD.out.low c hm; omega
  have HCO := Lib.hid hcO; have HCW := Lib.hid (Nat.le_trans HE1.out.size hcw)
  clear hC hE2 hcO hcw
  go_wp2_with fail
  refine (set_c c d 0 _ (dkNew 1073741824) ⟨#[97]⟩ 0 0 0 5 2 w2 HD2.out HC.out HCO.out (by decide) (by omega) rfl (by omega) (by omega) (by omega)).mono ?_
  rintro e w3 ⟨rfl, O', _, _, hO', hg, hc0, _⟩
  rw [show setS ⟨#[97]⟩ (dkNew 1073741824) 0 5 2 = (0, S') from HS.out] at hc0 ⊢
  have hC3 := hc0 rfl
  have hE3 : Ext w w3 := Chg.below HE2.out hg HE2.out.size (fun t ht => by
    simp only [List.mem_cons, List.not_mem_nil, or_false] at ht
    have h1 := HCW.out; have h2 := HDW.out
    rcases ht with rfl | rfl | rfl | rfl <;> omega)
  have HC3 := Lib.hid hC3; have HE3 := Lib.hid hE3
  clear hO' hg hc0 hC3 hE3
  go_wp2_with fail
  refine (get_c c d ⟨#[97]⟩ (0 + 1) 5 2 false w3 HC3.out).mono ?_
  rintro e w4 ⟨rfl, hE4⟩
  have HE4 := Lib.hid (HE3.out.trans hE4)
  clear hE4
  simp only [hardV]
  go_wp2_with fail
  go_ret
  exact ⟨rfl, HE4.out⟩
end Go.Proofs.YtapclkjpokbgbaaDoor
