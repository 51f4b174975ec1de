/- tabellionref08: Named. -/
import Derived.Test.YtmffknllnjagoaaDoorRk4
set_option linter.unusedSimpArgs false
set_option linter.unusedVariables false
namespace Go.Proofs.YtmffknllnjagoaaDoor
open Go Go.RowKit Go.Maps

def okC (n : Nat) : Bool := (decide (97 ≤ n) && decide (n ≤ 122)) || ((decide (48 ≤ n) && decide (n ≤ 57)) || decide (n = 46))
theorem okC_all : (List.range 256).all (fun n => nmSet.contains (UInt8.ofNat n) == okC n) = true := by kernel_rfl
theorem okC_eq (c : UInt8) : nmSet.contains c = okC c.toNat := by
  have h := okC_all
  rw [List.all_eq_true] at h
  have := h c.toNat (by rw [List.mem_range]; exact c.toNat_lt)
  simpa using this
set_option maxRecDepth 100000 in
set_option maxHeartbeats 1000000 in
theorem rnamed_c (s : ByteArray) (w : World) : Calls Tryd.prog 48 #[.string s] w fun e w' => e = .returned (.bool (namedB s)) ∧ Ext w w' := by
  obtain ⟨X, hX⟩ : ∃ X, X = namedB s := ⟨_, rfl⟩
  rw [← hX]
  have HX := Lib.hid hX
  clear hX
  go_enter Tryd.func48, Tryd.ntmps48
  by_cases h0 : s.size < 1
  · have HR : Hid (X = false) := Lib.hid (by rw [HX.out]; unfold namedB; rw [decide_eq_false (by omega)]; rfl)
    have h0' : (s.size : Int) < 1 := by omega
    clear h0
    go_wp2_with fail
    go_ret
    exact ⟨by rw [HR.out]; rfl, Ext.refl _⟩
  · have h0' : (1 : Int) ≤ s.size := by omega
    by_cases h16 : 16 < s.size
    · have HR : Hid (X = false) := Lib.hid (by rw [HX.out]; unfold namedB; rw [decide_eq_false (p := s.size ≤ 16) (by omega)]; simp)
      have h1' : (16 : Int) < s.size := by omega
      clear h0 h16
      go_wp2_with fail
      go_ret
      exact ⟨by rw [HR.out]; rfl, Ext.refl _⟩
    · have h1' : (s.size : Int) ≤ 16 := by omega
      have HR : Hid (X = s.data.toList.all (nmSet.contains ·)) := Lib.hid (by rw [HX.out]; unfold namedB; rw [decide_eq_true (by omega : 0 < s.size), decide_eq_true (by omega : s.size ≤ 16)]; simp)
      obtain ⟨N, hN⟩ : ∃ N, N = s.size := ⟨_, rfl⟩
      have h2' : N ≤ 16 := by omega
      clear h0 h16
      go_wp2_with fail
      have HN := Lib.hid hN
      go_loopg [3] N (fun g v wr => ∃ i : Nat, i + g = N ∧ v = .int .i64 (i : Int) ∧ wr = w ∧ (s.data.toList.take i).all (nmSet.contains ·) = true)
      case atStart => exact ⟨0, by omega, rfl, rfl, rfl⟩
      case round =>
        obtain ⟨i, hiN, rfl, rfl, hall⟩ := hrel
        have HALL := Lib.hid hall
        clear hall
        by_cases hlt : i < N
        · have hls : i < s.size := by rw [← hN]; exact hlt
          have hls2 : (i : Int) < (s.size : Int) := by omega
          have hch := okC_eq s[i]
          have hget : s.data.toList[i]? = some s[i] := by
            rw [Array.getElem?_toList]
            exact Array.getElem?_eq_getElem hls
          obtain ⟨c, hc⟩ : ∃ c : Int, c = (s[i].toNat : Int) := ⟨_, rfl⟩
          have hok : okC s[i].toNat = ((decide (97 ≤ c) && decide (c ≤ 122)) || ((decide (48 ≤ c) && decide (c ≤ 57)) || (c == 46))) := by
            rw [hc, okC]
            congr 1
            · congr 1 <;> (apply decide_eq_decide.2; omega)
            · congr 1
              · congr 1 <;> (apply decide_eq_decide.2; omega)
              · rw [Bool.eq_iff_iff]; simp; omega
          have hbad : okC s[i].toNat = false → X = false := fun h => by
            rw [HR.out, Bool.eq_false_iff]
            intro ha
            rw [List.all_eq_true] at ha
            have := ha s[i] (List.mem_of_getElem? hget)
            rw [hch, h] at this; cases this
          have hgood : okC s[i].toNat = true → (s.data.toList.take (i + 1)).all (nmSet.contains ·) = true := fun h => by
            rw [List.take_add_one, List.all_append, HALL.out, hget]
            simp only [Option.toList_some, List.all_cons, List.all_nil, Bool.and_true, Bool.true_and]
            rw [hch, h]
          rw [hok] at hbad hgood
          have hbad2 : ¬ ((97 ≤ c ∧ c ≤ 122) ∨ (48 ≤ c ∧ c ≤ 57) ∨ c = 46) → X = false := fun h => hbad (by rw [Bool.eq_false_iff]; intro hh; apply h; simpa using hh)
          have hgood2 : ((97 ≤ c ∧ c ≤ 122) ∨ (48 ≤ c ∧ c ≤ 57) ∨ c = 46) → (s.data.toList.take (i + 1)).all (nmSet.contains ·) = true := fun h => hgood (by simpa using h)
          have HBAD := Lib.hid hbad2; have HGOOD := Lib.hid hgood2
          clear hbad2 hgood2
          have HC := Lib.hid hc
          clear hch hget hok hbad hgood hc
          go_wp2_with fail
          all_goals (try rw [← HC.out] at *)
          all_goals first
            | (go_ret
               refine ⟨?_, Ext.refl _⟩
               rw [HBAD.out (by clear HBAD HGOOD HALL HR HX HC; simp at *; omega)]; rfl)
            | (go_roundg (gk - 1)
               case measure => omega
               case rel => exact ⟨i + 1, by omega, by go_num, rfl, HGOOD.out (by clear HBAD HGOOD HALL HR HX HC; simp at *; omega)⟩)
        · have hge : (s.size : Int) ≤ (i : Int) := by omega
          have HT : Hid (X = true) := Lib.hid (by
            have := HALL.out
            rw [List.take_of_length_le (by rw [Array.length_toList]; show s.size ≤ i; omega)] at this
            rw [HR.out, this])
          clear hlt
          go_wp2_with fail
          go_ret
          exact ⟨by rw [HT.out]; rfl, Ext.refl _⟩
end Go.Proofs.YtmffknllnjagoaaDoor
