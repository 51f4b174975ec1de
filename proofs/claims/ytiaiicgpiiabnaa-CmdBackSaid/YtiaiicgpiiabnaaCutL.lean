/- Plain: an entry's bytes, cut off. No program. -/
import Derived.Test.YtiaiicgpiiabnaaCmdL
namespace Go.Proofs.Ytiaiicgpiiabnaa

theorem rdNum_take (n : Nat) (h : n < 2 ^ 64) (r : List Int) (j : Nat) : rdNum ((numB n ++ r).take j) = if j < (numB n).length then .error 2 else .ok ((n : Int), r.take (j - (numB n).length)) := by
  rw [List.take_append]
  split
  · rename_i hj
    rw [show j - (numB n).length = 0 by omega]
    simp only [List.take_zero, List.append_nil]
    exact rdNum_cut n h j hj
  · rename_i hj
    rw [List.take_of_length_le (by omega)]
    exact rdNum_numB n h _
theorem rdRaw_cut (d : List Int) (j : Nat) (most : Int) (h : (d.length : Int) ≤ most) (hl : d.length < 2 ^ 64) (hj : j < (numB d.length ++ d).length) : rdRaw most ((numB d.length ++ d).take j) = .error 2 := by
  unfold rdRaw
  rw [rdNum_take _ hl]
  simp only [List.length_append] at hj
  split
  · rename_i e he
    split at he
    · cases he; rfl
    · cases he
  · rename_i n r he
    split at he
    · cases he
    · simp only [Except.ok.injEq, Prod.mk.injEq] at he
      obtain ⟨rfl, rfl⟩ := he
      rw [if_neg (by omega), if_pos (by simp; omega)]
theorem rdIds_cut : ∀ (ms acc : List Int) (j : Nat), membersB (acc ++ ms) = true → j < (ms.flatMap (fun m => numB m.toNat)).length → rdIds ms.length acc ((ms.flatMap (fun m => numB m.toNat)).take j) = .error 2
  | [], acc, j, _, hj => by simp at hj
  | m :: ms, acc, j, h, hj => by
    have hm := memGo_mem (acc ++ m :: ms) 0 (by omega) h m (by simp)
    simp only [List.length_cons, rdIds, List.flatMap_cons]
    rw [rdNum_take _ (by omega)]
    have e : ((m.toNat : Nat) : Int) = m := by omega
    by_cases hjn : j < (numB m.toNat).length
    · rw [if_pos hjn]
    · rw [if_neg hjn]
      simp only [e]
      have h1 : membersB (acc ++ [m]) = true := by
        cases hms : ms with
        | nil => rw [hms] at h; exact h
        | cons y ys =>
          have := memGo_split (acc ++ [m]) ms 0 (by omega) (by simpa [membersB] using h) (by rw [hms]; simp)
          rcases this with h2 | h2
          · simp at h2
          · exact h2
      rw [if_pos h1]
      simp only [List.flatMap_cons, List.length_append] at hj
      exact rdIds_cut ms (acc ++ [m]) (j - (numB m.toNat).length) (by simpa using h) (by omega)

theorem getB_cut (x : Ent) (hf : formedB x = true) (hx : EntFit x) (j : Nat) (hj : j < (putB x).length) : getB ((putB x).take j) = .error 2 := by
  have key : rdEnt ((putB x).take j) = .error 2 := by
    obtain ⟨⟨t1, t2⟩, hc⟩ := formed_cases x hf
    obtain ⟨t, k, c, s, d, ms⟩ := x
    simp only at t1 t2 hc
    have ht : t.toNat < 2 ^ 64 := by omega
    have et : ((t.toNat : Nat) : Int) = t := by omega
    unfold putB at hj ⊢
    unfold rdEnt
    simp only [List.append_assoc] at hj ⊢
    rw [rdNum_take _ ht]
    by_cases h1 : j < (numB t.toNat).length
    · rw [if_pos h1]
    · rw [if_neg h1]
      simp only [et]
      rw [if_neg (by omega)]
      simp only [List.length_append] at hj
      obtain ⟨i, hi⟩ : ∃ i, i = j - (numB t.toNat).length := ⟨_, rfl⟩
      rw [← hi]
      cases i with
      | zero => simp [rdByte]
      | succ i =>
        simp only [List.cons_append, List.nil_append, List.take_succ_cons, rdByte]
        rcases hc with ⟨rfl, rfl, rfl, rfl, rfl⟩ | ⟨rfl, hd, rfl⟩ | ⟨rfl, rfl, rfl, rfl, hm⟩
        · simp at hj; omega
        · obtain ⟨⟨c0, c1⟩, s0, s1⟩ := hx
          simp only at c0 c1 s0 s1
          have ec : ((c.toNat : Nat) : Int) = c := by omega
          have es : ((s.toNat : Nat) : Int) = s := by omega
          simp only [show ((2 : Int) % 256 = 1) = False by simp, show ((2 : Int) % 256 = 2) = True by simp, if_true, if_false, List.append_assoc, List.length_append, List.length_singleton] at hj ⊢
          rw [rdNum_take _ c1]
          by_cases h2 : i < (numB c.toNat).length
          · rw [if_pos h2]
          · rw [if_neg h2]
            simp only [ec]
            rw [rdNum_take _ s1]
            by_cases h3 : i - (numB c.toNat).length < (numB s.toNat).length
            · rw [if_pos h3]
            · rw [if_neg h3]
              simp only [es]
              rw [rdRaw_cut d _ 64 (by omega) (by omega) (by simp only [List.length_append]; omega)]
        · simp only [show ((3 : Int) % 256 = 1) = False by simp, show ((3 : Int) % 256 = 2) = False by simp, show ((3 : Int) % 256 = 3) = True by simp, show ((3 : Int) = 2) = False by simp, if_true, if_false, List.append_assoc, List.length_append, List.length_singleton] at hj ⊢
          rcases memGo_len ms 0 (by omega) hm with h | h
          · have hne : 1 ≤ ms.length := by
              cases ms with
              | nil => simp [membersB, memGo] at hm
              | cons y ys => simp
            rw [rdNum_take _ (by omega)]
            by_cases h2 : i < (numB ms.length).length
            · rw [if_pos h2]
            · rw [if_neg h2]
              simp only []
              rw [if_neg (by omega), Int.toNat_natCast, rdIds_cut ms [] _ (by simpa using hm) (by omega)]
          · subst h; simp [membersB, memGo] at hm
  unfold getB
  rw [key]
end Go.Proofs.Ytiaiicgpiiabnaa
