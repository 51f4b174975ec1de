/- disk: named. -/
import Derived.Test.YtafjjladnghjbaaGreatDoorDsk3
import Derived.Shelf.Strings.SlTrimAscii
namespace Go.Proofs.YtafjjladnghjbaaGreatDoor
open Go Go.RowKit Go.Maps

/-- The signs of a file's name. -/
def nmSet : List UInt8 := [97, 98, 99, 100, 101, 102, 103, 104, 105, 106, 107, 108, 109, 110, 111, 112, 113, 114, 115, 116, 117, 118, 119, 120, 121, 122, 48, 49, 50, 51, 52, 53, 54, 55, 56, 57, 46]
def namedB (s : ByteArray) : Bool := decide (0 < s.size) && decide (s.size ≤ 16) && s.data.toList.all (nmSet.contains ·)
theorem dropWhile_nil {α : Type} (p : α → Bool) : ∀ l : List α, l.dropWhile p = [] ↔ l.all p = true
  | [] => by simp
  | x :: r => by
    unfold List.dropWhile
    cases h : p x
    · simp [h]
    · simp only [List.all_cons, h, Bool.true_and]; exact dropWhile_nil p r
theorem trimS_nil (l cs : List UInt8) : Lib.trimS l cs = [] ↔ l.all (cs.contains ·) = true := by
  unfold Lib.trimS Lib.trimLeftS Lib.trimRightS
  rw [dropWhile_nil]
  rw [List.all_reverse]
  constructor
  · intro h
    have h2 : (l.reverse.dropWhile (cs.contains ·)) = [] := by
      cases hd : l.reverse.dropWhile (cs.contains ·) with
      | nil => rfl
      | cons x r =>
        have hx : cs.contains x = false := by
          have := List.head?_dropWhile_not (cs.contains ·) l.reverse
          rw [hd] at this; simpa using this
        rw [hd] at h
        simp only [List.all_cons, Bool.and_eq_true] at h
        rw [hx] at h; exact absurd h.1 (by simp)
    rw [dropWhile_nil, List.all_reverse] at h2
    exact h2
  · intro h
    have h2 : (l.reverse.dropWhile (cs.contains ·)) = [] := by rw [dropWhile_nil, List.all_reverse]; exact h
    rw [h2]; rfl
theorem trim_c (s : ByteArray) (w : World) (hs : s.size ≤ 9223372036854775807) :
    Calls Tryz.prog 31 #[.string s, .string ⟨nmSet.toArray⟩] w fun e w' => e = .returned (.string ⟨(Lib.trimS s.data.toList nmSet).toArray⟩) ∧ Below w.heap.size w w' :=
  Any.strings_Trim_laid Tryz.lays160 (by kernel_rfl) s ⟨nmSet.toArray⟩ w hs (by decide) (ascii_of_all (by decide))

set_option maxHeartbeats 800000 in
theorem named_c (s : ByteArray) (w : World) : Calls Tryz.prog 85 #[.string s] w fun e w' => e = .returned (.bool (namedB s)) ∧ Ext w w' := by
  by_cases h0 : s.size = 0
  · obtain rfl : s = ⟨#[]⟩ := by
      cases s with | mk a => have : a = #[] := Array.eq_empty_of_size_eq_zero h0; rw [this]
    go_enter Tryz.func85, Tryz.ntmps85
    go_wp2_with fail
    go_ret
    exact ⟨rfl, Ext.refl _⟩
  · have hp : 0 < s.size := by omega
    have hl : s.toList = s.data.toList := Lib.toList_data s
    have he : s.toList.isEmpty = false := by
      rw [hl]
      cases hd : s.data.toList with
      | nil => have h1 : s.data.toList.length = 0 := by rw [hd]; rfl
               rw [Array.length_toList] at h1; exact absurd h1 h0
      | cons x r => rfl
    clear h0 hl
    by_cases h16 : s.size ≤ 16
    · have hi : (s.size : Int) ≤ 16 := by omega
      have HP := Lib.hid hp; have H16 := Lib.hid h16
      clear hp h16
      go_enter Tryz.func85, Tryz.ntmps85
      go_wp2_with fail
      refine (trim_c s w (by omega)).mono ?_
      rintro e w1 ⟨rfl, hE⟩
      have hE' : Ext w w1 := hE
      have HE := Lib.hid hE'
      clear hE hE'
      obtain ⟨T, hT⟩ : ∃ T, T = Lib.trimS s.data.toList nmSet := ⟨_, rfl⟩
      rw [← hT]
      have HT := Lib.hid hT
      clear hT
      have htl : (⟨T.toArray⟩ : ByteArray).toList = T := by rw [Lib.toList_data]
      by_cases ht : T = []
      · have HR : Hid (namedB s = true) := Lib.hid (by
          have := (trimS_nil s.data.toList nmSet).1 (by rw [← HT.out]; exact ht)
          unfold namedB
          rw [this, decide_eq_true HP.out, decide_eq_true H16.out]; rfl)
        subst ht
        go_wp2_with fail
        go_ret
        exact ⟨by rw [HR.out]; rfl, HE.out⟩
      · have HR : Hid (namedB s = false) := Lib.hid (by
          have h1 : s.data.toList.all (nmSet.contains ·) = false := by
            cases h : s.data.toList.all (nmSet.contains ·)
            · rfl
            · exact absurd (by rw [HT.out]; exact (trimS_nil s.data.toList nmSet).2 h) ht
          unfold namedB
          rw [h1, Bool.and_false])
        have ht' : T.isEmpty = false := by cases T with
          | nil => exact absurd rfl ht
          | cons x r => rfl
        clear ht
        go_wp2_with fail
        go_ret
        exact ⟨by rw [HR.out]; rfl, HE.out⟩
    · have HR : Hid (namedB s = false) := Lib.hid (by unfold namedB; rw [decide_eq_false h16]; simp)
      have hi : (16 : Int) < s.size := by omega
      clear h16
      go_enter Tryz.func85, Tryz.ntmps85
      go_wp2_with fail
      go_ret
      exact ⟨by rw [HR.out]; rfl, Ext.refl _⟩
end Go.Proofs.YtafjjladnghjbaaGreatDoor
