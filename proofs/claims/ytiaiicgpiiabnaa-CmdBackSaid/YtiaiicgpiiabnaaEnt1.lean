/- Contracts of packages cmd and tabellionref12: which members, which entries are formed. -/
import Derived.Test.YtiaiicgpiiabnaaRef01
import Derived.Test.YtiaiicgpiiabnaaEntL
import Derived.Deep.QuietTactic
import Derived.BigQuiet
namespace Go.Proofs.Ytiaiicgpiiabnaa
open Go Go.RowKit

/-- A call that hands back v, and leaves all that was there alone. -/
def RetIs (v : Value) (w : World) (e : Ending) (w' : World) : Prop := e = .returned v ∧ Ext w w'

set_option maxHeartbeats 400000 in
theorem members_ret (v : Value) (xs : List Int) (w : World) (hr : Rd w v (u64s xs)) : Calls Try.prog 14 #[v] w (RetIs (.bool (membersB xs)) w) := by
  obtain ⟨a, c, rfl, hac, hcm, h3⟩ := Rd.open hr
  unfold maxLen at hcm
  have H3 := Lib.hid h3; clear h3 hr
  go_enter Try.func14, Try.ntmps14
  go_wp2_with fail
  go_loopg [3, 8] xs.length (fun g l i wr => ∃ (r : Nat) (last : Int), r + g = xs.length ∧ i = .int .i64 (r : Int) ∧ l = .int .u64 last ∧ memGo last (xs.drop r) = membersB xs ∧ Ext w wr)
  case atStart => exact ⟨0, 0, by omega, rfl, rfl, by simp [membersB], Ext.refl _⟩
  case round =>
    obtain ⟨r, last, hg, rfl, rfl, hm, hE⟩ := hrel
    by_cases hlt : r < xs.length
    · rcases H3.out with h0 | ⟨b, o, rfl, hc⟩
      · subst h0; simp at hlt
      · have hcell := hE.cell (hc r hlt)
        obtain ⟨x, hx⟩ : ∃ x : Int, x = xs.getD r 0 := ⟨_, rfl⟩
        rw [← hx] at hcell
        have hd : xs.drop r = x :: xs.drop (r + 1) := by
          rw [List.drop_eq_getElem_cons hlt, hx]; simp [List.getD, List.getElem?_eq_getElem hlt]
        rw [hd, memGo] at hm
        have HM := Lib.hid hm; clear hm hx hc hd
        by_cases h1 : x ≤ last
        · go_wp2_with fail
          go_ret
          refine ⟨?_, hE⟩
          rw [← HM.out]; simp [h1]
        · by_cases h2 : 7 < x
          · go_wp2_with fail
            go_ret
            refine ⟨?_, hE⟩
            rw [← HM.out]; simp [h2]
          · go_wp2_with fail
            go_roundg (gk - 1)
            case measure => omega
            case rel => exact ⟨r + 1, x, by omega, by go_num, rfl, by rw [← HM.out]; simp [h1, h2], hE⟩
    · have hd : xs.drop r = [] := List.drop_eq_nil_of_le (by omega)
      rw [hd, memGo] at hm
      have HM := Lib.hid hm; clear hm hd
      go_wp2_with fail
      go_ret
      refine ⟨?_, hE⟩
      rw [← HM.out]; rfl

set_option maxHeartbeats 400000 in
theorem rmembers_ret (v : Value) (xs : List Int) (w : World) (hr : Rd w v (u64s xs)) : Calls Try.prog 15 #[v] w (RetIs (.bool (membersB xs)) w) := by
  obtain ⟨a, c, rfl, hac, hcm, h3⟩ := Rd.open hr
  unfold maxLen at hcm
  have H3 := Lib.hid h3; clear h3 hr
  go_enter Try.func15, Try.ntmps15
  go_wp2_with fail
  go_loopg [3] xs.length (fun g i wr => ∃ (r : Nat) (last : Int), r + g = xs.length ∧ i = .int .i64 (r : Int) ∧ memGo last (xs.drop r) = membersB xs ∧ (r = 0 ∧ last = 0 ∨ 0 < r ∧ 1 ≤ last ∧ last = xs.getD (r - 1) 0) ∧ Ext w wr)
  case atStart => exact ⟨0, 0, by omega, rfl, by simp [membersB], .inl ⟨rfl, rfl⟩, Ext.refl _⟩
  case round =>
    obtain ⟨r, last, hg, rfl, hm, hl, hE⟩ := hrel
    by_cases hlt : r < xs.length
    · rcases H3.out with h0 | ⟨b, o, rfl, hc⟩
      · subst h0; simp at hlt
      · have hcell := hE.cell (hc r hlt)
        obtain ⟨x, hx⟩ : ∃ x : Int, x = xs.getD r 0 := ⟨_, rfl⟩
        rw [← hx] at hcell
        have hd : xs.drop r = x :: xs.drop (r + 1) := by
          rw [List.drop_eq_getElem_cons hlt, hx]; simp [List.getD, List.getElem?_eq_getElem hlt]
        rw [hd, memGo] at hm
        have HM := Lib.hid hm; have HX := Lib.hid hx; clear hm hx hd
        by_cases h1 : x < 1
        · have HF := Lib.hid (show membersB xs = false by rw [← HM.out]; simp; omega)
          clear hl hc
          go_wp2_with fail
          go_quiet (fail)
          go_wp2_with fail
          go_ret
          exact ⟨by rw [HF.out]; rfl, hE.trans (Ext.drewN _ _)⟩
        · have h1' : decide (x < 1) = false := by simpa using h1
          by_cases h2 : 7 < x
          · have HF := Lib.hid (show membersB xs = false by rw [← HM.out]; simp; omega)
            clear hl hc
            go_wp2_with fail
            go_quiet (fail)
            go_wp2_with fail
            go_ret
            exact ⟨by rw [HF.out]; rfl, hE.trans (Ext.drewN _ _)⟩
          · have h2' : decide (7 < x) = false := by simpa using h2
            rcases hl with ⟨h0, rfl⟩ | ⟨hr0, hl1, hlx⟩
            · have HN := Lib.hid (show memGo x (xs.drop (r + 1)) = membersB xs by rw [← HM.out]; simp [h2]; omega)
              have hr0 : decide (0 < r) = false := by simp; omega
              clear hc h0
              go_wp2_with fail
              go_quiet (fail)
              go_wp2_with fail
              go_roundg (gk - 1)
              case measure => omega
              case rel => exact ⟨r + 1, x, by omega, by go_num, HN.out, .inr ⟨by omega, by omega, HX.out⟩, hE.trans (Ext.drewN _ _)⟩
            · have hcell2 := hE.cell (hc (r - 1) (by omega))
              rw [← hlx] at hcell2
              have HL := Lib.hid hlx; clear hlx hc
              by_cases h3 : x ≤ last
              · have HF := Lib.hid (show membersB xs = false by rw [← HM.out]; simp [h3])
                go_wp2_with fail
                go_quiet (fail)
                go_wp2_with fail
                go_ret
                exact ⟨by rw [HF.out]; rfl, hE.trans (Ext.drewN _ _)⟩
              · have HN := Lib.hid (show memGo x (xs.drop (r + 1)) = membersB xs by rw [← HM.out]; simp [h2, h3])
                go_wp2_with fail
                go_quiet (fail)
                go_wp2_with fail
                go_roundg (gk - 1)
                case measure => omega
                case rel => exact ⟨r + 1, x, by omega, by go_num, HN.out, .inr ⟨by omega, by omega, HX.out⟩, hE.trans (Ext.drewN _ _)⟩
    · have hd : xs.drop r = [] := List.drop_eq_nil_of_le (by omega)
      rw [hd, memGo] at hm
      have HF := Lib.hid (show membersB xs = decide (0 < (xs.length : Int)) by
        rw [← hm]; rcases hl with ⟨h1, h2⟩ | ⟨h1, h2, _⟩
        · rw [h2, decide_eq_false (by omega), decide_eq_false (by omega)]
        · rw [decide_eq_true (by omega), decide_eq_true (by omega)])
      clear hm hd hl
      go_wp2_with fail
      go_ret
      exact ⟨by rw [HF.out]; simp, hE⟩
end Go.Proofs.Ytiaiicgpiiabnaa
