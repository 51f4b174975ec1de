/- bin.Reader: End; New. -/
import Derived.Test.YtgefphfnicjbiaaRdm
set_option linter.unusedSimpArgs false
set_option linter.unusedVariables false
namespace Go.Proofs.Ytgefphfnicjbiaa
open Go Go.RowKit

def endE (e : Int) (bs : List Int) : Int := if e = 0 ∧ bs ≠ [] then 5 else e

set_option maxHeartbeats 1000000 in
theorem end_m (b : Nat) (bs : List Int) (e : Int) (w : World) (h : Rdr w b bs e) :
    Calls Try.prog 39 #[ptr b] w fun en w' => en = .returned (.int .i64 (endE e bs)) ∧ w.grownBy w' (some b) ∧ Rdr w' b bs (endE e bs) := by
  have H := Lib.hid h
  obtain ⟨v, hB, hR, hF⟩ := h
  obtain ⟨a, c, rfl, _, _, _⟩ := Rd.open hR
  have c0 := hB.cell 0 rfl
  have c1 := hB.cell 1 rfl
  have f1 := hB.free 1
  clear hB hR hF
  by_cases he : e = 0
  · subst he
    by_cases hb : bs = []
    · subst hb
      simp only [endE, ne_eq, not_true_eq_false, and_false, if_false]
      go_enter Try.func39, Try.ntmps39
      go_wp2
      all_goals go_ret
      all_goals exact ⟨rfl, grown_refl _ _, H.out⟩
    · have hl : 0 < bs.length := List.length_pos_iff.2 hb
      have H5 := Lib.hid (rdr_err H.out 5)
      simp only [endE, ne_eq, hb, not_false_eq_true, and_self, if_true]
      go_enter Try.func39, Try.ntmps39
      go_wp2
      all_goals go_ret
      all_goals exact ⟨rfl, grown_set _ _ _ _, H5.out⟩
  · simp only [endE, he, false_and, if_false]
    have hee : (e == 0) = false := by simpa using he
    go_enter Try.func39, Try.ntmps39
    go_wp2
    all_goals go_ret
    all_goals exact ⟨rfl, grown_refl _ _, H.out⟩

set_option maxHeartbeats 1000000 in
theorem new_m (v : Value) (bs : List Int) (w : World) (h : Rd w v (u8s bs)) (hl : bs.length ≤ 140737488355328) :
    Calls Try.prog 31 #[v] w fun en w' => ∃ b, en = .returned (ptr b) ∧ w.heap.size ≤ b ∧ Rdr w' b bs 0 ∧ Ext w w' := by
  go_enter Try.func31, Try.ntmps31
  go_wp2_with fail
  refine (clone8 v bs w h hl).mono ?_
  rintro en w1 ⟨v1, rfl, ho, hE⟩
  have HO := Lib.hid ho; have HE := Lib.hid hE
  obtain ⟨a1, n1, c1, rfl⟩ := Rd.shape (Rd.of_own ho)
  clear ho hE
  go_wp2
  go_ret
  have hE1 := Ext.alloc w1 (.cells #[.slice a1 n1 c1, .int .i64 0] 97)
  exact ⟨_, rfl, HE.out.size, ⟨_, Blk.new _ _ _, (Rd.of_own HO.out).ext hE1, fun a n c h => by cases h; exact (HO.out.lt _ rfl).2⟩, HE.out.trans hE1⟩
end Go.Proofs.Ytgefphfnicjbiaa
