/- tabellionref18: nums, flag. -/
import Derived.Test.YtnhfjoelfnmgaaaRbare
set_option linter.unusedSimpArgs false
set_option linter.unusedVariables false
namespace Go.Proofs.Ytnhfjoelfnmgaaa
open Go Go.RowKit

/-- Numbers as bytes, one behind the other. -/
def numsB (xs : List Int) : List Int := xs.flatMap (fun m => numB m.toNat)
set_option maxHeartbeats 1000000 in
theorem flag_c (y : Bool) (w : World) : Calls Try.prog 40 #[.bool y] w fun en w' => en = .returned (.int .u8 (if y then 1 else 0)) ∧ w' = w := by
  cases y
  all_goals
    go_enter Try.func40, Try.ntmps40
    go_wp2_with fail
    go_ret
    exact ⟨rfl, rfl⟩

set_option maxHeartbeats 2000000 in
theorem nums_c (v : Value) (xs : List Int) (w : World) (hr : Rd w v (u64s xs)) (hx : B64 xs) (hl : xs.length ≤ 1000000) : Calls Try.prog 39 #[v] w (RetOwn 5 w (u8s (numsB xs))) := by
  obtain ⟨a1, c1, rfl, hl1, hc1, h3⟩ := Rd.open hr
  have H3 := Lib.hid h3; have H64 := Lib.hid hx
  clear h3 hr hx hc1
  go_enter Try.func39, Try.ntmps39
  go_wp2_with fail
  go_loopg [3, 4] xs.length (fun g b i wr => ∃ (r : Nat), r + g = xs.length ∧ i = .int .i64 (r : Int) ∧ wr.ownsRow w.heap.size 5 1 b (numsB (xs.take r)).length (u8s (numsB (xs.take r))) ∧ Ext w wr ∧ (numsB (xs.take r)).length ≤ 9 * r)
  case atStart => exact ⟨0, by omega, rfl, World.ownsRow_nil _ _ _ _, Ext.refl _, by simp [numsB]⟩
  case round =>
    obtain ⟨r, hg, rfl, ho, hE, hln⟩ := hrel
    have HO := Lib.hid ho; have HE := Lib.hid hE
    clear ho hE
    by_cases hlt : r < xs.length
    · rcases H3.out with h0 | ⟨b', o, rfl, hc⟩
      · rw [h0] at hlt; simp at hlt
      · obtain ⟨x, hxx⟩ : ∃ x, xs[r]? = some x := ⟨_, List.getElem?_eq_getElem hlt⟩
        have hcell := HE.out.cell (hc r hlt)
        rw [show xs.getD r 0 = x by simp [List.getD, hxx]] at hcell
        have hux := H64.out x (List.mem_of_getElem? hxx)
        have tx : numsB (xs.take (r + 1)) = numsB (xs.take r) ++ numB x.toNat := by rw [List.take_add_one, hxx]; simp [numsB]
        have TX := Lib.hid tx
        have h9 := numB_len_le x.toNat
        clear hc hxx tx
        go_wp2_with fail
        refine (rnum_int x wr hux).mono ?_
        rintro e w4 ⟨v4, rfl, ho4, hE4⟩
        have HO4 := Lib.hid ho4; have HOW := Lib.hid (own_ext HO.out hE4)
        have hs4 := Nat.le_trans HE.out.size hE4.size
        have HE4 := Lib.hid (HE.out.trans hE4)
        obtain ⟨va, vn, vc, rfl⟩ := own_shape ho4
        clear ho4 hE4 hcell
        go_wp2_with (at_builtin; refine wpList_append_rd rfl (.tmp 11) (.tmp 16) _ rfl el8 w.heap.size _ _ _ (u8s (numB x.toNat)) rfl HOW.out _ rfl (Rd.of_own HO4.out) (u8s_one _) (by rw [u8s_len]; omega) (by rw [u8s_len]; unfold maxLen; omega) hs4 ?_)
        intro v5 w5 ho5 hg5
        have hE5 : Ext w w5 := Below.grown HE4.out hg5 hs4 fun k hk => own_block HOW.out k hk
        have ho6 : w5.ownsRow w.heap.size 5 1 v5 (numsB (xs.take (r + 1))).length (u8s (numsB (xs.take (r + 1)))) := by
          rw [TX.out, List.length_append, ← u8s_app]
          rw [u8s_len] at ho5
          exact ho5
        have HO6 := Lib.hid ho6; have HE5 := Lib.hid hE5
        clear ho5 hg5 ho6 hE5
        go_wp2_with fail
        go_roundg (gk - 1)
        case measure => omega
        case rel => exact ⟨r + 1, by omega, by go_num, HO6.out, HE5.out, by rw [TX.out, List.length_append]; omega⟩
    · have hrn : r = xs.length := by omega
      have ho := HO.out
      rw [hrn, List.take_length] at ho
      have HO7 := Lib.hid ho
      clear ho hrn
      go_wp2_with fail
      go_ret
      exact ⟨_, rfl, by rw [u8s_len]; exact HO7.out, HE.out⟩
end Go.Proofs.Ytnhfjoelfnmgaaa
