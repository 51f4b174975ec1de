/- disk: New, lost, burn, Down, Room, Fuse, Waiting. -/
import Derived.Test.YtafjjladnghjbaaGreatDoorDsk2
namespace Go.Proofs.YtafjjladnghjbaaGreatDoor
open Go Go.RowKit Go.Maps

abbrev dptr (b : Nat) : Value := .pointer (some ⟨b, 0, none⟩)
def dkNew (room : Int) : Dk := ⟨[], [], [], room, -1, false⟩
set_option maxRecDepth 100000 in
theorem new_c (M : Nat) (room : Int) (F : List Nat) (w : World) (hr0 : -9223372036854775808 ≤ room) (hr1 : room ≤ 9223372036854775807) (hF : ∀ t ∈ F, t < w.heap.size) :
    Calls Tryz.prog 10 #[.int .i64 room] w fun e w' => ∃ d, e = .returned (dptr d) ∧ DkS w' d 0 M [d, w.heap.size, w.heap.size + 1] F (dkNew room) ∧ Ext w w' ∧ w.heap.size + 2 = d := by
  have hmm := @run_makeMap Tryz.prog
  have HF := Lib.hid hF
  clear hF
  go_enter Tryz.func10, Tryz.ntmps10
  go_wp2_with fail
  go_ret
  have hE : Ext w ((((w.alloc (.map #[] 0)).alloc (.map #[] 0)).alloc (.cells #[.map (some w.heap.size), .map (some (w.heap.size + 1)), .slice none 0 0, .int .i64 room, .int .i64 (-1), .bool false] 75))) := ((Ext.alloc _ _).trans (Ext.alloc _ _)).trans (Ext.alloc _ _)
  refine ⟨w.heap.size + 2, rfl, ?_, hE, rfl⟩
  have f0 : Files (w.alloc (.map #[] 0)) w.heap.size 0 F [] := Files.made w
  have f1 : Files ((w.alloc (.map #[] 0)).alloc (.map #[] 0)) (w.heap.size + 1) 0 F [] := by
    have := Files.made (A := F) (w.alloc (.map #[] 0)); simpa using this
  have b0 := Blk.new ((w.alloc (.map #[] 0)).alloc (.map #[] 0)) #[.map (some w.heap.size), .map (some (w.heap.size + 1)), .slice none 0 0, .int .i64 room, .int .i64 (-1), .bool false] 75
  rw [show ((w.alloc (.map #[] 0)).alloc (.map #[] 0)).heap.size = w.heap.size + 2 by simp] at b0
  refine ⟨⟨w.heap.size, w.heap.size + 1, .slice none 0 0, [], b0, (f0.ext (Ext.alloc _ _)).ext (Ext.alloc _ _), f1.ext (Ext.alloc _ _), World.ownsRow_nil _ _ _ _, rfl, by omega, by simp, by simp, by simp, by simp [Value.ownBlock], by omega, by omega⟩, by intro p hp; simp [dkNew] at hp, by intro p hp; simp [dkNew] at hp, by intro p hp; simp [dkNew] at hp, ?_, by simp [dkNew], by simp [dkNew], hr0, hr1, fun t ht => Nat.lt_of_lt_of_le (HF.out t ht) hE.size⟩
  intro t ht
  simp at ht ⊢
  omega

theorem lost_nil (w : World) : Calls Tryz.prog 62 #[.pointer none] w fun e w' => e = .returned (.bool true) ∧ w' = w := by
  go_enter Tryz.func62, Tryz.ntmps62
  go_wp2_with fail
  go_ret
  exact ⟨rfl, rfl⟩
theorem lost_c (d n M : Nat) (O F : List Nat) (S : Dk) (w : World) (h : DkS w d n M O F S) : Calls Tryz.prog 62 #[dptr d] w fun e w' => e = .returned (.bool S.off) ∧ w' = w := by
  obtain ⟨bn, bs, wv, _, hB, _⟩ := h.turn
  obtain ⟨c0, c1, c2, c3, c4, c5⟩ := hB.six
  clear h hB
  go_enter Tryz.func62, Tryz.ntmps62
  go_wp2_with fail
  go_ret
  exact ⟨rfl, rfl⟩
theorem down_nil (w : World) : Calls Tryz.prog 25 #[.pointer none] w fun e w' => e = .returned (.bool true) ∧ w' = w := by
  go_enter Tryz.func25, Tryz.ntmps25
  go_wp2_with fail
  refine (lost_nil w).mono ?_
  rintro e w1 ⟨rfl, rfl⟩
  go_wp2_with fail
  go_ret
  exact ⟨rfl, rfl⟩
theorem down_c (d n M : Nat) (O F : List Nat) (S : Dk) (w : World) (h : DkS w d n M O F S) : Calls Tryz.prog 25 #[dptr d] w fun e w' => e = .returned (.bool S.off) ∧ w' = w := by
  have H := Lib.hid h; clear h
  go_enter Tryz.func25, Tryz.ntmps25
  go_wp2_with fail
  refine (lost_c d n M O F S w H.out).mono ?_
  rintro e w1 ⟨rfl, rfl⟩
  go_wp2_with fail
  go_ret
  exact ⟨rfl, rfl⟩
theorem waiting_nil (w : World) : Calls Tryz.prog 82 #[.pointer none] w fun e w' => e = .returned (.int .i64 0) ∧ w' = w := by
  go_enter Tryz.func82, Tryz.ntmps82
  go_wp2_with fail
  go_ret
  exact ⟨rfl, rfl⟩
theorem waiting_c (d n M : Nat) (O F : List Nat) (S : Dk) (w : World) (h : DkS w d n M O F S) : Calls Tryz.prog 82 #[dptr d] w fun e w' => e = .returned (.int .i64 S.waits.length) ∧ w' = w := by
  obtain ⟨bn, bs, wv, ⟨a, l, c, rfl, rfl⟩, hB, _⟩ := h.turn
  obtain ⟨c0, c1, c2, c3, c4, c5⟩ := hB.six
  clear h hB
  go_enter Tryz.func82, Tryz.ntmps82
  go_wp2_with fail
  go_ret
  exact ⟨rfl, rfl⟩
theorem room_nil (n : Int) (w : World) : Calls Tryz.prog 28 #[.pointer none, .int .i64 n] w fun e w' => e = .returned (.tuple #[]) ∧ w' = w := by
  go_enter Tryz.func28, Tryz.ntmps28
  go_wp2_with fail
  exact bodyPost_end (results_none Tryz.results28 _ _ _) rfl ⟨rfl, rfl⟩
theorem fuse_nil (n : Int) (w : World) : Calls Tryz.prog 21 #[.pointer none, .int .i64 n] w fun e w' => e = .returned (.tuple #[]) ∧ w' = w := by
  go_enter Tryz.func21, Tryz.ntmps21
  go_wp2_with fail
  exact bodyPost_end (results_none Tryz.results21 _ _ _) rfl ⟨rfl, rfl⟩
theorem room_c (d n M : Nat) (O F : List Nat) (S : Dk) (w : World) (r : Int) (hr0 : -9223372036854775808 ≤ r) (hr1 : r ≤ 9223372036854775807) (h : DkS w d n M O F S) :
    Calls Tryz.prog 28 #[dptr d, .int .i64 r] w fun e w' => e = .returned (.tuple #[]) ∧ DkS w' d n M O F { S with room := r } ∧ DkTo O w w' O := by
  have f0 := h.fuse0; have f1 := h.fuse1
  obtain ⟨bn, bs, wv, _, hB, ht⟩ := h.turn
  obtain ⟨c0, c1, c2, c3, c4, c5⟩ := hB.six
  obtain ⟨q0, q1, q2, q3, q4, q5⟩ := hB.six_free
  have R := ht (w.setCell ⟨d, 3, none⟩ (.int .i64 r)) r S.fuse S.off (Chg.set _ _ _ (by simp)) (by simpa using hB.set 3 (.int .i64 r)) f0 f1 hr0 hr1
  have HR := Lib.hid R
  clear h hB ht f0 f1 R
  go_enter Tryz.func28, Tryz.ntmps28
  go_wp2_with fail
  exact bodyPost_end (results_none Tryz.results28 _ _ _) rfl ⟨rfl, HR.out⟩
theorem fuse_c (d n M : Nat) (O F : List Nat) (S : Dk) (w : World) (r : Int) (hr1 : r ≤ 9223372036854775807) (h : DkS w d n M O F S) :
    Calls Tryz.prog 21 #[dptr d, .int .i64 r] w fun e w' => e = .returned (.tuple #[]) ∧ DkS w' d n M O F { S with fuse := max r (-1) } ∧ DkTo O w w' O := by
  have f0 := h.room0; have f1 := h.room1
  obtain ⟨bn, bs, wv, _, hB, ht⟩ := h.turn
  obtain ⟨c0, c1, c2, c3, c4, c5⟩ := hB.six
  obtain ⟨q0, q1, q2, q3, q4, q5⟩ := hB.six_free
  have R := ht (w.setCell ⟨d, 4, none⟩ (.int .i64 (max r (-1)))) S.room (max r (-1)) S.off (Chg.set _ _ _ (by simp)) (by simpa using hB.set 4 (.int .i64 (max r (-1)))) (by omega) (by omega) f0 f1
  have HR := Lib.hid R
  clear h hB ht f0 f1 R
  go_enter Tryz.func21, Tryz.ntmps21
  go_wp2_with fail
  exact bodyPost_end (results_none Tryz.results21 _ _ _) rfl ⟨rfl, HR.out⟩
/-- The fuse burns. -/
def burnS (S : Dk) : Dk := if S.fuse = 0 then { S with off := true } else if 0 < S.fuse then { S with fuse := S.fuse - 1 } else S
set_option maxHeartbeats 800000 in
theorem burn_c (d n M : Nat) (O F : List Nat) (S : Dk) (w : World) (h : DkS w d n M O F S) :
    Calls Tryz.prog 89 #[dptr d] w fun e w' => e = .returned (.bool (decide (S.fuse ≠ 0))) ∧ DkS w' d n M O F (burnS S) ∧ DkTo O w w' O := by
  have f0 := h.room0; have f1 := h.room1; have f2 := h.fuse0; have f3 := h.fuse1
  obtain ⟨bn, bs, wv, _, hB, ht⟩ := h.turn
  obtain ⟨c0, c1, c2, c3, c4, c5⟩ := hB.six
  obtain ⟨q0, q1, q2, q3, q4, q5⟩ := hB.six_free
  unfold burnS
  by_cases hz : S.fuse = 0
  · rw [if_pos hz, decide_eq_false (by simpa using hz)]
    have R := ht (w.setCell ⟨d, 5, none⟩ (.bool true)) S.room S.fuse true (Chg.set _ _ _ (by simp)) (by simpa using hB.set 5 (.bool true)) f2 f3 f0 f1
    have HR := Lib.hid R
    rw [hz] at c4
    clear h hB ht f0 f1 f2 f3 R hz
    go_enter Tryz.func89, Tryz.ntmps89
    go_wp2_with fail
    go_ret
    exact ⟨rfl, HR.out⟩
  · rw [if_neg hz, decide_eq_true (by simpa using hz)]
    have hz' : (S.fuse == 0) = false := by simpa using hz
    by_cases hp : 0 < S.fuse
    · rw [if_pos hp]
      have R := ht (w.setCell ⟨d, 4, none⟩ (.int .i64 (S.fuse - 1))) S.room (S.fuse - 1) S.off (Chg.set _ _ _ (by simp)) (by simpa using hB.set 4 (.int .i64 (S.fuse - 1))) (by omega) (by omega) f0 f1
      have HR := Lib.hid R
      clear h hB ht f0 f1 f2 R hz
      go_enter Tryz.func89, Tryz.ntmps89
      go_wp2_with fail
      go_ret
      exact ⟨rfl, HR.out⟩
    · rw [if_neg hp]
      have hp' : S.fuse ≤ 0 := by omega
      have HR := Lib.hid (And.intro h (DkTo.refl (w := w) h.low))
      clear h hB ht f0 f1 f2 f3 hz hp
      go_enter Tryz.func89, Tryz.ntmps89
      go_wp2_with fail
      go_ret
      exact ⟨rfl, HR.out⟩
end Go.Proofs.YtafjjladnghjbaaGreatDoor
