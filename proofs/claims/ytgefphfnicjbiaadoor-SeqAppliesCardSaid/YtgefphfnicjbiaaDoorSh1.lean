/- Layer 3 (sha): rotations of words; a word of four bytes. PRINTED BY gen/sh1.py -/
import Derived.Test.YtgefphfnicjbiaaDoorShelf
import Derived.Test.YtgefphfnicjbiaaDoorBun3
import Derived.Test.YtgefphfnicjbiaaDoorBun1
import Derived.BigQuiet
set_option linter.unusedSimpArgs false
set_option linter.unusedVariables false
namespace Go.Proofs.YtgefphfnicjbiaaDoor
open Go Go.RowKit

set_option maxHeartbeats 1000000 in
theorem rotl6_c (x : Wd) (w : World) : Calls Tryd.prog 64 #[.int .u32 (iw x), .int .i64 (-6)] w fun e w' => e = .returned (.int .u32 (iw (rr x 6))) ∧ w' = w := by
  have h1 := iw_lo x; have h2 := iw_hi x
  have hk : bits .and .u64 (IntKind.u64.wrap (-6)) 31 = 26 := by decide
  go_enter Tryd.func64, Tryd.ntmps64
  go_wp2_with fail
  go_ret
  refine ⟨?_, rfl⟩
  have e1 := iw_shl x 26; have e2 := iw_shr x 6
  have e3 := iw_or (x <<< 26) (x >>> 6)
  rw [← e1, ← e2] at e3
  have e4 : rr x 6 = (x <<< 26) ||| (x >>> 6) := by unfold rr; exact BitVec.or_comm _ _
  rw [e4]
  simpa using e3
set_option maxHeartbeats 1000000 in
theorem rot6_c (x : Wd) (w : World) : Calls Tryd.prog 69 #[.int .u32 (iw x), .int .u64 6] w fun e w' => e = .returned (.int .u32 (iw (rr x 6))) ∧ w' = w := by
  have h1 := iw_lo x; have h2 := iw_hi x
  go_enter Tryd.func69, Tryd.ntmps69
  go_wp2_with fail
  go_ret
  refine ⟨?_, rfl⟩
  have e1 := iw_shl x 26; have e2 := iw_shr x 6
  have e3 := iw_or (x >>> 6) (x <<< 26)
  rw [← e1, ← e2] at e3
  unfold rr
  simpa using e3
set_option maxHeartbeats 1000000 in
theorem rotl11_c (x : Wd) (w : World) : Calls Tryd.prog 64 #[.int .u32 (iw x), .int .i64 (-11)] w fun e w' => e = .returned (.int .u32 (iw (rr x 11))) ∧ w' = w := by
  have h1 := iw_lo x; have h2 := iw_hi x
  have hk : bits .and .u64 (IntKind.u64.wrap (-11)) 31 = 21 := by decide
  go_enter Tryd.func64, Tryd.ntmps64
  go_wp2_with fail
  go_ret
  refine ⟨?_, rfl⟩
  have e1 := iw_shl x 21; have e2 := iw_shr x 11
  have e3 := iw_or (x <<< 21) (x >>> 11)
  rw [← e1, ← e2] at e3
  have e4 : rr x 11 = (x <<< 21) ||| (x >>> 11) := by unfold rr; exact BitVec.or_comm _ _
  rw [e4]
  simpa using e3
set_option maxHeartbeats 1000000 in
theorem rot11_c (x : Wd) (w : World) : Calls Tryd.prog 69 #[.int .u32 (iw x), .int .u64 11] w fun e w' => e = .returned (.int .u32 (iw (rr x 11))) ∧ w' = w := by
  have h1 := iw_lo x; have h2 := iw_hi x
  go_enter Tryd.func69, Tryd.ntmps69
  go_wp2_with fail
  go_ret
  refine ⟨?_, rfl⟩
  have e1 := iw_shl x 21; have e2 := iw_shr x 11
  have e3 := iw_or (x >>> 11) (x <<< 21)
  rw [← e1, ← e2] at e3
  unfold rr
  simpa using e3
set_option maxHeartbeats 1000000 in
theorem rotl25_c (x : Wd) (w : World) : Calls Tryd.prog 64 #[.int .u32 (iw x), .int .i64 (-25)] w fun e w' => e = .returned (.int .u32 (iw (rr x 25))) ∧ w' = w := by
  have h1 := iw_lo x; have h2 := iw_hi x
  have hk : bits .and .u64 (IntKind.u64.wrap (-25)) 31 = 7 := by decide
  go_enter Tryd.func64, Tryd.ntmps64
  go_wp2_with fail
  go_ret
  refine ⟨?_, rfl⟩
  have e1 := iw_shl x 7; have e2 := iw_shr x 25
  have e3 := iw_or (x <<< 7) (x >>> 25)
  rw [← e1, ← e2] at e3
  have e4 : rr x 25 = (x <<< 7) ||| (x >>> 25) := by unfold rr; exact BitVec.or_comm _ _
  rw [e4]
  simpa using e3
set_option maxHeartbeats 1000000 in
theorem rot25_c (x : Wd) (w : World) : Calls Tryd.prog 69 #[.int .u32 (iw x), .int .u64 25] w fun e w' => e = .returned (.int .u32 (iw (rr x 25))) ∧ w' = w := by
  have h1 := iw_lo x; have h2 := iw_hi x
  go_enter Tryd.func69, Tryd.ntmps69
  go_wp2_with fail
  go_ret
  refine ⟨?_, rfl⟩
  have e1 := iw_shl x 7; have e2 := iw_shr x 25
  have e3 := iw_or (x >>> 25) (x <<< 7)
  rw [← e1, ← e2] at e3
  unfold rr
  simpa using e3
set_option maxHeartbeats 1000000 in
theorem rotl2_c (x : Wd) (w : World) : Calls Tryd.prog 64 #[.int .u32 (iw x), .int .i64 (-2)] w fun e w' => e = .returned (.int .u32 (iw (rr x 2))) ∧ w' = w := by
  have h1 := iw_lo x; have h2 := iw_hi x
  have hk : bits .and .u64 (IntKind.u64.wrap (-2)) 31 = 30 := by decide
  go_enter Tryd.func64, Tryd.ntmps64
  go_wp2_with fail
  go_ret
  refine ⟨?_, rfl⟩
  have e1 := iw_shl x 30; have e2 := iw_shr x 2
  have e3 := iw_or (x <<< 30) (x >>> 2)
  rw [← e1, ← e2] at e3
  have e4 : rr x 2 = (x <<< 30) ||| (x >>> 2) := by unfold rr; exact BitVec.or_comm _ _
  rw [e4]
  simpa using e3
set_option maxHeartbeats 1000000 in
theorem rot2_c (x : Wd) (w : World) : Calls Tryd.prog 69 #[.int .u32 (iw x), .int .u64 2] w fun e w' => e = .returned (.int .u32 (iw (rr x 2))) ∧ w' = w := by
  have h1 := iw_lo x; have h2 := iw_hi x
  go_enter Tryd.func69, Tryd.ntmps69
  go_wp2_with fail
  go_ret
  refine ⟨?_, rfl⟩
  have e1 := iw_shl x 30; have e2 := iw_shr x 2
  have e3 := iw_or (x >>> 2) (x <<< 30)
  rw [← e1, ← e2] at e3
  unfold rr
  simpa using e3
set_option maxHeartbeats 1000000 in
theorem rotl13_c (x : Wd) (w : World) : Calls Tryd.prog 64 #[.int .u32 (iw x), .int .i64 (-13)] w fun e w' => e = .returned (.int .u32 (iw (rr x 13))) ∧ w' = w := by
  have h1 := iw_lo x; have h2 := iw_hi x
  have hk : bits .and .u64 (IntKind.u64.wrap (-13)) 31 = 19 := by decide
  go_enter Tryd.func64, Tryd.ntmps64
  go_wp2_with fail
  go_ret
  refine ⟨?_, rfl⟩
  have e1 := iw_shl x 19; have e2 := iw_shr x 13
  have e3 := iw_or (x <<< 19) (x >>> 13)
  rw [← e1, ← e2] at e3
  have e4 : rr x 13 = (x <<< 19) ||| (x >>> 13) := by unfold rr; exact BitVec.or_comm _ _
  rw [e4]
  simpa using e3
set_option maxHeartbeats 1000000 in
theorem rot13_c (x : Wd) (w : World) : Calls Tryd.prog 69 #[.int .u32 (iw x), .int .u64 13] w fun e w' => e = .returned (.int .u32 (iw (rr x 13))) ∧ w' = w := by
  have h1 := iw_lo x; have h2 := iw_hi x
  go_enter Tryd.func69, Tryd.ntmps69
  go_wp2_with fail
  go_ret
  refine ⟨?_, rfl⟩
  have e1 := iw_shl x 19; have e2 := iw_shr x 13
  have e3 := iw_or (x >>> 13) (x <<< 19)
  rw [← e1, ← e2] at e3
  unfold rr
  simpa using e3
set_option maxHeartbeats 1000000 in
theorem rotl22_c (x : Wd) (w : World) : Calls Tryd.prog 64 #[.int .u32 (iw x), .int .i64 (-22)] w fun e w' => e = .returned (.int .u32 (iw (rr x 22))) ∧ w' = w := by
  have h1 := iw_lo x; have h2 := iw_hi x
  have hk : bits .and .u64 (IntKind.u64.wrap (-22)) 31 = 10 := by decide
  go_enter Tryd.func64, Tryd.ntmps64
  go_wp2_with fail
  go_ret
  refine ⟨?_, rfl⟩
  have e1 := iw_shl x 10; have e2 := iw_shr x 22
  have e3 := iw_or (x <<< 10) (x >>> 22)
  rw [← e1, ← e2] at e3
  have e4 : rr x 22 = (x <<< 10) ||| (x >>> 22) := by unfold rr; exact BitVec.or_comm _ _
  rw [e4]
  simpa using e3
set_option maxHeartbeats 1000000 in
theorem rot22_c (x : Wd) (w : World) : Calls Tryd.prog 69 #[.int .u32 (iw x), .int .u64 22] w fun e w' => e = .returned (.int .u32 (iw (rr x 22))) ∧ w' = w := by
  have h1 := iw_lo x; have h2 := iw_hi x
  go_enter Tryd.func69, Tryd.ntmps69
  go_wp2_with fail
  go_ret
  refine ⟨?_, rfl⟩
  have e1 := iw_shl x 10; have e2 := iw_shr x 22
  have e3 := iw_or (x >>> 22) (x <<< 10)
  rw [← e1, ← e2] at e3
  unfold rr
  simpa using e3
set_option maxHeartbeats 1000000 in
theorem rotl7_c (x : Wd) (w : World) : Calls Tryd.prog 64 #[.int .u32 (iw x), .int .i64 (-7)] w fun e w' => e = .returned (.int .u32 (iw (rr x 7))) ∧ w' = w := by
  have h1 := iw_lo x; have h2 := iw_hi x
  have hk : bits .and .u64 (IntKind.u64.wrap (-7)) 31 = 25 := by decide
  go_enter Tryd.func64, Tryd.ntmps64
  go_wp2_with fail
  go_ret
  refine ⟨?_, rfl⟩
  have e1 := iw_shl x 25; have e2 := iw_shr x 7
  have e3 := iw_or (x <<< 25) (x >>> 7)
  rw [← e1, ← e2] at e3
  have e4 : rr x 7 = (x <<< 25) ||| (x >>> 7) := by unfold rr; exact BitVec.or_comm _ _
  rw [e4]
  simpa using e3
set_option maxHeartbeats 1000000 in
theorem rot7_c (x : Wd) (w : World) : Calls Tryd.prog 69 #[.int .u32 (iw x), .int .u64 7] w fun e w' => e = .returned (.int .u32 (iw (rr x 7))) ∧ w' = w := by
  have h1 := iw_lo x; have h2 := iw_hi x
  go_enter Tryd.func69, Tryd.ntmps69
  go_wp2_with fail
  go_ret
  refine ⟨?_, rfl⟩
  have e1 := iw_shl x 25; have e2 := iw_shr x 7
  have e3 := iw_or (x >>> 7) (x <<< 25)
  rw [← e1, ← e2] at e3
  unfold rr
  simpa using e3
set_option maxHeartbeats 1000000 in
theorem rotl18_c (x : Wd) (w : World) : Calls Tryd.prog 64 #[.int .u32 (iw x), .int .i64 (-18)] w fun e w' => e = .returned (.int .u32 (iw (rr x 18))) ∧ w' = w := by
  have h1 := iw_lo x; have h2 := iw_hi x
  have hk : bits .and .u64 (IntKind.u64.wrap (-18)) 31 = 14 := by decide
  go_enter Tryd.func64, Tryd.ntmps64
  go_wp2_with fail
  go_ret
  refine ⟨?_, rfl⟩
  have e1 := iw_shl x 14; have e2 := iw_shr x 18
  have e3 := iw_or (x <<< 14) (x >>> 18)
  rw [← e1, ← e2] at e3
  have e4 : rr x 18 = (x <<< 14) ||| (x >>> 18) := by unfold rr; exact BitVec.or_comm _ _
  rw [e4]
  simpa using e3
set_option maxHeartbeats 1000000 in
theorem rot18_c (x : Wd) (w : World) : Calls Tryd.prog 69 #[.int .u32 (iw x), .int .u64 18] w fun e w' => e = .returned (.int .u32 (iw (rr x 18))) ∧ w' = w := by
  have h1 := iw_lo x; have h2 := iw_hi x
  go_enter Tryd.func69, Tryd.ntmps69
  go_wp2_with fail
  go_ret
  refine ⟨?_, rfl⟩
  have e1 := iw_shl x 14; have e2 := iw_shr x 18
  have e3 := iw_or (x >>> 18) (x <<< 14)
  rw [← e1, ← e2] at e3
  unfold rr
  simpa using e3
set_option maxHeartbeats 1000000 in
theorem rotl17_c (x : Wd) (w : World) : Calls Tryd.prog 64 #[.int .u32 (iw x), .int .i64 (-17)] w fun e w' => e = .returned (.int .u32 (iw (rr x 17))) ∧ w' = w := by
  have h1 := iw_lo x; have h2 := iw_hi x
  have hk : bits .and .u64 (IntKind.u64.wrap (-17)) 31 = 15 := by decide
  go_enter Tryd.func64, Tryd.ntmps64
  go_wp2_with fail
  go_ret
  refine ⟨?_, rfl⟩
  have e1 := iw_shl x 15; have e2 := iw_shr x 17
  have e3 := iw_or (x <<< 15) (x >>> 17)
  rw [← e1, ← e2] at e3
  have e4 : rr x 17 = (x <<< 15) ||| (x >>> 17) := by unfold rr; exact BitVec.or_comm _ _
  rw [e4]
  simpa using e3
set_option maxHeartbeats 1000000 in
theorem rot17_c (x : Wd) (w : World) : Calls Tryd.prog 69 #[.int .u32 (iw x), .int .u64 17] w fun e w' => e = .returned (.int .u32 (iw (rr x 17))) ∧ w' = w := by
  have h1 := iw_lo x; have h2 := iw_hi x
  go_enter Tryd.func69, Tryd.ntmps69
  go_wp2_with fail
  go_ret
  refine ⟨?_, rfl⟩
  have e1 := iw_shl x 15; have e2 := iw_shr x 17
  have e3 := iw_or (x >>> 17) (x <<< 15)
  rw [← e1, ← e2] at e3
  unfold rr
  simpa using e3
set_option maxHeartbeats 1000000 in
theorem rotl19_c (x : Wd) (w : World) : Calls Tryd.prog 64 #[.int .u32 (iw x), .int .i64 (-19)] w fun e w' => e = .returned (.int .u32 (iw (rr x 19))) ∧ w' = w := by
  have h1 := iw_lo x; have h2 := iw_hi x
  have hk : bits .and .u64 (IntKind.u64.wrap (-19)) 31 = 13 := by decide
  go_enter Tryd.func64, Tryd.ntmps64
  go_wp2_with fail
  go_ret
  refine ⟨?_, rfl⟩
  have e1 := iw_shl x 13; have e2 := iw_shr x 19
  have e3 := iw_or (x <<< 13) (x >>> 19)
  rw [← e1, ← e2] at e3
  have e4 : rr x 19 = (x <<< 13) ||| (x >>> 19) := by unfold rr; exact BitVec.or_comm _ _
  rw [e4]
  simpa using e3
set_option maxHeartbeats 1000000 in
theorem rot19_c (x : Wd) (w : World) : Calls Tryd.prog 69 #[.int .u32 (iw x), .int .u64 19] w fun e w' => e = .returned (.int .u32 (iw (rr x 19))) ∧ w' = w := by
  have h1 := iw_lo x; have h2 := iw_hi x
  go_enter Tryd.func69, Tryd.ntmps69
  go_wp2_with fail
  go_ret
  refine ⟨?_, rfl⟩
  have e1 := iw_shl x 13; have e2 := iw_shr x 19
  have e3 := iw_or (x >>> 19) (x <<< 13)
  rw [← e1, ← e2] at e3
  unfold rr
  simpa using e3
/-- The turns that are used. -/
def turns : List Nat := [6, 11, 25, 2, 13, 22, 7, 18, 17, 19]
theorem rotl_any (x : Wd) (k : Int) (w : World) (hk : turns.any (fun n => decide (k = -(n : Int))) = true) : Calls Tryd.prog 64 #[.int .u32 (iw x), .int .i64 k] w fun e w' => e = .returned (.int .u32 (iw (rr x k.natAbs))) ∧ w' = w := by
  simp only [turns, List.any_cons, List.any_nil, Bool.or_false, Bool.or_eq_true, decide_eq_true_eq] at hk
  rcases hk with h | h | h | h | h | h | h | h | h | h
  · subst h; exact rotl6_c x w
  · subst h; exact rotl11_c x w
  · subst h; exact rotl25_c x w
  · subst h; exact rotl2_c x w
  · subst h; exact rotl13_c x w
  · subst h; exact rotl22_c x w
  · subst h; exact rotl7_c x w
  · subst h; exact rotl18_c x w
  · subst h; exact rotl17_c x w
  · subst h; exact rotl19_c x w
theorem rot_any (x : Wd) (k : Int) (w : World) (hk : turns.any (fun n => decide (k = (n : Int))) = true) : Calls Tryd.prog 69 #[.int .u32 (iw x), .int .u64 k] w fun e w' => e = .returned (.int .u32 (iw (rr x k.natAbs))) ∧ w' = w := by
  simp only [turns, List.any_cons, List.any_nil, Bool.or_false, Bool.or_eq_true, decide_eq_true_eq] at hk
  rcases hk with h | h | h | h | h | h | h | h | h | h
  · subst h; exact rot6_c x w
  · subst h; exact rot11_c x w
  · subst h; exact rot25_c x w
  · subst h; exact rot2_c x w
  · subst h; exact rot13_c x w
  · subst h; exact rot22_c x w
  · subst h; exact rot7_c x w
  · subst h; exact rot18_c x w
  · subst h; exact rot17_c x w
  · subst h; exact rot19_c x w
end Go.Proofs.YtgefphfnicjbiaaDoor
