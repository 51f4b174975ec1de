/- Layer 9 (wal): no log; names. -/
import Derived.Test.YtafjjladnghjbaaGreatDoorDsk4
namespace Go.Proofs.YtafjjladnghjbaaGreatDoor
open Go Go.RowKit Go.Maps

set_option maxHeartbeats 400000 in
theorem wfirst_nil (w : World) : Calls Tryz.prog 12 #[.pointer none] w fun e w' => e = .returned (.int .u64 0) ∧ w' = w := by
  go_enter Tryz.func12, Tryz.ntmps12
  go_wp2_with fail
  go_ret
  exact ⟨rfl, rfl⟩
set_option maxHeartbeats 400000 in
theorem wnext_nil (w : World) : Calls Tryz.prog 13 #[.pointer none] w fun e w' => e = .returned (.int .u64 0) ∧ w' = w := by
  go_enter Tryz.func13, Tryz.ntmps13
  go_wp2_with fail
  go_ret
  exact ⟨rfl, rfl⟩
set_option maxHeartbeats 400000 in
theorem wdead_nil (w : World) : Calls Tryz.prog 38 #[.pointer none] w fun e w' => e = .returned (.bool true) ∧ w' = w := by
  go_enter Tryz.func38, Tryz.ntmps38
  go_wp2_with fail
  go_ret
  exact ⟨rfl, rfl⟩
set_option maxHeartbeats 800000 in
theorem wget_nil (n : Int) (w : World) (hn : 0 ≤ n) : Calls Tryz.prog 8 #[.pointer none, .int .u64 n] w fun e w' => e = .returned (.tuple #[.slice none 0 0, .int .i64 9]) ∧ Ext w w' := by
  have hn' : ¬ n < 0 := by omega
  go_enter Tryz.func8, Tryz.ntmps8
  go_wp2_with fail
  refine (wfirst_nil w).mono ?_
  rintro e w1 ⟨rfl, rfl⟩
  go_wp2_with fail
  refine (wnext_nil _).mono ?_
  rintro e w1 ⟨rfl, rfl⟩
  go_wp2_with fail
  exact bodyPost_ret (v := .tuple #[.slice none 0 0, .int .i64 9]) (by simp [results, Tryz.results8, go_sem]) rfl ⟨rfl, Ext.refl _⟩
set_option maxHeartbeats 800000 in
theorem wsync_nil (w : World) : Calls Tryz.prog 15 #[.pointer none] w fun e w' => e = .returned (.int .i64 6) ∧ Ext w w' := by
  go_enter Tryz.func15, Tryz.ntmps15
  go_wp2_with fail
  refine (wdead_nil _).mono ?_
  rintro e w1 ⟨rfl, rfl⟩
  go_wp2_with fail
  have k := (Blk.new (w.alloc (.cells #[.pointer none] 25)) #[.int .i64 6] 26).cell 0 rfl
  simp only [World.size_alloc, List.getElem_toArray, List.getElem_cons_zero] at k
  exact bodyPost_ret (v := .int .i64 6) (by simp [results, Tryz.results15, go_sem, k]) rfl ⟨rfl, (Ext.alloc _ _).trans (Ext.alloc _ _)⟩
set_option maxHeartbeats 800000 in
theorem wcut_nil (n : Int) (w : World) : Calls Tryz.prog 16 #[.pointer none, .int .u64 n] w fun e w' => e = .returned (.int .i64 6) ∧ Ext w w' := by
  go_enter Tryz.func16, Tryz.ntmps16
  go_wp2_with fail
  refine (wdead_nil _).mono ?_
  rintro e w1 ⟨rfl, rfl⟩
  go_wp2_with fail
  have k := (Blk.new (w.alloc (.cells #[.pointer none] 25)) #[.int .i64 6] 26).cell 0 rfl
  simp only [World.size_alloc, List.getElem_toArray, List.getElem_cons_zero] at k
  exact bodyPost_ret (v := .int .i64 6) (by simp [results, Tryz.results16, go_sem, k]) rfl ⟨rfl, (Ext.alloc _ _).trans (Ext.alloc _ _)⟩
set_option maxHeartbeats 800000 in
theorem wtrim_nil (n : Int) (w : World) : Calls Tryz.prog 17 #[.pointer none, .int .u64 n] w fun e w' => e = .returned (.int .i64 6) ∧ Ext w w' := by
  go_enter Tryz.func17, Tryz.ntmps17
  go_wp2_with fail
  refine (wdead_nil _).mono ?_
  rintro e w1 ⟨rfl, rfl⟩
  go_wp2_with fail
  have k := (Blk.new (w.alloc (.cells #[.pointer none] 25)) #[.int .i64 6] 26).cell 0 rfl
  simp only [World.size_alloc, List.getElem_toArray, List.getElem_cons_zero] at k
  exact bodyPost_ret (v := .int .i64 6) (by simp [results, Tryz.results17, go_sem, k]) rfl ⟨rfl, (Ext.alloc _ _).trans (Ext.alloc _ _)⟩
set_option maxHeartbeats 800000 in
theorem wappend_nil (v : Value) (w : World) : Calls Tryz.prog 14 #[.pointer none, v] w fun e w' => e = .returned (.int .i64 6) ∧ Ext w w' := by
  go_enter Tryz.func14, Tryz.ntmps14
  go_wp2_with fail
  refine (wdead_nil _).mono ?_
  rintro e w1 ⟨rfl, rfl⟩
  go_wp2_with fail
  have k := (Blk.new (w.alloc (.cells #[.pointer none] 25)) #[.int .i64 6] 26).cell 0 rfl
  simp only [World.size_alloc, List.getElem_toArray, List.getElem_cons_zero] at k
  exact bodyPost_ret (v := .int .i64 6) (by simp [results, Tryz.results14, go_sem, k]) rfl ⟨rfl, (Ext.alloc _ _).trans (Ext.alloc _ _)⟩
end Go.Proofs.YtafjjladnghjbaaGreatDoor
