/- Layer 9 (wal): must, caught, the deferred closures. -/
import Derived.Test.YtafjjladnghjbaaGreatDoorFrm
import Derived.Test.YtafjjladnghjbaaGreatDoorWal0
import Derived.Test.YtafjjladnghjbaaGreatDoorCel6
namespace Go.Proofs.YtafjjladnghjbaaGreatDoor
open Go Go.RowKit Go.Maps

abbrev lptr (l : Nat) : Value := .pointer (some ⟨l, 0, none⟩)
set_option maxHeartbeats 400000 in
theorem wmust_c (no : Int) (w : World) : Calls Tryz.prog 42 #[.int .i64 no] w fun e w' => w' = w ∧ if no = 0 then e = .returned (.tuple #[]) else e = thrown no := by
  by_cases h : no = 0
  · subst h
    go_enter Tryz.func42, Tryz.ntmps42
    go_wp2
    exact ⟨rfl, _, results_none rfl _ _ _, rfl, rfl⟩
  · have hb : (no != 0) = true := by simpa using h
    simp only [if_neg h]
    go_enter Tryz.func42, Tryz.ntmps42
    go_wp2
    exact ⟨rfl, rfl, rfl⟩
set_option maxHeartbeats 400000 in
/-- No panic. -/
theorem wcaught_nil (lp ep : Value) (w : World) : Calls Tryz.prog 33 #[lp, .nilIface, ep] w fun e w' => e = .returned (.tuple #[]) ∧ w' = w := by
  have ha := isErr_nil
  go_enter Tryz.func33, Tryz.ntmps33
  go_wp2
  exact ⟨rfl, _, results_none rfl _ _ _, rfl, rfl⟩
set_option maxHeartbeats 400000 in
/-- An error that was thrown. -/
theorem wcaught_err (l p : Nat) (no : Int) (ov : Bool) (w : World) (hp : p ≠ l) (f1 : w.frozen? ⟨l, 6, none⟩ = false) (f2 : w.frozen? ⟨p, 0, none⟩ = false) (hc1 : w.cell? ⟨l, 6, none⟩ = some (.bool ov)) (hc2 : ∃ v, w.cell? ⟨p, 0, none⟩ = some v) :
    Calls Tryz.prog 33 #[lptr l, errv no, ptr p] w fun e w' => e = .returned (.tuple #[]) ∧ w' = (w.setCell ⟨p, 0, none⟩ (.int .i64 no)).setCell ⟨l, 6, none⟩ (.bool (ov || decide (no = 6))) := by
  obtain ⟨v2, hc2⟩ := hc2
  have ha := isErr_some
  cases ov with
  | true =>
    go_enter Tryz.func33, Tryz.ntmps33
    go_wp2
    exact ⟨rfl, _, results_none rfl _ _ _, rfl, rfl⟩
  | false =>
    by_cases h : no = 6
    · subst h
      go_enter Tryz.func33, Tryz.ntmps33
      go_wp2
      exact ⟨rfl, _, results_none rfl _ _ _, rfl, rfl⟩
    · have hb : (no == 6) = false := by simpa using h
      simp only [h, decide_false, Bool.or_false]
      go_enter Tryz.func33, Tryz.ntmps33
      go_wp2
      exact ⟨rfl, _, results_none rfl _ _ _, rfl, rfl⟩
set_option maxHeartbeats 400000 in
theorem widle_Append (lp ep : Value) (l : Nat) (w : World) (hl : lp = ptr l) (v : Value) (hc : w.cell? ⟨l, 0, none⟩ = some v) :
    CallsD Tryz.prog 39 #[lp, ep] .returning w fun en u w' => en = .returned (.tuple #[]) ∧ u = .returning ∧ w' = w.drew := by
  subst hl
  refine callsD_of_wpS Tryz.func39 rfl fun c₀ cs hu => ?_
  refine wpS_region_draw [[0, 1, 2], [1, 0, 2]] (by kernel_rfl) (by kernel_rfl) ?_
  intro o ho
  simp only [List.mem_cons, List.not_mem_nil, or_false] at ho
  rcases ho with rfl | rfl
  all_goals
    simp [wpOpsS, go_sem, recoverD, hu, hc, Tryz.ntmps39]
    refine (wcaught_nil _ _ _).mono ?_
    rintro en w2 ⟨rfl, rfl⟩
    exact ⟨rfl, .returning, by cases c₀; simp_all, _, results_none rfl _ _ _, rfl, rfl, rfl⟩
set_option maxHeartbeats 800000 in
/-- Open's closure where nothing was thrown and the error is OK. -/
theorem widle_Open (lp p : Nat) (w : World) (v : Value) (hc : w.cell? ⟨lp, 0, none⟩ = some v) (he : w.cell? ⟨p, 0, none⟩ = some (.int .i64 0)) :
    CallsD Tryz.prog 32 #[ptr lp, ptr p] .returning w fun en u w' => en = .returned (.tuple #[]) ∧ u = .returning ∧ w' = w.drew := by
  refine callsD_of_wpS Tryz.func32 rfl fun c₀ cs hu => ?_
  apply wpS_seq
  refine wpS_region_draw [[0, 1, 2], [1, 0, 2]] (by kernel_rfl) (by kernel_rfl) ?_
  intro o ho
  simp only [List.mem_cons, List.not_mem_nil, or_false] at ho
  rcases ho with rfl | rfl
  all_goals
    simp [wpOpsS, go_sem, recoverD, hu, hc, Tryz.ntmps32, Exit.thenS]
    refine (wcaught_nil _ _ _).mono ?_
    rintro en w2 ⟨rfl, rfl⟩
    have he' : w.drew.cell? ⟨p, 0, none⟩ = some (.int .i64 0) := he
    dsimp only
    refine wpS_of_wp ?_
    simp [Array.replicate]
    go_wp2
    exact ⟨rfl, .returning, by cases c₀; simp_all, _, results_none rfl _ _ _, rfl, rfl, rfl⟩
set_option maxHeartbeats 800000 in
theorem wcatch_Append (l p q : Nat) (no : Int) (ov : Bool) (older : List PanicEntry) (w : World) (hc : w.cell? ⟨q, 0, none⟩ = some (lptr l)) (hp : p ≠ l) (f1 : w.frozen? ⟨l, 6, none⟩ = false) (f2 : w.frozen? ⟨p, 0, none⟩ = false) (hc1 : w.cell? ⟨l, 6, none⟩ = some (.bool ov)) (hc2 : ∃ v, w.cell? ⟨p, 0, none⟩ = some v) :
    CallsD Tryz.prog 39 #[ptr q, ptr p] (.panicking ({ v := errv no, recovered := false } :: older)) w fun en u w' => en = .returned (.tuple #[]) ∧ u = .panicking ({ v := errv no, recovered := true } :: older) ∧ w' = (w.drew.setCell ⟨p, 0, none⟩ (.int .i64 no)).setCell ⟨l, 6, none⟩ (.bool (ov || decide (no = 6))) := by
  refine callsD_of_wpS Tryz.func39 rfl fun c₀ cs hu => ?_
  refine wpS_region_draw [[0, 1, 2], [1, 0, 2]] (by kernel_rfl) (by kernel_rfl) ?_
  intro o ho
  simp only [List.mem_cons, List.not_mem_nil, or_false] at ho
  rcases ho with rfl | rfl
  all_goals
    simp [wpOpsS, go_sem, recoverD, hu, hc, Tryz.ntmps39]
    refine (wcaught_err l p no ov w.drew hp f1 f2 hc1 hc2).mono ?_
    rintro en w2 ⟨rfl, rfl⟩
    exact ⟨rfl, _, rfl, _, results_none rfl _ _ _, rfl, rfl, rfl⟩
end Go.Proofs.YtafjjladnghjbaaGreatDoor
