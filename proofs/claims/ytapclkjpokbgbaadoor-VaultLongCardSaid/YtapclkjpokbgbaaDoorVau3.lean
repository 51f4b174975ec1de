/- vault: Put's closures. -/
import Derived.Test.YtapclkjpokbgbaaDoorVau2
set_option linter.unusedSimpArgs false
set_option linter.unusedVariables false
namespace Go.Proofs.YtapclkjpokbgbaaDoor
open Go Go.RowKit Go.Maps

abbrev errv (e : Int) : Value := .iface 27 (.int .i64 e)
abbrev thrown (e : Int) : Ending := .panicked [{ v := errv e, recovered := false }]
abbrev ptr (b : Nat) : Value := .pointer (some ⟨b, 0, none⟩)
theorem isErr_nil (w : World) : (Instr.typeAssert .nilIface 20 27 true).run Tryd.prog w = .ok (.tuple #[.int .i64 0, .bool false]) w := by
  obtain ⟨i, hi, hz⟩ := Option.map_eq_some_iff.1 (show (Tryd.prog.info? 27).map (·.zero) = some (some (.int .i64 0)) by kernel_rfl)
  simp [Instr.typeAssert, run_underlying Tryd.underlying27, zeroValue, typeInfo, hi, hz]
theorem isErr_some (v : Value) (w : World) : (Instr.typeAssert (.iface 27 v) 20 27 true).run Tryd.prog w = .ok (.tuple #[v, .bool true]) w := by
  simp [Instr.typeAssert, run_underlying Tryd.underlying27, go_sem, Result.andThen]
set_option maxHeartbeats 400000 in
theorem vmust_c (e : Int) (w : World) : Calls Tryd.prog 45 #[.int .i64 e] w fun en w' => w' = w ∧ en = if e = 0 then .returned (.tuple #[]) else thrown e := by
  by_cases he : e = 0
  · subst he
    go_enter Tryd.func45, Tryd.ntmps45
    go_wp2
    go_end0
    exact ⟨rfl, rfl⟩
  · have hb : (e != 0) = true := by simpa using he
    simp only [if_neg he]
    go_enter Tryd.func45, Tryd.ntmps45
    go_wp2
    exact ⟨rfl, rfl, rfl⟩
set_option maxHeartbeats 400000 in
theorem vput_idle (p q : Nat) (w : World) : CallsD Tryd.prog 44 #[ptr p, ptr q] .returning w fun en u w' => en = .returned (.tuple #[]) ∧ u = .returning ∧ w' = w := by
  refine callsD_of_wpS Tryd.func44 rfl fun c₀ cs hu => ?_
  have ha := isErr_nil
  apply wpS_seq
  apply wpS_region
  simp [wpOpsS, go_sem, recoverD, hu, ha, Tryd.ntmps44, Exit.thenS]
  refine wpS_of_wp ?_
  simp [Array.replicate]
  go_wp2
  exact ⟨rfl, .returning, by cases c₀; simp_all, _, results_none rfl _ _ _, rfl, rfl, rfl⟩
set_option maxHeartbeats 1000000 in
theorem vput_catch (p q v d : Nat) (name : ByteArray) (bv : Value) (has ov : Bool) (e0 : Value) (no : Int) (older : List PanicEntry) (w : World) (hq : Blk w q #[dptr v] 37) (he : Blk w p #[e0] 27) (hv : VauB w v d name bv has ov) (hpv : p ≠ v) (hqv : q ≠ v) (hpq : p ≠ q) :
    CallsD Tryd.prog 44 #[ptr p, ptr q] (.panicking ({ v := errv no, recovered := false } :: older)) w fun en u w' => en = .returned (.tuple #[]) ∧ u = .panicking ({ v := errv no, recovered := true } :: older) ∧ Chg [p, v] w w' ∧ Blk w' p #[.int .i64 no] 27 ∧ VauB w' v d name bv has (no == 6) := by
  refine callsD_of_wpS Tryd.func44 rfl fun c₀ cs hu => ?_
  have ha := isErr_some
  have x0 := hq.cell 0 rfl
  have y0 := he.cell 0 rfl
  have g0 := he.free 0
  obtain ⟨c0, c1, c2, c3, c4⟩ := Blk.five hv
  have f4 := Blk.free hv 4
  simp only [List.getElem_toArray, List.getElem_cons_zero] at x0 y0
  apply wpS_seq
  apply wpS_region
  simp [wpOpsS, go_sem, recoverD, hu, ha, Tryd.ntmps44, Exit.thenS]
  refine wpS_of_wp ?_
  simp [Array.replicate]
  go_wp2
  have hC : Chg [p, v] w ((w.setCell ⟨p, 0, none⟩ (.int .i64 no)).setCell ⟨v, 4, none⟩ (.bool (no == 6))) := (Chg.set _ 0 _ (by simp)).setNew _ 4 _ (.inl (by simp))
  have hp' : Blk ((w.setCell ⟨p, 0, none⟩ (.int .i64 no)).setCell ⟨v, 4, none⟩ (.bool (no == 6))) p #[.int .i64 no] 27 := by simpa using (he.set 0 (.int .i64 no)).other ⟨v, 4, none⟩ (.bool (no == 6)) (Ne.symm hpv)
  have hv' : VauB ((w.setCell ⟨p, 0, none⟩ (.int .i64 no)).setCell ⟨v, 4, none⟩ (.bool (no == 6))) v d name bv has (no == 6) := by unfold VauB; simpa using (Blk.other hv ⟨p, 0, none⟩ (.int .i64 no) hpv).set 4 (.bool (no == 6))
  exact ⟨rfl, _, rfl, _, results_none rfl _ _ _, rfl, rfl, hC, hp', hv'⟩
set_option maxHeartbeats 1000000 in
theorem vput_door (a b v d : Nat) (name : ByteArray) (bv : Value) (has ov : Bool) (e0 : Value) (no : Int) (W : World) (tmps : Array Value) (R : Ending → World → Prop) (ha : Blk W a #[dptr v] 37) (hb : Blk W b #[e0] 27) (hv : VauB W v d name bv has ov) (hbv : b ≠ v) (hav : a ≠ v) (hba : b ≠ a)
    (ht : tmps[4]? = some (ptr b)) (hR : ∀ w2, Chg [b, v] W w2 → VauB w2 v d name bv has (no == 6) → R (.returned (.int .i64 no)) w2) :
    bodyPostD Tryd.prog Tryd.f17 R (.panic [{ v := errv no, recovered := false }]) { tmps := tmps, defers := [{ target := .fn (.func 44) #[ptr b, ptr a], args := #[] }] } W := by
  refine leaves_cons (f := 44) (args := #[ptr b, ptr a]) (by simp) (by simp [go_sem]) ?_
  refine (vput_catch b a v d name bv has ov e0 no [] W ha hb hv hbv hav hba).mono ?_
  rintro en u w2 ⟨rfl, rfl, hC, h1, h2⟩
  have y0 := h1.cell 0 rfl
  simp only [List.getElem_toArray, List.getElem_cons_zero] at y0
  simp [Leaves, settle, results, Tryd.results17, go_sem, ht, y0]
  exact hR w2 hC h2
set_option maxHeartbeats 1000000 in
theorem vput_fin (a b : Nat) (e : Int) (F : World) (tmps : Array Value) (R : Ending → World → Prop) (hb : Blk F b #[.int .i64 e] 27) (ht : tmps[4]? = some (ptr b)) (hR : R (.returned (.int .i64 e)) F) :
    bodyPostD Tryd.prog Tryd.f17 R .ret { tmps := tmps, defers := [{ target := .fn (.func 44) #[ptr b, ptr a], args := #[] }] } F := by
  refine leaves_cons (f := 44) (args := #[ptr b, ptr a]) (by simp) (by simp [go_sem]) ?_
  refine (vput_idle b a F).mono ?_
  rintro en u w2 ⟨rfl, rfl, rfl⟩
  have y0 := hb.cell 0 rfl
  simp only [List.getElem_toArray, List.getElem_cons_zero] at y0
  simp [Leaves, settle, results, Tryd.results17, go_sem, ht, y0]
  exact hR
/-- A put: its answer, and the disk behind it. -/
def putV (S : Dk) (name : ByteArray) (b : List Int) : Int × Dk :=
  if (writeS S (vfresh name) 0 b).1 ≠ 0 then writeS S (vfresh name) 0 b
  else if (syncS (writeS S (vfresh name) 0 b).2).1 ≠ 0 then syncS (writeS S (vfresh name) 0 b).2
  else if (renameS (syncS (writeS S (vfresh name) 0 b).2).2 (vfresh name) (vnow name)).1 ≠ 0 then renameS (syncS (writeS S (vfresh name) 0 b).2).2 (vfresh name) (vnow name)
  else syncS (renameS (syncS (writeS S (vfresh name) 0 b).2).2 (vfresh name) (vnow name)).2
end Go.Proofs.YtapclkjpokbgbaaDoor
