/- bin.Reader: what its block holds; one; start; caught. -/
import Derived.Test.YtafjjladnghjbaaGreatDoorDraw
import Derived.Test.YtafjjladnghjbaaGreatDoorRdL
import Derived.Test.YtafjjladnghjbaaGreatDoorBin
namespace Go.Proofs.YtafjjladnghjbaaGreatDoor
open Go Go.RowKit

/-- v lies ahead of block b. -/
def Bef (v : Value) (b : Nat) : Prop := ∀ a n c, v = .slice (some a) n c → a.block < b
/-- The reader at block b has bs left, and its error is e. -/
def Rdr (w : World) (b : Nat) (bs : List Int) (e : Int) : Prop := ∃ v, Blk w b #[v, .int .i64 e] 139 ∧ Rd w v (u8s bs) ∧ Bef v b
theorem rdr_off {w : World} {b : Nat} {v : Value} {bs : List Int} {e : Int} {v' : Value} {T : TypeId} (h : Rd w v (u8s bs)) (hb : Blk w b #[v', .int .i64 e] T) (hv : ∃ a n c, v' = .slice a n c) : Off v (u8s bs) (some b) := by
  refine Rd.off h hb fun u hu hm => ?_
  obtain ⟨x, _, rfl⟩ := List.mem_map.1 hm
  obtain ⟨a, n, c, rfl⟩ := hv
  simp at hu
abbrev errv (e : Int) : Value := .iface 26 (.int .i64 e)
abbrev thrown (e : Int) : Ending := .panicked [{ v := errv e, recovered := false }]
abbrev ptr (b : Nat) : Value := .pointer (some ⟨b, 0, none⟩)
/-- How an inner reading call ends. -/
def Inner {α : Type} (b : Nat) (e : Int) (val : α → Value) (X : Except Int (α × List Int)) (w : World) (en : Ending) (w' : World) : Prop :=
  w.grownBy w' (some b) ∧ match X with
  | .error no => en = thrown no ∧ ∃ r, Rdr w' b r e
  | .ok (x, r) => en = .returned (val x) ∧ Rdr w' b r e

theorem rdr_put {w : World} {b : Nat} {old v : Value} {r : List Int} {e : Int} (hB : Blk w b #[old, .int .i64 e] 139) (hR : Rd w v (u8s r)) (ho : Off v (u8s r) (some b)) (hF : Bef v b) : Rdr (w.setCell ⟨b, 0, none⟩ v) b r e :=
  ⟨v, by simpa using hB.set 0 v, hR.grown (grown_set w b 0 v) ho, hF⟩
theorem rdr_err {w : World} {b : Nat} {r : List Int} {e : Int} (h : Rdr w b r e) (e' : Int) : Rdr (w.setCell ⟨b, 1, none⟩ (.int .i64 e')) b r e' := by
  obtain ⟨v, hB, hR, hF⟩ := h
  obtain ⟨a, n, c, rfl⟩ := (show ∃ a n c, v = .slice a n c by obtain ⟨a, c, hv, _⟩ := hR; exact ⟨a, _, c, hv⟩)
  exact ⟨_, by simpa using hB.set 1 (.int .i64 e'), hR.grown (grown_set w b 1 _) (rdr_off hR hB ⟨_, _, _, rfl⟩), hF⟩

set_option maxHeartbeats 400000 in
theorem one_c (b : Nat) (bs : List Int) (e : Int) (w : World) (h : Rdr w b bs e) : Calls Tryz.prog 118 #[ptr b] w (Inner b e (Value.int .u8) (rdByte bs) w) := by
  obtain ⟨v, hB, hR, hF⟩ := h
  obtain ⟨a, c, rfl, hc1, hc2, hc3⟩ := Rd.open hR
  have c0 := hB.cell 0 rfl
  have f0 := hB.free 0
  cases bs with
  | nil =>
    have H := Lib.hid (show Rdr w b [] e from ⟨_, hB, hR, hF⟩)
    simp only [List.length_nil] at c0
    clear hB hR hc3 hF
    go_enter Tryz.func118, Tryz.ntmps118
    go_wp2
    exact ⟨rfl, grown_refl _ _, rfl, [], H.out⟩
  | cons x r =>
    rcases hc3 with hc3 | ⟨b', o, rfl, hc⟩
    · cases hc3
    have x0 := hc 0 (by simp)
    simp only [List.getD_cons_zero, Nat.add_zero] at x0
    have hoff := rdr_off hR hB ⟨_, _, _, rfl⟩
    have hR' : Rd w (.slice (some ⟨b', o + 1, none⟩) r.length (c - 1)) (u8s r) := by
      refine ⟨_, _, by rw [u8s_len], by rw [u8s_len]; simp at hc1; omega, by omega, .inr ⟨b', o + 1, rfl, fun j u hj => ?_⟩⟩
      have hj' : j < r.length := by have := (List.getElem?_eq_some_iff.1 hj).1; simpa [u8s_len] using this
      have := hc (j + 1) (by simp; omega)
      rw [Nat.add_assoc, Nat.add_comm 1 j, this]
      simp [u8s, List.getD, List.getElem?_eq_getElem hj'] at hj ⊢
      exact hj
    have hne : some b' ≠ some b := hoff _ _ _ rfl (by simp [u8s])
    have H1 := Lib.hid (rdr_put hB hR' (fun a n c' h1 _ => by cases h1; exact hne) (fun a n c' h1 => by cases h1; exact hF ⟨b', o, none⟩ _ _ rfl))
    have H2 : Hid (c = 1 → Rdr (w.setCell ⟨b, 0, none⟩ (.slice (some ⟨b', o, none⟩) r.length 0)) b r e) := by
      refine Lib.hid fun h1 => ?_
      have hr : r = [] := List.eq_nil_of_length_eq_zero (by simp at hc1; omega)
      subst hr
      exact rdr_put hB ⟨_, 0, rfl, Nat.le_refl _, Nat.zero_le _, .inl rfl⟩ (fun _ _ _ _ h => absurd rfl h) (fun a n c' h1 => by cases h1; exact hF ⟨b', o, none⟩ _ _ rfl)
    simp only [List.length_cons] at c0 hc1
    clear hB hR hR' hc hoff hne hF
    go_enter Tryz.func118, Tryz.ntmps118
    go_wp2
    all_goals go_ret
    · exact ⟨grown_set w b 0 _, rfl, H2.out (by assumption)⟩
    · exact ⟨grown_set w b 0 _, rfl, H1.out⟩

set_option maxHeartbeats 400000 in
theorem start_c (b : Nat) (bs : List Int) (e : Int) (w : World) (h : Rdr w b bs e) : Calls Tryz.prog 99 #[ptr b] w fun en w' => w' = w ∧ if e = 0 then en = .returned (.tuple #[]) else en = thrown e := by
  obtain ⟨v, hB, hR, hF⟩ := h
  have c1 := hB.cell 1 rfl
  clear hB hR hF
  by_cases he : e = 0
  · subst he
    go_enter Tryz.func99, Tryz.ntmps99
    go_wp2
    exact ⟨rfl, _, results_none rfl _ _ _, rfl, rfl⟩
  · have hb : (e != 0) = true := by simpa using he
    simp only [if_neg he]
    go_enter Tryz.func99, Tryz.ntmps99
    go_wp2
    exact ⟨rfl, rfl, rfl⟩

theorem isErr_nil (w : World) : (Instr.typeAssert .nilIface 20 26 true).run Tryz.prog w = .ok (.tuple #[.int .i64 0, .bool false]) w := by
  obtain ⟨i, hi, hz⟩ := Option.map_eq_some_iff.1 (show (Tryz.prog.info? 26).map (·.zero) = some (some (.int .i64 0)) by kernel_rfl)
  simp [Instr.typeAssert, run_underlying Tryz.underlying26, zeroValue, typeInfo, hi, hz]
theorem isErr_some (v : Value) (w : World) : (Instr.typeAssert (.iface 26 v) 20 26 true).run Tryz.prog w = .ok (.tuple #[v, .bool true]) w := by
  simp [Instr.typeAssert, run_underlying Tryz.underlying26, go_sem, Result.andThen]

set_option maxHeartbeats 400000 in
theorem caught_none (b : Nat) (was ep : Value) (w : World) : Calls Tryz.prog 98 #[ptr b, .nilIface, was, ep] w fun en w' => en = .returned (.tuple #[]) ∧ w' = w := by
  have ha := isErr_nil
  go_enter Tryz.func98, Tryz.ntmps98
  go_wp2
  exact ⟨rfl, _, results_none rfl _ _ _, rfl, rfl⟩

set_option maxHeartbeats 400000 in
theorem caught_some (b p : Nat) (a : Option Addr) (n c : Nat) (no : Int) (w : World) (hp : p ≠ b) (f0 : w.frozen? ⟨b, 0, none⟩ = false) (f1 : w.frozen? ⟨b, 1, none⟩ = false) (f2 : w.frozen? ⟨p, 0, none⟩ = false) (hc0 : ∃ v, w.cell? ⟨b, 0, none⟩ = some v) (hc1 : ∃ v, w.cell? ⟨b, 1, none⟩ = some v) (hc2 : ∃ v, w.cell? ⟨p, 0, none⟩ = some v) :
    Calls Tryz.prog 98 #[ptr b, errv no, .slice a n c, ptr p] w fun en w' => en = .returned (.tuple #[]) ∧ w' = (((w.setCell ⟨b, 0, none⟩ (.slice a n c)).setCell ⟨b, 1, none⟩ (.int .i64 no)).setCell ⟨p, 0, none⟩ (.int .i64 no)) := by
  obtain ⟨v0, hc0⟩ := hc0
  obtain ⟨v1, hc1⟩ := hc1
  obtain ⟨v2, hc2⟩ := hc2
  have ha := isErr_some
  go_enter Tryz.func98, Tryz.ntmps98
  go_wp2
  exact ⟨rfl, _, results_none rfl _ _ _, rfl, rfl⟩


set_option maxHeartbeats 400000 in
theorem idle_Num (b pr pw p : Nat) (a : Option Addr) (n c : Nat) (w : World) (hr : w.cell? ⟨pr, 0, none⟩ = some (ptr b)) (hw : w.cell? ⟨pw, 0, none⟩ = some (.slice a n c)) :
    CallsD Tryz.prog 97 #[ptr pr, ptr pw, ptr p] .returning w fun en u w' => en = .returned (.tuple #[]) ∧ u = .returning ∧ w' = w.drew := by
  refine callsD_of_wpS Tryz.func97 rfl fun c₀ cs hu => ?_
  refine wpS_region_draw [[0, 1, 2, 3], [0, 2, 1, 3], [1, 0, 2, 3], [1, 2, 0, 3], [2, 0, 1, 3], [2, 1, 0, 3]] (by kernel_rfl) (by kernel_rfl) ?_
  intro l hl
  simp only [List.mem_cons, List.not_mem_nil, or_false] at hl
  rcases hl with rfl | rfl | rfl | rfl | rfl | rfl
  all_goals
    simp [wpOpsS, go_sem, recoverD, hu, hr, hw, Tryz.ntmps97]
    refine (caught_none b _ _ _).mono ?_
    rintro en w2 ⟨rfl, rfl⟩
    exact ⟨rfl, .returning, by cases c₀; simp_all, _, results_none rfl _ _ _, rfl, rfl, rfl⟩

set_option maxHeartbeats 400000 in
theorem catch_Num (b pr pw p : Nat) (a : Option Addr) (n c : Nat) (no : Int) (older : List PanicEntry) (w : World) (hr : w.cell? ⟨pr, 0, none⟩ = some (ptr b)) (hw : w.cell? ⟨pw, 0, none⟩ = some (.slice a n c))
    (hp : p ≠ b) (f0 : w.frozen? ⟨b, 0, none⟩ = false) (f1 : w.frozen? ⟨b, 1, none⟩ = false) (f2 : w.frozen? ⟨p, 0, none⟩ = false) (hc0 : ∃ v, w.cell? ⟨b, 0, none⟩ = some v) (hc1 : ∃ v, w.cell? ⟨b, 1, none⟩ = some v) (hc2 : ∃ v, w.cell? ⟨p, 0, none⟩ = some v) :
    CallsD Tryz.prog 97 #[ptr pr, ptr pw, ptr p] (.panicking ({ v := errv no, recovered := false } :: older)) w fun en u w' => en = .returned (.tuple #[]) ∧ u = .panicking ({ v := errv no, recovered := true } :: older) ∧ w' = (((w.drew.setCell ⟨b, 0, none⟩ (.slice a n c)).setCell ⟨b, 1, none⟩ (.int .i64 no)).setCell ⟨p, 0, none⟩ (.int .i64 no)) := by
  refine callsD_of_wpS Tryz.func97 rfl fun c₀ cs hu => ?_
  refine wpS_region_draw [[0, 1, 2, 3], [0, 2, 1, 3], [1, 0, 2, 3], [1, 2, 0, 3], [2, 0, 1, 3], [2, 1, 0, 3]] (by kernel_rfl) (by kernel_rfl) ?_
  intro l hl
  simp only [List.mem_cons, List.not_mem_nil, or_false] at hl
  rcases hl with rfl | rfl | rfl | rfl | rfl | rfl
  all_goals
    simp [wpOpsS, go_sem, recoverD, hu, hr, hw, Tryz.ntmps97]
    refine (caught_some b p a n c no w.drew hp f0 f1 f2 hc0 hc1 hc2).mono ?_
    rintro en w2 ⟨rfl, rfl⟩
    exact ⟨rfl, _, rfl, _, results_none rfl _ _ _, rfl, rfl, rfl⟩

end Go.Proofs.YtafjjladnghjbaaGreatDoor
