/- tabellionref01.Reader: fail, Byte. -/
import Derived.Test.YtgefphfnicjbiaaBun2
import Derived.Test.YtgefphfnicjbiaaBun1
import Derived.Deep.QuietTactic
import Derived.BigQuiet
set_option linter.unusedSimpArgs false
set_option linter.unusedVariables false
namespace Go.Proofs.Ytgefphfnicjbiaa
open Go Go.RowKit

/-- The reference's reader at block b: it reads v, which holds full, from at on; its error is e. -/
structure RR (w : World) (b : Nat) (v : Value) (full : List Int) (at' : Nat) (e : Int) : Prop where
  blk : Blk w b #[v, .int .i64 (at' : Int), .int .i64 e] 82
  rd : Rd w v (u8s full)
  le : at' ≤ full.length
  off : Off v (u8s full) (some b)
def ROut {α : Type} (b : Nat) (v : Value) (full : List Int) (at' : Nat) (V : α → Value → World → Prop) (z : Value) (X : Except Int (α × List Int)) (w : World) (en : Ending) (w' : World) : Prop :=
  w.grownBy w' (some b) ∧ match X with
  | .error no => en = .returned (.tuple #[z, .int .i64 no]) ∧ RR w' b v full at' no
  | .ok (x, r) => ∃ y a2, en = .returned (.tuple #[y, .int .i64 0]) ∧ V x y w' ∧ RR w' b v full a2 0 ∧ r = full.drop a2
/-- What a reading call brings: X, or the reader's error if it is stuck. -/
def stuckR {α : Type} (e : Int) (X : Except Int α) : Except Int α := if e = 0 then X else .error e

theorem RR.set {w : World} {b : Nat} {v : Value} {full : List Int} {a1 a2 : Nat} {e1 e2 : Int} (h : RR w b v full a1 e1) (hl : a2 ≤ full.length) : RR ((w.setCell ⟨b, 2, none⟩ (.int .i64 e2)).setCell ⟨b, 1, none⟩ (.int .i64 (a2 : Int))) b v full a2 e2 where
  blk := by simpa using (h.blk.set 2 (.int .i64 e2)).set 1 (.int .i64 (a2 : Int))
  rd := (h.rd.grown (grown_set w b 2 _) h.off).grown (grown_set _ b 1 _) h.off
  le := hl
  off := h.off
theorem RR.setAt {w : World} {b : Nat} {v : Value} {full : List Int} {a1 a2 : Nat} {e : Int} (h : RR w b v full a1 e) (hl : a2 ≤ full.length) : RR (w.setCell ⟨b, 1, none⟩ (.int .i64 (a2 : Int))) b v full a2 e where
  blk := by simpa using h.blk.set 1 (.int .i64 (a2 : Int))
  rd := h.rd.grown (grown_set _ b 1 _) h.off
  le := hl
  off := h.off
theorem RR.drew {w : World} {b : Nat} {v : Value} {full : List Int} {a : Nat} {e : Int} (h : RR w b v full a e) : RR w.drew b v full a e := ⟨h.blk.drew, h.rd, h.le, h.off⟩

set_option maxHeartbeats 400000 in
theorem fail_c (b : Nat) (v : Value) (full : List Int) (a1 a2 : Nat) (e1 e2 : Int) (w : World) (h : RR w b v full a1 e1) (hl : a2 ≤ full.length) :
    Calls Try.prog 67 #[.pointer (some ⟨b, 0, none⟩), .int .i64 e2, .int .i64 (a2 : Int)] w fun en w' => en = .returned (.int .i64 e2) ∧ w.grownBy w' (some b) ∧ RR w' b v full a2 e2 := by
  have c1 := h.blk.cell 1 rfl
  have c2 := h.blk.cell 2 rfl
  have f1 := h.blk.free 1
  have f2 := h.blk.free 2
  have H := Lib.hid (h.set (a2 := a2) (e2 := e2) hl)
  clear h
  go_enter Try.func67, Try.ntmps67
  go_wp2
  go_ret
  exact ⟨rfl, grown_trans1 (grown_set _ _ _ _) (grown_set _ _ _ _), H.out⟩

set_option maxHeartbeats 1000000 in
theorem rbyte_c (b : Nat) (v : Value) (full : List Int) (a : Nat) (e : Int) (w : World) (hl : full.length ≤ 140737488355328) (h : RR w b v full a e) :
    Calls Try.prog 68 #[.pointer (some ⟨b, 0, none⟩)] w (ROut b v full a (fun x y _ => y = .int .u8 x) (.int .u8 0) (stuckR e (rdByte (full.drop a))) w) := by
  obtain ⟨X, hX⟩ : ∃ X, X = stuckR e (rdByte (full.drop a)) := ⟨_, rfl⟩
  rw [← hX]
  obtain ⟨ad, c, rfl, hc1, hc2, hc3⟩ := Rd.open h.rd
  have c0 := h.blk.cell 0 rfl
  have c1 := h.blk.cell 1 rfl
  have c2 := h.blk.cell 2 rfl
  have f1 := h.blk.free 1
  have f2 := h.blk.free 2
  have H := Lib.hid h
  have hle := h.le
  clear h
  by_cases he : e = 0
  · subst he
    simp only [stuckR, if_true] at hX
    by_cases hlt : a < full.length
    · rcases hc3 with hc3 | ⟨b', o, rfl, hc⟩
      · rw [hc3] at hlt; simp at hlt
      obtain ⟨x, hx⟩ : ∃ x, x = full.getD a 0 := ⟨_, rfl⟩
      have x0 := hc a hlt
      rw [← hx] at x0
      have hd : full.drop a = x :: full.drop (a + 1) := by rw [hx]; simp [List.getD, List.getElem?_eq_getElem hlt]
      rw [hd] at hX
      simp only [rdByte] at hX
      have HX := Lib.hid hX
      have H2 := Lib.hid (H.out.setAt (a2 := a + 1) (by omega))
      have x1 := cell_grown (grown_set w b 1 (.int .i64 ((a : Int) + 1))) x0 (H.out.off ⟨b', o, none⟩ _ _ rfl (by intro h; simp [u8s] at h; rw [h] at hlt; simp at hlt))
      clear hX hx hc hd
      go_enter Try.func68, Try.ntmps68
      go_wp2
      go_region
      have hge : ¬ (full.length : Int) ≤ (a : Int) := by omega
      go_wp2
      go_region
      go_wp2
      go_ret2
      rw [HX.out]
      exact ⟨grown_drew (grown_drew (grown_set _ _ _ _)), _, a + 1, rfl, rfl, H2.out.drew.drew, rfl⟩
    · have hd : full.drop a = [] := List.drop_eq_nil_of_le (by omega)
      rw [hd] at hX
      simp only [rdByte] at hX
      have HX := Lib.hid hX; clear hX hd hc3
      go_enter Try.func68, Try.ntmps68
      go_wp2
      go_region
      go_wp2_with fail
      refine (fail_c b _ full a a 0 2 _ H.out.drew hle).mono ?_
      rintro en w2 ⟨rfl, hg, h2⟩
      go_wp2
      go_ret2
      rw [HX.out]
      exact ⟨grown_trans1 (grown_drew (grown_refl _ _)) hg, rfl, h2⟩
  · simp only [stuckR, if_neg he] at hX
    have HX := Lib.hid hX; clear hX hc3
    have hne : (e != 0) = true := by simpa using he
    go_enter Try.func68, Try.ntmps68
    go_wp2
    go_region
    go_wp2
    go_ret2
    rw [HX.out]
    exact ⟨grown_drew (grown_refl _ _), rfl, H.out.drew⟩
end Go.Proofs.Ytgefphfnicjbiaa
