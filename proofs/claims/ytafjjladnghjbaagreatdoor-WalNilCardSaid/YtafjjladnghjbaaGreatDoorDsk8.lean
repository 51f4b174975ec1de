/- disk: Cut, Remove, Rename, Read. -/
import Derived.Test.YtafjjladnghjbaaGreatDoorDsk7
namespace Go.Proofs.YtafjjladnghjbaaGreatDoor
open Go Go.RowKit Go.Maps

def cutS (S : Dk) (name : ByteArray) (k : Int) : Int × Dk :=
  if S.off then (6, S) else match getG (nmOf name) S.now with
    | none => (8, S)
    | some x => if k < 0 ∨ (x.length : Int) < k then (9, S) else waitS S ⟨99, name, ⟨#[]⟩, k, []⟩
def removeS (S : Dk) (name : ByteArray) : Int × Dk :=
  if S.off then (6, S) else match getG (nmOf name) S.now with
    | none => (8, S)
    | some _ => waitS S ⟨114, name, ⟨#[]⟩, 0, []⟩
def renameS (S : Dk) (name nto : ByteArray) : Int × Dk :=
  if S.off then (6, S) else match getG (nmOf name) S.now with
    | none => (8, S)
    | some _ => if !namedB nto then (1, S) else waitS S ⟨110, name, nto, 0, []⟩
def readS (S : Dk) (name : ByteArray) : List Int × Int :=
  if S.off then ([], 6) else match getG (nmOf name) S.now with
    | none => ([], 8)
    | some x => (x, 0)

theorem DkS.look {w : World} {d n M : Nat} {O F : List Nat} {S : Dk} (h : DkS w d n M O F S) {name : ByteArray} (hs : name.size ≤ maxLen) : ∃ bn a l c, w.cell? ⟨d, 0, none⟩ = some (.map (some bn)) ∧
    (Instr.lookup 72 (.map (some bn)) (.string name) true).run Tryz.prog w = .ok (.tuple #[.slice a l c, .bool (getG (nmOf name) S.now).isSome]) w ∧ l = ((getG (nmOf name) S.now).getD []).length ∧
    Rd w (.slice a l c) (u8s ((getG (nmOf name) S.now).getD [])) ∧ l ≤ M := by
  obtain ⟨bn, bs, wv, hBd, hF, _⟩ := h.openNow
  obtain ⟨v, h1, _, hv, _⟩ := hF.look Tryz.underlying72 hs
  obtain ⟨a, c, rfl, _⟩ := hv.open
  exact ⟨bn, a, _, c, hBd.cell 0 rfl, h1, rfl, hv, h.now.get _⟩

theorem cut_nil (name : ByteArray) (k : Int) (w : World) : Calls Tryz.prog 51 #[.pointer none, .string name, .int .i64 k] w fun e w' => e = .returned (.int .i64 6) ∧ w' = w := by
  go_enter Tryz.func51, Tryz.ntmps51
  go_wp2_with fail
  refine (lost_nil w).mono ?_
  rintro e w1 ⟨rfl, rfl⟩
  go_wp2_with fail
  go_ret
  exact ⟨rfl, rfl⟩
theorem remove_nil (name : ByteArray) (w : World) : Calls Tryz.prog 50 #[.pointer none, .string name] w fun e w' => e = .returned (.int .i64 6) ∧ w' = w := by
  go_enter Tryz.func50, Tryz.ntmps50
  go_wp2_with fail
  refine (lost_nil w).mono ?_
  rintro e w1 ⟨rfl, rfl⟩
  go_wp2_with fail
  go_ret
  exact ⟨rfl, rfl⟩
theorem rename_nil (name nto : ByteArray) (w : World) : Calls Tryz.prog 54 #[.pointer none, .string name, .string nto] w fun e w' => e = .returned (.int .i64 6) ∧ w' = w := by
  go_enter Tryz.func54, Tryz.ntmps54
  go_wp2_with fail
  refine (lost_nil w).mono ?_
  rintro e w1 ⟨rfl, rfl⟩
  go_wp2_with fail
  go_ret
  exact ⟨rfl, rfl⟩
theorem read_nil (name : ByteArray) (w : World) : Calls Tryz.prog 34 #[.pointer none, .string name] w fun e w' => e = .returned (.tuple #[.slice none 0 0, .int .i64 6]) ∧ w' = w := by
  go_enter Tryz.func34, Tryz.ntmps34
  go_wp2_with fail
  refine (lost_nil w).mono ?_
  rintro e w1 ⟨rfl, rfl⟩
  go_wp2_with fail
  refine bodyPost_ret (results_tmp2 Tryz.results34 _ _ _) rfl ?_
  exact ⟨rfl, rfl⟩

set_option maxRecDepth 100000 in
set_option maxHeartbeats 1000000 in
theorem read_c (d n M : Nat) (O F : List Nat) (S : Dk) (name : ByteArray) (w : World) (h : DkS w d n M O F S) (hM : M ≤ 70368744177664) (hname : name.size ≤ maxLen) :
    Calls Tryz.prog 34 #[dptr d, .string name] w fun e w' => ∃ v, e = .returned (.tuple #[v, .int .i64 (readS S name).2]) ∧ Rd w' v (u8s (readS S name).1) ∧ w'.ownsRow w.heap.size 5 1 v (readS S name).1.length (u8s (readS S name).1) ∧ Ext w w' := by
  obtain ⟨X, hX⟩ : ∃ X, X = readS S name := ⟨_, rfl⟩
  rw [← hX]
  obtain ⟨bn, a, l, c, c0, hlk, hl, hrd, hlM⟩ := h.look hname
  have HX := Lib.hid hX; have HD := Lib.hid h; have HRD := Lib.hid hrd; have HL := Lib.hid hl
  clear hX h hrd hl
  go_enter Tryz.func34, Tryz.ntmps34
  go_wp2_with fail
  refine (lost_c d n M O F S w HD.out).mono ?_
  rintro e w0 ⟨rfl, rfl⟩
  cases hoff : S.off with
  | true =>
    have HX2 : Hid (X = ([], 6)) := Lib.hid (by rw [HX.out]; simp only [readS, hoff, if_true])
    clear HX hoff
    go_wp2_with fail
    refine bodyPost_ret (results_tmp2 Tryz.results34 _ _ _) rfl ?_
    rw [HX2.out]
    exact ⟨_, rfl, Rd.nil _, World.ownsRow_nil _ _ _ _, Ext.refl _⟩
  | false =>
    cases hG : getG (nmOf name) S.now with
    | none =>
      have HX2 : Hid (X = ([], 8)) := Lib.hid (by rw [HX.out]; simp only [readS, hoff, Bool.false_eq_true, if_false, hG])
      rw [hG] at hlk
      simp only [Option.isSome_none] at hlk
      clear HX hoff hG HRD HL
      go_wp2_with fail
      refine bodyPost_ret (results_tmp2 Tryz.results34 _ _ _) rfl ?_
      rw [HX2.out]
      exact ⟨_, rfl, Rd.nil _, World.ownsRow_nil _ _ _ _, Ext.refl _⟩
    | some x =>
      have HX2 : Hid (X = (x, 0)) := Lib.hid (by rw [HX.out]; simp only [readS, hoff, Bool.false_eq_true, if_false, hG])
      rw [hG] at hlk
      have hrx : Rd w0 (.slice a l c) (u8s x) := by have := HRD.out; rw [hG] at this; exact this
      have hxl : x.length ≤ M := by have := HL.out; rw [hG] at this; simp at this; omega
      simp only [Option.isSome_some] at hlk
      have HRX := Lib.hid hrx; have HXL := Lib.hid hxl
      clear HX hoff hG HRD HL hrx hxl
      go_wp2_with fail
      refine (clone8 _ x w0 HRX.out (by have := HXL.out; omega)).mono ?_
      rintro e w3 ⟨cv, rfl, hcv, hE3⟩
      obtain ⟨x1, x3, rfl⟩ := own_shapeL hcv
      have HCV := Lib.hid hcv; have HE3 := Lib.hid hE3
      clear hcv hE3
      go_wp2_with fail
      refine bodyPost_ret (results_tmp2 Tryz.results34 _ _ _) rfl ?_
      rw [HX2.out]
      exact ⟨_, rfl, Rd.of_own HCV.out, by have := HCV.out; simpa [u8s_len] using this, HE3.out⟩
set_option maxRecDepth 100000 in
set_option maxHeartbeats 1000000 in
theorem cut_c (d n M : Nat) (O F : List Nat) (S : Dk) (name : ByteArray) (k : Int) (w : World) (h : DkS w d n M O F S) (hn : n < 1000000000) (hwl : S.waits.length < 1000000000) (hM : M ≤ 70368744177664) (hname : name.size ≤ maxLen) :
    Calls Tryz.prog 51 #[dptr d, .string name, .int .i64 k] w fun e w' => e = .returned (.int .i64 (cutS S name k).1) ∧ ∃ O', DkS w' d (n + 1) M O' F (cutS S name k).2 ∧ DkTo O w w' O' := by
  obtain ⟨X, hX⟩ : ∃ X, X = cutS S name k := ⟨_, rfl⟩
  rw [← hX]
  obtain ⟨bn, a, l, c, c0, hlk, hl, hrd, hlM⟩ := h.look hname
  have HX := Lib.hid hX; have HD := Lib.hid h; have HL := Lib.hid hl
  clear hX h hrd hl
  go_enter Tryz.func51, Tryz.ntmps51
  go_wp2_with fail
  refine (lost_c d n M O F S w HD.out).mono ?_
  rintro e w0 ⟨rfl, rfl⟩
  cases hoff : S.off with
  | true =>
    have HX2 : Hid (X = (6, S)) := Lib.hid (by rw [HX.out]; simp only [cutS, hoff, if_true])
    clear HX hoff
    go_wp2_with fail
    go_ret
    rw [HX2.out]
    exact ⟨rfl, O, HD.out.more (Nat.le_succ n), DkTo.refl HD.out.low⟩
  | false =>
    cases hG : getG (nmOf name) S.now with
    | none =>
      have HX2 : Hid (X = (8, S)) := Lib.hid (by rw [HX.out]; simp only [cutS, hoff, Bool.false_eq_true, if_false, hG])
      rw [hG] at hlk
      simp only [Option.isSome_none] at hlk
      clear HX hoff hG HL
      go_wp2_with fail
      go_ret
      rw [HX2.out]
      exact ⟨rfl, O, HD.out.more (Nat.le_succ n), DkTo.refl HD.out.low⟩
    | some x =>
      have HX2 : Hid (X = if k < 0 ∨ (x.length : Int) < k then (9, S) else waitS S ⟨99, name, ⟨#[]⟩, k, []⟩) := Lib.hid (by rw [HX.out]; simp only [cutS, hoff, Bool.false_eq_true, if_false, hG])
      rw [hG] at hlk
      have hxl : l = x.length := by have := HL.out; rw [hG] at this; exact this
      simp only [Option.isSome_some] at hlk
      clear HX hoff hG HL
      by_cases hneg : k < 0
      · have HX3 : Hid (X = (9, S)) := Lib.hid (by rw [HX2.out, if_pos (.inl hneg)])
        clear HX2
        go_wp2_with fail
        go_ret
        rw [HX3.out]
        exact ⟨rfl, O, HD.out.more (Nat.le_succ n), DkTo.refl HD.out.low⟩
      · have hnn : 0 ≤ k := by omega
        by_cases hbig : (l : Int) < k
        · have HX3 : Hid (X = (9, S)) := Lib.hid (by rw [HX2.out, if_pos (.inr (by omega))])
          clear HX2 hneg hxl
          go_wp2_with fail
          go_ret
          rw [HX3.out]
          exact ⟨rfl, O, HD.out.more (Nat.le_succ n), DkTo.refl HD.out.low⟩
        · have hle : k ≤ (l : Int) := by omega
          have HX3 : Hid (X = waitS S ⟨99, name, ⟨#[]⟩, k, []⟩) := Lib.hid (by rw [HX2.out, if_neg (by omega)])
          have HOK : Hid (DdOk M ⟨99, name, ⟨#[]⟩, k, []⟩) := Lib.hid ⟨hname, Nat.zero_le _, hnn, (fun h => by cases h), (show k ≤ 9223372036854775807 by omega), by intro z hz; cases hz⟩
          clear HX2 hneg hbig hxl
          go_wp2_with fail
          refine (wait_c d n M O F S ⟨99, name, ⟨#[]⟩, k, []⟩ (.slice none 0 0) w0 HD.out hn hwl HOK.out (Rd.nil _) (fun a n c hv => by cases hv) hM).mono ?_
          rintro e w4 ⟨rfl, O', hd4, ht4⟩
          rw [← HX3.out] at hd4 ⊢
          have HD4 := Lib.hid hd4; have HT4 := Lib.hid ht4
          clear hd4 ht4
          go_wp2_with fail
          go_ret
          exact ⟨rfl, O', HD4.out, HT4.out⟩
set_option maxRecDepth 100000 in
set_option maxHeartbeats 1000000 in
theorem remove_c (d n M : Nat) (O F : List Nat) (S : Dk) (name : ByteArray) (w : World) (h : DkS w d n M O F S) (hn : n < 1000000000) (hwl : S.waits.length < 1000000000) (hM : M ≤ 70368744177664) (hname : name.size ≤ maxLen) :
    Calls Tryz.prog 50 #[dptr d, .string name] w fun e w' => e = .returned (.int .i64 (removeS S name).1) ∧ ∃ O', DkS w' d (n + 1) M O' F (removeS S name).2 ∧ DkTo O w w' O' := by
  obtain ⟨X, hX⟩ : ∃ X, X = removeS S name := ⟨_, rfl⟩
  rw [← hX]
  obtain ⟨bn, a, l, c, c0, hlk, hl, hrd, hlM⟩ := h.look hname
  have HX := Lib.hid hX; have HD := Lib.hid h
  clear hX h hrd hl
  go_enter Tryz.func50, Tryz.ntmps50
  go_wp2_with fail
  refine (lost_c d n M O F S w HD.out).mono ?_
  rintro e w0 ⟨rfl, rfl⟩
  cases hoff : S.off with
  | true =>
    have HX2 : Hid (X = (6, S)) := Lib.hid (by rw [HX.out]; simp only [removeS, hoff, if_true])
    clear HX hoff
    go_wp2_with fail
    go_ret
    rw [HX2.out]
    exact ⟨rfl, O, HD.out.more (Nat.le_succ n), DkTo.refl HD.out.low⟩
  | false =>
    cases hG : getG (nmOf name) S.now with
    | none =>
      have HX2 : Hid (X = (8, S)) := Lib.hid (by rw [HX.out]; simp only [removeS, hoff, Bool.false_eq_true, if_false, hG])
      rw [hG] at hlk
      simp only [Option.isSome_none] at hlk
      clear HX hoff hG
      go_wp2_with fail
      go_ret
      rw [HX2.out]
      exact ⟨rfl, O, HD.out.more (Nat.le_succ n), DkTo.refl HD.out.low⟩
    | some x =>
      have HX3 : Hid (X = waitS S ⟨114, name, ⟨#[]⟩, 0, []⟩) := Lib.hid (by rw [HX.out]; simp only [removeS, hoff, Bool.false_eq_true, if_false, hG])
      rw [hG] at hlk
      simp only [Option.isSome_some] at hlk
      clear HX hoff hG
      have HOK : Hid (DdOk M ⟨114, name, ⟨#[]⟩, 0, []⟩) := Lib.hid ⟨hname, Nat.zero_le _, Int.le_refl _, (fun h => by cases h), (show (0 : Int) ≤ 9223372036854775807 by omega), by intro z hz; cases hz⟩
      go_wp2_with fail
      refine (wait_c d n M O F S ⟨114, name, ⟨#[]⟩, 0, []⟩ (.slice none 0 0) w0 HD.out hn hwl HOK.out (Rd.nil _) (fun a n c hv => by cases hv) hM).mono ?_
      rintro e w4 ⟨rfl, O', hd4, ht4⟩
      rw [← HX3.out] at hd4 ⊢
      have HD4 := Lib.hid hd4; have HT4 := Lib.hid ht4
      clear hd4 ht4
      go_wp2_with fail
      go_ret
      exact ⟨rfl, O', HD4.out, HT4.out⟩
set_option maxRecDepth 100000 in
set_option maxHeartbeats 1000000 in
theorem rename_c (d n M : Nat) (O F : List Nat) (S : Dk) (name nto : ByteArray) (w : World) (h : DkS w d n M O F S) (hn : n < 1000000000) (hwl : S.waits.length < 1000000000) (hM : M ≤ 70368744177664) (hname : name.size ≤ maxLen) (hto : nto.size ≤ maxLen) :
    Calls Tryz.prog 54 #[dptr d, .string name, .string nto] w fun e w' => e = .returned (.int .i64 (renameS S name nto).1) ∧ ∃ O', DkS w' d (n + 1) M O' F (renameS S name nto).2 ∧ DkTo O w w' O' := by
  obtain ⟨X, hX⟩ : ∃ X, X = renameS S name nto := ⟨_, rfl⟩
  rw [← hX]
  obtain ⟨bn, a, l, c, c0, hlk, hl, hrd, hlM⟩ := h.look hname
  have HX := Lib.hid hX; have HD := Lib.hid h
  clear hX h hrd hl
  go_enter Tryz.func54, Tryz.ntmps54
  go_wp2_with fail
  refine (lost_c d n M O F S w HD.out).mono ?_
  rintro e w0 ⟨rfl, rfl⟩
  cases hoff : S.off with
  | true =>
    have HX2 : Hid (X = (6, S)) := Lib.hid (by rw [HX.out]; simp only [renameS, hoff, if_true])
    clear HX hoff
    go_wp2_with fail
    go_ret
    rw [HX2.out]
    exact ⟨rfl, O, HD.out.more (Nat.le_succ n), DkTo.refl HD.out.low⟩
  | false =>
    cases hG : getG (nmOf name) S.now with
    | none =>
      have HX2 : Hid (X = (8, S)) := Lib.hid (by rw [HX.out]; simp only [renameS, hoff, Bool.false_eq_true, if_false, hG])
      rw [hG] at hlk
      simp only [Option.isSome_none] at hlk
      clear HX hoff hG
      go_wp2_with fail
      go_ret
      rw [HX2.out]
      exact ⟨rfl, O, HD.out.more (Nat.le_succ n), DkTo.refl HD.out.low⟩
    | some x =>
      have HX2 : Hid (X = if !namedB nto then (1, S) else waitS S ⟨110, name, nto, 0, []⟩) := Lib.hid (by rw [HX.out]; simp only [renameS, hoff, Bool.false_eq_true, if_false, hG])
      rw [hG] at hlk
      simp only [Option.isSome_some] at hlk
      clear HX hoff hG
      go_wp2_with fail
      refine (named_c nto w0).mono ?_
      rintro e w1 ⟨rfl, hE1⟩
      have HE1 := Lib.hid hE1
      clear hE1
      cases hnm : namedB nto with
      | false =>
        have HX3 : Hid (X = (1, S)) := Lib.hid (by rw [HX2.out, hnm]; rfl)
        clear HX2 hnm
        go_wp2_with fail
        go_ret
        rw [HX3.out]
        exact ⟨rfl, O, (HD.out.ext HE1.out).more (Nat.le_succ n), DkTo.ext HE1.out HD.out.low⟩
      | true =>
        have HX3 : Hid (X = waitS S ⟨110, name, nto, 0, []⟩) := Lib.hid (by rw [HX2.out, hnm]; rfl)
        clear HX2 hnm
        have HOK : Hid (DdOk M ⟨110, name, nto, 0, []⟩) := Lib.hid ⟨hname, hto, Int.le_refl _, (fun h => by cases h), (show (0 : Int) ≤ 9223372036854775807 by omega), by intro z hz; cases hz⟩
        go_wp2_with fail
        refine (wait_c d n M O F S ⟨110, name, nto, 0, []⟩ (.slice none 0 0) w1 (HD.out.ext HE1.out) hn hwl HOK.out (Rd.nil _) (fun a n c hv => by cases hv) hM).mono ?_
        rintro e w4 ⟨rfl, O', hd4, ht4⟩
        rw [← HX3.out] at hd4 ⊢
        have HD4 := Lib.hid hd4; have HT4 := Lib.hid ((DkTo.ext HE1.out HD.out.low).trans ht4)
        clear hd4 ht4
        go_wp2_with fail
        go_ret
        exact ⟨rfl, O', HD4.out, HT4.out⟩
end Go.Proofs.YtafjjladnghjbaaGreatDoor
