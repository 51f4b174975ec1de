/- tabellionref08: Cut, Remove, Rename, Sync, Read. -/
import Derived.Test.YtmffknllnjagoaaDoorRk6
set_option linter.unusedSimpArgs false
set_option linter.unusedVariables false
namespace Go.Proofs.YtmffknllnjagoaaDoor
open Go Go.RowKit Go.Maps
open Go.Proofs (encStr)

theorem rC_1 (name : ByteArray) (k : Int) (b : List Int) (bv : Value) : (rC ⟨119, name, ⟨#[]⟩, k, b⟩ bv).toArray = #[.int .i64 1, .string name, .string ⟨#[]⟩, .int .i64 k, bv] := by simp [rC, kR]
theorem rC_2 (name : ByteArray) (k : Int) (bv : Value) : (rC ⟨99, name, ⟨#[]⟩, k, []⟩ bv).toArray = #[.int .i64 2, .string name, .string ⟨#[]⟩, .int .i64 k, bv] := by simp [rC, kR]
theorem rC_3 (name : ByteArray) (bv : Value) : (rC ⟨114, name, ⟨#[]⟩, 0, []⟩ bv).toArray = #[.int .i64 3, .string name, .string ⟨#[]⟩, .int .i64 0, bv] := by simp [rC, kR]
theorem rC_4 (name nto : ByteArray) (bv : Value) : (rC ⟨110, name, nto, 0, []⟩ bv).toArray = #[.int .i64 4, .string name, .string nto, .int .i64 0, bv] := by simp [rC, kR]
/-- What is found, with its cells. -/
theorem RFv.found {w : World} {A : List Nat} {v : Value} {L : FL} (h : RFv w A v L) (k : Nm) : (posI k L = -1 ∧ getG k L = none) ∨ ∃ (i : Nat) (x : List Int) (b c : Nat) (bv : Value), posI k L = (i : Int) ∧ i < L.length ∧ v = .slice (some ⟨b, 0, none⟩) L.length c ∧ L.length ≤ c ∧ c ≤ maxLen ∧ getG k L = some x ∧ w.cell? ⟨b, i * 2 + 1, none⟩ = some bv ∧ Rd w bv (u8s x) ∧ B8 x ∧ OffL bv (u8s x) A := by
  obtain ⟨E, ⟨a, c, hv, hc1, hc2, hc3⟩, hok, hLE⟩ := h
  have hlen : L.length = E.length := by rw [hLE]; simp [mapG]
  rcases posI_cases k L with ⟨hp, hg⟩ | ⟨i, p0, hp, hi, hpn, hg⟩
  · exact .inl ⟨hp, hg⟩
  · right
    have hi0 := (List.getElem?_eq_some_iff.1 hi).1
    rw [hLE] at hi
    simp only [mapG, List.getElem?_map, Option.map_eq_some_iff] at hi
    obtain ⟨q, h1, h2⟩ := hi
    obtain ⟨hrd, hb8, hoff⟩ := hok q (List.mem_of_getElem? h1)
    have hx : q.2.2 = p0.2 := by rw [← h2]
    rw [hx] at hrd hb8 hoff
    rcases hc3 with h0 | ⟨b, ha, _, hcc⟩
    · rw [h0] at h1; simp at h1
    · exact ⟨i, p0.2, b, c, q.2.1, hp, hi0, by rw [hv, ha, hlen], by omega, hc2, hg, (hcc i q h1).2, hrd, hb8, hoff⟩
set_option maxRecDepth 100000 in
set_option maxHeartbeats 1000000 in
theorem rcut_c (r n M : Nat) (O F : List Nat) (S : Dk) (name : ByteArray) (k : Int) (w : World) (h : RkS w r n M O F S) (hn : n < 800000000) (hwl : S.waits.length < 1000000000) (hM : M ≤ 70368744177664) (hname : name.size ≤ maxLen) :
    Calls Tryd.prog 37 #[dptr r, .string name, .int .i64 k] w fun e w' => e = .returned (.int .i64 (cutS S name k).1) ∧ ∃ O', RkS w' r (n + 1) M O' F (cutS S name k).2 ∧ DkTo O w w' O' := by
  obtain ⟨X, hX⟩ : ∃ X, X = cutS S name k := ⟨_, rfl⟩
  rw [← hX]
  obtain ⟨fv, sv, ov, _, _, hF, hB, _⟩ := h.turn
  obtain ⟨c0, c1, c2, c3, c4, c5⟩ := hB.rsix
  have HX := Lib.hid hX; have HD := Lib.hid h; have HF := Lib.hid hF
  clear hX h hB hF c1 c2 c3 c4
  go_enter Tryd.func37, Tryd.ntmps37
  cases hoff : S.off with
  | true =>
    have HX2 : Hid (X = (6, S)) := Lib.hid (by rw [HX.out]; simp only [cutS, hoff, if_true])
    rw [hoff] at c5
    clear HX hoff
    go_wp2_with fail
    go_ret
    rw [HX2.out]
    exact ⟨rfl, O, HD.out.more (Nat.le_succ n), DkTo.refl HD.out.lowO⟩
  | false =>
    rw [hoff] at c5
    have hfs := HF.out.shape
    obtain ⟨fa, fc, rfl⟩ := hfs
    have HX1 : Hid (X = match getG (nmOf name) S.now with | none => (8, S) | some x => if k < 0 ∨ (x.length : Int) < k then (9, S) else waitS S ⟨99, name, ⟨#[]⟩, k, []⟩) := Lib.hid (by rw [HX.out]; simp only [cutS, hoff, Bool.false_eq_true, if_false]; rfl)
    clear HX hoff
    go_wp2_with fail
    refine (rfind_c (O ++ F) _ S.now name w HF.out (by have := HD.out.lnow; omega)).mono ?_
    rintro e w1 ⟨rfl, rfl⟩
    rcases HF.out.found (nmOf name) with ⟨hp, hg⟩ | ⟨i, x, b, c, bv, hp, hi, hv, hc1, hc2, hg, hcell, hrd, -, -⟩
    · have HX2 : Hid (X = (8, S)) := Lib.hid (by rw [HX1.out, hg])
      rw [hp]
      clear hp hg HX1
      go_wp2_with fail
      go_ret
      rw [HX2.out]
      exact ⟨rfl, O, HD.out.more (Nat.le_succ n), DkTo.refl HD.out.lowO⟩
    · have HX2 : Hid (X = if k < 0 ∨ (x.length : Int) < k then (9, S) else waitS S ⟨99, name, ⟨#[]⟩, k, []⟩) := Lib.hid (by rw [HX1.out, hg])
      rw [hp]
      injection hv with e1 e2 e3
      subst e1 e3
      replace hc2 : fc ≤ 9223372036854775807 := by unfold maxLen at hc2; omega
      obtain ⟨xa, xc, rfl, hx1, hx2, -⟩ := hrd.open
      have hxM : x.length ≤ M := HD.out.now _ (getG_mem hg)
      clear hp hg HX1 hrd e2
      obtain ⟨N, hN⟩ : ∃ N, N = S.now.length := ⟨_, rfl⟩
      rw [← hN] at hi hc1 c0 HF ⊢
      clear hN
      by_cases hneg : k < 0
      · have HX3 : Hid (X = (9, S)) := Lib.hid (by rw [HX2.out, if_pos (.inl hneg)])
        clear HX2
        go_wp2_with fail
        go_ret
        rw [HX3.out]
        exact ⟨rfl, O, HD.out.more (Nat.le_succ n), DkTo.refl HD.out.lowO⟩
      · have hnn : 0 ≤ k := by omega
        by_cases hbig : (x.length : Int) < k
        · have HX3 : Hid (X = (9, S)) := Lib.hid (by rw [HX2.out, if_pos (.inr (by omega))])
          clear HX2 hneg
          go_wp2_with fail
          go_ret
          rw [HX3.out]
          exact ⟨rfl, O, HD.out.more (Nat.le_succ n), DkTo.refl HD.out.lowO⟩
        · have hle : k ≤ (x.length : Int) := by omega
          have HX3 : Hid (X = waitS S ⟨99, name, ⟨#[]⟩, k, []⟩) := Lib.hid (by rw [HX2.out, if_neg (by omega)])
          have HOK : Hid (DdOk M ⟨99, name, ⟨#[]⟩, k, []⟩) := Lib.hid ⟨hname, Nat.zero_le _, hnn, (fun h => by cases h), (show k ≤ 9223372036854775807 by omega), by intro z hz; cases hz⟩
          clear HX2 hneg hbig
          have htry := rtry_c r n M O F S ⟨99, name, ⟨#[]⟩, k, []⟩ (.slice none 0 0) w1 HD.out hn hwl HOK.out (.inr (.inl rfl)) (Rd.nil _) (fun a n c hv => by cases hv) hM
          rw [rC_2] at htry
          have HTRY := Lib.hid htry
          clear htry
          go_wp2_with fail
          refine HTRY.out.mono ?_
          rintro e w4 ⟨rfl, O', hd4, ht4⟩
          rw [← HX3.out] at hd4 ⊢
          have HD4 := Lib.hid hd4; have HT4 := Lib.hid ht4
          clear hd4 ht4
          go_wp2_with fail
          go_ret
          exact ⟨rfl, O', HD4.out, HT4.out⟩
set_option maxRecDepth 100000 in
set_option maxHeartbeats 1000000 in
theorem rremove_c (r n M : Nat) (O F : List Nat) (S : Dk) (name : ByteArray) (w : World) (h : RkS w r n M O F S) (hn : n < 800000000) (hwl : S.waits.length < 1000000000) (hM : M ≤ 70368744177664) (hname : name.size ≤ maxLen) :
    Calls Tryd.prog 38 #[dptr r, .string name] w fun e w' => e = .returned (.int .i64 (removeS S name).1) ∧ ∃ O', RkS w' r (n + 1) M O' F (removeS S name).2 ∧ DkTo O w w' O' := by
  obtain ⟨X, hX⟩ : ∃ X, X = removeS S name := ⟨_, rfl⟩
  rw [← hX]
  obtain ⟨fv, sv, ov, _, _, hF, hB, _⟩ := h.turn
  obtain ⟨c0, c1, c2, c3, c4, c5⟩ := hB.rsix
  have HX := Lib.hid hX; have HD := Lib.hid h; have HF := Lib.hid hF
  clear hX h hB hF c1 c2 c3 c4
  go_enter Tryd.func38, Tryd.ntmps38
  cases hoff : S.off with
  | true =>
    have HX2 : Hid (X = (6, S)) := Lib.hid (by rw [HX.out]; simp only [removeS, hoff, if_true])
    rw [hoff] at c5
    clear HX hoff
    go_wp2_with fail
    go_ret
    rw [HX2.out]
    exact ⟨rfl, O, HD.out.more (Nat.le_succ n), DkTo.refl HD.out.lowO⟩
  | false =>
    rw [hoff] at c5
    have hfs := HF.out.shape
    obtain ⟨fa, fc, rfl⟩ := hfs
    have HX1 : Hid (X = match getG (nmOf name) S.now with | none => (8, S) | some _ => waitS S ⟨114, name, ⟨#[]⟩, 0, []⟩) := Lib.hid (by rw [HX.out]; simp only [removeS, hoff, Bool.false_eq_true, if_false]; rfl)
    clear HX hoff
    go_wp2_with fail
    refine (rfind_c (O ++ F) _ S.now name w HF.out (by have := HD.out.lnow; omega)).mono ?_
    rintro e w1 ⟨rfl, rfl⟩
    rcases HF.out.found (nmOf name) with ⟨hp, hg⟩ | ⟨i, x, b, c, bv, hp, hi, hv, hc1, hc2, hg, hcell, hrd, -, -⟩
    · have HX2 : Hid (X = (8, S)) := Lib.hid (by rw [HX1.out, hg])
      rw [hp]
      clear hp hg HX1
      go_wp2_with fail
      go_ret
      rw [HX2.out]
      exact ⟨rfl, O, HD.out.more (Nat.le_succ n), DkTo.refl HD.out.lowO⟩
    · have HX2 : Hid (X = waitS S ⟨114, name, ⟨#[]⟩, 0, []⟩) := Lib.hid (by rw [HX1.out, hg])
      rw [hp]
      have HOK : Hid (DdOk M ⟨114, name, ⟨#[]⟩, 0, []⟩) := Lib.hid ⟨hname, Nat.zero_le _, Int.le_refl _, (fun h => by cases h), (show (0 : Int) ≤ 9223372036854775807 by omega), by intro z hz; cases hz⟩
      clear hp hg HX1 hrd
      have htry := rtry_c r n M O F S ⟨114, name, ⟨#[]⟩, 0, []⟩ (.slice none 0 0) w1 HD.out hn hwl HOK.out (.inr (.inr (.inl rfl))) (Rd.nil _) (fun a n c hv => by cases hv) hM
      rw [rC_3] at htry
      have HTRY := Lib.hid htry
      clear htry
      go_wp2_with fail
      refine HTRY.out.mono ?_
      rintro e w4 ⟨rfl, O', hd4, ht4⟩
      rw [← HX2.out] at hd4 ⊢
      have HD4 := Lib.hid hd4; have HT4 := Lib.hid ht4
      clear hd4 ht4
      go_wp2_with fail
      go_ret
      exact ⟨rfl, O', HD4.out, HT4.out⟩
set_option maxRecDepth 100000 in
set_option maxHeartbeats 1000000 in
theorem rrename_c (r n M : Nat) (O F : List Nat) (S : Dk) (name nto : ByteArray) (w : World) (h : RkS w r n M O F S) (hn : n < 800000000) (hwl : S.waits.length < 1000000000) (hM : M ≤ 70368744177664) (hname : name.size ≤ maxLen) (hto : nto.size ≤ maxLen) :
    Calls Tryd.prog 39 #[dptr r, .string name, .string nto] w fun e w' => e = .returned (.int .i64 (renameS S name nto).1) ∧ ∃ O', RkS w' r (n + 1) M O' F (renameS S name nto).2 ∧ DkTo O w w' O' := by
  obtain ⟨X, hX⟩ : ∃ X, X = renameS S name nto := ⟨_, rfl⟩
  rw [← hX]
  obtain ⟨fv, sv, ov, _, _, hF, hB, _⟩ := h.turn
  obtain ⟨c0, c1, c2, c3, c4, c5⟩ := hB.rsix
  have HX := Lib.hid hX; have HD := Lib.hid h; have HF := Lib.hid hF
  clear hX h hB hF c1 c2 c3 c4
  go_enter Tryd.func39, Tryd.ntmps39
  cases hoff : S.off with
  | true =>
    have HX2 : Hid (X = (6, S)) := Lib.hid (by rw [HX.out]; simp only [renameS, hoff, if_true])
    rw [hoff] at c5
    clear HX hoff
    go_wp2_with fail
    go_ret
    rw [HX2.out]
    exact ⟨rfl, O, HD.out.more (Nat.le_succ n), DkTo.refl HD.out.lowO⟩
  | false =>
    rw [hoff] at c5
    have hfs := HF.out.shape
    obtain ⟨fa, fc, rfl⟩ := hfs
    have HX1 : Hid (X = match getG (nmOf name) S.now with | none => (8, S) | some _ => if !namedB nto then (1, S) else waitS S ⟨110, name, nto, 0, []⟩) := Lib.hid (by rw [HX.out]; simp only [renameS, hoff, Bool.false_eq_true, if_false]; rfl)
    clear HX hoff
    go_wp2_with fail
    refine (rfind_c (O ++ F) _ S.now name w HF.out (by have := HD.out.lnow; omega)).mono ?_
    rintro e w1 ⟨rfl, rfl⟩
    rcases HF.out.found (nmOf name) with ⟨hp, hg⟩ | ⟨i, x, b, c, bv, hp, hi, hv, hc1, hc2, hg, hcell, hrd, -, -⟩
    · have HX2 : Hid (X = (8, S)) := Lib.hid (by rw [HX1.out, hg])
      rw [hp]
      clear hp hg HX1
      go_wp2_with fail
      go_ret
      rw [HX2.out]
      exact ⟨rfl, O, HD.out.more (Nat.le_succ n), DkTo.refl HD.out.lowO⟩
    · have HX2 : Hid (X = if !namedB nto then (1, S) else waitS S ⟨110, name, nto, 0, []⟩) := Lib.hid (by rw [HX1.out, hg])
      rw [hp]
      have HOK : Hid (DdOk M ⟨110, name, nto, 0, []⟩) := Lib.hid ⟨hname, hto, Int.le_refl _, (fun h => by cases h), (show (0 : Int) ≤ 9223372036854775807 by omega), by intro z hz; cases hz⟩
      clear hp hg HX1 hrd
      go_wp2_with fail
      refine (rnamed_c nto w1).mono ?_
      rintro e w2 ⟨rfl, hE2⟩
      have HE2 := Lib.hid hE2
      clear hE2
      cases hnm : namedB nto with
      | false =>
        have HX3 : Hid (X = (1, S)) := Lib.hid (by rw [HX2.out, hnm]; rfl)
        clear HX2 hnm
        go_wp2_with fail
        go_ret
        rw [HX3.out]
        exact ⟨rfl, O, (HD.out.ext HE2.out).more (Nat.le_succ n), DkTo.ext HE2.out HD.out.lowO⟩
      | true =>
        have HX3 : Hid (X = waitS S ⟨110, name, nto, 0, []⟩) := Lib.hid (by rw [HX2.out, hnm]; rfl)
        clear HX2 hnm
        have htry := rtry_c r n M O F S ⟨110, name, nto, 0, []⟩ (.slice none 0 0) w2 (HD.out.ext HE2.out) hn hwl HOK.out (.inr (.inr (.inr rfl))) (Rd.nil _) (fun a n c hv => by cases hv) hM
        rw [rC_4] at htry
        have HTRY := Lib.hid htry
        clear htry
        go_wp2_with fail
        refine HTRY.out.mono ?_
        rintro e w4 ⟨rfl, O', hd4, ht4⟩
        rw [← HX3.out] at hd4 ⊢
        have HD4 := Lib.hid hd4; have HT4 := Lib.hid ht4
        clear hd4 ht4
        go_wp2_with fail
        go_ret
        exact ⟨rfl, O', HD4.out, (DkTo.ext HE2.out HD.out.lowO).trans HT4.out⟩
set_option maxRecDepth 100000 in
set_option maxHeartbeats 1000000 in
theorem rread_c (r n M : Nat) (O F : List Nat) (S : Dk) (name : ByteArray) (w : World) (h : RkS w r n M O F S) (hn : n < 800000000) :
    Calls Tryd.prog 22 #[dptr r, .string name] w fun e w' => w' = w ∧ ∃ v, e = .returned (.tuple #[v, .int .i64 (readS S name).2]) ∧ Rd w v (u8s (readS S name).1) ∧ B8 (readS S name).1 ∧ OffL v (u8s (readS S name).1) (O ++ F) := by
  obtain ⟨X, hX⟩ : ∃ X, X = readS S name := ⟨_, rfl⟩
  rw [← hX]
  obtain ⟨fv, sv, ov, _, _, hF, hB, _⟩ := h.turn
  obtain ⟨c0, c1, c2, c3, c4, c5⟩ := hB.rsix
  have HX := Lib.hid hX; have HD := Lib.hid h; have HF := Lib.hid hF
  clear hX h hB hF c1 c2 c3 c4
  go_enter Tryd.func22, Tryd.ntmps22
  cases hoff : S.off with
  | true =>
    have HX2 : Hid (X = ([], 6)) := Lib.hid (by rw [HX.out]; simp only [readS, hoff, if_true])
    rw [hoff] at c5
    clear HX hoff
    go_wp2_with fail
    go_ret2
    rw [HX2.out]
    exact ⟨rfl, _, rfl, Rd.nil _, (by intro z hz; cases hz), fun a n c hv => by cases hv⟩
  | false =>
    rw [hoff] at c5
    have hfs := HF.out.shape
    obtain ⟨fa, fc, rfl⟩ := hfs
    have HX1 : Hid (X = match getG (nmOf name) S.now with | none => ([], 8) | some x => (x, 0)) := Lib.hid (by rw [HX.out]; simp only [readS, hoff, Bool.false_eq_true, if_false]; rfl)
    clear HX hoff
    go_wp2_with fail
    refine (rfind_c (O ++ F) _ S.now name w HF.out (by have := HD.out.lnow; omega)).mono ?_
    rintro e w1 ⟨rfl, rfl⟩
    rcases HF.out.found (nmOf name) with ⟨hp, hg⟩ | ⟨i, x, b, c, bv, hp, hi, hv, hc1, hc2, hg, hcell, hrd, hb8, hof⟩
    · have HX2 : Hid (X = ([], 8)) := Lib.hid (by rw [HX1.out, hg])
      rw [hp]
      clear hp hg HX1
      go_wp2_with fail
      go_ret2
      rw [HX2.out]
      exact ⟨rfl, _, rfl, Rd.nil _, (by intro z hz; cases hz), fun a n c hv => by cases hv⟩
    · have HX2 : Hid (X = (x, 0)) := Lib.hid (by rw [HX1.out, hg])
      rw [hp]
      injection hv with e1 e2 e3
      subst e1 e3
      replace hc2 : fc ≤ 9223372036854775807 := by unfold maxLen at hc2; omega
      obtain ⟨xa, xn, xc, rfl⟩ := hrd.shape
      have HRD := Lib.hid hrd; have HB8 := Lib.hid hb8; have HOF := Lib.hid hof
      clear hp hg HX1 hrd hb8 hof e2
      obtain ⟨N, hN⟩ : ∃ N, N = S.now.length := ⟨_, rfl⟩
      rw [← hN] at hi hc1 c0 HF ⊢
      clear hN
      go_wp2_with fail
      go_ret2
      rw [HX2.out]
      exact ⟨rfl, _, rfl, HRD.out, HB8.out, HOF.out⟩
end Go.Proofs.YtmffknllnjagoaaDoor
