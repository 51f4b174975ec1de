/- tabellionlaw08: DiskFuses' walk. -/
import Derived.Test.YtmffknllnjagoaaDoorDka
set_option linter.unusedSimpArgs false
set_option linter.unusedVariables false
namespace Go.Proofs.YtmffknllnjagoaaDoor
open Go Go.RowKit Go.Maps

abbrev aF : ByteArray := ⟨#[97]⟩
abbrev bF : ByteArray := ⟨#[98]⟩
abbrev AF : ByteArray := ⟨#[65]⟩
abbrev nF : ByteArray := ⟨#[110, 111, 110, 101]⟩
/-- Behind i rounds of a fuse of n. -/
structure FInv (n : Nat) (S : Dk) (i : Nat) : Prop where
  off : S.off = false
  fuse : S.fuse = (n : Int) - i
  room : S.room = 1073741824
  waits : S.waits.length ≤ i
  now : S.now = [] ∨ ∃ x, S.now = [([97], x)] ∧ x.length ≤ 3030
theorem fget1 (k : Nm) (x : List Int) : getG k [(k, x)] = some x := by simp [getG]
theorem fput1 (k : Nm) (x y : List Int) : putG k y [(k, x)] = [(k, y)] := by simp [putG, delG, insG]
theorem nm_aF : namedB aF = true := by decide
theorem nm_AF : namedB AF = false := by decide
theorem FInv.cutNone {n i : Nat} {S : Dk} (h : FInv n S i) : cutS S nF 0 = (8, S) := by
  unfold cutS
  rw [h.off, if_neg (by simp)]
  have : getG (nmOf nF) S.now = none := by
    rcases h.now with h1 | ⟨x, h1, _⟩
    · rw [h1]; rfl
    · rw [h1]; rfl
  rw [this]
theorem FInv.arg {n i : Nat} {S : Dk} {b : List Int} (h : FInv n S i) : writeS S AF 0 b = (1, S) := by
  unfold writeS
  rw [h.off, if_neg (by simp), nm_AF, if_pos (by simp)]
theorem FInv.range {n i : Nat} {S : Dk} {b : List Int} (h : FInv n S i) : writeS S aF (-1) b = (9, S) := by
  unfold writeS
  rw [h.off, if_neg (by simp), nm_aF, if_neg (by simp), if_pos (by left; omega)]
theorem FInv.write {n i : Nat} {S : Dk} {b : List Int} (h : FInv n S i) (hi : i < n) (hn : n ≤ 30) (hb : b.length ≤ 3000) : ∃ S', writeS S aF (i : Int) b = (0, S') ∧ FInv n S' (i + 1) := by
  have hu : usedF S.now ≤ 3030 := by
    rcases h.now with h1 | ⟨x, h1, h2⟩
    · rw [h1]; simp [usedF]
    · rw [h1]; simpa [usedF] using h2
  have hg : growsB S.now aF (i : Int) b ≤ 3030 := by
    unfold growsB
    split
    · omega
    · omega
  have hd : ∃ x, doF ⟨119, aF, ⟨#[]⟩, (i : Int), b⟩ S.now = [([97], x)] ∧ x.length ≤ 3030 := by
    have e : nmOf aF = [97] := rfl
    unfold doF
    simp only [if_true, e, Int.toNat_natCast]
    rcases h.now with h1 | ⟨x, h1, h2⟩
    · rw [h1]
      split
      · exact ⟨[], rfl, by simp⟩
      · exact ⟨over [] i b, rfl, by rw [length_over]; simp; omega⟩
    · rw [h1, fget1]
      simp only [Option.getD_some, fput1]
      split
      · exact ⟨x, rfl, h2⟩
      · exact ⟨_, rfl, by rw [length_over]; omega⟩
  unfold writeS
  rw [h.off, if_neg (by simp), nm_aF, if_neg (by simp), if_neg (by omega), h.room, if_neg (by omega)]
  unfold waitS
  have hf := h.fuse
  rw [if_neg (by omega)]
  have hbn : burnS S = { S with fuse := S.fuse - 1 } := by unfold burnS; rw [if_neg (by omega), if_pos (by omega)]
  refine ⟨_, rfl, ?_, ?_, ?_, ?_, ?_⟩
  · show (burnS S).off = false
    rw [hbn]; exact h.off
  · show (burnS S).fuse = _
    rw [hbn]; show S.fuse - 1 = _; omega
  · show (burnS S).room = _
    rw [hbn]; exact h.room
  · show (S.waits ++ [_]).length ≤ _
    have := h.waits
    rw [List.length_append]; simp; omega
  · right; exact hd
theorem FInv.sync {n i : Nat} {S : Dk} (h : FInv n S i) (hi : i < n) : ∃ S', syncS S = (0, S') ∧ FInv n S' (i + 1) := by
  unfold syncS
  have hf := h.fuse
  rw [h.off, if_neg (by simp), if_neg (by omega)]
  have hbn : burnS S = { S with fuse := S.fuse - 1 } := by unfold burnS; rw [if_neg (by omega), if_pos (by omega)]
  refine ⟨_, rfl, ?_, ?_, ?_, ?_, ?_⟩
  · show (burnS S).off = false
    rw [hbn]; exact h.off
  · show (burnS S).fuse = _
    rw [hbn]; show S.fuse - 1 = _; omega
  · show (burnS S).room = _
    rw [hbn]; exact h.room
  · show ([] : List Dd).length ≤ _; simp
  · show (burnS S).now = [] ∨ _
    rw [hbn]; exact h.now
theorem FInv.start (n : Nat) : FInv n { dkNew 1073741824 with fuse := max (n : Int) (-1) } 0 := ⟨rfl, by show max (n : Int) (-1) = _; omega, rfl, Nat.zero_le _, .inl rfl⟩

theorem offW {S : Dk} (h : S.off = true) (s : ByteArray) (k : Int) (b : List Int) : writeS S s k b = (6, S) := by simp [writeS, h]
theorem offR {S : Dk} (h : S.off = true) (s : ByteArray) : removeS S s = (6, S) := by simp [removeS, h]
theorem offC {S : Dk} (h : S.off = true) (s : ByteArray) (k : Int) : cutS S s k = (6, S) := by simp [cutS, h]
theorem offN {S : Dk} (h : S.off = true) (s t : ByteArray) : renameS S s t = (6, S) := by simp [renameS, h]
theorem offD {S : Dk} (h : S.off = true) (s : ByteArray) : readS S s = ([], 6) := by simp [readS, h]
theorem FInv.ends {n : Nat} {S : Dk} (h : FInv n S n) : syncS S = (6, { S with off := true }) := by
  unfold syncS
  have hf := h.fuse
  rw [h.off, if_neg (by simp), if_pos (by omega)]
theorem crash_none (S : Dk) (torn : Int) : crashS S [] torn = { S with now := S.sure, sure := S.sure, waits := [], off := false, fuse := -1 } := by
  have : keptD S.waits [] = [] := by cases S.waits <;> rfl
  unfold crashS
  rw [this]; rfl
theorem sync_ok {S : Dk} (h : S.off = false) (hf : S.fuse = -1) : ∃ S', syncS S = (0, S') := by
  unfold syncS
  rw [h, if_neg (by simp), if_neg (by omega)]
  exact ⟨_, rfl⟩

theorem u64_wrap_nonneg' (n : Int) : 0 ≤ IntKind.u64.wrap n := by
  have : IntKind.u64.wrap n = n % 18446744073709551616 := by rfl
  rw [this]; omega
set_option maxRecDepth 100000 in
set_option maxHeartbeats 4000000 in
theorem diskfuses_c (n : Int) (bv : Value) (b : List Int) (w : World) (hn : -9223372036854775808 ≤ n ∧ n ≤ 9223372036854775807) (hb : Rd w bv (u8s b)) (hb8 : B8 b) :
    Calls Tryd.prog 4 #[.int .i64 n, bv] w fun e w' => e = .returned (.bool true) ∧ Ext w w' := by
  obtain ⟨ba, bc, rfl, hb1, hb2, hb3⟩ := hb.open
  replace hb2 : bc ≤ 9223372036854775807 := by unfold maxLen at hb2; omega
  have HRB := Lib.hid hb; have HB8 := Lib.hid hb8
  clear hb hb3 hb8
  obtain ⟨ha0, ha1⟩ := hn
  have haF : aF.size ≤ maxLen := by show 1 ≤ maxLen; unfold maxLen; omega
  have hbF : bF.size ≤ maxLen := by show 1 ≤ maxLen; unfold maxLen; omega
  have hAF : AF.size ≤ maxLen := by show 1 ≤ maxLen; unfold maxLen; omega
  have hnF : nF.size ≤ maxLen := by show 4 ≤ maxLen; unfold maxLen; omega
  go_enter Tryd.func4, Tryd.ntmps4
  go_wp2_with fail
  refine (awake_c w).mono ?_
  rintro e w1 ⟨rfl, hE1⟩
  have HE1 := Lib.hid hE1; clear hE1
  by_cases hbl : b.length ≤ 3000
  · have hbl' : (b.length : Int) ≤ 3000 := by omega
    go_upto_region 4 with fail
    obtain ⟨N, hk1, hk2, hN⟩ : ∃ N : Nat, (IntKind.u64.wrap n).tmod 30 = (N : Int) ∧ wrap64 (N : Int) = (N : Int) ∧ N < 30 := by
      have h0 : 0 ≤ IntKind.u64.wrap n := u64_wrap_nonneg' n
      have h1 := Int.tmod_nonneg 30 h0
      have h2 := Int.tmod_lt_of_pos (IntKind.u64.wrap n) (show (0 : Int) < 30 by omega)
      exact ⟨((IntKind.u64.wrap n).tmod 30).toNat, by omega, by unfold wrap64; omega, by omega⟩
    simp only [hk1, hk2]
    clear hk1 hk2 ha0 ha1 hbl'
    go_wp2_with fail
    refine (new_c 100000 1073741824 w1 (by omega) (by omega)).mono ?_
    rintro e w2 ⟨d, rfl, hd2, hE2, hdw⟩
    have hO2 : ∀ t ∈ [d, w1.heap.size, w1.heap.size + 1], w.heap.size ≤ t := by intro t ht; have := HE1.out.size; simp at ht; omega
    have HD2 := Lib.hid hd2; have HE2 := Lib.hid (HE1.out.trans hE2); have HO2 := Lib.hid hO2
    clear hd2 hE2 hO2
    go_wp2_with fail
    refine (fuse_c d 0 100000 _ (dkNew 1073741824) w2 (N : Int) (by omega) HD2.out).mono ?_
    rintro e w3 ⟨rfl, hd3, ht3⟩
    have HD3 := Lib.hid hd3; have HE3 := Lib.hid (ht3.toExt HE2.out HO2.out); have HO3 := Lib.hid (ht3.new HO2.out HE2.out.size)
    clear hd3 ht3
    go_upto_block 0 with fail
    go_cut [6] (fun _i wx => ∃ S O nn, DkS wx d nn 100000 O S ∧ nn ≤ 200 ∧ FInv N S N ∧ Ext w wx ∧ ∀ t ∈ O, w.heap.size ≤ t)
    case first =>
      go_wp2_with fail
      go_loopg [6] N (fun g ix wr => ∃ (i : Nat) (S : Dk) (O : List Nat) (nn : Nat), i + g = N ∧ ix = .int .i64 (i : Int) ∧ DkS wr d nn 100000 O S ∧ nn ≤ 4 * i ∧ FInv N S i ∧ Ext w wr ∧ ∀ t ∈ O, w.heap.size ≤ t)
      case atStart => exact ⟨0, _, _, 0, by omega, rfl, HD3.out, by omega, FInv.start N, HE3.out, HO3.out⟩
      case round =>
        obtain ⟨i, S, O, nn, hiN, rfl, hd, hnn, hI, hEr, hOr⟩ := hrel
        have HD := Lib.hid hd; have HI := Lib.hid hI; have HER := Lib.hid hEr; have HOR := Lib.hid hOr
        clear hd hI hEr hOr
        by_cases hlt : i < N
        · have hw9 : S.waits.length < 1000 := by have := HI.out.waits; omega
          go_wp2_with fail
          refine (cut_c d nn 100000 O S nF 0 wr HD.out (by omega) (by omega) (by omega) hnF).mono ?_
          rintro e w4 ⟨rfl, O4, hd4, ht4⟩
          rw [HI.out.cutNone] at hd4 ⊢
          have HD4 := Lib.hid hd4; have HE4 := Lib.hid (ht4.toExt HER.out HOR.out); have HO4 := Lib.hid (ht4.new HOR.out HER.out.size)
          clear hd4 ht4
          go_wp2_with fail
          refine (write_c d (nn + 1) 100000 O4 S AF 0 b _ w4 HD4.out (by omega) (by omega) (by omega) (by omega) hAF (by omega) (by omega) (HRB.out.ext HE4.out) HB8.out (by intro _ _; omega)).mono ?_
          rintro e w5 ⟨rfl, O5, hd5, ht5⟩
          rw [HI.out.arg] at hd5 ⊢
          have HD5 := Lib.hid hd5; have HE5 := Lib.hid (ht5.toExt HE4.out HO4.out); have HO5 := Lib.hid (ht5.new HO4.out HE4.out.size)
          clear hd5 ht5
          go_wp2_with fail
          refine (write_c d (nn + 1 + 1) 100000 O5 S aF (-1) b _ w5 HD5.out (by omega) (by omega) (by omega) (by omega) haF (by omega) (by omega) (HRB.out.ext HE5.out) HB8.out (by intro _ _; omega)).mono ?_
          rintro e w6 ⟨rfl, O6, hd6, ht6⟩
          rw [HI.out.range] at hd6 ⊢
          have HD6 := Lib.hid hd6; have HE6 := Lib.hid (ht6.toExt HE5.out HO5.out); have HO6 := Lib.hid (ht6.new HO5.out HE5.out.size)
          clear hd6 ht6
          rcases Nat.mod_two_eq_zero_or_one i with hev | hodd
          · have hmod : (i : Int).tmod 2 = 0 := by rw [Int.tmod_eq_emod_of_nonneg (by omega)]; omega
            obtain ⟨S', hS', hI'⟩ := HI.out.write (b := b) hlt (by omega) hbl
            have HS' := Lib.hid hS'; have HI' := Lib.hid hI'
            clear hS' hI' hev
            go_wp2_with fail
            refine (write_c d (nn + 1 + 1 + 1) 100000 O6 S aF (i : Int) b _ w6 HD6.out (by omega) (by omega) (by omega) (by omega) haF (by omega) (by omega) (HRB.out.ext HE6.out) HB8.out (by intro _ _; omega)).mono ?_
            rintro e w7 ⟨rfl, O7, hd7, ht7⟩
            rw [HS'.out] at hd7 ⊢
            have HD7 := Lib.hid hd7; have HE7 := Lib.hid (ht7.toExt HE6.out HO6.out); have HO7 := Lib.hid (ht7.new HO6.out HE6.out.size)
            clear hd7 ht7
            go_wp2_with fail
            go_roundg (gk - 1)
            case measure => omega
            case rel => exact ⟨i + 1, S', O7, nn + 1 + 1 + 1 + 1, by omega, by go_num, HD7.out, by omega, HI'.out, HE7.out, HO7.out⟩
          · have hmod : (i : Int).tmod 2 = 1 := by rw [Int.tmod_eq_emod_of_nonneg (by omega)]; omega
            obtain ⟨S', hS', hI'⟩ := HI.out.sync hlt
            have HS' := Lib.hid hS'; have HI' := Lib.hid hI'
            clear hS' hI' hodd
            go_wp2_with fail
            refine (sync_c d (nn + 1 + 1 + 1) 100000 O6 S w6 HD6.out).mono ?_
            rintro e w7 ⟨rfl, O7, hd7, ht7⟩
            rw [HS'.out] at hd7 ⊢
            have HD7 := Lib.hid hd7; have HE7 := Lib.hid (ht7.toExt HE6.out HO6.out); have HO7 := Lib.hid (ht7.new HO6.out HE6.out.size)
            clear hd7 ht7
            go_wp2_with fail
            go_roundg (gk - 1)
            case measure => omega
            case rel => exact ⟨i + 1, S', O7, nn + 1 + 1 + 1, by omega, by go_num, HD7.out, by omega, HI'.out, HE7.out, HO7.out⟩
        · have hiN2 : i = N := by omega
          have hge : (N : Int) ≤ (i : Int) := by omega
          clear hlt
          go_wp2_with fail
          go_meet
          exact ⟨S, O, nn, HD.out, by omega, by rw [← hiN2]; rw [hiN2]; have := HI.out; rwa [hiN2] at this, HER.out, HOR.out⟩
    case rest =>
    obtain ⟨S, O, nn, hd, hnn, hI, hEr, hOr⟩ := hcut
    have HD := Lib.hid hd; have HI := Lib.hid hI; have HER := Lib.hid hEr; have HOR := Lib.hid hOr
    have hw9 : S.waits.length < 1000 := by have := hI.waits; omega
    have hoff := hI.off
    clear hd hI hEr hOr
    go_wp2_with fail
    refine (down_c d nn 100000 O S _ HD.out).mono ?_
    rintro e w4 ⟨rfl, rfl⟩
    rw [hoff]
    clear hoff
    go_wp2_with fail
    refine (sync_c d nn 100000 O S _ HD.out).mono ?_
    rintro e w5 ⟨rfl, O5, hd5, ht5⟩
    rw [HI.out.ends] at hd5 ⊢
    have HE5 := Lib.hid (ht5.toExt HER.out HOR.out); have HO5 := Lib.hid (ht5.new HOR.out HER.out.size)
    obtain ⟨S5, hS5⟩ : ∃ S5, S5 = { S with off := true } := ⟨_, rfl⟩
    have hd5' : DkS w5 d nn 100000 O5 S5 := by rw [hS5]; exact hd5
    have hoff5 : S5.off = true := by rw [hS5]
    have hw5 : S5.waits.length < 1000 := by rw [hS5]; exact hw9
    have HD5 := Lib.hid hd5'; have HOFF := Lib.hid hoff5
    clear hd5 hd5' ht5 hS5 hoff5 hw9
    go_wp2_with fail
    refine (down_c d nn 100000 O5 S5 w5 HD5.out).mono ?_
    rintro e w6 ⟨rfl, rfl⟩
    rw [HOFF.out]
    go_wp2_with fail
    refine (write_c d nn 100000 O5 S5 aF 0 b _ w6 HD5.out (by omega) (by omega) (by omega) (by omega) haF (by omega) (by omega) (HRB.out.ext HE5.out) HB8.out (by intro _ _; omega)).mono ?_
    rintro e w7 ⟨rfl, O7, hd7, ht7⟩
    rw [offW HOFF.out] at hd7 ⊢
    have HD7 := Lib.hid hd7; have HE7 := Lib.hid (ht7.toExt HE5.out HO5.out); have HO7 := Lib.hid (ht7.new HO5.out HE5.out.size)
    clear hd7 ht7
    go_wp2_with fail
    refine (remove_c d (nn + 1) 100000 O7 S5 aF w7 HD7.out (by omega) (by omega) (by omega) haF).mono ?_
    rintro e w8 ⟨rfl, O8, hd8, ht8⟩
    rw [offR HOFF.out] at hd8 ⊢
    have HD8 := Lib.hid hd8; have HE8 := Lib.hid (ht8.toExt HE7.out HO7.out); have HO8 := Lib.hid (ht8.new HO7.out HE7.out.size)
    clear hd8 ht8
    go_wp2_with fail
    refine (cut_c d (nn + 1 + 1) 100000 O8 S5 nF 0 w8 HD8.out (by omega) (by omega) (by omega) hnF).mono ?_
    rintro e w9 ⟨rfl, O9, hd9, ht9⟩
    rw [offC HOFF.out] at hd9 ⊢
    have HD9 := Lib.hid hd9; have HE9 := Lib.hid (ht9.toExt HE8.out HO8.out); have HO9 := Lib.hid (ht9.new HO8.out HE8.out.size)
    clear hd9 ht9
    go_wp2_with fail
    refine (rename_c d (nn + 1 + 1 + 1) 100000 O9 S5 aF bF w9 HD9.out (by omega) (by omega) (by omega) haF hbF).mono ?_
    rintro e w10 ⟨rfl, O10, hd10, ht10⟩
    rw [offN HOFF.out] at hd10 ⊢
    have HD10 := Lib.hid hd10; have HE10 := Lib.hid (ht10.toExt HE9.out HO9.out); have HO10 := Lib.hid (ht10.new HO9.out HE9.out.size)
    clear hd10 ht10
    go_wp2_with fail
    refine (read_c d (nn + 1 + 1 + 1 + 1) 100000 O10 S5 aF w10 HD10.out (by omega) haF).mono ?_
    rintro e w11 ⟨v, rfl, hrv, -, hE11⟩
    rw [offD HOFF.out] at hrv ⊢
    obtain ⟨va, vn, vc, rfl⟩ := hrv.shape
    have HD11 := Lib.hid (HD10.out.ext hE11); have HE11 := Lib.hid (HE10.out.trans hE11)
    clear hrv hE11
    go_wp2_with fail
    refine (crash_c d (nn + 1 + 1 + 1 + 1) 100000 O10 S5 [] 0 _ w11 HD11.out (by omega) (by omega) (Rd.nil _) (by omega) (by omega)).mono ?_
    rintro e w12 ⟨rfl, O12, hd12, ht12⟩
    rw [crash_none] at hd12
    obtain ⟨S6, hS6⟩ : ∃ S6 : Dk, S6 = { S5 with now := S5.sure, sure := S5.sure, waits := [], off := false, fuse := -1 } := ⟨_, rfl⟩
    rw [← hS6] at hd12
    have hoff6 : S6.off = false := by rw [hS6]
    obtain ⟨S7, hS7⟩ := sync_ok hoff6 (by rw [hS6])
    have HD12 := Lib.hid hd12; have HE12 := Lib.hid (ht12.toExt HE11.out HO10.out); have HO12 := Lib.hid (ht12.new HO10.out HE11.out.size); have HS7 := Lib.hid hS7; have HOFF6 := Lib.hid hoff6
    clear hd12 ht12 hS6 hS7 hoff6
    go_wp2_with fail
    refine (down_c d _ 100000 O12 S6 w12 HD12.out).mono ?_
    rintro e w13 ⟨rfl, rfl⟩
    rw [HOFF6.out]
    go_wp2_with fail
    refine (sync_c d _ 100000 O12 S6 w13 HD12.out).mono ?_
    rintro e w14 ⟨rfl, O14, hd14, ht14⟩
    rw [HS7.out]
    have HE14 := Lib.hid (ht14.toExt HE12.out HO12.out)
    clear hd14 ht14
    go_wp2_with fail
    go_ret
    exact ⟨rfl, HE14.out⟩
  · have hbl' : (3000 : Int) < (b.length : Int) := by omega
    clear hbl
    go_wp2_with fail
    refine (awake_c w1).mono ?_
    rintro e w2 ⟨rfl, hE2⟩
    have HE2 := Lib.hid hE2; clear hE2
    go_wp2_with fail
    go_ret
    exact ⟨rfl, HE1.out.trans HE2.out⟩
end Go.Proofs.YtmffknllnjagoaaDoor
