/- tabellionlaw08: DiskTorn's walk. -/
import Derived.Test.YtmffknllnjagoaaDoorDka
set_option linter.unusedSimpArgs false
set_option linter.unusedVariables false
namespace Go.Proofs.YtmffknllnjagoaaDoor
open Go Go.RowKit Go.Maps

abbrev fF : ByteArray := ⟨#[102]⟩
def tornY (old b : List Int) (k n : Nat) : List Int := if b.take n = [] then old else over old k (b.take n)
def tS1 (old : List Int) : Dk := ⟨[([102], old)], [], [⟨119, fF, ⟨#[]⟩, 0, old⟩], 1073741824, -1, false⟩
def tS2 (old : List Int) : Dk := ⟨[([102], old)], [([102], old)], [], 1073741824, -1, false⟩
def tS3 (old b : List Int) (k : Nat) : Dk := ⟨[([102], if b = [] then old else over old k b)], [([102], old)], [⟨119, fF, ⟨#[]⟩, (k : Int), b⟩], 1073741824, -1, false⟩
def tS4 (old b : List Int) (k n : Nat) : Dk := ⟨[([102], tornY old b k n)], [([102], tornY old b k n)], [], 1073741824, -1, false⟩
theorem over_nil (old : List Int) : over [] 0 old = old := by
  unfold over splice
  simp
theorem nm_fF : namedB fF = true := by decide
theorem get_one (k : Nm) (x : List Int) : getG k [(k, x)] = some x := by simp [getG]
theorem put_one (k : Nm) (x y : List Int) : putG k y [(k, x)] = [(k, y)] := by simp [putG, delG, insG]
theorem doF_one (k : Nat) (old b : List Int) : doF ⟨119, fF, ⟨#[]⟩, (k : Int), b⟩ [([102], old)] = [([102], if b = [] then old else over old k b)] := by
  unfold doF
  have e : nmOf fF = [102] := rfl
  simp only [if_true, e, get_one, Option.getD_some, put_one, Int.toNat_natCast]
  split <;> rfl
theorem tW1 (old : List Int) (h : old.length ≤ 3000) : writeS (dkNew 1073741824) fF 0 old = (0, tS1 old) := by
  have hg : growsB (dkNew 1073741824).now fF 0 old ≤ 3000 := by
    unfold growsB
    split
    · omega
    · simp [dkNew, getG]; omega
  have hd : doF ⟨119, fF, ⟨#[]⟩, 0, old⟩ [] = [([102], old)] := by
    unfold doF
    have e : nmOf fF = [102] := rfl
    simp only [if_true, e, getG, Option.getD_none, Int.toNat_zero, over_nil]
    split
    · rename_i h0; subst h0; rfl
    · rfl
  unfold writeS
  rw [nm_fF]
  have hu : usedF (dkNew 1073741824).now = 0 := rfl
  have hr : (dkNew 1073741824).room = 1073741824 := rfl
  have ho : (dkNew 1073741824).off = false := rfl
  rw [hu, hr, ho, if_neg (by simp), if_neg (by simp), if_neg (by omega), if_neg (by omega)]
  unfold waitS
  rw [if_neg (show (dkNew 1073741824).fuse ≠ 0 by simp [dkNew])]
  show (0, _) = (0, _)
  have hb : burnS (dkNew 1073741824) = dkNew 1073741824 := by simp [burnS, dkNew]
  rw [hb, show (dkNew 1073741824).now = [] from rfl, hd]
  rfl
theorem tSy (old : List Int) : syncS (tS1 old) = (0, tS2 old) := by simp [syncS, tS1, tS2, burnS]
theorem tW2 (old b : List Int) (k : Nat) (h : old.length ≤ 3000) (hb : b.length ≤ 3000) (hk : k ≤ old.length) : writeS (tS2 old) fF (k : Int) b = (0, tS3 old b k) := by
  have hg : growsB (tS2 old).now fF (k : Int) b ≤ 6000 := by
    unfold growsB
    split
    · omega
    · omega
  unfold writeS
  rw [nm_fF]
  have hu : usedF (tS2 old).now = old.length := by simp [usedF, tS2]
  have hr : (tS2 old).room = 1073741824 := rfl
  have ho : (tS2 old).off = false := rfl
  rw [hu, hr, ho, if_neg (by simp), if_neg (by simp), if_neg (by omega), if_neg (by omega)]
  unfold waitS
  rw [if_neg (show (tS2 old).fuse ≠ 0 by simp [tS2])]
  have hbn : burnS (tS2 old) = tS2 old := by simp [burnS, tS2]
  rw [hbn, show (tS2 old).now = [([102], old)] from rfl, doF_one]
  rfl
theorem tCr (old b : List Int) (k n : Nat) (torn : Int) (hn : max 0 (min torn (b.length : Int)) = (n : Int)) : crashS (tS3 old b k) [true] torn = tS4 old b k n := by
  unfold crashS
  have h1 : keptD (tS3 old b k).waits [true] = [⟨119, fF, ⟨#[]⟩, (k : Int), b⟩] := rfl
  rw [h1]
  have h2 : tornD torn [⟨119, fF, ⟨#[]⟩, (k : Int), b⟩] = [⟨119, fF, ⟨#[]⟩, (k : Int), b.take n⟩] := by
    show [tearD torn _] = _
    unfold tearD
    simp only [hn, Int.toNat_natCast]
  rw [h2]
  have h3 : doAll [⟨119, fF, ⟨#[]⟩, (k : Int), b.take n⟩] (tS3 old b k).sure = [([102], tornY old b k n)] := by
    simp only [doAll, List.foldl]
    rw [show (tS3 old b k).sure = [([102], old)] from rfl, doF_one]; rfl
  rw [h3]
  rfl
theorem tRd (old b : List Int) (k n : Nat) : readS (tS4 old b k n) fF = (tornY old b k n, 0) := by
  unfold readS
  have : (tS4 old b k n).off = false := rfl
  rw [this, if_neg (by simp)]
  rw [show nmOf fF = [102] from rfl, show (tS4 old b k n).now = [([102], tornY old b k n)] from rfl, get_one]
theorem tornY_len {old b : List Int} {k n : Nat} (hk : k ≤ old.length) (hn : n ≤ b.length) : (tornY old b k n).length = max old.length (k + n) := by
  unfold tornY
  split
  · rename_i h
    have : (b.take n).length = 0 := by rw [h]; rfl
    rw [List.length_take] at this
    omega
  · rw [length_over, List.length_take]; omega
theorem tornY_b8 {old b : List Int} {k n : Nat} (h1 : B8 old) (h2 : B8 b) : B8 (tornY old b k n) := by
  unfold tornY
  split
  · exact h1
  · exact over_b8 h1 fun z hz => h2 z (List.mem_of_mem_take hz)
theorem splice_get {α : Type} (L c : List α) (k i : Nat) (h : k + c.length ≤ L.length) : (splice L k c)[i]? = if k ≤ i ∧ i < k + c.length then c[i - k]? else L[i]? := by
  unfold splice
  have hk : (L.take k).length = k := by rw [List.length_take]; omega
  by_cases h1 : k ≤ i
  · rw [List.getElem?_append_right (by omega), hk]
    by_cases h2 : i < k + c.length
    · rw [if_pos ⟨h1, h2⟩, List.getElem?_append_left (by omega)]
    · rw [if_neg (by omega), List.getElem?_append_right (by omega), List.getElem?_drop]
      congr 1; omega
  · rw [if_neg (by omega), List.getElem?_append_left (by omega), List.getElem?_take_of_lt (by omega)]
theorem over_get {old c : List Int} {k i : Nat} (hi : i < max old.length (k + c.length)) :
    (over old k c).getD i 0 = if k ≤ i ∧ i < k + c.length then c.getD (i - k) 0 else old.getD i 0 := by
  unfold over
  have hz : (List.replicate (max old.length (k + c.length)) (0 : Int)).length = max old.length (k + c.length) := by simp
  have hs := length_splice (List.replicate (max old.length (k + c.length)) (0 : Int)) 0 old (by rw [hz]; omega)
  simp only [List.getD_eq_getElem?_getD]
  rw [splice_get _ _ _ _ (by rw [hs, hz]; omega)]
  split
  · rfl
  · rw [splice_get _ _ _ _ (by rw [hz]; omega)]
    split
    · rfl
    · rename_i h1 h2
      have : old[i]? = none := List.getElem?_eq_none (by omega)
      rw [this, List.getElem?_replicate]
      split <;> rfl
theorem tornY_get {old b : List Int} {k n i : Nat} (hn : n ≤ b.length) (hi : i < max old.length (k + n)) :
    (tornY old b k n).getD i 0 = if k ≤ i ∧ i < k + n then b.getD (i - k) 0 else old.getD i 0 := by
  unfold tornY
  have hl : (b.take n).length = n := by rw [List.length_take]; omega
  split
  · rename_i h
    have h0 : (b.take n).length = 0 := by rw [h]; rfl
    rw [if_neg (by omega)]
  · rw [over_get (by rw [hl]; exact hi), hl]
    split
    · simp only [List.getD_eq_getElem?_getD]
      rw [List.getElem?_take_of_lt (by omega)]
    · rfl
theorem u64_wrap_nonneg (n : Int) : 0 ≤ IntKind.u64.wrap n := by
  have : IntKind.u64.wrap n = n % 18446744073709551616 := by rfl
  rw [this]; omega
theorem wrap64_small (n : Int) (h0 : -9223372036854775808 ≤ n) (h1 : n ≤ 9223372036854775807) : wrap64 n = n := by unfold wrap64; omega
set_option maxRecDepth 100000 in
set_option maxHeartbeats 4000000 in
theorem disktorn_c (ov bv : Value) (old b : List Int) (at_ torn : Int) (w : World) (ho : Rd w ov (u8s old)) (hb : Rd w bv (u8s b)) (ho8 : B8 old) (hb8 : B8 b) (ha : -9223372036854775808 ≤ at_ ∧ at_ ≤ 9223372036854775807) (ht : -9223372036854775808 ≤ torn ∧ torn ≤ 9223372036854775807) :
    Calls Tryd.prog 3 #[ov, bv, .int .i64 at_, .int .i64 torn] w fun e w' => e = .returned (.bool true) ∧ Ext w w' := by
  obtain ⟨oa, oc, rfl, ho1, ho2, ho3⟩ := ho.open
  obtain ⟨ba, bc, rfl, hb1, hb2, hb3⟩ := hb.open
  replace ho2 : oc ≤ 9223372036854775807 := by unfold maxLen at ho2; omega
  replace hb2 : bc ≤ 9223372036854775807 := by unfold maxLen at hb2; omega
  have HRO := Lib.hid ho; have HRB := Lib.hid hb; have HO3 := Lib.hid ho3; have HB3 := Lib.hid hb3; have HO8 := Lib.hid ho8; have HB8 := Lib.hid hb8
  clear ho hb ho3 hb3 ho8 hb8
  obtain ⟨ha0, ha1⟩ := ha
  obtain ⟨ht0, ht1⟩ := ht
  have hfF : fF.size ≤ maxLen := by show 1 ≤ maxLen; unfold maxLen; omega
  go_enter Tryd.func3, Tryd.ntmps3
  go_wp2_with fail
  refine (awake_c w).mono ?_
  rintro e w1 ⟨rfl, hE1⟩
  have HE1 := Lib.hid hE1; clear hE1
  by_cases hol : old.length ≤ 3000
  · by_cases hbl : b.length ≤ 3000
    · have hol' : (old.length : Int) ≤ 3000 := by omega
      have hbl' : (b.length : Int) ≤ 3000 := by omega
      go_upto_region 4 with fail
      obtain ⟨k, hk1, hk2, hkl⟩ : ∃ k : Nat, (IntKind.u64.wrap at_).tmod ((old.length : Int) + 1) = (k : Int) ∧ wrap64 (k : Int) = (k : Int) ∧ k ≤ old.length := by
        have h0 : 0 ≤ IntKind.u64.wrap at_ := u64_wrap_nonneg at_
        have h1 := Int.tmod_nonneg ((old.length : Int) + 1) h0
        have h2 := Int.tmod_lt_of_pos (IntKind.u64.wrap at_) (show (0 : Int) < (old.length : Int) + 1 by omega)
        refine ⟨((IntKind.u64.wrap at_).tmod ((old.length : Int) + 1)).toNat, by omega, ?_, by omega⟩
        exact wrap64_small _ (by omega) (by omega)
      simp only [hk1, hk2]
      obtain ⟨n, hn⟩ : ∃ n : Nat, max 0 (min torn (b.length : Int)) = (n : Int) := ⟨(max 0 (min torn (b.length : Int))).toNat, by omega⟩
      have hnb : n ≤ b.length := by omega
      have hY := tornY_len (old := old) (b := b) hkl hnb
      clear hk1 hk2 ha0 ha1 hol' hbl'
      go_wp2_with fail
      refine (new_c 100000 1073741824 w1 (by omega) (by omega)).mono ?_
      rintro e w2 ⟨d, rfl, hd2, hE2, hdw⟩
      have hO2 : ∀ t ∈ [d, w1.heap.size, w1.heap.size + 1], w.heap.size ≤ t := by intro t ht; have := HE1.out.size; simp at ht; omega
      have HD2 := Lib.hid hd2; have HE2 := Lib.hid (HE1.out.trans hE2); have HO2 := Lib.hid hO2
      clear hd2 hE2 hO2
      go_wp2_with fail
      refine (write_c d 0 100000 _ (dkNew 1073741824) fF 0 old _ w2 HD2.out (by omega) (show (0 : Nat) < 1000000000 by omega) (by omega) (Nat.zero_le _) hfF (by omega) (by omega) (HRO.out.ext HE2.out) HO8.out (by intro _ _; omega)).mono ?_
      rintro e w3 ⟨rfl, O3, hd3, ht3⟩
      rw [tW1 old hol] at hd3 ⊢
      have HD3 := Lib.hid hd3; have HE3 := Lib.hid (ht3.toExt HE2.out HO2.out); have HO3' := Lib.hid (ht3.new HO2.out HE2.out.size)
      clear hd3 ht3
      go_wp2_with fail
      refine (sync_c d 1 100000 O3 (tS1 old) w3 HD3.out).mono ?_
      rintro e w4 ⟨rfl, O4, hd4, ht4⟩
      rw [tSy old] at hd4 ⊢
      have HD4 := Lib.hid hd4; have HE4 := Lib.hid (ht4.toExt HE3.out HO3'.out); have HO4 := Lib.hid (ht4.new HO3'.out HE3.out.size)
      clear hd4 ht4
      go_wp2_with fail
      refine (write_c d 1 100000 _ (tS2 old) fF (k : Int) b _ w4 HD4.out (by omega) (show (0 : Nat) < 1000000000 by omega) (by omega) (by omega) hfF (by omega) (by omega) (HRB.out.ext HE4.out) HB8.out (by intro _ _; omega)).mono ?_
      rintro e w5 ⟨rfl, O5, hd5, ht5⟩
      rw [tW2 old b k hol hbl hkl] at hd5 ⊢
      have HD5 := Lib.hid hd5; have HE5 := Lib.hid (ht5.toExt HE4.out HO4.out); have HO5 := Lib.hid (ht5.new HO4.out HE4.out.size)
      clear hd5 ht5
      go_wp2_with fail
      obtain ⟨W, hW⟩ : ∃ W, W = w5.alloc (.cells #[.bool true] 4) := ⟨_, rfl⟩
      have hWE : Ext w5 W := by rw [hW]; exact Ext.alloc _ _
      have hkv : Rd W (.slice (some ⟨w5.heap.size, 0, none⟩) 1 1) ([true].map Value.bool) := by
        refine ⟨_, 1, rfl, Nat.le_refl _, by unfold maxLen; omega, .inr ⟨w5.heap.size, 0, rfl, fun j u hj => ?_⟩⟩
        rw [hW]
        have := (Blk.new w5 #[.bool true] 4).cell (0 + j) (u := u) (by simpa using hj)
        exact this
      rw [← hW]
      have HWE := Lib.hid hWE; have HKV := Lib.hid hkv
      clear hW hWE hkv
      refine (crash_c d 2 100000 O5 (tS3 old b k) [true] torn _ W (HD5.out.ext HWE.out) (show 2 + 1 < 1000000000 by omega) (by omega) HKV.out ht0 ht1).mono ?_
      rintro e w6 ⟨rfl, O6, hd6, ht6⟩
      rw [tCr old b k n torn hn] at hd6
      have HD6 := Lib.hid hd6; have HE6 := Lib.hid (ht6.toExt (HE5.out.trans HWE.out) HO5.out)
      clear hd6 ht6
      go_wp2_with fail
      refine (read_c d (2 + (tS3 old b k).waits.length) 100000 O6 (tS4 old b k n) fF w6 HD6.out (by omega) hfF).mono ?_
      rintro e w7 ⟨v, rfl, hrv, -, hE7⟩
      rw [tRd old b k n] at hrv ⊢
      simp only at hrv
      obtain ⟨ya, yc, rfl, hy1, hy2, hy3⟩ := hrv.open
      have HE7 := Lib.hid (HE6.out.trans hE7); have HY3 := Lib.hid hy3; have HY8 := Lib.hid (tornY_b8 (k := k) (n := n) HO8.out HB8.out)
      obtain ⟨Y, hYY⟩ : ∃ Y, Y = tornY old b k n := ⟨_, rfl⟩
      obtain ⟨L, hL⟩ : ∃ L, L = Y.length := ⟨_, rfl⟩
      have hLn : max (old.length : Int) ((k : Int) + (n : Int)) = (L : Int) := by rw [hL, hYY, hY]; omega
      rw [← hYY, ← hL] at hy1
      rw [← hYY] at HY3 HY8
      rw [← hYY, ← hL]
      have hLb : L ≤ 6000 := by rw [hL, hYY, hY]; omega
      have HYY := Lib.hid hYY; have HL := Lib.hid hL
      clear hrv hy2 hE7 hY hy3 hYY hL
      go_upto_block 0 with fail
      go_cut [13] (fun _i wx => Ext w7 wx)
      case first =>
        go_wp2_with fail
        go_loopg [13] L (fun g ix wr => ∃ (i : Nat), i + g = L ∧ ix = .int .i64 (i : Int) ∧ Ext w7 wr)
        case atStart => exact ⟨0, by omega, rfl, Ext.refl _⟩
        case round =>
          obtain ⟨i, hiL, rfl, hEr⟩ := hrel
          have HER := Lib.hid hEr
          clear hEr
          by_cases hlt : i < L
          · have hYn : Y ≠ [] := by intro e; have := HL.out; rw [e] at this; simp at this; omega
            obtain ⟨yb, yo, rfl, hyc⟩ : ∃ b o, ya = some ⟨b, o, none⟩ ∧ ∀ j, j < Y.length → w7.cell? ⟨b, o + j, none⟩ = some (.int .u8 (Y.getD j 0)) := by
              rcases HY3.out with h | h
              · exact absurd h hYn
              · exact h
            have yc0 := HER.out.cell (hyc i (by rw [← HL.out]; exact hlt))
            obtain ⟨z, hz⟩ : ∃ z, z = Y.getD i 0 := ⟨_, rfl⟩
            rw [← hz] at yc0
            have hget := tornY_get (old := old) (b := b) (k := k) (n := n) (i := i) hnb (by have := hLn; omega)
            rw [← HYY.out, ← hz] at hget
            have HGET := Lib.hid hget
            clear hyc hYn hz hget
            by_cases hin : k ≤ i ∧ i < k + n
            · obtain ⟨j, hj⟩ : ∃ j, j = i - k := ⟨_, rfl⟩
              have hij : (i : Int) - (k : Int) = (j : Int) := by omega
              have hjb : j < b.length := by omega
              have hki : (k : Int) ≤ (i : Int) := by omega
              have hin2 : (i : Int) < (k : Int) + (n : Int) := by omega
              have hzb : z = b.getD j 0 := by rw [HGET.out, if_pos hin, hj]
              obtain ⟨bb, bo, rfl, bc0⟩ : ∃ b1 o, ba = some ⟨b1, o, none⟩ ∧ wr.cell? ⟨b1, o + j, none⟩ = some (.int .u8 z) := by
                rcases HB3.out with h | ⟨b1, o, h1, h2⟩
                · rw [h] at hjb; simp at hjb
                · exact ⟨b1, o, h1, by rw [hzb]; exact (HE7.out.trans HER.out).cell (h2 j hjb)⟩
              clear HGET hin hj hzb
              go_upto_region 16 with fail
              apply Mono.region1 11 Ext [.is _, .is _, .is _, .is _, .is _, .is _, .is _, .is _, .is _, .is _, .is _] (by kernel_rfl) Ext.refl (fun _ _ _ => Ext.trans) (by kernel_rfl) rfl rfl trivial
              focus
                iterate 11 (apply Mono.step_is; (· refine Mono.obl_mk fun w3 hE3 _ K hK => ?_; (replace yc0 := hE3.cell (show wr.drew.cell? _ = _ from yc0)); (replace bc0 := hE3.cell (show wr.drew.cell? _ = _ from bc0)); clear hE3; go_wp2_with fail; simp only [Act.put, List.setIfInBounds_toArray, List.set_cons_succ, List.set_cons_zero] at hK; exact hK _ _ (Ext.refl _) (Mono.is_rfl _ _)); simp only [Act.put, List.setIfInBounds_toArray, List.set_cons_succ, List.set_cons_zero])
                refine Mono.step_end fun w3 hE3 hkn => ?_
                simp only [List.drop_succ_cons, List.drop_zero]
                clear hkn
                have HE8 := Lib.hid (HER.out.trans ((Ext.drew _).trans hE3))
                clear hE3
                go_wp2_with fail
                go_roundg (gk - 1)
                case measure => omega
                case rel => exact ⟨i + 1, by omega, by go_num, HE8.out⟩
            · have hio : i < old.length := by have := hLn; omega
              have hzb : z = old.getD i 0 := by rw [HGET.out, if_neg hin]
              obtain ⟨bb, bo, rfl, bc0⟩ : ∃ b1 o, oa = some ⟨b1, o, none⟩ ∧ wr.cell? ⟨b1, o + i, none⟩ = some (.int .u8 z) := by
                rcases HO3.out with h | ⟨b1, o, h1, h2⟩
                · rw [h] at hio; simp at hio
                · exact ⟨b1, o, h1, by rw [hzb]; exact (HE7.out.trans HER.out).cell (h2 i hio)⟩
              have hcase : (i : Int) < (k : Int) ∨ ((k : Int) ≤ (i : Int) ∧ (k : Int) + (n : Int) ≤ (i : Int)) := by omega
              clear HGET hin hzb
              rcases hcase with hc1 | ⟨hc1, hc2⟩
              all_goals
                go_upto_region 18 with fail
                apply Mono.region1 9 Ext [.is _, .is _, .is _, .is _, .is _, .is _, .is _, .is _, .is _] (by kernel_rfl) Ext.refl (fun _ _ _ => Ext.trans) (by kernel_rfl) rfl rfl trivial
                focus
                  iterate 9 (apply Mono.step_is; (· refine Mono.obl_mk fun w3 hE3 _ K hK => ?_; (replace yc0 := hE3.cell (show wr.drew.cell? _ = _ from yc0)); (replace bc0 := hE3.cell (show wr.drew.cell? _ = _ from bc0)); clear hE3; go_wp2_with fail; simp only [Act.put, List.setIfInBounds_toArray, List.set_cons_succ, List.set_cons_zero] at hK; exact hK _ _ (Ext.refl _) (Mono.is_rfl _ _)); simp only [Act.put, List.setIfInBounds_toArray, List.set_cons_succ, List.set_cons_zero])
                  refine Mono.step_end fun w3 hE3 hkn => ?_
                  simp only [List.drop_succ_cons, List.drop_zero]
                  clear hkn
                  have HE8 := Lib.hid (HER.out.trans ((Ext.drew _).trans hE3))
                  clear hE3
                  go_wp2_with fail
                  go_roundg (gk - 1)
                  case measure => omega
                  case rel => exact ⟨i + 1, by omega, by go_num, HE8.out⟩
          · have hge : (L : Int) ≤ (i : Int) := by omega
            clear hlt
            go_wp2_with fail
            go_meet
            exact HER.out
      case rest =>
      have HEX := Lib.hid hcut
      clear hcut
      go_wp2_with fail
      go_ret
      exact ⟨rfl, HE7.out.trans HEX.out⟩
    · have hbl' : (3000 : Int) < (b.length : Int) := by omega
      have hol' : (old.length : Int) ≤ 3000 := by omega
      clear hbl
      go_wp2_with fail
      refine (awake_c w1).mono ?_
      rintro e w2 ⟨rfl, hE2⟩
      have HE2 := Lib.hid hE2; clear hE2
      go_wp2_with fail
      go_ret
      exact ⟨rfl, HE1.out.trans HE2.out⟩
  · have hol' : (3000 : Int) < (old.length : Int) := by omega
    clear hol
    go_wp2_with fail
    refine (awake_c w1).mono ?_
    rintro e w2 ⟨rfl, hE2⟩
    have HE2 := Lib.hid hE2; clear hE2
    go_wp2_with fail
    go_ret
    exact ⟨rfl, HE1.out.trans HE2.out⟩
end Go.Proofs.YtmffknllnjagoaaDoor
