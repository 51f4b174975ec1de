/- tabellionlaw09: awake, WalNil. -/
import Derived.Test.YtafjjladnghjbaaGreatDoorWal5
namespace Go.Proofs.YtafjjladnghjbaaGreatDoor
open Go Go.RowKit Go.Maps

theorem aw9_write : (writeS (dkNew 1073741824) (segN ⟨#[97]⟩ 1) 0 (frmB (numB 0) ++ frmB [120])).1 = 0 := by
  have hn : namedB (segN ⟨#[97]⟩ 1) = true := by unfold segN; rw [dec1]; decide
  have hl : (frmB (numB 0) ++ frmB [120]).length ≤ 100 := by
    rw [List.length_append, frmB_len, frmB_len, numB_len]
    have := numK_le 0; have := numK_le (numK 0 + 1); have := numK_le [(120 : Int)].length
    simp only [List.length_cons, List.length_nil] at *; omega
  unfold writeS
  rw [hn, if_neg (by simp [dkNew]), if_neg (by simp), if_neg (by omega), if_neg]
  · rfl
  · unfold growsB
    simp only [dkNew, usedF, getG, Option.getD_none]
    split
    · simp only [List.map_nil, List.sum_nil]; omega
    · simp only [List.length_append] at hl; simp; omega
set_option maxRecDepth 100000 in
set_option maxHeartbeats 1000000 in
theorem awake9_c (w : World) : Calls Tryz.prog 7 #[] w fun e w' => e = .returned (.bool true) ∧ Ext w w' := by
  have hconv := fun (w : World) (v : Value) (h : Rd w v (u8s [120])) => h.convert (P := Tryz.prog) Tryz.underlying23 Tryz.underlying5 Tryz.underlying9
  have hstr : strOfNums [120] = ⟨#[120]⟩ := by rfl
  have kc := fun (w : World) (C : Array Value) (n c : Nat) => Lib.run_convert_bytes_const (P := Tryz.prog) w 23 5 C n c Tryz.underlying23 Tryz.underlying5
  have HCV := Lib.hid hconv; have HST := Lib.hid hstr
  clear hconv hstr
  go_enter Tryz.func7, Tryz.ntmps7
  go_wp2_with fail
  refine (new_c 20000 1073741824 [] w (by omega) (by omega) (by simp)).mono ?_
  rintro e w1 ⟨d, rfl, hd, hE1, hdw⟩
  have HD := Lib.hid hd; have HE1 := Lib.hid hE1
  clear hd hE1
  go_wp2_with fail
  refine (wopen_fresh d 0 20000 _ [] (dkNew 1073741824) ⟨#[97]⟩ w1 HD.out (by omega) (by omega) (by decide) rfl rfl rfl).mono ?_
  rintro e w2 ⟨l, rfl, hB, hl, hE2⟩
  have HB := Lib.hid hB; have HE2 := Lib.hid hE2
  clear hB hE2
  have HX := Lib.hid (Ext.alloc w2 (.cells #[.int .u8 120] 5 (1, 2)))
  have HRX : Hid (Rd (w2.alloc (.cells #[.int .u8 120] 5 (1, 2))) (.slice (some ⟨w2.heap.size, 0, none⟩) 1 1) (u8s [120])) := Lib.hid (by
    refine ⟨_, 1, rfl, Nat.le_refl _, by unfold maxLen; omega, .inr ⟨w2.heap.size, 0, rfl, fun j u hj => ?_⟩⟩
    rw [World.cell?_alloc_mark, Nat.zero_add]
    simpa [u8s] using hj)
  go_wp2_with fail
  refine (wappend_fresh l d 0 20000 _ [] (dkNew 1073741824) ⟨#[97]⟩ _ [120] _ (show LogB _ _ _ _ _ _ _ _ _ from Blk.ext (show Blk _ _ _ _ from HB.out) HX.out) (HD.out.ext (HE2.out.trans HX.out)) (fun h => by have := HD.out.low _ h; omega) (by omega) (by simp [dkNew]) (by omega) (by omega) (by omega) HRX.out (by intro a n c hv _ hm; cases hv; have h1 := HD.out.low _ hm; have h2 := HE2.out.size; dsimp only at h1; omega) (by intro z hz; simp at hz; omega) (by simp) (by decide) aw9_write).mono ?_
  rintro e w3 ⟨rfl, O', rv, sv, c, hB3, hR3, hr3, hD3, hC3, -, -⟩
  have hC3' : Ext w w3 := ((Chg.ext (HE1.out.trans (HE2.out.trans HX.out)) : Chg (l :: [d, w.heap.size, w.heap.size + 1]) w _).trans' hC3 (fun t ht => .inl ht)).toExt (fun t ht => by
    have h0 := HE1.out.size
    simp only [List.mem_cons, List.not_mem_nil, or_false] at ht
    rcases ht with rfl | rfl | rfl | rfl <;> omega)
  obtain ⟨va, vn, vc, rfl⟩ := hR3.shape
  obtain rfl : vn = 1 := by obtain ⟨a, c, h, -⟩ := hR3; cases h; rfl
  have HB3 := Lib.hid hB3; have HR3 := Lib.hid hR3; have Hr3 := Lib.hid hr3; have HE3 := Lib.hid hC3'
  clear hB3 hR3 hr3 hD3 hC3 hC3'
  go_wp2_with fail
  refine (wnext_c l d _ 0 _ va 1 vc _ _ w3 (show LogB w3 l d _ ((0 : Nat) : Int) _ _ _ _ from HB3.out) (by omega)).mono ?_
  rintro e w4 ⟨rfl, hE4⟩
  have HE4 := Lib.hid hE4
  clear hE4
  go_wp2_with fail
  refine (wget_c l d _ 0 _ va 1 vc _ _ [c] c [120] 0 w4 (show LogB w4 l d _ ((0 : Nat) : Int) _ _ _ _ from Blk.ext (show Blk _ _ _ _ from HB3.out) HE4.out) (HR3.out.ext HE4.out) rfl (Hr3.out.ext HE4.out) (by omega) (by simp)).mono ?_
  rintro e w5 ⟨v, rfl, ho, hE5⟩
  have hk := HCV.out w5 v (Rd.of_own ho)
  rw [HST.out] at hk
  obtain ⟨xa, xn, xc, rfl⟩ := (Rd.of_own ho).shape
  have HE5 := Lib.hid hE5
  clear ho hE5
  go_wp2_with fail
  go_ret
  exact ⟨rfl, HE3.out.trans (HE4.out.trans HE5.out)⟩
set_option maxRecDepth 100000 in
set_option maxHeartbeats 4000000 in
/-- WalNil is true. -/
theorem walnil_c (name : ByteArray) (n : Int) (bv : Value) (w : World) (hs : name.size ≤ maxLen) (hn : 0 ≤ n) : Calls Tryz.prog 3 #[.string name, .int .u64 n, bv] w fun e w' => e = .returned (.bool true) ∧ Ext w w' := by
  have HS := Lib.hid hs; have HN := Lib.hid hn
  have HL4 : Hid (named4 ⟨#[108, 111, 103]⟩ = true) := Lib.hid (by decide)
  clear hs
  go_enter Tryz.func3, Tryz.ntmps3
  go_wp2_with fail
  refine (awake9_c w).mono ?_
  rintro e w1 ⟨rfl, hE1⟩
  have HE1 := Lib.hid hE1
  clear hE1
  go_wp2_with fail
  refine (wget_nil n w1 HN.out).mono ?_
  rintro e w2 ⟨rfl, hE2⟩
  have HE2 := Lib.hid (HE1.out.trans hE2)
  clear hE2 HE1
  go_wp2_with fail
  refine (new_c 48 100 [] w2 (by omega) (by omega) (by simp)).mono ?_
  rintro e w3 ⟨d, rfl, hd, hE3, _⟩
  have HD := Lib.hid hd; have HE3 := Lib.hid (HE2.out.trans hE3)
  clear hd hE3 HE2
  go_wp2_with fail
  obtain ⟨b, hb⟩ : ∃ b, b = named4 name := ⟨_, rfl⟩
  have HB := Lib.hid hb
  obtain ⟨E, hE⟩ : ∃ E : Int, E = if b then 0 else 1 := ⟨_, rfl⟩
  have HEE := Lib.hid hE
  have hop : Calls Tryz.prog 9 #[dptr d, .string name] w3 fun e w' => ∃ cv, e = .returned (.tuple #[cv, .int .i64 E]) ∧ Ext w3 w' := by
    rw [hE]
    cases hbb : named4 name with
    | false =>
      rw [hb, hbb]
      exact (wopen_arg (dptr d) name w3 HS.out hbb).mono fun e w' ⟨h1, h2⟩ => ⟨_, h1, h2⟩
    | true =>
      rw [hb, hbb]
      refine (wopen_fresh d 0 48 _ [] (dkNew 100) name w3 HD.out (by omega) (by omega) hbb rfl rfl rfl).mono ?_
      rintro e w' ⟨c, h1, _, _, h2⟩
      exact ⟨_, h1, h2⟩
  clear hb hE
  refine hop.mono ?_
  rintro e w4 ⟨cv, rfl, hE4⟩
  have HE4 := Lib.hid (HE3.out.trans hE4)
  clear hE4 HE3 hop
  go_wp2_with fail
  refine (wopen_nil ⟨#[108, 111, 103]⟩ w4 HL4.out).mono ?_
  rintro e w5 ⟨rfl, hE5⟩
  have HE5 := Lib.hid (HE4.out.trans hE5)
  clear hE5 HE4
  go_wp2_with fail
  refine (named9_c name w5 HS.out).mono ?_
  rintro e w6 ⟨rfl, rfl⟩
  rw [← HB.out]
  cases b with
  | false =>
    obtain rfl : E = 1 := HEE.out
    go_wp2_with fail
    refine (wfirst_nil _).mono ?_
    rintro e w7 ⟨rfl, rfl⟩
    go_wp2_with fail
    refine (wnext_nil _).mono ?_
    rintro e w8 ⟨rfl, rfl⟩
    go_wp2_with fail
    refine (wappend_nil bv _).mono ?_
    rintro e w9 ⟨rfl, hE9⟩
    have HE9 := Lib.hid (HE5.out.trans hE9)
    clear hE9
    go_wp2_with fail
    refine (wsync_nil _).mono ?_
    rintro e w10 ⟨rfl, hE10⟩
    have HE10 := Lib.hid (HE9.out.trans hE10)
    clear hE10
    go_wp2_with fail
    refine (wcut_nil n _).mono ?_
    rintro e w11 ⟨rfl, hE11⟩
    have HE11 := Lib.hid (HE10.out.trans hE11)
    clear hE11
    go_wp2_with fail
    refine (wtrim_nil n _).mono ?_
    rintro e w12 ⟨rfl, hE12⟩
    have HE12 := Lib.hid (HE11.out.trans hE12)
    clear hE12
    go_wp2_with fail
    go_ret
    exact ⟨rfl, HE12.out⟩
  | true =>
    obtain rfl : E = 0 := HEE.out
    go_wp2_with fail
    refine (wfirst_nil _).mono ?_
    rintro e w7 ⟨rfl, rfl⟩
    go_wp2_with fail
    refine (wnext_nil _).mono ?_
    rintro e w8 ⟨rfl, rfl⟩
    go_wp2_with fail
    refine (wappend_nil bv _).mono ?_
    rintro e w9 ⟨rfl, hE9⟩
    have HE9 := Lib.hid (HE5.out.trans hE9)
    clear hE9
    go_wp2_with fail
    refine (wsync_nil _).mono ?_
    rintro e w10 ⟨rfl, hE10⟩
    have HE10 := Lib.hid (HE9.out.trans hE10)
    clear hE10
    go_wp2_with fail
    refine (wcut_nil n _).mono ?_
    rintro e w11 ⟨rfl, hE11⟩
    have HE11 := Lib.hid (HE10.out.trans hE11)
    clear hE11
    go_wp2_with fail
    refine (wtrim_nil n _).mono ?_
    rintro e w12 ⟨rfl, hE12⟩
    have HE12 := Lib.hid (HE11.out.trans hE12)
    clear hE12
    go_wp2_with fail
    go_ret
    exact ⟨rfl, HE12.out⟩
end Go.Proofs.YtafjjladnghjbaaGreatDoor
