/- tabellionlaw10: CellNil. -/
import Derived.Test.YtapclkjpokbgbaaDoorCel6
set_option linter.unusedSimpArgs false
set_option linter.unusedVariables false
namespace Go.Proofs.YtapclkjpokbgbaaDoor
open Go Go.RowKit Go.Maps

set_option maxRecDepth 100000 in
set_option maxHeartbeats 2000000 in
/-- CellNil is true. -/
theorem cellnil_c (name : ByteArray) (t v : Int) (w : World) (hs : name.size ≤ maxLen) : Calls Tryd.prog 3 #[.string name, hardV t v] w fun e w' => e = .returned (.bool true) ∧ Ext w w' := by
  have hv4 : named4 ⟨#[118, 111, 116, 101]⟩ = true := by decide
  have HS := Lib.hid hs; have HV4 := Lib.hid hv4
  clear hs hv4
  go_enter Tryd.func3, Tryd.ntmps3
  simp only [hardV]
  obtain ⟨w1, hw1⟩ : ∃ w1, w1 = w.alloc (.cells #[.int .u64 t, .int .u64 v] 24) := ⟨_, rfl⟩
  have hE1 : Ext w w1 := by rw [hw1]; exact Ext.alloc _ _
  have hP : Blk w1 w.heap.size #[.int .u64 t, .int .u64 v] 24 := by rw [hw1]; exact Blk.new _ _ _
  go_upto_region 1 with fail
  rw [← hw1]
  obtain ⟨p, hp⟩ : ∃ p, p = w.heap.size := ⟨_, rfl⟩
  rw [← hp] at hP ⊢
  have HE1 := Lib.hid hE1; have HP := Lib.hid hP
  clear hE1 hP hw1 hp
  go_wp2_with fail
  refine (awake10_c w1).mono ?_
  rintro e w2 ⟨rfl, hE2⟩
  have HE2 := Lib.hid (HE1.out.trans hE2); have HP2 := Lib.hid (HP.out.ext hE2)
  clear hE2 HP HE1
  go_wp2_with fail
  refine (new_c 48 200 [] w2 (by omega) (by omega) (by simp)).mono ?_
  rintro e w3 ⟨d, rfl, hd, hE3, _⟩
  have HD := Lib.hid hd; have HE3 := Lib.hid (HE2.out.trans hE3); have HP3 := Lib.hid (HP2.out.ext hE3)
  clear hd hE3 HP2 HE2
  go_wp2_with fail
  obtain ⟨b, hb⟩ : ∃ b, b = named4 name := ⟨_, rfl⟩
  have HB := Lib.hid hb
  obtain ⟨E, hE⟩ : ∃ E : Int, E = if b then 0 else 1 := ⟨_, rfl⟩
  have HEE := Lib.hid hE
  have hop : Calls Tryd.prog 9 #[dptr d, .string name] w3 fun e w' => ∃ cv, e = .returned (.tuple #[cv, .int .i64 E]) ∧ Ext w3 w' := by
    rw [hE]
    cases hbb : named4 name with
    | false =>
      rw [hb, hbb]
      exact (open_arg (dptr d) name w3 HS.out hbb).mono fun e w' ⟨h1, h2⟩ => ⟨_, h1, h2⟩
    | true =>
      rw [hb, hbb]
      refine (open_ok d 0 48 _ [] (dkNew 200) name w3 HD.out (by omega) hbb rfl rfl).mono ?_
      rintro e w' ⟨c, h1, _, _, h2⟩
      exact ⟨_, h1, h2⟩
  clear hb hE
  refine hop.mono ?_
  rintro e w4 ⟨cv, rfl, hE4⟩
  have HE4 := Lib.hid (HE3.out.trans hE4); have HP4 := Lib.hid (HP3.out.ext hE4)
  clear hE4 HP3 HE3 hop
  go_wp2_with fail
  refine (open_nil ⟨#[118, 111, 116, 101]⟩ w4 HV4.out).mono ?_
  rintro e w5 ⟨rfl, hE5⟩
  have HE5 := Lib.hid (HE4.out.trans hE5); have HP5 := Lib.hid (HP4.out.ext hE5)
  clear hE5 HP4 HE4
  go_wp2_with fail
  refine (named9_c name w5 HS.out).mono ?_
  rintro e w6 ⟨rfl, rfl⟩
  rw [← HB.out]
  obtain ⟨q0, q1⟩ : w6.cell? ⟨p, 0, none⟩ = some (.int .u64 t) ∧ w6.cell? ⟨p, 1, none⟩ = some (.int .u64 v) := ⟨HP5.out.cell 0 rfl, HP5.out.cell 1 rfl⟩
  cases b with
  | false =>
    obtain rfl : E = 1 := HEE.out
    go_wp2_with fail
    refine (set_nil (hardV t v) w6 ⟨_, _, rfl⟩).mono ?_
    rintro e w7 ⟨rfl, hE7⟩
    have HE7 := Lib.hid (HE5.out.trans hE7)
    clear hE7
    go_wp2_with fail
    refine (get_nil w7).mono ?_
    rintro e w8 ⟨rfl, hE8⟩
    have HE8 := Lib.hid (HE7.out.trans hE8)
    clear hE8
    simp only [hardV]
    go_wp2_with fail
    go_ret
    exact ⟨rfl, HE8.out⟩
  | true =>
    obtain rfl : E = 0 := HEE.out
    go_wp2_with fail
    refine (set_nil (hardV t v) w6 ⟨_, _, rfl⟩).mono ?_
    rintro e w7 ⟨rfl, hE7⟩
    have HE7 := Lib.hid (HE5.out.trans hE7)
    clear hE7
    go_wp2_with fail
    refine (get_nil w7).mono ?_
    rintro e w8 ⟨rfl, hE8⟩
    have HE8 := Lib.hid (HE7.out.trans hE8)
    clear hE8
    simp only [hardV]
    go_wp2_with fail
    go_ret
    exact ⟨rfl, HE8.out⟩
end Go.Proofs.YtapclkjpokbgbaaDoor
