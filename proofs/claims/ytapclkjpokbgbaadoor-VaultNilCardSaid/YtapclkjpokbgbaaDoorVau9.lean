/- tabellionlaw11: VaultNil (printed by wip/gen/vnil.py). -/
import Derived.Test.YtapclkjpokbgbaaDoorVau8
import Derived.Test.YtapclkjpokbgbaaDoorCel6
set_option linter.unusedSimpArgs false
set_option linter.unusedVariables false
namespace Go.Proofs.YtapclkjpokbgbaaDoor
open Go Go.RowKit Go.Maps

def elseN : ByteArray := ⟨#[101, 108, 115, 101]⟩
theorem else_ne {name e : ByteArray} (h : 0 < name.size) (he : e.size = 4) : nmOf elseN ≠ nmOf (name ++ e) := by
  intro x
  have := congrArg List.length x
  rw [nm_app, List.length_append] at this
  have h1 : (nmOf elseN).length = 4 := rfl
  have h2 : (nmOf name).length = name.size := Array.length_toList
  have h3 : (nmOf e).length = e.size := Array.length_toList
  omega
theorem ne_else {name e : ByteArray} (h : 0 < name.size) (he : e.size = 4) (x : List Int) : getG (nmOf (name ++ e)) [(nmOf elseN, x)] = none := by
  rw [getG_none]
  intro p hp
  simp at hp
  subst hp
  exact else_ne h he
def elseDk (b : List Int) : Dk := { dkNew 1048576 with now := [(nmOf elseN, b)], waits := [⟨119, elseN, ⟨#[]⟩, 0, b⟩] }
theorem else_write (b : List Int) (hb : b.length ≤ 1000) : writeS (dkNew 1048576) elseN 0 b = (0, elseDk b) := by
  have hg : growsB (dkNew 1048576).now elseN 0 b ≤ b.length := by
    unfold growsB
    rw [show getG (nmOf elseN) (dkNew 1048576).now = none from rfl]
    split <;> simp <;> omega
  have hu : usedF (dkNew 1048576).now = 0 := rfl
  have hr : (dkNew 1048576).room = 1048576 := rfl
  unfold writeS
  rw [if_neg (by simp [dkNew]), if_neg (by decide), if_neg (by omega), if_neg (by rw [hu, hr]; omega)]
  rw [wait_1 _ (by simp [dkNew])]
  have hd : doF ⟨119, elseN, ⟨#[]⟩, 0, b⟩ (dkNew 1048576).now = [(nmOf elseN, b)] := by
    unfold doF
    rw [if_pos rfl]
    show (if b = [] then putG _ ((getG _ ([] : FL)).getD []) [] else putG _ (over ((getG _ ([] : FL)).getD []) 0 b) []) = _
    by_cases hb0 : b = []
    · rw [if_pos hb0, hb0]; rfl
    · rw [if_neg hb0, show ((getG (nmOf elseN) ([] : FL)).getD []) = [] from rfl, over_fresh]; rfl
  rw [hd]; rfl
theorem else_read (b : List Int) : readS (elseDk b) elseN = (b, 0) := by
  unfold readS
  rw [if_neg (by simp [elseDk, dkNew])]
  rfl
set_option maxRecDepth 100000 in
set_option maxHeartbeats 2000000 in
/-- VaultNil is true. -/
theorem vaultnil_c (name : ByteArray) (bv : Value) (b : List Int) (w : World) (hs : name.size ≤ maxLen) (hb : Rd w bv (u8s b)) (hb8 : B8 b) : Calls Tryd.prog 4 #[.string name, bv] w fun e w' => e = .returned (.bool true) ∧ Ext w w' := by
  have HCV := Lib.hid (fun (w : World) (v : Value) (xs : List Int) (h : Rd w v (u8s xs)) => h.convert (P := Tryd.prog) Tryd.underlying36 Tryd.underlying5 Tryd.underlying9)
  have HB := Lib.hid hb; have HB8 := Lib.hid hb8; have HS := Lib.hid hs
  obtain ⟨ba, bc, rfl, _, hbc, _⟩ := hb
  have hbm := HB.out.len
  rw [u8s_len] at HB hbm ⊢
  obtain ⟨L, hL⟩ : ∃ L, L = b.length := ⟨_, rfl⟩
  rw [← hL] at HB hbm ⊢
  replace hbm : L ≤ 9223372036854775807 := by unfold maxLen at hbm; omega
  have HL := Lib.hid hL
  clear hL hb8 hs hbc
  go_enter Tryd.func4, Tryd.ntmps4
  go_wp2_with fail
  refine (awake11_c w).mono ?_
  rintro e w1 ⟨rfl, hE1⟩
  have HE1 := Lib.hid hE1
  clear hE1
  by_cases hlen : 1000 < L
  · have hi : (1000 : Int) < L := by omega
    clear hlen
    go_wp2_with fail
    refine (awake11_c w1).mono ?_
    rintro e w2 ⟨rfl, hE2⟩
    have HE2 := Lib.hid (HE1.out.trans hE2)
    clear hE2
    go_wp2_with fail
    go_ret
    exact ⟨rfl, HE2.out⟩
  have hi : (L : Int) ≤ 1000 := by omega
  have HLI := Lib.hid (show L ≤ 1000 by omega)
  clear hlen
  go_wp2_with fail
  refine (new_c 32768 1048576 [] w1 (by omega) (by omega) (by simp)).mono ?_
  rintro e w2 ⟨d, rfl, hd, hE2, hdw⟩
  have HD := Lib.hid hd; have HE2 := Lib.hid (HE1.out.trans hE2)
  have HNO := Lib.hid (show ∀ k ∈ [d, w1.heap.size, w1.heap.size + 1], w.heap.size ≤ k from fun t ht => by simp at ht; have := HE1.out.size; omega)
  clear hd hE2 hdw
  go_wp2_with fail
  refine (write_c d 0 32768 _ [] (dkNew 1048576) elseN 0 b (.slice ba L bc) w2 HD.out (by omega) (by simp [dkNew]) (by omega) (by omega) (by decide) (by omega) (by omega) (HB.out.ext HE2.out) HB8.out (by intro _ _; have := HL.out; have := HLI.out; omega)).mono ?_
  rintro e w3 ⟨rfl, O3, hd3, ht3⟩
  rw [else_write b (by have := HL.out; have := HLI.out; omega)] at hd3 ⊢
  have HD3 := Lib.hid hd3; have HE3 := Lib.hid (ht3.toExt HE2.out HNO.out); have HNO3 := Lib.hid (ht3.new HNO.out HE2.out.size)
  clear hd3 ht3 HD HNO
  go_wp2_with fail
  by_cases hn : named4 name = true
  · obtain ⟨g0, g4, _⟩ := named4_parts hn
    have HNM := Lib.hid hn
    refine (vopen_c d (0 + 1) 32768 O3 [] (elseDk b) name w3 HD3.out (by omega) (by simp [elseDk]) (by omega) hn rfl).mono ?_
    rintro e w4 ⟨O4, hd4, ht4, h⟩
    have hrm : removeS (elseDk b) (vfresh name) = (8, elseDk b) := by
      unfold removeS
      rw [if_neg (by simp [elseDk, dkNew]), show (elseDk b).now = [(nmOf elseN, b)] from rfl, show getG (nmOf (vfresh name)) [(nmOf elseN, b)] = none from ne_else g0 rfl b]
    have hrd : readS (elseDk b) (vnow name) = ([], 8) := by
      unfold readS
      rw [if_neg (by simp [elseDk, dkNew]), show (elseDk b).now = [(nmOf elseN, b)] from rfl, show getG (nmOf (vnow name)) [(nmOf elseN, b)] = none from ne_else g0 rfl b]
    obtain ⟨S4, hS4⟩ : ∃ S4, S4 = ({ elseDk b with sure := (elseDk b).now, waits := [] } : Dk) := ⟨_, rfl⟩
    have hop : openV (elseDk b) name = (0, S4) := by
      unfold openV
      rw [hrm, if_neg (by simp), if_neg (by simp [elseDk]), sync_1 (by rfl) (by simp [elseDk, dkNew]), if_neg (by simp), hS4]
      rfl
    rw [hop, hrd] at h
    rw [hop] at hd4
    have hI4 : VInv name S4 ([], false) := by
      rw [hS4]
      exact ⟨⟨rfl, rfl, rfl, ne_else g0 rfl b, fun _ => rfl⟩, ne_else g0 rfl b⟩
    have hr4 : S4.room = 1048576 := by rw [hS4]; rfl
    have hf4 : S4.fuse = -1 := by rw [hS4]; rfl
    have he4 : getG (nmOf elseN) S4.now = some b := by rw [hS4]; rfl
    rcases h with ⟨h6, _⟩ | ⟨_, v, ov, rfl, hv, hvO, hvb, hrdv, hfr, hof, _⟩
    · exact absurd h6 (by simp)
    have hE4 : Ext w w4 := ht4.toExt HE3.out HNO3.out
    have hN4 := ht4.new HNO3.out HE3.out.size
    have hV4 : VS w w4 v d (0 + 1 + 1) O4 S4 name ([], false) false ov := ⟨hd4, hvb, hrdv, by simp, hfr.mono HE3.out.size, hof, hvO, hE4, hN4, Nat.le_trans HE3.out.size hv⟩
    have HV4 := Lib.hid hV4; have HI4 := Lib.hid hI4; have HR4 := Lib.hid hr4; have HF4 := Lib.hid hf4; have HG4 := Lib.hid he4
    clear hd4 ht4 hrm hrd hop hI4 hr4 hf4 he4 hv hvO hvb hrdv hfr hof hE4 hN4 hV4 hS4 HD3 HE3 HNO3
    go_wp2_with fail
    refine (vopen_nil ⟨#[115, 110, 97, 112]⟩ w4 (by decide)).mono ?_
    rintro e w5 ⟨rfl, hE5⟩
    have HV5 := Lib.hid (HV4.out.ext hE5)
    clear hE5 HV4
    go_wp2_with fail
    refine (named9_c name w5 HS.out).mono ?_
    rintro e w6 ⟨rfl, rfl⟩
    rw [HNM.out]
    clear hn
    go_wp2_with fail
    refine (vput_s w v d (0 + 1 + 1) O4 S4 name ([], false) ov (.slice ba L bc) b w6 HV5.out (by omega) HNM.out HI4.out (by rw [HR4.out]; have := HV5.out.dk.usedN; have := HL.out; have := HLI.out; omega) (HB.out.ext HV5.out.old) (fun a n c e hne hm => by have := Rd.ltB HB.out e hne; have := HV5.out.newO _ hm; omega) HB8.out (by have := HL.out; have := HLI.out; omega)).mono ?_
    rintro e w7 ⟨hP, rfl, _, O7, _, cv', h⟩
    rcases hP with ⟨p1, hI7, _, _, hot⟩ | ⟨_, p2, _⟩
    rotate_left
    · exact absurd HF4.out p2
    rw [p1]
    rcases h with ⟨_, hV7, _⟩ | ⟨h6, _⟩
    rotate_left
    · exact absurd (p1.symm.trans h6) (by decide)
    obtain ⟨S7, hS7⟩ : ∃ S7, S7 = (putV S4 name b).2 := ⟨_, rfl⟩
    have hrz : readS S7 elseN = (b, 0) := by
      have hg : getG (nmOf elseN) S7.now = some b := by
        rw [hS7, hot (nmOf elseN) (else_ne g0 rfl) (else_ne g0 rfl)]; exact HG4.out
      unfold readS
      rw [if_neg (by rw [hS7, hI7.off]; simp), hg]
    rw [← hS7] at hV7
    have HDZ := Lib.hid hV7.dk; have HEX := Lib.hid hV7.old; have HRZ := Lib.hid hrz
    clear hI7 hV7 hot hrz hS7 HV5 HI4 HR4 HF4 HG4 p1
    go_wp2_with fail
    refine (read_c d (0 + 1 + 1 + 2) 32768 O7 [] S7 elseN w7 HDZ.out (by omega) (by decide)).mono ?_
    rintro e wz ⟨zv, rfl, hrz, _, hEz⟩
    rw [HRZ.out] at hrz ⊢
    dsimp only at hrz ⊢
    obtain ⟨za, zl, zc, rfl⟩ := hrz.shape
    have HRZ2 := Lib.hid hrz; have HEZ := Lib.hid (HEX.out.trans hEz)
    clear hrz hEz HDZ HRZ
    go_wp2_with fail
    refine (vput_nil (.slice ba L bc) wz).mono ?_
    rintro e wy ⟨rfl, hEy⟩
    have HEY := Lib.hid (HEZ.out.trans hEy); have HRZ3 := Lib.hid (HRZ2.out.ext hEy)
    clear hEy HEZ HRZ2
    go_wp2_with fail
    refine (text_nil wy).mono ?_
    rintro e wx ⟨rfl, hEx⟩
    have HEX2 := Lib.hid (HEY.out.trans hEx)
    have cz := HCV.out wx _ _ (HRZ3.out.ext hEx)
    have cb := HCV.out wx _ _ (HB.out.ext (HEY.out.trans hEx))
    clear hEx HEY HRZ3
    simp only [textV]
    have hs0 : strOfNums [] = ⟨#[]⟩ := rfl
    rw [hs0]
    clear hs0
    go_wp2_with fail
    go_ret
    exact ⟨rfl, HEX2.out⟩
  · have hn' : named4 name = false := by simpa using hn
    have HNM := Lib.hid hn'
    refine (vopen_arg (dptr d) name w3 HS.out hn').mono ?_
    rintro e w4 ⟨rfl, hE4⟩
    have HD4 := Lib.hid (HD3.out.ext hE4); have HE4 := Lib.hid (HE3.out.trans hE4)
    clear hE4 hn hn' HD3 HE3
    go_wp2_with fail
    refine (vopen_nil ⟨#[115, 110, 97, 112]⟩ w4 (by decide)).mono ?_
    rintro e w5 ⟨rfl, hE5⟩
    have HDZ := Lib.hid (HD4.out.ext hE5); have HEX := Lib.hid (HE4.out.trans hE5)
    clear hE5 HD4 HE4
    go_wp2_with fail
    refine (named9_c name w5 HS.out).mono ?_
    rintro e w6 ⟨rfl, rfl⟩
    rw [HNM.out]
    have HRZ := Lib.hid (else_read b)
    go_wp2_with fail
    refine (read_c d (0 + 1) 32768 O3 [] (elseDk b) elseN w6 HDZ.out (by omega) (by decide)).mono ?_
    rintro e wz ⟨zv, rfl, hrz, _, hEz⟩
    rw [HRZ.out] at hrz ⊢
    dsimp only at hrz ⊢
    obtain ⟨za, zl, zc, rfl⟩ := hrz.shape
    have HRZ2 := Lib.hid hrz; have HEZ := Lib.hid (HEX.out.trans hEz)
    clear hrz hEz HDZ HRZ
    go_wp2_with fail
    refine (vput_nil (.slice ba L bc) wz).mono ?_
    rintro e wy ⟨rfl, hEy⟩
    have HEY := Lib.hid (HEZ.out.trans hEy); have HRZ3 := Lib.hid (HRZ2.out.ext hEy)
    clear hEy HEZ HRZ2
    go_wp2_with fail
    refine (text_nil wy).mono ?_
    rintro e wx ⟨rfl, hEx⟩
    have HEX2 := Lib.hid (HEY.out.trans hEx)
    have cz := HCV.out wx _ _ (HRZ3.out.ext hEx)
    have cb := HCV.out wx _ _ (HB.out.ext (HEY.out.trans hEx))
    clear hEx HEY HRZ3
    simp only [textV]
    have hs0 : strOfNums [] = ⟨#[]⟩ := rfl
    rw [hs0]
    clear hs0
    go_wp2_with fail
    go_ret
    exact ⟨rfl, HEX2.out⟩
end Go.Proofs.YtapclkjpokbgbaaDoor
