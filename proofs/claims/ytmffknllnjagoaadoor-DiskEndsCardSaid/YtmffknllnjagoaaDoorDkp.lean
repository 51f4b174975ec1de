/- tabellionlaw08: DiskPlays. -/
import Derived.Test.YtmffknllnjagoaaDoorTwd
import Derived.Test.YtmffknllnjagoaaDoorTwf
set_option linter.unusedSimpArgs false
set_option linter.unusedVariables false
namespace Go.Proofs.YtmffknllnjagoaaDoor
open Go Go.RowKit Go.Maps Go.Sort

theorem Two.made {w w2 w3 w4 : World} {d M : Nat} {S : Dk} (hE : Ext w w2) (hd : DkS w3 d 0 M [d, w2.heap.size, w2.heap.size + 1] [] S) (hE3 : Ext w2 w3) (hdw : w2.heap.size + 2 = d) (hr : RkS w4 w3.heap.size 0 M [w3.heap.size] [d, w2.heap.size, w2.heap.size + 1] S) (hE4 : Ext w3 w4) :
    Two w w4 d w3.heap.size 0 0 M [] [d, w2.heap.size, w2.heap.size + 1] [w3.heap.size] S S := by
  have h1 := hE.size; have h2 := hE3.size
  exact ⟨hd.ext hE4, by simpa using hr, by simp, hE.trans (hE3.trans hE4), fun t ht => by simp at ht; omega, fun t ht => by simp at ht; omega⟩
set_option maxRecDepth 100000 in
set_option maxHeartbeats 4000000 in
/-- DiskPlays is true. -/
theorem plays_c (room : Int) (v : Value) (xs : List LO) (w : World) (hr0 : -9223372036854775808 ≤ room) (hr1 : room ≤ 9223372036854775807) (h : OpsV w v xs) (hok : ∀ x ∈ xs, LOk x) :
    Calls Tryd.prog 5 #[.int .i64 room, v] w fun e w' => e = .returned (.bool true) ∧ Ext w w' := by
  have HCV := Lib.hid (fun (w : World) (v : Value) (xs : List Int) (h : Rd w v (u8s xs)) => h.convert (P := Tryd.prog) Tryd.underlying22 Tryd.underlying5 Tryd.underlying9)
  have hO : ∀ w', Ext w w' → OpsV w' v xs := fun w' hE => h.ext hE
  have HO := Lib.hid hO
  obtain ⟨a, c, rfl, hc1, hc2, hc3⟩ := h
  replace hc2 : c ≤ 9223372036854775807 := by unfold maxLen at hc2; omega
  obtain ⟨N, hN⟩ : ∃ N, N = xs.length := ⟨_, rfl⟩
  rw [← hN] at hc1 HO ⊢
  have HC := Lib.hid hc3; have HN := Lib.hid hN; have HOK := Lib.hid hok
  clear hc3 hN hok hO
  go_enter Tryd.func5, Tryd.ntmps5
  go_wp2_with fail
  refine (awake_c w).mono ?_
  rintro e w1 ⟨rfl, hE1⟩
  have HE1 := Lib.hid hE1
  clear hE1
  go_wp2_with fail
  refine (few_c (.slice a N c) xs w1 (HO.out w1 HE1.out) HOK.out).mono ?_
  rintro e w2 ⟨rfl, fb, rfl, hfew⟩
  have HF := Lib.hid hfew
  clear hfew
  cases fb with
  | false =>
    go_wp2_with fail
    refine (awake_c w2).mono ?_
    rintro e w3 ⟨rfl, hE3⟩
    have HE3 := Lib.hid hE3
    clear hE3
    go_wp2_with fail
    go_ret
    exact ⟨rfl, HE1.out.trans HE3.out⟩
  | true =>
    replace HF := Lib.hid (HF.out rfl)
    go_wp2_with fail
    refine (new_c 10000 room [] w2 hr0 hr1 (by simp)).mono ?_
    rintro e w3 ⟨d, rfl, hd, hE3, hdw⟩
    have HD := Lib.hid hd; have HE3 := Lib.hid hE3
    clear hd hE3
    go_wp2_with fail
    refine (rnew_c 10000 room _ w3 hr0 hr1 HD.out.low).mono ?_
    rintro e w4 ⟨rfl, hr, hE4⟩
    have HT := Lib.hid (Two.made HE1.out HD.out HE3.out hdw hr hE4)
    obtain ⟨r, hr'⟩ : ∃ r, r = w3.heap.size := ⟨_, rfl⟩
    rw [← hr'] at HT ⊢
    clear hr hE4 hr'
    have hOps : ∀ (i : Nat) x, xs[i]? = some x → ∃ b o bv kv, a = some ⟨b, o, none⟩ ∧ Rd w bv (u8s x.b) ∧ Rd w kv (x.keep.map Value.bool) ∧ w.cell? ⟨b, o + i * 6, none⟩ = some (.int .i64 x.kind) ∧ w.cell? ⟨b, o + i * 6 + 1, none⟩ = some (.string x.name) ∧ w.cell? ⟨b, o + i * 6 + 2, none⟩ = some (.string x.nto) ∧
      w.cell? ⟨b, o + i * 6 + 3, none⟩ = some (.int .i64 x.n) ∧ w.cell? ⟨b, o + i * 6 + 4, none⟩ = some bv ∧ w.cell? ⟨b, o + i * 6 + 5, none⟩ = some kv := fun i x hx => OpsV.at (n := N) (c := c) HC.out hx
    have HOP := Lib.hid hOps
    clear hOps HC HD HE3 HE1 hdw
    go_wp2_with fail
    go_loopg [7, 8, 9, 10, 11] 60 (fun g iv xv ev yv fv wr => ∃ (i : Nat) (S : Dk) (Od Or : List Nat), iv = .int .i64 (i : Int) ∧ i + g = 60 ∧ Two w wr d r (i * 100) (i * 100) 10000 [] Od Or S S ∧ S.waits.length ≤ i)
    case atStart => exact ⟨0, _, _, _, rfl, by omega, HT.out, by simp [dkNew]⟩
    case round =>
      obtain ⟨i, S, Od, Or, rfl, hi, hT, hw⟩ := hrel
      have HT2 := Lib.hid hT
      by_cases hlt : i < N
      · by_cases h60 : i < 60
        · obtain ⟨x, hx⟩ : ∃ x, xs[i]? = some x := ⟨_, List.getElem?_eq_getElem (by rw [← HN.out]; exact hlt)⟩
          obtain ⟨b, o, bv, kv, rfl, hb, hk, c0, c1, c2, c3, c4, c5⟩ := HOP.out i x hx
          have hf := HF.out i x h60 hx
          have ok := HOK.out x (List.mem_of_getElem? hx)
          have hname := ok.name
          have HB := Lib.hid hb; have HK := Lib.hid hk; have HFX := Lib.hid hf; have HOX := Lib.hid ok; have HC1 := Lib.hid c1
          replace c0 := hT.old.cell c0
          replace c1 := hT.old.cell c1
          replace c2 := hT.old.cell c2
          replace c3 := hT.old.cell c3
          replace c4 := hT.old.cell c4
          replace c5 := hT.old.cell c5
          clear hx hb hk hf ok hT
          go_wp2_with fail
          refine (ldo_c w d r (i * 100) (i * 100) Od Or S x bv kv wr HT2.out HOX.out HB.out HK.out (by omega) (by omega) (by omega) HFX.out.1 HFX.out.2).mono ?_
          rintro e w5 ⟨rfl, Od5, Or5, hT5, _⟩
          have hw5 := opS_waits x S
          obtain ⟨S5, hS5⟩ : ∃ S5, S5 = (opS x S).2 := ⟨_, rfl⟩
          rw [← hS5] at hT5 hw5
          replace c1 := hT5.old.cell HC1.out
          have HT5 := Lib.hid hT5
          clear hT5 hS5 c0 c2 c3 c4 c5
          go_wp2_with fail
          refine (read_c d (i * 100 + 100) 10000 Od5 [] S5 x.name w5 HT5.out.dk (by omega) hname).mono ?_
          rintro e w6 ⟨xv, rfl, hxr, _, hE6⟩
          have hT6 := HT5.out.ext hE6
          replace c1 := hT6.old.cell HC1.out
          have HXR := Lib.hid hxr; have HT6 := Lib.hid hT6
          clear hxr hE6 hT6
          go_wp2_with fail
          refine (rread_c r (i * 100 + 100) 10000 Or5 (Od5 ++ []) S5 x.name w6 HT6.out.rk (by omega)).mono ?_
          rintro e w7 ⟨rfl, yv, rfl, hyr, _, _⟩
          obtain ⟨X, hX⟩ : ∃ X, X = readS S5 x.name := ⟨_, rfl⟩
          rw [← hX] at HXR hyr ⊢
          obtain ⟨X1, X2⟩ := X
          dsimp only at HXR hyr ⊢
          have kx := HCV.out w7 _ _ HXR.out
          have ky := HCV.out w7 _ _ hyr
          clear hyr hX
          go_wp2_with fail
          go_roundg (60 - (i + 1))
          case measure => omega
          case rel => exact ⟨i + 1, S5, Od5, Or5, by go_num, by omega, by rw [show (i + 1) * 100 = i * 100 + 100 by omega]; exact HT6.out, by omega⟩
        · have h60' : (60 : Int) ≤ (i : Int) := by omega
          clear h60 hT
          go_wp2_with fail
          go_ret
          exact ⟨rfl, HT2.out.old⟩
      · have hge : (N : Int) ≤ (i : Int) := by omega
        clear hlt hT
        go_wp2_with fail
        go_ret
        exact ⟨rfl, HT2.out.old⟩
end Go.Proofs.YtmffknllnjagoaaDoor
