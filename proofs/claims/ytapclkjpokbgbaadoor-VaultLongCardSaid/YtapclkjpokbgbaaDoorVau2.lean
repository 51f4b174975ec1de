/- vault: Open. -/
import Derived.Test.YtapclkjpokbgbaaDoorVau1
set_option linter.unusedSimpArgs false
set_option linter.unusedVariables false
namespace Go.Proofs.YtapclkjpokbgbaaDoor
open Go Go.RowKit Go.Maps

set_option maxRecDepth 100000 in
set_option maxHeartbeats 1000000 in
/-- A name that is none. -/
theorem vopen_arg (dv : Value) (s : ByteArray) (w : World) (hs : s.size ≤ maxLen) (h : named4 s = false) :
    Calls Tryd.prog 16 #[dv, .string s] w fun e w' => e = .returned (.tuple #[.pointer none, .int .i64 1]) ∧ Ext w w' := by
  by_cases h0 : s.size = 0
  · obtain rfl : s = ⟨#[]⟩ := by
      cases s with | mk a => have : a = #[] := Array.eq_empty_of_size_eq_zero h0; rw [this]
    clear h
    go_enter Tryd.func16, Tryd.ntmps16
    go_wp2_with fail
    go_ret2
    exact ⟨rfl, Ext.refl _⟩
  · have he := size_ne (show 0 < s.size by omega)
    replace hs : s.size ≤ 9223372036854775807 := by unfold maxLen at hs; omega
    by_cases h4 : s.size ≤ 4
    · have hi : (s.size : Int) ≤ 4 := by omega
      obtain ⟨T, hT⟩ : ∃ T, T = Lib.trimS s.data.toList alSet := ⟨_, rfl⟩
      have ht : T.isEmpty = false := by
        cases T with
        | nil =>
          have := (trimS_nil s.data.toList alSet).1 hT.symm
          unfold named4 at h
          rw [this, decide_eq_true (show 0 < s.size by omega), decide_eq_true h4] at h; cases h
        | cons x r => rfl
      have htl : (⟨T.toArray⟩ : ByteArray).toList = T := by rw [Lib.toList_data]
      have HT := Lib.hid hT
      clear h h0 h4 hT
      go_enter Tryd.func16, Tryd.ntmps16
      go_wp2_with fail
      refine (trim4_c s w hs).mono ?_
      rintro e w1 ⟨rfl, hE⟩
      have HE := Lib.hid (show Ext w w1 from hE)
      rw [← HT.out]
      clear hE
      go_wp2_with fail
      go_ret2
      exact ⟨rfl, HE.out⟩
    · have hi : (4 : Int) < s.size := by omega
      clear h h0 h4
      go_enter Tryd.func16, Tryd.ntmps16
      go_wp2_with fail
      go_ret2
      exact ⟨rfl, Ext.refl _⟩
set_option maxRecDepth 100000 in
set_option maxHeartbeats 1000000 in
/-- No disk. -/
theorem vopen_nil (s : ByteArray) (w : World) (h : named4 s = true) :
    Calls Tryd.prog 16 #[.pointer none, .string s] w fun e w' => e = .returned (.tuple #[.pointer none, .int .i64 6]) ∧ Ext w w' := by
  obtain ⟨h0, h4, ht⟩ := named4_parts h
  have he := size_ne h0
  have hi : (s.size : Int) ≤ 4 := by omega
  have htl : (⟨(Lib.trimS s.data.toList alSet).toArray⟩ : ByteArray).toList = [] := by rw [Lib.toList_data]; exact ht
  have HT := Lib.hid ht; have HTL := Lib.hid htl
  clear h h0 ht htl
  go_enter Tryd.func16, Tryd.ntmps16
  go_wp2_with fail
  refine (trim4_c s w (by omega)).mono ?_
  rintro e w1 ⟨rfl, hE⟩
  have HE := Lib.hid (show Ext w w1 from hE)
  rw [HT.out]
  clear hE
  go_wp2_with fail
  go_ret2
  exact ⟨rfl, HE.out⟩
/-- An opening: its answer, and the disk behind it. -/
def openV (S : Dk) (name : ByteArray) : Int × Dk :=
  if (removeS S (vfresh name)).1 = 6 then (6, (removeS S (vfresh name)).2) else if (removeS S (vfresh name)).2.waits.length = 0 then (0, (removeS S (vfresh name)).2)
  else if (syncS (removeS S (vfresh name)).2).1 = 6 then (6, (syncS (removeS S (vfresh name)).2).2) else (0, (syncS (removeS S (vfresh name)).2).2)
theorem vnow_size (name : ByteArray) : (vnow name).size = name.size + 4 := by unfold vnow; rw [ByteArray.size_append]; rfl
theorem vfresh_size (name : ByteArray) : (vfresh name).size = name.size + 4 := by unfold vfresh; rw [ByteArray.size_append]; rfl
set_option maxRecDepth 100000 in
set_option maxHeartbeats 2000000 in
theorem vopen_c (d n M : Nat) (O F : List Nat) (S : Dk) (name : ByteArray) (w : World) (h : DkS w d n M O F S) (hn : n < 900000000) (hwl : S.waits.length < 900000000) (hM : M ≤ 70368744177664) (hnm : named4 name = true) (hoff : S.off = false) :
    Calls Tryd.prog 16 #[dptr d, .string name] w fun e w' => ∃ O', DkS w' d (n + 1) M O' F (openV S name).2 ∧ DkTo O w w' O' ∧
      ((openV S name).1 = 6 ∧ e = .returned (.tuple #[.pointer none, .int .i64 6]) ∨ (openV S name).1 = 0 ∧ ∃ v bv, e = .returned (.tuple #[dptr v, .int .i64 0]) ∧ w.heap.size ≤ v ∧ v ∉ O' ∧ VauB w' v d name bv ((readS S (vnow name)).2 == 0) false ∧
        Rd w' bv (u8s (readS S (vnow name)).1) ∧ From w.heap.size bv ∧ OffL bv (u8s (readS S (vnow name)).1) O' ∧ (∀ a n c, bv = .slice (some a) n c → a.block ≠ v)) := by
  obtain ⟨Y, hY⟩ : ∃ Y, Y = openV S name := ⟨_, rfl⟩
  obtain ⟨X, hX⟩ : ∃ X, X = readS S (vnow name) := ⟨_, rfl⟩
  rw [← hY, ← hX]
  unfold openV at hY
  have HYY := Lib.hid hY; have HXX := Lib.hid hX
  obtain ⟨X1, X2⟩ := X
  dsimp only
  clear hY hX
  obtain ⟨h0, h4, ht⟩ := named4_parts hnm
  have he := size_ne h0
  have hi : (name.size : Int) ≤ 4 := by omega
  have HT := Lib.hid ht; have HD := Lib.hid h; have HOF := Lib.hid hoff
  clear hnm h0 ht h hoff
  go_enter Tryd.func16, Tryd.ntmps16
  go_wp2_with fail
  refine (trim4_c name w (by omega)).mono ?_
  rintro e w1 ⟨rfl, hE⟩
  have HE := Lib.hid (show Ext w w1 from hE)
  rw [HT.out]
  clear hE
  have htl : (⟨([] : List UInt8).toArray⟩ : ByteArray).toList = [] := by rw [Lib.toList_data]
  go_wp2_with fail
  refine (down_c d n M O F S w1 (HD.out.ext HE.out)).mono ?_
  rintro e w2 ⟨rfl, rfl⟩
  rw [HOF.out]
  go_upto_region 6 with fail
  obtain ⟨w3, hw3⟩ : ∃ w3, w3 = w2.alloc (.cells #[dptr d, .string name, .slice none 0 0, .bool false, .bool false] 95) := ⟨_, rfl⟩
  have hE3 : Ext w2 w3 := by rw [hw3]; exact Ext.alloc _ _
  have hB3 : VauB w3 w2.heap.size d name (.slice none 0 0) false false := by rw [hw3]; exact Blk.new _ _ _
  rw [← hw3]
  obtain ⟨v, hv⟩ : ∃ v, v = w2.heap.size := ⟨_, rfl⟩
  rw [← hv] at hB3 ⊢
  have hvw : w.heap.size ≤ v := by rw [hv]; exact HE.out.size
  have HE3 := Lib.hid (HE.out.trans hE3); have HB3 := Lib.hid hB3
  clear hw3 hE3 hB3 htl he hi HE hv
  go_wp2_with fail
  refine (vnow_c v d name _ _ _ w3 HB3.out h4).mono ?_
  rintro e w4 ⟨rfl, rfl⟩
  go_wp2_with fail
  refine (read_c d n M O F S (vnow name) w4 (HD.out.ext HE3.out) hM (by rw [vnow_size]; unfold maxLen; omega)).mono ?_
  rintro e w5 ⟨bv, rfl, hrd, hro, hE5⟩
  rw [← HXX.out] at hrd hro ⊢
  dsimp only at hrd hro ⊢
  obtain ⟨ba, bl, bc, rfl⟩ := hrd.shape
  have hfr := From.own hro
  have HRD := Lib.hid hrd; have HFR := Lib.hid (hfr.mono HE3.out.size); have HE5 := Lib.hid (HE3.out.trans hE5); have HB5 := Lib.hid (Blk.ext HB3.out hE5)
  have hbv : ∀ a n c, (Value.slice ba bl bc) = .slice (some a) n c → a.block ≠ v := fun a n c hv hx => by have := hfr a n c hv; have := Blk.lt HB3.out; omega
  have HBV := Lib.hid hbv
  have f2 := HB5.out.free 2; have f3 := HB5.out.free 3
  obtain ⟨c0, c1, c2, c3, c4⟩ := Blk.five HB5.out
  clear hrd hro hE5 hfr hbv HB3
  go_upto_region 8 with fail
  obtain ⟨W, hW⟩ : ∃ W, W = (w5.setCell ⟨v, 2, none⟩ (.slice ba bl bc)).setCell ⟨v, 3, none⟩ (.bool (X2 == 0)) := ⟨_, rfl⟩
  have hgW : Chg [v] w5 W := by rw [hW]; exact (Chg.set _ 2 _ (by simp)).setNew _ 3 _ (.inl (by simp))
  have hBW : VauB W v d name (.slice ba bl bc) (X2 == 0) false := by rw [hW]; unfold VauB; simpa using (HB5.out.set 2 (.slice ba bl bc)).set 3 (.bool (X2 == 0))
  have hEW : Ext w W := Chg.below HE5.out hgW HE5.out.size (fun t ht => by simp at ht; subst ht; exact hvw)
  have hRW : Rd W (.slice ba bl bc) (u8s X1) := HRD.out.chg hgW (fun a n c hv _ hm => by simp at hm; exact HBV.out a n c hv hm)
  rw [← hW]
  have hvO : v ∉ O := fun hm => by have := HD.out.low v hm; omega
  have HBW := Lib.hid hBW; have HEW := Lib.hid hEW; have HRW := Lib.hid hRW
  clear hW hgW hBW hEW hRW f2 f3 c0 c1 c2 c3 c4 HB5 HE5 HRD
  go_wp2_with fail
  refine (vfresh_c v d name _ _ _ W HBW.out h4).mono ?_
  rintro e w6 ⟨rfl, rfl⟩
  go_wp2_with fail
  have hY := HYY.out
  refine (remove_c d n M O F S (vfresh name) w6 (HD.out.ext HEW.out) (by omega) (by omega) hM (by rw [vfresh_size]; unfold maxLen; omega)).mono ?_
  rintro e w7 ⟨rfl, O7, hd7, ht7⟩
  obtain ⟨R, hR⟩ : ∃ R, R = removeS S (vfresh name) := ⟨_, rfl⟩
  rw [← hR] at hd7 hY ⊢
  clear hR
  have hoff : OffL (.slice ba bl bc) (u8s X1) O := HFR.out.off fun t ht => HD.out.low t ht
  have hvO7 : v ∉ O7 := fun hm => by
    rcases ht7.2.1 v hm with e | e
    · exact hvO e
    · have := Blk.lt HBW.out; omega
  have HB7 := Lib.hid (Blk.chg HBW.out ht7.1 hvO); have HR7 := Lib.hid (HRW.out.chg ht7.1 hoff)
  have HO7 := Lib.hid (hoff.more HRW.out fun t ht => ht7.2.1 t ht)
  have HD7 := Lib.hid hd7; have HT7 := Lib.hid ((DkTo.ext HEW.out HD.out.low).trans ht7); have HY := Lib.hid hY
  obtain ⟨R1, R2⟩ := R
  dsimp only at HD7 HY ⊢
  clear hd7 ht7 hY HBW HRW hoff
  by_cases hR6 : R1 = 6
  · subst hR6
    have HY2 : Hid (Y = (6, R2)) := Lib.hid (by rw [HY.out]; exact if_pos rfl)
    clear HY
    go_wp2_with fail
    go_ret2
    rw [HY2.out]
    exact ⟨O7, HD7.out, HT7.out, .inl ⟨rfl, rfl⟩⟩
  · have hb6 : (R1 == 6) = false := by simpa using hR6
    have HY2 : Hid (Y = if R2.waits.length = 0 then (0, R2) else if (syncS R2).1 = 6 then (6, (syncS R2).2) else (0, (syncS R2).2)) := Lib.hid (by rw [HY.out]; exact if_neg hR6)
    clear hR6 HY
    go_wp2_with fail
    refine (waiting_c d (n + 1) M O7 F R2 w7 HD7.out).mono ?_
    rintro e w8 ⟨rfl, rfl⟩
    by_cases hw0 : R2.waits.length = 0
    · have HY3 : Hid (Y = (0, R2)) := Lib.hid (by rw [HY2.out, if_pos hw0])
      rw [hw0]
      clear HY2 hw0
      go_wp2_with fail
      go_ret2
      rw [HY3.out]
      exact ⟨O7, HD7.out, HT7.out, .inr ⟨rfl, v, _, rfl, hvw, hvO7, HB7.out, HR7.out, HFR.out, HO7.out, HBV.out⟩⟩
    · have hwp : (0 : Int) < (R2.waits.length : Int) := by omega
      have HY3 : Hid (Y = if (syncS R2).1 = 6 then (6, (syncS R2).2) else (0, (syncS R2).2)) := Lib.hid (by rw [HY2.out, if_neg hw0])
      clear HY2 hw0
      go_wp2_with fail
      refine (sync_c d (n + 1) M O7 F R2 w8 HD7.out).mono ?_
      rintro e w9 ⟨rfl, O9, hd9, ht9⟩
      obtain ⟨Q, hQ⟩ : ∃ Q, Q = syncS R2 := ⟨_, rfl⟩
      rw [← hQ] at hd9 HY3 ⊢
      clear hQ
      have hvO9 : v ∉ O9 := fun hm => by
        rcases ht9.2.1 v hm with e | e
        · exact hvO7 e
        · have := Blk.lt HB7.out; omega
      have HB9 := Lib.hid (Blk.chg HB7.out ht9.1 hvO7); have HR9 := Lib.hid (HR7.out.chg ht9.1 HO7.out)
      have HO9 := Lib.hid (HO7.out.more HR7.out fun t ht => ht9.2.1 t ht)
      have HD9 := Lib.hid hd9; have HT9 := Lib.hid (HT7.out.trans ht9)
      obtain ⟨Q1, Q2⟩ := Q
      dsimp only at HD9 HY3 ⊢
      clear hd9 ht9
      by_cases hQ6 : Q1 = 6
      · subst hQ6
        have HY4 : Hid (Y = (6, Q2)) := Lib.hid (by rw [HY3.out]; exact if_pos rfl)
        clear HY3
        go_wp2_with fail
        go_ret2
        rw [HY4.out]
        exact ⟨O9, HD9.out, HT9.out, .inl ⟨rfl, rfl⟩⟩
      · have hbQ : (Q1 == 6) = false := by simpa using hQ6
        have HY4 : Hid (Y = (0, Q2)) := Lib.hid (by rw [HY3.out]; exact if_neg hQ6)
        clear hQ6 HY3
        go_wp2_with fail
        go_ret2
        rw [HY4.out]
        exact ⟨O9, HD9.out, HT9.out, .inr ⟨rfl, v, _, rfl, hvw, hvO9, HB9.out, HR9.out, HFR.out, HO9.out, HBV.out⟩⟩
end Go.Proofs.YtapclkjpokbgbaaDoor
