/- cell: Open. -/
import Derived.Test.YtapclkjpokbgbaaDoorCel3
set_option linter.unusedSimpArgs false
set_option linter.unusedVariables false
namespace Go.Proofs.YtapclkjpokbgbaaDoor
open Go Go.RowKit Go.Maps

def alSet : List UInt8 := [97, 98, 99, 100, 101, 102, 103, 104, 105, 106, 107, 108, 109, 110, 111, 112, 113, 114, 115, 116, 117, 118, 119, 120, 121, 122]
/-- Is a text a log's, a cell's, a vault's name? -/
def named4 (s : ByteArray) : Bool := decide (0 < s.size) && decide (s.size ≤ 4) && s.data.toList.all (alSet.contains ·)
theorem trim4_c (s : ByteArray) (w : World) (hs : s.size ≤ 9223372036854775807) :
    Calls Tryd.prog 28 #[.string s, .string ⟨alSet.toArray⟩] w fun e w' => e = .returned (.string ⟨(Lib.trimS s.data.toList alSet).toArray⟩) ∧ Below w.heap.size w w' :=
  Any.strings_Trim_laid Tryd.lays160 (by kernel_rfl) s ⟨alSet.toArray⟩ w hs (by decide) (ascii_of_all (by decide))
theorem DkS.b8 {w : World} {d n M : Nat} {O F : List Nat} {S : Dk} (h : DkS w d n M O F S) (k : Nm) : B8 ((getG k S.now).getD []) := by
  obtain ⟨⟨bn, bs, wv, cs, h1, h2, -⟩, -⟩ := h
  cases hg : getG k S.now with
  | none => intro x hx; cases hx
  | some bs => exact h2.b8 hg
theorem readS_fil {S : Dk} (name : ByteArray) (k : Nat) (h : S.off = false) : (readS S (cfile name k)).1 = fil name S.now k := by
  unfold readS fil
  rw [if_neg (by rw [h]; simp)]
  cases getG (nmOf (cfile name k)) S.now <;> rfl
theorem named4_parts {s : ByteArray} (h : named4 s = true) : 0 < s.size ∧ s.size ≤ 4 ∧ Lib.trimS s.data.toList alSet = [] := by
  unfold named4 at h
  simp only [Bool.and_eq_true, decide_eq_true_eq] at h
  exact ⟨h.1.1, h.1.2, (trimS_nil s.data.toList alSet).2 h.2⟩
theorem cfile_size (name : ByteArray) (k : Nat) : (cfile name k).size = name.size + 2 := by
  show (name.data ++ #[46, _]).size = name.data.size + 2
  simp
theorem size_ne {s : ByteArray} (h : 0 < s.size) : s.toList.isEmpty = false := by
  rw [Lib.toList_data]
  cases hd : s.data.toList with
  | nil =>
    have h1 : s.data.toList.length = 0 := by rw [hd]; rfl
    rw [Array.length_toList] at h1
    have : s.size = 0 := h1
    omega
  | cons x r => rfl
set_option maxRecDepth 100000 in
set_option maxHeartbeats 1000000 in
/-- A name that is none. -/
theorem open_arg (dv : Value) (s : ByteArray) (w : World) (hs : s.size ≤ maxLen) (h : named4 s = false) :
    Calls Tryd.prog 9 #[dv, .string s] w fun e w' => e = .returned (.tuple #[.pointer none, .int .i64 1]) ∧ Ext w w' := by
  by_cases h0 : s.size = 0
  · obtain rfl : s = ⟨#[]⟩ := by
      cases s with | mk a => have : a = #[] := Array.eq_empty_of_size_eq_zero h0; rw [this]
    clear h
    go_enter Tryd.func9, Tryd.ntmps9
    go_wp2_with fail
    go_ret2
    exact ⟨rfl, Ext.refl _⟩
  · have he := size_ne (show 0 < s.size by omega)
    replace hs : s.size ≤ 9223372036854775807 := by unfold maxLen at hs; omega
    by_cases h4 : s.size ≤ 4
    · have hi : (s.size : Int) ≤ 4 := by omega
      obtain ⟨T, hT⟩ : ∃ T, T = Lib.trimS s.data.toList alSet := ⟨_, rfl⟩
      have ht : T.isEmpty = false := by
        cases T with
        | nil =>
          have := (trimS_nil s.data.toList alSet).1 hT.symm
          unfold named4 at h
          rw [this, decide_eq_true (show 0 < s.size by omega), decide_eq_true h4] at h; cases h
        | cons x r => rfl
      have htl : (⟨T.toArray⟩ : ByteArray).toList = T := by rw [Lib.toList_data]
      have HT := Lib.hid hT
      clear h h0 h4 hT
      go_enter Tryd.func9, Tryd.ntmps9
      go_wp2_with fail
      refine (trim4_c s w hs).mono ?_
      rintro e w1 ⟨rfl, hE⟩
      have HE := Lib.hid (show Ext w w1 from hE)
      rw [← HT.out]
      clear hE
      go_wp2_with fail
      go_ret2
      exact ⟨rfl, HE.out⟩
    · have hi : (4 : Int) < s.size := by omega
      clear h h0 h4
      go_enter Tryd.func9, Tryd.ntmps9
      go_wp2_with fail
      go_ret2
      exact ⟨rfl, Ext.refl _⟩
set_option maxRecDepth 100000 in
set_option maxHeartbeats 1000000 in
/-- No disk. -/
theorem open_nil (s : ByteArray) (w : World) (h : named4 s = true) :
    Calls Tryd.prog 9 #[.pointer none, .string s] w fun e w' => e = .returned (.tuple #[.pointer none, .int .i64 6]) ∧ Ext w w' := by
  obtain ⟨h0, h4, ht⟩ := named4_parts h
  have he := size_ne h0
  have hi : (s.size : Int) ≤ 4 := by omega
  have htl : (⟨(Lib.trimS s.data.toList alSet).toArray⟩ : ByteArray).toList = [] := by rw [Lib.toList_data]; exact ht
  have HT := Lib.hid ht; have HTL := Lib.hid htl
  clear h h0 ht htl
  go_enter Tryd.func9, Tryd.ntmps9
  go_wp2_with fail
  refine (trim4_c s w (by omega)).mono ?_
  rintro e w1 ⟨rfl, hE⟩
  have HE := Lib.hid (show Ext w w1 from hE)
  rw [HT.out]
  clear hE
  go_wp2_with fail
  go_ret2
  exact ⟨rfl, HE.out⟩
/-- What has been picked behind i files. -/
def accC (name : ByteArray) (L : FL) : Nat → Nat × Nat × Nat
  | 0 => (0, 0, 0)
  | i + 1 => stepC (accC name L i) (fil name L i)
theorem accC_two (name : ByteArray) (L : FL) : accC name L 2 = pickC name L := rfl
set_option maxRecDepth 100000 in
set_option maxHeartbeats 2000000 in
/-- A cell on a disk where nothing waits. -/
theorem open_ok (d n M : Nat) (O F : List Nat) (S : Dk) (name : ByteArray) (w : World) (h : DkS w d n M O F S) (hM : M ≤ 70368744177664) (hn : named4 name = true) (hoff : S.off = false) (hw0 : S.waits = []) :
    Calls Tryd.prog 9 #[dptr d, .string name] w fun e w' => ∃ c, e = .returned (.tuple #[dptr c, .int .i64 0]) ∧ w.heap.size ≤ c ∧ CelB w' c d name (pickC name S.now).1 (pickC name S.now).2.1 (pickC name S.now).2.2 false ∧ Ext w w' := by
  obtain ⟨h0, h4, ht⟩ := named4_parts hn
  have he := size_ne h0
  have hi : (name.size : Int) ≤ 4 := by omega
  have HT := Lib.hid ht; have HD := Lib.hid h
  have hwz : (S.waits.length : Int) = 0 := by rw [hw0]; rfl
  have HWZ := Lib.hid hwz; have HOF := Lib.hid hoff
  clear hn h0 ht h hoff hw0 hwz
  go_enter Tryd.func9, Tryd.ntmps9
  go_wp2_with fail
  refine (trim4_c name w (by omega)).mono ?_
  rintro e w1 ⟨rfl, hE⟩
  have HE := Lib.hid (show Ext w w1 from hE)
  rw [HT.out]
  clear hE
  have htl : (⟨([] : List UInt8).toArray⟩ : ByteArray).toList = [] := by rw [Lib.toList_data]
  go_wp2_with fail
  refine (down_c d n M O F S w1 (HD.out.ext HE.out)).mono ?_
  rintro e w2 ⟨rfl, rfl⟩
  rw [HOF.out]
  go_wp2_with fail
  obtain ⟨w3, hw3⟩ : ∃ w3, w3 = w2.alloc (.cells #[dptr d, .string name, .int .u64 0, .int .u64 0, .int .u64 0, .bool false] 75) := ⟨_, rfl⟩
  have hE3 : Ext w2 w3 := by rw [hw3]; exact Ext.alloc _ _
  have hB3 : CelB w3 w2.heap.size d name 0 0 0 false := by rw [hw3]; exact Blk.new _ _ _
  rw [← hw3]
  obtain ⟨c, hc⟩ : ∃ c, c = w2.heap.size := ⟨_, rfl⟩
  rw [← hc] at hB3 ⊢
  have hcw : w.heap.size ≤ c := by rw [hc]; exact HE.out.size
  have HE3 := Lib.hid (HE.out.trans hE3); have HB3 := Lib.hid hB3
  clear hw3 hE3 hB3 htl he hi HE
  go_loopg [7, 8, 9, 10, 11, 37] 2 (fun g v7 v8 v9 v10 v11 v37 wr => ∃ i : Nat, v37 = .int .u64 (i : Int) ∧ i + g = 2 ∧ CelB wr c d name (accC name S.now i).1 (accC name S.now i).2.1 (accC name S.now i).2.2 false ∧ Ext w wr)
  case atStart => exact ⟨0, rfl, by omega, HB3.out, HE3.out⟩
  case round =>
    obtain ⟨i, rfl, hi2, hBR, hER⟩ := hrel
    have HER := Lib.hid hER; have HBR := Lib.hid hBR
    clear hBR hER hc
    by_cases hlt : i < 2
    · go_wp2_with fail
      refine (file_c c d name _ _ _ i false wr HBR.out (by omega) h4).mono ?_
      rintro e w4 ⟨rfl, hE4⟩
      have HE4 := Lib.hid (HER.out.trans hE4)
      have HB4 := Lib.hid (Blk.ext HBR.out hE4)
      clear hE4
      go_wp2_with fail
      refine (read_c d n M O F S (cfile name i) w4 (HD.out.ext HE4.out) hM (by rw [cfile_size]; unfold maxLen; omega)).mono ?_
      rintro e w5 ⟨bv, rfl, hrd, _, hE5⟩
      rw [readS_fil name i HOF.out] at hrd
      have hb8 := HD.out.b8 (nmOf (cfile name i))
      obtain ⟨fb, hfb⟩ : ∃ fb, fb = fil name S.now i := ⟨_, rfl⟩
      have hb8' : B8 fb := by rw [hfb]; exact hb8
      rw [← hfb] at hrd
      have HRD := Lib.hid hrd; have HB8 := Lib.hid hb8'; have HFB := Lib.hid hfb
      have HE5 := Lib.hid (HE4.out.trans hE5); have HB5 := Lib.hid (Blk.ext HB4.out hE5)
      clear hrd hb8 hb8' hfb hE5 HB4 HBR
      go_wp2_with fail
      refine (readw_c bv fb w5 HRD.out HB8.out).mono ?_
      rintro e w6 ⟨⟨x, y, z, ok, rfl, hok, hx, hy, hz⟩, hE6⟩
      have HE6 := Lib.hid (HE5.out.trans hE6)
      have hB6 := Blk.ext HB5.out hE6
      obtain ⟨A, hA⟩ : ∃ A, A = accC name S.now i := ⟨_, rfl⟩
      rw [← hA] at hB6
      have hstep : accC name S.now (i + 1) = stepC A fb := by rw [HFB.out, hA]; rfl
      have HST := Lib.hid hstep
      clear hE6 HB5 hA hstep
      go_upto_region 11 with fail
      obtain ⟨w7, hw7⟩ : ∃ w7, w7 = w6.alloc (.cells #[.int .u64 x, .int .u64 y, .int .u64 z] 77) := ⟨_, rfl⟩
      have hE7 : Ext w6 w7 := by rw [hw7]; exact Ext.alloc _ _
      have hP : Blk w7 w6.heap.size #[.int .u64 x, .int .u64 y, .int .u64 z] 77 := by rw [hw7]; exact Blk.new _ _ _
      rw [← hw7]
      have hcp : c < w6.heap.size := Blk.lt hB6
      obtain ⟨p, hp⟩ : ∃ p, p = w6.heap.size := ⟨_, rfl⟩
      rw [← hp] at hP hcp ⊢
      have hB7 := Blk.ext hB6 hE7
      obtain ⟨A1, A2, A3⟩ := A
      dsimp only at hB7
      obtain ⟨k0, k1, k2, k3, k4, k5⟩ := hB7.six
      have g0 := hP.cell 0 rfl; have g1 := hP.cell 1 rfl; have g2 := hP.cell 2 rfl
      simp only [List.getElem_toArray, List.getElem_cons_zero, List.getElem_cons_succ] at g0 g1 g2
      have HE7 := Lib.hid (HE6.out.trans hE7); have HB7 := Lib.hid hB7; have HP := Lib.hid hP
      clear hw7 hE7 hP hp hB6 hB7 HE6 HE5 HE4 HER HE3 HB3 HRD HB8 HFB
      cases ok with
      | false =>
        have hn : readC fb = none := hok
        have HN := Lib.hid (show accC name S.now (i + 1) = (A1, A2, A3) by rw [HST.out]; unfold stepC; rw [hn])
        clear hok hn
        apply Mono.region1 10 Ext [.is _, .is _, .is _, .is _, .is _, .is _, .is _, .is _, .is _, .is _] (by kernel_rfl) Ext.refl (fun _ _ _ => Ext.trans) (by kernel_rfl) rfl rfl trivial
        focus
          iterate 10 (apply Mono.step_is; (· refine Mono.obl_mk fun w8 hE8 _ K hK => ?_; (have j0 := hE8.cell (show w7.drew.cell? _ = _ from g0)); (have j2 := hE8.cell (show w7.drew.cell? _ = _ from k2)); clear hE8; go_wp2_with fail; simp only [Act.put, List.setIfInBounds_toArray, List.set_cons_succ, List.set_cons_zero] at hK; exact hK _ _ (Ext.refl _) (Mono.is_rfl _ _)); simp only [Act.put, List.setIfInBounds_toArray, List.set_cons_succ, List.set_cons_zero])
          refine Mono.step_end fun w8 hE8 hkn => ?_
          simp only [List.drop_succ_cons, List.drop_zero]
          clear hkn
          have hE78 := (Ext.drew w7).trans hE8
          have HE8 := Lib.hid (HE7.out.trans hE78); have HB8 := Lib.hid (Blk.ext HB7.out hE78)
          clear hE8 hE78 k0 k1 k2 k3 k4 k5 g0 g1 g2
          go_wp2_with fail
          go_roundg (2 - (i + 1))
          case measure => omega
          case rel => exact ⟨i + 1, by go_num, by omega, by rw [HN.out]; exact HB8.out, HE8.out⟩
      | true =>
        have hn : readC fb = some (x, y, z) := hok
        have HN := Lib.hid (show accC name S.now (i + 1) = if A1 < x then (x, y, z) else (A1, A2, A3) by rw [HST.out]; unfold stepC; rw [hn])
        clear hok hn
        apply Mono.region1 10 Ext [.is _, .is _, .is _, .is _, .is _, .is _, .is _, .is _, .is _, .is _] (by kernel_rfl) Ext.refl (fun _ _ _ => Ext.trans) (by kernel_rfl) rfl rfl trivial
        focus
          iterate 10 (apply Mono.step_is; (· refine Mono.obl_mk fun w8 hE8 _ K hK => ?_; (have j0 := hE8.cell (show w7.drew.cell? _ = _ from g0)); (have j2 := hE8.cell (show w7.drew.cell? _ = _ from k2)); clear hE8; go_wp2_with fail; simp only [Act.put, List.setIfInBounds_toArray, List.set_cons_succ, List.set_cons_zero] at hK; exact hK _ _ (Ext.refl _) (Mono.is_rfl _ _)); simp only [Act.put, List.setIfInBounds_toArray, List.set_cons_succ, List.set_cons_zero])
          refine Mono.step_end fun w8 hE8 hkn => ?_
          simp only [List.drop_succ_cons, List.drop_zero]
          clear hkn
          have hE78 := (Ext.drew w7).trans hE8
          have HE8 := Lib.hid (HE7.out.trans hE78); have HB8 := Lib.hid (Blk.ext HB7.out hE78)
          replace k2 := hE78.cell k2; replace g0 := hE78.cell g0; replace g1 := hE78.cell g1; replace g2 := hE78.cell g2
          have k3' := hE78.cell k3; have k4' := hE78.cell k4
          clear hE8 hE78 k0 k1 k3 k4 k5
          by_cases hlx : A1 < x
          · have hlx' : (A1 : Int) < (x : Int) := by omega
            have HN2 := Lib.hid (show accC name S.now (i + 1) = (x, y, z) by rw [HN.out, if_pos hlx])
            have f2 := HB8.out.free 2; have f3 := HB8.out.free 3; have f4 := HB8.out.free 4
            clear hlx
            go_upto_region 12 with fail
            go_region
            have hS := ((HB8.out.set 2 (.int .u64 x)).set 3 (.int .u64 y)).set 4 (.int .u64 z)
            have hES : Ext w (((w8.setCell ⟨c, 2, none⟩ (.int .u64 x)).setCell ⟨c, 3, none⟩ (.int .u64 y)).setCell ⟨c, 4, none⟩ (.int .u64 z)) := by
              have hg : Chg [c] w8 (((w8.setCell ⟨c, 2, none⟩ (.int .u64 x)).setCell ⟨c, 3, none⟩ (.int .u64 y)).setCell ⟨c, 4, none⟩ (.int .u64 z)) := ((Chg.set _ 2 _ (by simp)).setNew _ 3 _ (.inl (by simp))).setNew _ 4 _ (.inl (by simp))
              exact Chg.below HE8.out hg HE8.out.size (fun t ht => by simp at ht; omega)
            obtain ⟨w9, hw9⟩ : ∃ w9, w9 = (((w8.setCell ⟨c, 2, none⟩ (.int .u64 x)).setCell ⟨c, 3, none⟩ (.int .u64 y)).setCell ⟨c, 4, none⟩ (.int .u64 z)) := ⟨_, rfl⟩
            rw [← hw9] at hS hES ⊢
            have HS := Lib.hid (show CelB w9.drew c d name x y z false by have := Blk.drew hS; unfold CelB; simpa using this)
            have HES := Lib.hid (hES.trans (Ext.drew w9))
            clear hw9 hS hES f2 f3 f4 k2 k3' k4' g0 g1 g2
            go_wp2_with fail
            go_roundg (2 - (i + 1))
            case measure => omega
            case rel => exact ⟨i + 1, by go_num, by omega, by rw [HN2.out]; exact HS.out, HES.out⟩
          · have hlx' : (x : Int) ≤ (A1 : Int) := by omega
            have HN2 := Lib.hid (show accC name S.now (i + 1) = (A1, A2, A3) by rw [HN.out, if_neg hlx])
            clear hlx g0 g1 g2 k2 k3' k4'
            go_wp2_with fail
            go_roundg (2 - (i + 1))
            case measure => omega
            case rel => exact ⟨i + 1, by go_num, by omega, by rw [HN2.out]; exact HB8.out, HE8.out⟩
    · have hge : (2 : Int) ≤ (i : Int) := by omega
      obtain rfl : i = 2 := by omega
      clear hlt
      go_wp2_with fail
      refine (waiting_c d n M O F S wr (HD.out.ext HER.out)).mono ?_
      rintro e w4 ⟨rfl, rfl⟩
      rw [HWZ.out]
      go_wp2_with fail
      go_ret2
      exact ⟨c, rfl, hcw, HBR.out, HER.out⟩
end Go.Proofs.YtapclkjpokbgbaaDoor
