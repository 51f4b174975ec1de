/- tabellionlaw08: do. -/
import Derived.Test.YtmffknllnjagoaaDoorTws
set_option linter.unusedSimpArgs false
set_option linter.unusedVariables false
namespace Go.Proofs.YtmffknllnjagoaaDoor
open Go Go.RowKit Go.Maps Go.Sort

theorem kb {o : LO} {K : Int} (h : K = kOf o) : (o.kind.tmod 10 + 10).tmod 10 = K ∧ -10 < o.kind.tmod 10 ∧ o.kind.tmod 10 < 10 := by
  refine ⟨by rw [h]; rfl, ?_, Int.tmod_lt_of_pos _ (by omega)⟩
  have := Int.lt_tmod_of_pos o.kind (show (0 : Int) < 10 by omega); omega
theorem Two.to {w0 w w2 w3 w4 : World} {d r n m M : Nat} {A Od Or Od3 Or4 : List Nat} {S R : Dk} (h : Two w0 w d r n m M A Od Or S R) (hE : Ext w w2) (h3 : DkTo Od w2 w3 Od3) (h4 : DkTo Or w3 w4 Or4) : DkTo (Od ++ Or) w w4 (Od3 ++ Or4) := by
  have s2 := hE.size; have s3 := h3.1.size
  refine ⟨((Chg.ext hE).trans' h3.1 fun t ht => .inl (List.mem_append_left _ ht)).trans' h4.1 fun t ht => .inl (List.mem_append_right _ ht), fun t ht => ?_, fun t ht => ?_⟩
  · rcases List.mem_append.1 ht with ht | ht
    · rcases h3.2.1 t ht with k | k
      · exact .inl (List.mem_append_left _ k)
      · right; omega
    · rcases h4.2.1 t ht with k | k
      · exact .inl (List.mem_append_right _ k)
      · right; omega
  · rcases List.mem_append.1 ht with ht | ht
    · exact h.dk.low t ht
    · exact h.rk.lowO t ht
theorem own_low {w : World} {B n : Nat} {e : TypeId} {sz : Nat} {v : Value} {xs : List Value} (h : w.ownsRow B e sz v n xs) : ∀ t ∈ v.ownBlock.toList, t < w.heap.size := by
  intro t ht
  rcases h.2 with ⟨hv, _⟩ | ⟨g, cap, cur, hv, _, hh, _⟩
  · rw [hv] at ht; simp [Value.ownBlock] at ht
  · rw [hv] at ht; simp [Value.ownBlock] at ht; subst ht; exact (Array.getElem?_eq_some_iff.1 hh).1
set_option maxRecDepth 100000 in
set_option maxHeartbeats 4000000 in
/-- One call on both disks, which are of one plain state: they are so behind it. -/
theorem ldo_c (w0 : World) (d r n m : Nat) (Od Or : List Nat) (S : Dk) (o : LO) (bv kv : Value) (w : World) (h : Two w0 w d r n m 10000 [] Od Or S S) (ok : LOk o) (hbv : Rd w0 bv (u8s o.b)) (hkv : Rd w0 kv (o.keep.map Value.bool)) (hw : S.waits.length ≤ 100) (hn : n ≤ 100000) (hm : m ≤ 100000)
    (hb : o.b.length ≤ 5000) (hN : o.n ≤ 5000 ∨ 1048576 < o.n) :
    Calls Tryd.prog 21 #[dptr d, dptr r, loV o bv kv] w fun e w' => e = .returned (.bool true) ∧ ∃ Od' Or', Two w0 w' d r (n + 100) (m + 100) 10000 [] Od' Or' (opS o S).2 (opS o S).2 ∧ DkTo (Od ++ Or) w w' (Od' ++ Or') := by
  obtain ⟨X, hX⟩ : ∃ X, X = opS o S := ⟨_, rfl⟩
  rw [← hX]
  obtain ⟨K, hK⟩ : ∃ K, K = kOf o := ⟨_, rfl⟩
  have hKr := kOf_range o
  rw [← hK] at hKr
  obtain ⟨hk1, hk2, hk3⟩ := kb hK
  have hk0 := ok.k0; have hk0' := ok.k1
  have hB1 : 0 ≤ o.n → o.n ≤ 1048576 → o.n + o.b.length ≤ (10000 : Nat) := by intro h0 h1; omega
  have HB1 := Lib.hid hB1
  obtain ⟨hn0, hn1⟩ := And.intro ok.n0 ok.n1
  have HX := Lib.hid hX; have HK := Lib.hid hK; have HO := Lib.hid ok
  have HT := Lib.hid h; have HBV := Lib.hid hbv; have HKV := Lib.hid hkv
  clear hX hK ok h hbv hkv hB1 hN
  go_enter Tryd.func21, Tryd.ntmps21
  simp only [loV]
  go_upto_region 1 with fail
  obtain ⟨W1, hW1⟩ : ∃ W1, W1 = w.alloc (.cells #[.int .i64 o.kind, .string o.name, .string o.nto, .int .i64 o.n, bv, kv] 46) := ⟨_, rfl⟩
  have hE1 : Ext w W1 := by rw [hW1]; exact Ext.alloc _ _
  have hB : Blk W1 w.heap.size #[.int .i64 o.kind, .string o.name, .string o.nto, .int .i64 o.n, bv, kv] 46 := by rw [hW1]; exact Blk.new _ _ _
  have hlt := hB.lt
  obtain ⟨k0, k1, k2, k3, k4, k5⟩ := hB.six
  rw [← hW1]
  obtain ⟨B0, hB0⟩ : ∃ B0, B0 = w.heap.size := ⟨_, rfl⟩
  rw [← hB0] at hB hlt k0 k1 k2 k3 k4 k5 ⊢
  have hE2 : Ext W1 (W1.alloc (.cells #[] 5)) := Ext.alloc _ _
  have hO1 : (W1.alloc (.cells #[] 5)).ownsRow W1.heap.size 5 1 (.slice (some ⟨W1.heap.size, 0, none⟩) 0 0) 0 [] := own_lit W1 [] 5 (by simp)
  have HO1 := Lib.hid hO1
  have HE1 := Lib.hid hE1; have HB := Lib.hid hB; have HB0 := Lib.hid hB0; have HE12 := Lib.hid hE2
  clear hW1 hE1 hO1 hE2 hB hB0 k0 k1 k2 k3 k5
  go_wp2_with (at_builtin; refine wpList_append_rd rfl (.tmp 11) (.tmp 13) _ rfl el8 W1.heap.size _ 0 [] (u8s o.b) rfl HO1.out _ rfl (HBV.out.ext ((HT.out.old.trans HE1.out).trans HE12.out)) (u8s_one _) (by rw [u8s_len]; omega) (by rw [u8s_len]; unfold maxLen; omega) HE12.out.size ?_)
  intro v2 w2 ho2 hg2
  simp only [List.nil_append, Nat.zero_add, u8s_len] at ho2
  have hE02 : Ext w w2 := HE1.out.trans (Below.grown HE12.out hg2 HE12.out.size (by intro k hk; simp [Value.ownBlock] at hk; omega))
  obtain ⟨k0, k1, k2, k3, k4, k5⟩ := (HB.out.ext (Below.grown HE12.out hg2 HE12.out.size (by intro k hk; simp [Value.ownBlock] at hk; omega))).six
  have hfr := own_from ho2
  have hlow : ∀ t ∈ v2.ownBlock.toList, t < w2.heap.size := own_low ho2
  have hnew : ∀ t ∈ v2.ownBlock.toList, w.heap.size ≤ t := fun t ht => by
    have h1 := hfr t (by simpa using ht); have := HE1.out.size; omega
  have hT2 := HT.out.foreign (A' := v2.ownBlock.toList) hE02 (fun t ht => .inr (hnew t ht)) hlow
  have hb0 : B0 ∉ Od ∧ B0 ∉ Or := ⟨fun hm => by have := HT.out.dk.low _ hm; have := HB0.out; omega, fun hm => by have := HT.out.rk.lowO _ hm; have := HB0.out; omega⟩
  have hrd2 := Rd.of_own ho2
  obtain ⟨va, vc, rfl⟩ := own_shapeL ho2
  obtain ⟨L, hL⟩ : ∃ L, L = o.b.length := ⟨_, rfl⟩
  have HT2 := Lib.hid hT2; have HO2 := Lib.hid ho2; have HNW := Lib.hid hnew; have HRD2 := Lib.hid hrd2; have HB02 := Lib.hid hb0
  clear hfr hlow hnew hT2 ho2 hg2 hrd2 hb0 HO1 HB HE1 HE12
  go_upto_block 0 with fail
  obtain ⟨A, hA⟩ : ∃ A, A = (Value.slice va o.b.length vc).ownBlock.toList := ⟨_, rfl⟩
  rw [← hA] at HT2 HNW
  rw [← hL] at HO2 HRD2 hA ⊢
  have HA := Lib.hid hA; have HL := Lib.hid hL
  have hwl : S.waits.length < 1000000000 := by omega
  have hn9 : n < 1000000000 := by omega
  have hm8 : m < 800000000 := by omega
  have HE02 := Lib.hid (HT.out.old.trans hE02); have HEW := Lib.hid hE02
  clear hL hA hE02 hlt HB0
  go_cut [8, 9] (fun v8 v9 wc => v8 = .int .i64 X.1 ∧ v9 = .int .i64 X.1 ∧ wc.ownsRow W1.heap.size 5 1 (.slice va L vc) L (u8s o.b) ∧ ∃ Od' Or', Two w0 wc d r (n + 100) (m + 100) 10000 A Od' Or' X.2 X.2 ∧ DkTo (Od ++ Or) w wc (Od' ++ Or'))
  case first =>
    have hK10 : K = 0 ∨ K = 1 ∨ K = 2 ∨ K = 3 ∨ K = 4 ∨ K = 5 ∨ K = 6 ∨ K = 7 ∨ K = 8 ∨ K = 9 := by omega
    clear hk0 hk0' hk1 hk2 hk3
    rcases hK10 with rfl | rfl | rfl | rfl | rfl | rfl | rfl | rfl | rfl | rfl
    -- 0
    · have HX2 : Hid (X = writeS S o.name o.n o.b) := Lib.hid (by rw [HX.out]; simp [opS, ← HK.out])
      clear HX HK
      go_wp2_with fail
      refine (write_c d n 10000 Od A S o.name o.n o.b (.slice va L vc) w2 HT2.out.dk hn9 hwl (by omega) (by omega) HO.out.name hn1 hn0 HRD2.out HO.out.b8 HB1.out).mono ?_
      rintro e w3 ⟨rfl, Od3, hd3, ht3⟩
      rw [← HX2.out] at hd3 ⊢
      have k1' := cell_chg ht3.1 k1 HB02.out.1; have k2' := cell_chg ht3.1 k2 HB02.out.1; have k3' := cell_chg ht3.1 k3 HB02.out.1; have k4' := cell_chg ht3.1 k4 HB02.out.1
      have hT3 := HT2.out.disk hd3 ht3
      have hO3 := own_chgL HO2.out ht3.1 (fun t ht => HT2.out.sep t (by rw [HA.out]; exact ht))
      have HT3 := Lib.hid hT3; have HO3 := Lib.hid hO3; have HD3 := Lib.hid ht3
      clear hd3 ht3 hT3 hO3 k0 k1 k2 k3 k4 k5
      go_wp2_with fail
      refine (rwrite_c r m 10000 Or (Od3 ++ A) S o.name o.n o.b bv w3 HT3.out.rk hm8 hwl (by omega) (by omega) HO.out.name hn1 hn0 (HBV.out.ext HT3.out.old) HO.out.b8 HB1.out).mono ?_
      rintro e w4 ⟨rfl, Or4, hr4, ht4⟩
      rw [← HX2.out] at hr4 ⊢
      have hO4 := own_chgL HO3.out ht4.1 (fun t ht hm => HT3.out.rk.sep t hm (List.mem_append_right _ (by rw [HA.out]; exact ht)))
      have HT4 := Lib.hid (HT3.out.ref hr4 ht4); have HD4 := Lib.hid ht4; have HO4 := Lib.hid hO4
      clear hr4 ht4 hO4 k1' k2' k3' k4'
      go_wp2_with fail
      go_meet
      exact ⟨rfl, rfl, HO4.out, Od3, Or4, HT4.out.more (by omega) (by omega), HT.out.to HEW.out HD3.out HD4.out⟩
    -- 1
    · have HX2 : Hid (X = cutS S o.name o.n) := Lib.hid (by rw [HX.out]; simp [opS, ← HK.out])
      clear HX HK
      go_wp2_with fail
      refine (cut_c d n 10000 Od A S o.name o.n w2 HT2.out.dk hn9 hwl (by omega) HO.out.name).mono ?_
      rintro e w3 ⟨rfl, Od3, hd3, ht3⟩
      rw [← HX2.out] at hd3 ⊢
      have k1' := cell_chg ht3.1 k1 HB02.out.1; have k2' := cell_chg ht3.1 k2 HB02.out.1; have k3' := cell_chg ht3.1 k3 HB02.out.1; have k4' := cell_chg ht3.1 k4 HB02.out.1
      have hT3 := HT2.out.disk hd3 ht3
      have hO3 := own_chgL HO2.out ht3.1 (fun t ht => HT2.out.sep t (by rw [HA.out]; exact ht))
      have HT3 := Lib.hid hT3; have HO3 := Lib.hid hO3; have HD3 := Lib.hid ht3
      clear hd3 ht3 hT3 hO3 k0 k1 k2 k3 k4 k5
      go_wp2_with fail
      refine (rcut_c r m 10000 Or (Od3 ++ A) S o.name o.n w3 HT3.out.rk hm8 hwl (by omega) HO.out.name).mono ?_
      rintro e w4 ⟨rfl, Or4, hr4, ht4⟩
      rw [← HX2.out] at hr4 ⊢
      have hO4 := own_chgL HO3.out ht4.1 (fun t ht hm => HT3.out.rk.sep t hm (List.mem_append_right _ (by rw [HA.out]; exact ht)))
      have HT4 := Lib.hid (HT3.out.ref hr4 ht4); have HD4 := Lib.hid ht4; have HO4 := Lib.hid hO4
      clear hr4 ht4 hO4 k1' k2' k3' k4'
      go_wp2_with fail
      go_meet
      exact ⟨rfl, rfl, HO4.out, Od3, Or4, HT4.out.more (by omega) (by omega), HT.out.to HEW.out HD3.out HD4.out⟩
    -- 2
    · have HX2 : Hid (X = removeS S o.name) := Lib.hid (by rw [HX.out]; simp [opS, ← HK.out])
      clear HX HK
      go_wp2_with fail
      refine (remove_c d n 10000 Od A S o.name w2 HT2.out.dk hn9 hwl (by omega) HO.out.name).mono ?_
      rintro e w3 ⟨rfl, Od3, hd3, ht3⟩
      rw [← HX2.out] at hd3 ⊢
      have k1' := cell_chg ht3.1 k1 HB02.out.1; have k2' := cell_chg ht3.1 k2 HB02.out.1; have k3' := cell_chg ht3.1 k3 HB02.out.1; have k4' := cell_chg ht3.1 k4 HB02.out.1
      have hT3 := HT2.out.disk hd3 ht3
      have hO3 := own_chgL HO2.out ht3.1 (fun t ht => HT2.out.sep t (by rw [HA.out]; exact ht))
      have HT3 := Lib.hid hT3; have HO3 := Lib.hid hO3; have HD3 := Lib.hid ht3
      clear hd3 ht3 hT3 hO3 k0 k1 k2 k3 k4 k5
      go_wp2_with fail
      refine (rremove_c r m 10000 Or (Od3 ++ A) S o.name w3 HT3.out.rk hm8 hwl (by omega) HO.out.name).mono ?_
      rintro e w4 ⟨rfl, Or4, hr4, ht4⟩
      rw [← HX2.out] at hr4 ⊢
      have hO4 := own_chgL HO3.out ht4.1 (fun t ht hm => HT3.out.rk.sep t hm (List.mem_append_right _ (by rw [HA.out]; exact ht)))
      have HT4 := Lib.hid (HT3.out.ref hr4 ht4); have HD4 := Lib.hid ht4; have HO4 := Lib.hid hO4
      clear hr4 ht4 hO4 k1' k2' k3' k4'
      go_wp2_with fail
      go_meet
      exact ⟨rfl, rfl, HO4.out, Od3, Or4, HT4.out.more (by omega) (by omega), HT.out.to HEW.out HD3.out HD4.out⟩
    -- 3
    · have HX2 : Hid (X = renameS S o.name o.nto) := Lib.hid (by rw [HX.out]; simp [opS, ← HK.out])
      clear HX HK
      go_wp2_with fail
      refine (rename_c d n 10000 Od A S o.name o.nto w2 HT2.out.dk hn9 hwl (by omega) HO.out.name HO.out.nto).mono ?_
      rintro e w3 ⟨rfl, Od3, hd3, ht3⟩
      rw [← HX2.out] at hd3 ⊢
      have k1' := cell_chg ht3.1 k1 HB02.out.1; have k2' := cell_chg ht3.1 k2 HB02.out.1; have k3' := cell_chg ht3.1 k3 HB02.out.1; have k4' := cell_chg ht3.1 k4 HB02.out.1
      have hT3 := HT2.out.disk hd3 ht3
      have hO3 := own_chgL HO2.out ht3.1 (fun t ht => HT2.out.sep t (by rw [HA.out]; exact ht))
      have HT3 := Lib.hid hT3; have HO3 := Lib.hid hO3; have HD3 := Lib.hid ht3
      clear hd3 ht3 hT3 hO3 k0 k1 k2 k3 k4 k5
      go_wp2_with fail
      refine (rrename_c r m 10000 Or (Od3 ++ A) S o.name o.nto w3 HT3.out.rk hm8 hwl (by omega) HO.out.name HO.out.nto).mono ?_
      rintro e w4 ⟨rfl, Or4, hr4, ht4⟩
      rw [← HX2.out] at hr4 ⊢
      have hO4 := own_chgL HO3.out ht4.1 (fun t ht hm => HT3.out.rk.sep t hm (List.mem_append_right _ (by rw [HA.out]; exact ht)))
      have HT4 := Lib.hid (HT3.out.ref hr4 ht4); have HD4 := Lib.hid ht4; have HO4 := Lib.hid hO4
      clear hr4 ht4 hO4 k1' k2' k3' k4'
      go_wp2_with fail
      go_meet
      exact ⟨rfl, rfl, HO4.out, Od3, Or4, HT4.out.more (by omega) (by omega), HT.out.to HEW.out HD3.out HD4.out⟩
    -- 4
    · have HX2 : Hid (X = syncS S) := Lib.hid (by rw [HX.out]; simp [opS, ← HK.out])
      clear HX HK
      go_wp2_with fail
      refine (sync_c d n 10000 Od A S  w2 HT2.out.dk ).mono ?_
      rintro e w3 ⟨rfl, Od3, hd3, ht3⟩
      rw [← HX2.out] at hd3 ⊢
      have k1' := cell_chg ht3.1 k1 HB02.out.1; have k2' := cell_chg ht3.1 k2 HB02.out.1; have k3' := cell_chg ht3.1 k3 HB02.out.1; have k4' := cell_chg ht3.1 k4 HB02.out.1
      have hT3 := HT2.out.disk hd3 ht3
      have hO3 := own_chgL HO2.out ht3.1 (fun t ht => HT2.out.sep t (by rw [HA.out]; exact ht))
      have HT3 := Lib.hid hT3; have HO3 := Lib.hid hO3; have HD3 := Lib.hid ht3
      clear hd3 ht3 hT3 hO3 k0 k1 k2 k3 k4 k5
      go_wp2_with fail
      refine (rsync_c r m 10000 Or (Od3 ++ A) S  w3 HT3.out.rk ).mono ?_
      rintro e w4 ⟨rfl, Or4, hr4, ht4⟩
      rw [← HX2.out] at hr4 ⊢
      have hO4 := own_chgL HO3.out ht4.1 (fun t ht hm => HT3.out.rk.sep t hm (List.mem_append_right _ (by rw [HA.out]; exact ht)))
      have HT4 := Lib.hid (HT3.out.ref hr4 ht4); have HD4 := Lib.hid ht4; have HO4 := Lib.hid hO4
      clear hr4 ht4 hO4 k1' k2' k3' k4'
      go_wp2_with fail
      go_meet
      exact ⟨rfl, rfl, HO4.out, Od3, Or4, HT4.out.more (by omega) (by omega), HT.out.to HEW.out HD3.out HD4.out⟩
    -- 5
    · have HX2 : Hid (X = (0, S)) := Lib.hid (by rw [HX.out]; simp [opS, ← HK.out])
      clear HX HK
      go_wp2_with fail
      go_meet
      rw [HX2.out]
      exact ⟨rfl, rfl, HO2.out, Od, Or, HT2.out.more (by omega) (by omega), HT.out.to HEW.out (DkTo.refl HT2.out.dk.low) (DkTo.refl HT2.out.rk.lowO)⟩
    -- 6
    · have HX2 : Hid (X = (0, { S with room := o.n })) := Lib.hid (by rw [HX.out]; simp [opS, ← HK.out])
      clear HX HK
      go_wp2_with fail
      refine (room_c d n 10000 Od A S w2 o.n hn0 hn1 HT2.out.dk).mono ?_
      rintro e w3 ⟨rfl, hd3, ht3⟩
      have k3' := cell_chg ht3.1 k3 HB02.out.1
      have hT3 := HT2.out.disk hd3 ht3
      have hO3 := own_chgL HO2.out ht3.1 (fun t ht => HT2.out.sep t (by rw [HA.out]; exact ht))
      have HT3 := Lib.hid hT3; have HO3 := Lib.hid hO3; have HD3 := Lib.hid ht3
      obtain ⟨fv, sv, ov, _, _, _, hBr, hnext⟩ := hT3.rk.turn
      have R := hnext (w3.setCell ⟨r, 3, none⟩ (.int .i64 o.n)) o.n S.fuse S.off (Chg.set _ _ _ (by simp)) (by simpa [rB] using hBr.set 3 (.int .i64 o.n)) HT3.out.rk.fuse0 HT3.out.rk.fuse1 hn0 hn1
      have hfz := hBr.free 3
      have c0 := hBr.rsix
      obtain ⟨c0, c1, c2, c3, c4, c5⟩ := c0
      have hO4 := own_chgL HO3.out R.2.1 (fun t ht hm => HT3.out.rk.sep t hm (List.mem_append_right _ (by rw [HA.out]; exact ht)))
      have HT4 := Lib.hid (hT3.ref R.1 R.2); have HD4 := Lib.hid R.2; have HO4 := Lib.hid hO4
      clear hd3 ht3 hT3 hO3 k0 k1 k2 k3 k4 k5 hBr hnext R hO4
      go_wp2_with fail
      go_meet
      rw [HX2.out]
      exact ⟨rfl, rfl, HO4.out, Od, Or, HT4.out.more (by omega) (by omega), HT.out.to HEW.out HD3.out HD4.out⟩
    -- 7
    · have HX2 : Hid (X = (0, { S with fuse := max o.n (-1) })) := Lib.hid (by rw [HX.out]; simp [opS, ← HK.out])
      clear HX HK
      go_wp2_with fail
      refine (fuse_c d n 10000 Od A S w2 o.n hn1 HT2.out.dk).mono ?_
      rintro e w3 ⟨rfl, hd3, ht3⟩
      have k3' := cell_chg ht3.1 k3 HB02.out.1
      have hT3 := HT2.out.disk hd3 ht3
      have hO3 := own_chgL HO2.out ht3.1 (fun t ht => HT2.out.sep t (by rw [HA.out]; exact ht))
      have HT3 := Lib.hid hT3; have HO3 := Lib.hid hO3; have HD3 := Lib.hid ht3
      obtain ⟨fv, sv, ov, _, _, _, hBr, hnext⟩ := hT3.rk.turn
      have R := hnext (w3.setCell ⟨r, 4, none⟩ (.int .i64 (max o.n (-1)))) S.room (max o.n (-1)) S.off (Chg.set _ _ _ (by simp)) (by simpa [rB] using hBr.set 4 (.int .i64 (max o.n (-1)))) (by omega) (by omega) HT3.out.rk.room0 HT3.out.rk.room1
      have hfz := hBr.free 4
      have c0 := hBr.rsix
      obtain ⟨c0, c1, c2, c3, c4, c5⟩ := c0
      have hO4 := own_chgL HO3.out R.2.1 (fun t ht hm => HT3.out.rk.sep t hm (List.mem_append_right _ (by rw [HA.out]; exact ht)))
      have HT4 := Lib.hid (hT3.ref R.1 R.2); have HD4 := Lib.hid R.2; have HO4 := Lib.hid hO4
      clear hd3 ht3 hT3 hO3 k0 k1 k2 k3 k4 k5 hBr hnext R hO4
      go_wp2_with fail
      go_meet
      rw [HX2.out]
      exact ⟨rfl, rfl, HO4.out, Od, Or, HT4.out.more (by omega) (by omega), HT.out.to HEW.out HD3.out HD4.out⟩
    -- 8
    · have HX2 : Hid (X = (0, crashS S o.keep o.n)) := Lib.hid (by rw [HX.out]; simp [opS, ← HK.out])
      clear HX HK
      go_wp2_with fail
      refine (crash_c d n 10000 Od A S o.keep o.n kv w2 HT2.out.dk (by omega) (by omega) (HKV.out.ext HE02.out) hn0 hn1).mono ?_
      rintro e w3 ⟨rfl, Od3, hd3, ht3⟩
      have k3' := cell_chg ht3.1 k3 HB02.out.1; have k5' := cell_chg ht3.1 k5 HB02.out.1
      have hT3 := HT2.out.disk hd3 ht3
      have hO3 := own_chgL HO2.out ht3.1 (fun t ht => HT2.out.sep t (by rw [HA.out]; exact ht))
      have HT3 := Lib.hid hT3; have HO3 := Lib.hid hO3; have HD3 := Lib.hid ht3
      clear hd3 ht3 hT3 hO3 k0 k1 k2 k3 k4 k5
      go_wp2_with fail
      refine (rcrash_c r m 10000 Or (Od3 ++ A) S o.keep o.n kv w3 HT3.out.rk (by omega) (by omega) (HKV.out.ext HT3.out.old) hn0 hn1).mono ?_
      rintro e w4 ⟨rfl, Or4, hr4, ht4⟩
      have hO4 := own_chgL HO3.out ht4.1 (fun t ht hm => HT3.out.rk.sep t hm (List.mem_append_right _ (by rw [HA.out]; exact ht)))
      have HT4 := Lib.hid (HT3.out.ref hr4 ht4); have HD4 := Lib.hid ht4; have HO4 := Lib.hid hO4
      clear hr4 ht4 hO4 k3' k5'
      go_wp2_with fail
      go_meet
      rw [HX2.out]
      exact ⟨rfl, rfl, HO4.out, Od3, Or4, HT4.out.more (by omega) (by omega), HT.out.to HEW.out HD3.out HD4.out⟩
    -- 9
    · have HX2 : Hid (X = (0, S)) := Lib.hid (by rw [HX.out]; simp [opS, ← HK.out])
      clear HX HK
      go_wp2_with fail
      go_meet
      rw [HX2.out]
      exact ⟨rfl, rfl, HO2.out, Od, Or, HT2.out.more (by omega) (by omega), HT.out.to HEW.out (DkTo.refl HT2.out.dk.low) (DkTo.refl HT2.out.rk.lowO)⟩
  case rest =>
  obtain ⟨rfl, rfl, ho, Od2, Or2, hT, hto⟩ := hcut
  have HO3 := Lib.hid ho; have HT3 := Lib.hid hT; have HTO := Lib.hid hto
  have hLb : L ≤ 9223372036854775807 := by have := HL.out; omega
  clear ho hT hto k0 k1 k2 k3 k4 k5 hk0 hk0' hk1 hk2 hk3 HO2 HT2 HRD2
  go_wp2_with fail
  go_loopg [10] L (fun g iv wr => ∃ (k : Nat) (xs : List Int), iv = .int .i64 (k : Int) ∧ k + g = L ∧ xs.length = L ∧ wr.ownsRow W1.heap.size 5 1 (.slice va L vc) L (u8s xs) ∧ Two w0 wr d r (n + 100) (m + 100) 10000 A Od2 Or2 X.2 X.2 ∧ DkTo (Od ++ Or) w wr (Od2 ++ Or2))
  case atStart => exact ⟨0, o.b, rfl, by omega, HL.out.symm, HO3.out, HT3.out, HTO.out⟩
  case round =>
    obtain ⟨k, xs, rfl, hk, hxl, hxo, hTK, hto⟩ := hrel
    have HTK := Lib.hid hTK; have HTD := Lib.hid hto; have HXO := Lib.hid hxo
    by_cases hkl : k < L
    · obtain ⟨g, rfl, hgw, hfz, c8⟩ := own_at8 hxo hxl hkl
      obtain ⟨z, hz⟩ : ∃ z, z = xs.getD k 0 := ⟨_, rfl⟩
      rw [← hz] at c8
      have hkc : k < vc := own_cap8 hxo hkl
      have HXL := Lib.hid hxl
      have hgA : g ∈ A := by rw [HA.out]; simp [Value.ownBlock]
      have HGA := Lib.hid hgA
      clear hxo hTK hxl hz hgA hto
      go_wp2_with fail
      go_roundg (L - (k + 1))
      case measure => omega
      case rel =>
        refine ⟨k + 1, _, by go_num, by omega, ?_, own_set8 HXO.out _ _, ?_, ?_⟩
        · rw [List.length_set]; exact HXL.out
        · exact HTK.out.tug (Chg.set _ _ _ HGA.out) (fun t ht => Nat.le_trans HT.out.old.size (HNW.out t ht))
        · exact ⟨HTD.out.1.setNew _ _ _ (.inr (HNW.out _ HGA.out)), HTD.out.2⟩
    · have hge : (L : Int) ≤ (k : Int) := by omega
      clear hkl hxo hTK hxl hto
      obtain ⟨x, hx⟩ : ∃ x, x = X.1 := ⟨_, rfl⟩
      go_wp2_with fail
      refine (same_c d r (n + 100) (m + 100) 10000 A Od2 Or2 (Od2 ++ A) X.2 wr HTK.out.dk HTK.out.rk (by omega) (by omega) (by omega) (by omega)).mono ?_
      rintro e w5 ⟨rfl, hE5⟩
      have HT5 := Lib.hid ((HTK.out.ext hE5).foreign (A' := []) (Ext.refl _) (by simp) (by simp))
      have HTE := Lib.hid (show DkTo (Od ++ Or) w w5 (Od2 ++ Or2) from ⟨HTD.out.1.trans' (T := []) (Chg.ext hE5) (by simp), HTD.out.2⟩)
      clear hE5
      go_wp2_with fail
      go_ret
      exact ⟨rfl, Od2, Or2, HT5.out, HTE.out⟩
end Go.Proofs.YtmffknllnjagoaaDoor
