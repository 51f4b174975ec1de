/- vault: Put. -/
import Derived.Test.YtapclkjpokbgbaaDoorVau3
import Derived.Test.YtapclkjpokbgbaaDoorOrds
set_option linter.unusedSimpArgs false
set_option linter.unusedVariables false
namespace Go.Proofs.YtapclkjpokbgbaaDoor
open Go Go.RowKit Go.Maps

/-- What a put leaves. -/
def VPost (w : World) (v d n M : Nat) (O F : List Nat) (name : ByteArray) (cv : Value) (has : Bool) (b : List Int) (X : Int × Dk) (e : Ending) (w' : World) : Prop :=
  e = .returned (.int .i64 X.1) ∧ ∃ O', DkS w' d (n + 2) M O' F X.2 ∧ v ∉ O' ∧ (∀ t ∈ O', t ∈ O ∨ w.heap.size ≤ t) ∧ Chg (v :: O) w w' ∧
    (X.1 = 0 → ∃ bv', VauB w' v d name bv' true false ∧ Rd w' bv' (u8s b) ∧ From w.heap.size bv' ∧ OffL bv' (u8s b) O') ∧ (X.1 ≠ 0 → VauB w' v d name cv has (X.1 == 6))
theorem vau_nob {w : World} {v d : Nat} {name : ByteArray} {cv : Value} {has ov : Bool} (h : VauB w v d name cv has ov) (hc : ∃ a n c, cv = .slice a n c) : NoB w v := by
  obtain ⟨a, n, c, rfl⟩ := hc
  exact NoB.blk h (by intro y hy z; simp [dptr] at hy; rcases hy with rfl | rfl | rfl | rfl | rfl <;> simp)
theorem vput_err {w w1 W : World} {v d n n' M a q : Nat} {O O' F : List Nat} {name : ByteArray} {cv : Value} {has : Bool} {b : List Int} {X : Int × Dk} {tmps : Array Value} (hX0 : X.1 ≠ 0) (hd : DkS W d n' M O' F X.2) (hn : n' ≤ n + 2) (ht : DkTo O w1 W O') (hE : Ext w w1) (hv : VauB w1 v d name cv has false) (hcv : ∃ a n c, cv = .slice a n c)
    (hA : Blk w1 a #[dptr v] 37) (hQ : Blk w1 q #[.int .i64 0] 27) (haO : a ∉ O) (hqO : q ∉ O) (hvO : v ∉ O) (hav : a ≠ v) (hqv : q ≠ v) (hqa : q ≠ a) (hqn : w.heap.size ≤ q) (h4 : tmps[4]? = some (ptr q)) :
    bodyPostD Tryd.prog Tryd.f17 (VPost w v d n M O F name cv has b X) (.panic [{ v := errv X.1, recovered := false }]) { tmps := tmps, defers := [{ target := .fn (.func 44) #[ptr q, ptr a], args := #[] }] } W := by
  have hvW : VauB W v d name cv has false := Blk.chg hv ht.1 hvO
  have hqW := hQ.chg ht.1 hqO
  have hvO' : v ∉ O' := fun hm => by
    rcases ht.2.1 v hm with e | e
    · exact hvO e
    · have := Blk.lt hv; omega
  have hqO' : q ∉ O' := fun hm => by
    rcases ht.2.1 q hm with e | e
    · exact hqO e
    · have := hQ.lt; omega
  have hqnb : NoB W q := NoB.blk hqW (by intro y hy z; simp at hy; subst hy; simp)
  refine vput_door a q v d name cv has false (.int .i64 0) X.1 W tmps _ (hA.chg ht.1 haO) hqW hvW hqv hav hqa h4 fun w2 hC hv2 => ?_
  refine ⟨rfl, O', (hd.chg hC (fun t h => by
    simp at h
    rcases h with rfl | rfl
    · exact ⟨hqO', .inl hqnb⟩
    · exact ⟨hvO', .inl (vau_nob hvW hcv)⟩)).more hn, hvO', fun t h => (ht.2.1 t h).imp id fun e => Nat.le_trans hE.size e, ?_, fun h => absurd h hX0, fun _ => hv2⟩
  exact ((Chg.ext hE).trans' ht.1 fun t h => .inl (List.mem_cons_of_mem _ h)).trans' hC fun t h => by
    simp at h
    rcases h with rfl | rfl
    · exact .inr hqn
    · exact .inl (by simp)
theorem vw_wait (S : Dk) (o : Dd) : (waitS S o).2.waits.length ≤ S.waits.length + 1 := by
  unfold waitS; split
  · exact Nat.le_succ _
  · simp
theorem vw_sync (S : Dk) : (syncS S).2.waits.length ≤ S.waits.length := by
  unfold syncS; split
  · exact Nat.le_refl _
  · split
    · exact Nat.le_refl _
    · exact Nat.zero_le _
theorem vw_write (S : Dk) (name : ByteArray) (a : Int) (b : List Int) : (writeS S name a b).2.waits.length ≤ S.waits.length + 1 := by
  unfold writeS
  repeat' split
  all_goals first | exact vw_wait _ _ | exact Nat.le_succ _
/-- The end of a put that is well. -/
theorem vput_end {w w1 W W1 : World} {v d n M a q : Nat} {O O' F : List Nat} {name : ByteArray} {cv bv' : Value} {has : Bool} {b : List Int} {X2 : Dk} {tmps : Array Value} (hd : DkS W d (n + 2) M O' F X2) (ht : DkTo O w1 W O') (hE : Ext w w1) (hv : VauB w1 v d name cv has false) (hcv : ∃ a n c, cv = .slice a n c)
    (hA : Blk w1 a #[dptr v] 37) (hQ : Blk w1 q #[.int .i64 0] 27) (haO : a ∉ O) (hqO : q ∉ O) (hvO : v ∉ O) (hav : a ≠ v) (hqv : q ≠ v) (hqa : q ≠ a) (hqn : w.heap.size ≤ q) (h4 : tmps[4]? = some (ptr q)) (ho : W1.ownsRow W.heap.size 5 1 bv' b.length (u8s b)) (hE1 : Ext W W1) :
    bodyPostD Tryd.prog Tryd.f17 (VPost w v d n M O F name cv has b (0, X2)) .ret { tmps := tmps, defers := [{ target := .fn (.func 44) #[ptr q, ptr a], args := #[] }] } (((W1.setCell ⟨v, 2, none⟩ bv').setCell ⟨v, 3, none⟩ (.bool true)).setCell ⟨q, 0, none⟩ (.int .i64 0)) := by
  have hvW : VauB W v d name cv has false := Blk.chg hv ht.1 hvO
  have hqW := hQ.chg ht.1 hqO
  have hvO' : v ∉ O' := fun hm => by
    rcases ht.2.1 v hm with e | e
    · exact hvO e
    · have := Blk.lt hv; omega
  have hqO' : q ∉ O' := fun hm => by
    rcases ht.2.1 q hm with e | e
    · exact hqO e
    · have := hQ.lt; omega
  have hqnb : NoB W q := NoB.blk hqW (by intro y hy z; simp at hy; subst hy; simp)
  obtain ⟨G, hG⟩ : ∃ G, G = ((W1.setCell ⟨v, 2, none⟩ bv').setCell ⟨v, 3, none⟩ (.bool true)).setCell ⟨q, 0, none⟩ (.int .i64 0) := ⟨_, rfl⟩
  have hC1 : Chg [q, v] W1 G := by rw [hG]; exact ((Chg.set _ 2 _ (by simp)).setNew _ 3 _ (.inl (by simp))).setNew _ 0 _ (.inl (by simp))
  have hC : Chg [q, v] W G := (Chg.ext hE1).trans' hC1 fun t h => .inl h
  have hqG : Blk G q #[.int .i64 0] 27 := by rw [hG]; simpa using (((hqW.ext hE1).other ⟨v, 2, none⟩ bv' (Ne.symm hqv)).other ⟨v, 3, none⟩ (.bool true) (Ne.symm hqv)).set 0 (.int .i64 0)
  have hvG : VauB G v d name bv' true false := by rw [hG]; unfold VauB; simpa using (((Blk.ext hvW hE1).set 2 bv').set 3 (.bool true)).other ⟨q, 0, none⟩ (.int .i64 0) hqv
  rw [← hG]
  have hvl : v < W.heap.size := Blk.lt hvW
  have hql : q < W.heap.size := hqW.lt
  have hfr := From.own ho
  have hrd : Rd G bv' (u8s b) := (Rd.of_own ho).chg hC1 (hfr.off fun t h => by simp at h; omega)
  have hoff : OffL bv' (u8s b) O' := hfr.off fun t h => hd.low t h
  refine vput_fin a q 0 G tmps _ hqG h4 ?_
  refine ⟨rfl, O', hd.chg hC (fun t h => by
    simp at h
    rcases h with rfl | rfl
    · exact ⟨hqO', .inl hqnb⟩
    · exact ⟨hvO', .inl (vau_nob hvW hcv)⟩), hvO', fun t h => (ht.2.1 t h).imp id fun e => Nat.le_trans hE.size e, ?_, fun _ => ⟨bv', hvG, hrd, hfr.mono (Nat.le_trans hE.size ht.1.size), hoff⟩, fun h => absurd rfl h⟩
  exact ((Chg.ext hE).trans' ht.1 fun t h => .inl (List.mem_cons_of_mem _ h)).trans' hC fun t h => by
    simp at h
    rcases h with rfl | rfl
    · exact .inr hqn
    · exact .inl (by simp)
set_option maxRecDepth 100000 in
set_option maxHeartbeats 4000000 in
/-- A put of a text within the limit. -/
theorem vput_c (v d n M : Nat) (O F : List Nat) (S : Dk) (name : ByteArray) (cv : Value) (has : Bool) (b : List Int) (bv : Value) (w : World) (h : DkS w d n M O F S) (hv : VauB w v d name cv has false) (hcv : ∃ a n c, cv = .slice a n c) (hvO : v ∉ O) (hn : named4 name = true) (hn1 : n ≤ 100000) (hw : S.waits.length ≤ 1000) (hM1 : 32768 ≤ M) (hM2 : M ≤ 1000000) (hb : Rd w bv (u8s b)) (hbO : OffL bv (u8s b) O) (hb8 : B8 b) (hbl : b.length ≤ 32768) :
    Calls Tryd.prog 17 #[dptr v, bv] w (VPost w v d n M O F name cv has b (putV S name b)) := by
  obtain ⟨X, hX⟩ : ∃ X, X = putV S name b := ⟨_, rfl⟩
  rw [← hX]
  unfold putV at hX
  obtain ⟨g0, g4, _⟩ := named4_parts hn
  have HX := Lib.hid hX; have HD := Lib.hid h; have HB := Lib.hid hb; have HBO := Lib.hid hbO; have HB8 := Lib.hid hb8
  have hmf : ∀ (fn : Fn) (first cap : Array Value) (w : World), (Instr.makeFunc fn first cap).run Tryd.prog w = .ok (.func fn first cap) w := fun _ _ _ _ => rfl
  obtain ⟨ba, bc, rfl, _, hbc, _⟩ := hb
  rw [u8s_len] at HB HBO ⊢
  obtain ⟨L, hL⟩ : ∃ L, L = b.length := ⟨_, rfl⟩
  rw [← hL] at hbl HB HBO ⊢
  have HL := Lib.hid hL
  have hLi : (L : Int) ≤ 32768 := by omega
  clear hX h hb8 hn hbc hL hbO
  go_enter_defers Tryd.func17, Tryd.ntmps17
  obtain ⟨wa, hwa⟩ : ∃ wa, wa = w.alloc (.cells #[dptr v] 37) := ⟨_, rfl⟩
  have hEa : Ext w wa := by rw [hwa]; exact Ext.alloc _ _
  have hPa : Blk wa w.heap.size #[dptr v] 37 := by rw [hwa]; exact Blk.new _ _ _
  have hsa : wa.heap.size = w.heap.size + 1 := by rw [hwa]; simp
  obtain ⟨w1, hw1⟩ : ∃ w1, w1 = wa.alloc (.cells #[.int .i64 0] 27) := ⟨_, rfl⟩
  have hE1 : Ext wa w1 := by rw [hw1]; exact Ext.alloc _ _
  have hP1 : Blk w1 (w.heap.size + 1) #[.int .i64 0] 27 := by rw [hw1, ← hsa]; exact Blk.new _ _ _
  have hlv := Blk.lt hv
  go_upto_region 1 with fail
  rw [← hwa, ← hw1]
  obtain ⟨q, hq⟩ : ∃ q, q = w.heap.size + 1 := ⟨_, rfl⟩
  obtain ⟨a, ha⟩ : ∃ a, a = w.heap.size := ⟨_, rfl⟩
  rw [← hq, ← ha]
  rw [← hq] at hP1
  have hPa1 := hPa.ext hE1
  rw [← ha] at hPa1
  have hE01 := hEa.trans hE1
  have haO : a ∉ O := fun hm => by have := HD.out.low a hm; omega
  have hqO : q ∉ O := fun hm => by have := HD.out.low q hm; omega
  have hav : a ≠ v := by omega
  have hqv : q ≠ v := by omega
  have hqa : q ≠ a := by omega
  have HV1 := Lib.hid (Blk.ext hv hE01); have HA1 := Lib.hid hPa1; have HQ1 := Lib.hid hP1; have HE01 := Lib.hid hE01
  have HAQ := Lib.hid (And.intro ha hq)
  obtain ⟨c0, c1, c2, c3, c4⟩ := Blk.five HV1.out
  have qa := hPa1.cell 0 rfl
  have qe := hP1.cell 0 rfl
  simp only [List.getElem_toArray, List.getElem_cons_zero] at qa qe
  clear hwa hw1 hEa hE1 hPa hP1 hsa hq ha hPa1 hE01 hv hlv
  obtain ⟨R, hR⟩ : ∃ R, R = writeS S (vfresh name) 0 b := ⟨_, rfl⟩
  have hX := HX.out
  rw [← hR] at hX
  have HRE := Lib.hid hR; have HX1 := Lib.hid hX
  clear hR hX HX
  go_upto_region 7 with fail
  clear c1 c2 c3 c4
  apply Mono.region2 9 8 Ext (Chg O) [.is _, .is _, .is _, .is _, .is _, .is _, .is _, .is _, .rel (fun u w' => u = .int .i64 R.1 ∧ ∃ O', DkS w' d (n + 1) M O' F R.2 ∧ DkTo O w1 w' O')] (by kernel_rfl) ⟨fun _ _ h => Chg.ext h, fun _ _ _ => Ext.trans, fun _ _ _ => Chg.trans⟩ (Ext.refl _) (by kernel_rfl) rfl rfl ⟨fun u w' w'' h hE => ⟨h.1, h.2.imp fun O' x => ⟨x.1.ext (show Ext w' w'' from hE), x.2.1.trans' (T := []) (Chg.ext (show Ext w' w'' from hE)) (by simp), x.2.2⟩⟩, trivial⟩
  focus
    iterate 6 (apply Mono.step_is; (· refine Mono.obl_quiet (by decide) fun w5 hE5 hkn K hK => ?_; (have ja := cell_chg hE5 (show w1.drew.cell? _ = _ from qa) haO); (have j0 := cell_chg hE5 (show w1.drew.cell? _ = _ from c0) hvO); clear hE5 hkn; go_wp2_with fail; simp only [Act.put, List.setIfInBounds_toArray, List.set_cons_succ, List.set_cons_zero] at hK; exact hK _ _ (Ext.refl _) (Mono.is_rfl _ _)); simp only [Act.put, List.setIfInBounds_toArray, List.set_cons_succ, List.set_cons_zero])
    apply Mono.step_is
    · refine Mono.obl_quiet (by decide) fun w5 hE5 hkn K hK => ?_
      have HV5 := Lib.hid (Blk.chg (show VauB w1.drew v d name cv has false from HV1.out) hE5 hvO)
      clear hE5 hkn
      go_wp2_with fail
      refine (vfresh_c v d name cv has false w5 HV5.out g4).mono ?_
      rintro e w6 ⟨rfl, rfl⟩
      go_wp2_with fail
      simp only [Act.put, List.setIfInBounds_toArray, List.set_cons_succ, List.set_cons_zero] at hK
      exact hK _ _ (Ext.refl _) (Mono.is_rfl _ _)
    simp only [Act.put, List.setIfInBounds_toArray, List.set_cons_succ, List.set_cons_zero]
    iterate 1 (apply Mono.step_is; (· refine Mono.obl_quiet (by decide) fun w5 hE5 hkn K hK => ?_; (have ja := cell_chg hE5 (show w1.drew.cell? _ = _ from qa) haO); (have j0 := cell_chg hE5 (show w1.drew.cell? _ = _ from c0) hvO); clear hE5 hkn; go_wp2_with fail; simp only [Act.put, List.setIfInBounds_toArray, List.set_cons_succ, List.set_cons_zero] at hK; exact hK _ _ (Ext.refl _) (Mono.is_rfl _ _)); simp only [Act.put, List.setIfInBounds_toArray, List.set_cons_succ, List.set_cons_zero])
    refine Mono.step_rel (Mono.obl_loud fun w5 hE5 hkn K hK => ?_) fun v28 => ?_
    · have hE15 := (Ext.drew w1).trans hE5
      clear hkn
      go_wp2_with fail
      refine (write_c d n M O F S (vfresh name) 0 b (.slice ba L bc) w5 (HD.out.ext (HE01.out.trans hE15)) (by omega) (by omega) (by omega) (by have : n * M ≤ 100000 * 1000000 := Nat.mul_le_mul hn1 hM2; omega) (by rw [vfresh_size]; unfold maxLen; omega) (by omega) (by omega) (HB.out.ext (HE01.out.trans hE15)) HB8.out (by intro _ _; have := HL.out; omega)).mono ?_
      rintro e w6 ⟨rfl, O6, hd6, ht6⟩
      rw [← HRE.out] at hd6 ⊢
      have HD6 := Lib.hid hd6; have HT6 := Lib.hid ((DkTo.ext hE15 (fun t ht => Nat.lt_of_lt_of_le (HD.out.low t ht) HE01.out.size)).trans ht6); have HT6' := Lib.hid ht6.1
      clear hd6 ht6 hE15 hE5
      go_wp2_with fail
      simp only [Act.put, List.setIfInBounds_toArray, List.set_cons_succ, List.set_cons_zero] at hK
      exact hK _ _ HT6'.out (Mono.rel_mk ⟨rfl, O6, HD6.out, HT6.out⟩)
    simp only [Act.put, List.setIfInBounds_toArray, List.set_cons_succ, List.set_cons_zero]
    refine Mono.step_end fun w5 hE5 hkn => ?_
    simp only [List.drop_succ_cons, List.drop_zero]
    obtain ⟨⟨rfl, O5, hd5, ht5⟩, _⟩ := hkn
    obtain ⟨R1, R2⟩ := R
    dsimp only at hd5 ⊢
    have HD5 := Lib.hid hd5; have HT5 := Lib.hid ht5
    replace qa := cell_chg ht5.1 qa haO
    replace c0 := cell_chg ht5.1 c0 hvO
    clear hE5 hd5 ht5
    go_wp2_with fail
    refine (vmust_c R1 w5).mono ?_
    rintro en w6 ⟨rfl, he⟩
    by_cases hR0 : R1 = 0
    rotate_left
    · have HXE : Hid (X = (R1, R2)) := Lib.hid (by rw [HX1.out]; exact if_pos hR0)
      rw [if_neg hR0] at he
      subst he
      have HR0 := Lib.hid hR0
      clear HX1
      go_wp2_with fail
      rw [HXE.out]
      exact vput_err (X := (R1, R2)) hR0 HD5.out (by omega) HT5.out HE01.out HV1.out hcv HA1.out HQ1.out haO hqO hvO hav hqv hqa (by have := HAQ.out; omega) rfl
    subst hR0
    rw [if_pos rfl] at he
    subst he
    have HX2 : Hid (X = if (syncS R2).1 ≠ 0 then syncS R2 else if (renameS (syncS R2).2 (vfresh name) (vnow name)).1 ≠ 0 then renameS (syncS R2).2 (vfresh name) (vnow name) else syncS (renameS (syncS R2).2 (vfresh name) (vnow name)).2) := Lib.hid (by rw [HX1.out]; exact if_neg (by simp))
    clear HX1
    go_wp2_with fail
    refine (sync_c d (n + 1) M O5 F R2 w6 HD5.out).mono ?_
    rintro e w7 ⟨rfl, O7, hd7, ht7⟩
    obtain ⟨Q, hQ⟩ : ∃ Q, Q = syncS R2 := ⟨_, rfl⟩
    rw [← hQ] at hd7 HX2 ⊢
    have HQE := Lib.hid hQ
    clear hQ
    obtain ⟨Q1, Q2⟩ := Q
    dsimp only at hd7 HX2 ⊢
    have HD7 := Lib.hid hd7; have HT7 := Lib.hid (HT5.out.trans ht7)
    have qa7 := cell_chg HT7.out.1 (show w1.cell? ⟨a, 0, none⟩ = some (dptr v) from HA1.out.cell 0 rfl) haO
    have c07 := cell_chg HT7.out.1 (show w1.cell? ⟨v, 0, none⟩ = some (dptr d) from (Blk.five HV1.out).1) hvO
    clear hd7 ht7 qa c0
    go_wp2_with fail
    refine (vmust_c Q1 w7).mono ?_
    rintro en w8 ⟨rfl, he⟩
    by_cases hQ0 : Q1 = 0
    rotate_left
    · have HXE : Hid (X = (Q1, Q2)) := Lib.hid (by rw [HX2.out]; exact if_pos hQ0)
      rw [if_neg hQ0] at he
      subst he
      clear HX2
      go_wp2_with fail
      rw [HXE.out]
      exact vput_err (X := (Q1, Q2)) hQ0 HD7.out (by omega) HT7.out HE01.out HV1.out hcv HA1.out HQ1.out haO hqO hvO hav hqv hqa (by have := HAQ.out; omega) rfl
    subst hQ0
    rw [if_pos rfl] at he
    subst he
    have HX3 : Hid (X = if (renameS Q2 (vfresh name) (vnow name)).1 ≠ 0 then renameS Q2 (vfresh name) (vnow name) else syncS (renameS Q2 (vfresh name) (vnow name)).2) := Lib.hid (by rw [HX2.out]; exact if_neg (by simp))
    have HQW : Hid (Q2.waits.length < 1000000000) := Lib.hid (by have h1 := vw_sync R2; rw [← HQE.out] at h1; have h2 := vw_write S (vfresh name) 0 b; rw [← HRE.out] at h2; simp only at h1 h2; omega)
    clear HX2
    obtain ⟨T, hT⟩ : ∃ T, T = renameS Q2 (vfresh name) (vnow name) := ⟨_, rfl⟩
    have hX := HX3.out
    rw [← hT] at hX
    have HTE := Lib.hid hT; have HX3 := Lib.hid hX
    clear hT hX
    have haO7 : a ∉ O7 := fun hm => by
      rcases HT7.out.2.1 a hm with e | e
      · exact haO e
      · have := HA1.out.lt; omega
    have hvO7 : v ∉ O7 := fun hm => by
      rcases HT7.out.2.1 v hm with e | e
      · exact hvO e
      · have := Blk.lt HV1.out; omega
    have HV7 : Hid (VauB w8 v d name cv has false) := Lib.hid (Blk.chg HV1.out HT7.out.1 hvO)
    go_upto_region 9 with fail
    apply Mono.region2 10 9 Ext (Chg O7) [.is _, .is _, .is _, .is _, .is _, .is _, .is _, .is _, .is _, .rel (fun u w' => u = .int .i64 T.1 ∧ ∃ O', DkS w' d (n + 2) M O' F T.2 ∧ DkTo O7 w8 w' O')] (by kernel_rfl) ⟨fun _ _ h => Chg.ext h, fun _ _ _ => Ext.trans, fun _ _ _ => Chg.trans⟩ (Ext.refl _) (by kernel_rfl) rfl rfl ⟨fun u w' w'' h hE => ⟨h.1, h.2.imp fun O' x => ⟨x.1.ext (show Ext w' w'' from hE), x.2.1.trans' (T := []) (Chg.ext (show Ext w' w'' from hE)) (by simp), x.2.2⟩⟩, trivial⟩
    focus
      iterate 6 (apply Mono.step_is; (· refine Mono.obl_quiet (by decide) fun w5 hE5 hkn K hK => ?_; (have ja := cell_chg hE5 (show w8.drew.cell? _ = _ from qa7) haO7); (have j0 := cell_chg hE5 (show w8.drew.cell? _ = _ from c07) hvO7); clear hE5 hkn; go_wp2_with fail; simp only [Act.put, List.setIfInBounds_toArray, List.set_cons_succ, List.set_cons_zero] at hK; exact hK _ _ (Ext.refl _) (Mono.is_rfl _ _)); simp only [Act.put, List.setIfInBounds_toArray, List.set_cons_succ, List.set_cons_zero])
      apply Mono.step_is
      · refine Mono.obl_quiet (by decide) fun w5 hE5 hkn K hK => ?_
        have HV5 := Lib.hid (Blk.chg (show VauB w8.drew v d name cv has false from HV7.out) hE5 hvO7)
        clear hE5 hkn
        go_wp2_with fail
        refine (vfresh_c v d name cv has false w5 HV5.out g4).mono ?_
        rintro e w6 ⟨rfl, rfl⟩
        go_wp2_with fail
        simp only [Act.put, List.setIfInBounds_toArray, List.set_cons_succ, List.set_cons_zero] at hK
        exact hK _ _ (Ext.refl _) (Mono.is_rfl _ _)
      simp only [Act.put, List.setIfInBounds_toArray, List.set_cons_succ, List.set_cons_zero]
      iterate 1 (apply Mono.step_is; (· refine Mono.obl_quiet (by decide) fun w5 hE5 hkn K hK => ?_; (have ja := cell_chg hE5 (show w8.drew.cell? _ = _ from qa7) haO7); (have j0 := cell_chg hE5 (show w8.drew.cell? _ = _ from c07) hvO7); clear hE5 hkn; go_wp2_with fail; simp only [Act.put, List.setIfInBounds_toArray, List.set_cons_succ, List.set_cons_zero] at hK; exact hK _ _ (Ext.refl _) (Mono.is_rfl _ _)); simp only [Act.put, List.setIfInBounds_toArray, List.set_cons_succ, List.set_cons_zero])
      apply Mono.step_is
      · refine Mono.obl_quiet (by decide) fun w5 hE5 hkn K hK => ?_
        have HV5 := Lib.hid (Blk.chg (show VauB w8.drew v d name cv has false from HV7.out) hE5 hvO7)
        clear hE5 hkn
        go_wp2_with fail
        refine (vnow_c v d name cv has false w5 HV5.out g4).mono ?_
        rintro e w6 ⟨rfl, rfl⟩
        go_wp2_with fail
        simp only [Act.put, List.setIfInBounds_toArray, List.set_cons_succ, List.set_cons_zero] at hK
        exact hK _ _ (Ext.refl _) (Mono.is_rfl _ _)
      simp only [Act.put, List.setIfInBounds_toArray, List.set_cons_succ, List.set_cons_zero]
      refine Mono.step_rel (Mono.obl_loud fun w5 hE5 hkn K hK => ?_) fun v46 => ?_
      · have hE15 := (Ext.drew w8).trans hE5
        clear hkn
        go_wp2_with fail
        refine (rename_c d (n + 1) M O7 F Q2 (vfresh name) (vnow name) w5 (HD7.out.ext hE15) (by omega) HQW.out (by omega) (by rw [vfresh_size]; unfold maxLen; omega) (by rw [vnow_size]; unfold maxLen; omega)).mono ?_
        rintro e w6 ⟨rfl, O6, hd6, ht6⟩
        rw [← HTE.out] at hd6 ⊢
        have HD6 := Lib.hid hd6; have HT6 := Lib.hid ((DkTo.ext hE15 HD7.out.low).trans ht6); have HT6' := Lib.hid ht6.1
        clear hd6 ht6 hE15 hE5
        go_wp2_with fail
        simp only [Act.put, List.setIfInBounds_toArray, List.set_cons_succ, List.set_cons_zero] at hK
        exact hK _ _ HT6'.out (Mono.rel_mk ⟨rfl, O6, HD6.out, HT6.out⟩)
      simp only [Act.put, List.setIfInBounds_toArray, List.set_cons_succ, List.set_cons_zero]
      refine Mono.step_end fun w9 hE9 hkn => ?_
      simp only [List.drop_succ_cons, List.drop_zero]
      obtain ⟨⟨rfl, O9, hd9, ht9⟩, _⟩ := hkn
      obtain ⟨T1, T2⟩ := T
      dsimp only at hd9 HX3 ⊢
      have HD9 := Lib.hid hd9; have HT9 := Lib.hid (HT7.out.trans ht9)
      have qa9 := cell_chg ht9.1 qa7 haO7
      have c09 := cell_chg ht9.1 c07 hvO7
      clear hE9 hd9 ht9 qa7 c07
      go_wp2_with fail
      refine (vmust_c T1 w9).mono ?_
      rintro en w10 ⟨rfl, he⟩
      by_cases hT0 : T1 = 0
      rotate_left
      · have HXE : Hid (X = (T1, T2)) := Lib.hid (by rw [HX3.out]; exact if_pos hT0)
        rw [if_neg hT0] at he
        subst he
        clear HX3
        go_wp2_with fail
        rw [HXE.out]
        exact vput_err (X := (T1, T2)) hT0 HD9.out (by omega) HT9.out HE01.out HV1.out hcv HA1.out HQ1.out haO hqO hvO hav hqv hqa (by have := HAQ.out; omega) rfl
      subst hT0
      rw [if_pos rfl] at he
      subst he
      have HX4 : Hid (X = syncS T2) := Lib.hid (by rw [HX3.out]; exact if_neg (by simp))
      clear HX3
      go_wp2_with fail
      refine (sync_c d (n + 2) M O9 F T2 w10 HD9.out).mono ?_
      rintro e w11 ⟨rfl, O11, hd11, ht11⟩
      obtain ⟨U, hU⟩ : ∃ U, U = syncS T2 := ⟨_, rfl⟩
      rw [← hU] at hd11 HX4 ⊢
      clear hU
      obtain ⟨U1, U2⟩ := U
      dsimp only at hd11 HX4 ⊢
      have HD11 := Lib.hid hd11; have HT11 := Lib.hid (HT9.out.trans ht11)
      clear hd11 ht11 qa9 c09
      go_wp2_with fail
      refine (vmust_c U1 w11).mono ?_
      rintro en w12 ⟨rfl, he⟩
      by_cases hU0 : U1 = 0
      rotate_left
      · rw [if_neg hU0] at he
        subst he
        go_wp2_with fail
        rw [HX4.out]
        exact vput_err (X := (U1, U2)) hU0 HD11.out (by omega) HT11.out HE01.out HV1.out hcv HA1.out HQ1.out haO hqO hvO hav hqv hqa (by have := HAQ.out; omega) rfl
      subst hU0
      rw [if_pos rfl] at he
      subst he
      have HV11 : Hid (VauB w12 v d name cv has false) := Lib.hid (Blk.chg HV1.out HT11.out.1 hvO)
      have HA11 : Hid (Blk w12 a #[dptr v] 37) := Lib.hid (HA1.out.chg HT11.out.1 haO)
      have HQ11 : Hid (Blk w12 q #[.int .i64 0] 27) := Lib.hid (HQ1.out.chg HT11.out.1 hqO)
      have HB11 : Hid (Rd w12 (.slice ba L bc) (u8s b)) := Lib.hid ((HB.out.ext HE01.out).chg HT11.out.1 HBO.out)
      have hL2 : b.length ≤ 140737488355328 := by have := HL.out; omega
      have qaD : w12.drew.cell? ⟨a, 0, none⟩ = some (dptr v) := HA11.out.cell 0 rfl
      clear qe
      go_upto_region 11 with fail
      refine wp_region_orders [[0, 1, 2, 3, 4, 5, 6, 7, 8, 9], [0, 2, 1, 3, 4, 5, 6, 7, 8, 9], [0, 2, 3, 1, 4, 5, 6, 7, 8, 9], [0, 2, 3, 4, 1, 5, 6, 7, 8, 9], [0, 2, 3, 4, 5, 1, 6, 7, 8, 9], [0, 2, 3, 4, 5, 6, 1, 7, 8, 9], [1, 0, 2, 3, 4, 5, 6, 7, 8, 9], [1, 2, 0, 3, 4, 5, 6, 7, 8, 9], [1, 2, 3, 0, 4, 5, 6, 7, 8, 9], [2, 0, 1, 3, 4, 5, 6, 7, 8, 9], [2, 0, 3, 1, 4, 5, 6, 7, 8, 9], [2, 0, 3, 4, 1, 5, 6, 7, 8, 9], [2, 0, 3, 4, 5, 1, 6, 7, 8, 9], [2, 0, 3, 4, 5, 6, 1, 7, 8, 9], [2, 1, 0, 3, 4, 5, 6, 7, 8, 9], [2, 1, 3, 0, 4, 5, 6, 7, 8, 9], [2, 3, 0, 1, 4, 5, 6, 7, 8, 9], [2, 3, 0, 4, 1, 5, 6, 7, 8, 9], [2, 3, 0, 4, 5, 1, 6, 7, 8, 9], [2, 3, 0, 4, 5, 6, 1, 7, 8, 9], [2, 3, 1, 0, 4, 5, 6, 7, 8, 9]] (by kernel_rfl) (by kernel_rfl) ?_
      intro l hl
      simp only [List.mem_cons, List.not_mem_nil, or_false] at hl
      rcases hl with rfl | rfl | rfl | rfl | rfl | rfl | rfl | rfl | rfl | rfl | rfl | rfl | rfl | rfl | rfl | rfl | rfl | rfl | rfl | rfl | rfl
      all_goals simp only [List.filterMap_cons, List.filterMap_nil, List.getElem?_toArray, List.getElem?_cons_zero, List.getElem?_cons_succ]
      all_goals change wpList _ _ _ [_, _, _, _, _, _, _, _, _, _] _ _
      all_goals go_wp2_with fail
      all_goals refine (clone8 _ b _ (HB11.out.ext (Ext.drew _)) hL2).mono ?_
      all_goals rintro e w13 ⟨cv', rfl, ho, hE13⟩
      all_goals rw [u8s_len] at ho
      all_goals obtain ⟨sa, sn, sc, rfl⟩ := (Rd.of_own ho).shape
      all_goals have HO := Lib.hid ho
      all_goals have HE13 := Lib.hid ((Ext.drew w12).trans hE13)
      all_goals have qa13 := (HA11.out.ext HE13.out).cell 0 rfl
      all_goals have f2 := Blk.free (Blk.ext HV11.out HE13.out) 2
      all_goals have f3 := Blk.free (Blk.ext HV11.out HE13.out) 3
      all_goals have c2 := (Blk.five (Blk.ext HV11.out HE13.out)).2.2.1
      all_goals have c3 := (Blk.five (Blk.ext HV11.out HE13.out)).2.2.2.1
      all_goals have q0 := (HQ11.out.ext HE13.out).cell 0 rfl
      all_goals have qf := (HQ11.out.ext HE13.out).free 0
      all_goals simp only [List.getElem_toArray, List.getElem_cons_zero] at qa13 q0
      all_goals clear ho hE13 qaD
      all_goals go_wp2_with fail
      all_goals rw [HX4.out]
      all_goals exact vput_end HD11.out HT11.out HE01.out HV1.out hcv HA1.out HQ1.out haO hqO hvO hav hqv hqa (by have := HAQ.out; omega) rfl HO.out HE13.out
end Go.Proofs.YtapclkjpokbgbaaDoor
