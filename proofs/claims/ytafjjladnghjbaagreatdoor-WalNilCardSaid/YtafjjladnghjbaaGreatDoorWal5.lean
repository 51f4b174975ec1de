/- Layer 9 (wal): Append to a log that has no segment. -/
import Derived.Test.YtafjjladnghjbaaGreatDoorWal4
namespace Go.Proofs.YtafjjladnghjbaaGreatDoor
open Go Go.RowKit Go.Maps

theorem nob_log {w : World} {l d : Nat} {name : ByteArray} {first last : Int} {a1 a2 : Option Addr} {n1 n2 c1 c2 : Nat} {ov : Bool} (h : LogB w l d name first (.slice a1 n1 c1) (.slice a2 n2 c2) last ov) : NoB w l :=
  NoB.blk (show Blk w l _ _ from h) (by intro c hc y e; simp at hc; subst e; simp at hc)
/-- Append's two cells, just laid: the log's pointer, the error. -/
def AppW (l : Nat) (w : World) : World := (w.alloc (.cells #[lptr l] 25)).alloc (.cells #[.int .i64 0] 26)
theorem AppW.ext (l : Nat) (w : World) : Ext w (AppW l w) := (Ext.alloc w _).trans (Ext.alloc _ _)
theorem AppW.p (l : Nat) (w : World) : Blk (AppW l w) w.heap.size #[lptr l] 25 := (Blk.new w _ _).alloc _
theorem AppW.q (l : Nat) (w : World) : Blk (AppW l w) (w.heap.size + 1) #[.int .i64 0] 26 := by
  have := Blk.new (w.alloc (.cells #[lptr l] 25)) #[.int .i64 0] 26
  rwa [show (w.alloc (.cells #[lptr l] 25)).heap.size = w.heap.size + 1 by simp] at this
theorem own_offW {w w' : World} {S : List Nat} {base : Nat} {e : TypeId} {size : Nat} {v : Value} {n : Nat} {xs : List Value} (h : w.ownsRow base e size v n xs) (hg : Chg S w w') (hS : ∀ t, v.ownBlock = some t → t ∉ S) : w'.ownsRow base e size v n xs := by
  obtain ⟨h1, h2⟩ := h
  refine ⟨h1, ?_⟩
  rcases h2 with h2 | ⟨g, cap, cur, hv, hg', hh, r⟩
  · exact .inl h2
  · exact .inr ⟨g, cap, cur, hv, hg', (hg.block g (Array.getElem?_eq_some_iff.1 hh).1 (hS g (by rw [hv]; simp [Value.ownBlock]))).trans hh, r⟩
theorem infoSg : (Tryz.prog.info? 79).map (fun i => (i.zero, i.size, i.bytes)) = some (some (.agg #[.string ⟨#[]⟩, .int .u64 0, .slice none 0 0, .int .i64 0]), 4, 56) := by kernel_rfl
theorem elR : ElT Tryz.prog 55 23 (.slice none 0 0) 24 := ElT.mk' Tryz.underlying55 (by kernel_rfl) rfl
/-- Some cells just laid. -/
def NewC (B : Nat) (cs : Array Value) (e : TypeId) (v : Value) (w : World) : Prop := ∃ g, v = .slice (some ⟨g, 0, none⟩) 1 1 ∧ B ≤ g ∧ Blk w g cs e
theorem NewC.ext {B : Nat} {cs : Array Value} {e : TypeId} {v : Value} {w w' : World} (h : NewC B cs e v w) (hE : Ext w w') : NewC B cs e v w' := by
  obtain ⟨p, h1, h2, h3⟩ := h; exact ⟨p, h1, h2, h3.ext hE⟩
/-- A segment just laid, empty. -/
def NewSg (B : Nat) (v : Value) (w : World) : Prop := ∃ p, v = ptr p ∧ B ≤ p ∧ Blk w p #[.string ⟨#[]⟩, .int .u64 0, .slice none 0 0, .int .i64 0] 79
theorem NewSg.ext {B : Nat} {v : Value} {w w' : World} (h : NewSg B v w) (hE : Ext w w') : NewSg B v w' := by
  obtain ⟨p, h1, h2, h3⟩ := h; exact ⟨p, h1, h2, h3.ext hE⟩
theorem dec1 : Lib.decDigits 1 = [49] := by simp [Lib.decDigits]
theorem seg1_size {name : ByteArray} (hs : name.size ≤ 4) : ¬ 9223372036854775807 < (name ++ ⟨#[46]⟩ : ByteArray).size + (⟨(Lib.decDigits 1).toArray⟩ : ByteArray).size := by
  rw [dec1, ByteArray.size_append, show (⟨[49].toArray⟩ : ByteArray).size = 1 from rfl, show (⟨#[46]⟩ : ByteArray).size = 1 from rfl]
  omega
def AppFin (l d n M : Nat) (O F : List Nat) (S' : Dk) (name : ByteArray) (r : List Int) (w : World) (e : Ending) (w' : World) : Prop :=
  e = .returned (.int .i64 0) ∧ ∃ O' rv sv c, LogB w' l d name 0 rv sv 1 false ∧ Rd w' rv [c] ∧ Rd w' c (u8s r) ∧ DkS w' d (n + 1) M O' F S' ∧ Chg (l :: O) w w' ∧ l ∉ O' ∧ (∀ t ∈ O', t ∈ O ∨ w.heap.size ≤ t)
set_option maxRecDepth 100000 in
set_option maxHeartbeats 4000000 in
theorem wappend_fresh (l d n M : Nat) (O F : List Nat) (S : Dk) (name : ByteArray) (rv : Value) (r : List Int) (w : World) (hB : LogB w l d name 0 (.slice none 0 0) (.slice none 0 0) 0 false) (hD : DkS w d n M O F S) (hlO : l ∉ O)
    (hn9 : n < 1000000000) (hwl : S.waits.length < 1000000000) (hM0 : 20000 ≤ M) (hM : M ≤ 70368744177664) (hnM : n * M ≤ 4611686018427387904) (hR : Rd w rv (u8s r)) (hRO : OffL rv (u8s r) O) (h8 : B8 r) (hl : r.length ≤ 16384) (hs : name.size ≤ 4)
    (hW : (writeS S (segN name 1) 0 (frmB (numB 0) ++ frmB r)).1 = 0) :
    Calls Tryz.prog 14 #[lptr l, rv] w (AppFin l d n M O F (writeS S (segN name 1) 0 (frmB (numB 0) ++ frmB r)).2 name r w) := by
  have hmf : ∀ (fn : Fn) (first cap : Array Value) (w : World), (Instr.makeFunc fn first cap).run Tryz.prog w = .ok (.func fn first cap) w := fun _ _ _ _ => rfl
  obtain ⟨ra, rn, rc, rfl⟩ := hR.shape
  have hrn : rn = r.length := by obtain ⟨a, c, h, -⟩ := hR; cases h; simp [u8s]
  subst hrn
  obtain ⟨N, hN⟩ : ∃ N, N = r.length := ⟨_, rfl⟩
  rw [← hN] at hl hR hRO ⊢
  obtain ⟨X, hX⟩ : ∃ X, X = writeS S (segN name 1) 0 (frmB (numB 0) ++ frmB r) := ⟨_, rfl⟩
  rw [← hX] at hW ⊢
  have HN := Lib.hid hN; have HR := Lib.hid hR; have H8 := Lib.hid h8; have HB := Lib.hid hB; have HD := Lib.hid hD; have HX := Lib.hid hX; have HW := Lib.hid hW; have HLO := Lib.hid hlO
  have hlw : l < w.heap.size := (show Blk w l _ _ from hB).lt
  have hRL : OffL (.slice ra N rc) (u8s r) (l :: O) := by
    intro a n c hv hn hm
    rcases List.mem_cons.1 hm with hm | hm
    · exact off_noB hR (NoB.blk (show Blk w l _ _ from hB) (by intro c hc y e; simp at hc; subst e; simp at hc)) a n c hv hn (by simp [hm])
    · exact hRO a n c hv hn hm
  have HRL := Lib.hid hRL
  clear hR h8 hN hB hD hX hW hlO hRO hRL
  have hN' : (N : Int) ≤ 16384 := by omega
  go_enter_defers Tryz.func14, Tryz.ntmps14
  go_upto_region 1 with fail
  have HE0 := Lib.hid (AppW.ext l w); have HP := Lib.hid (AppW.p l w); have HQ := Lib.hid (AppW.q l w)
  unfold AppW at *
  generalize (w.alloc (.cells #[lptr l] 25)).alloc (.cells #[.int .i64 0] 26) = W0 at *
  have hB0 := Blk.ext (show Blk _ _ _ _ from HB.out) HE0.out
  have p0 : W0.cell? ⟨w.heap.size, 0, none⟩ = some (lptr l) := HP.out.cell 0 rfl
  have HB0 := Lib.hid hB0
  clear hB0 HB
  go_wp2_with fail
  refine (wdead_c l d name _ _ _ _ _ W0 HB0.out).mono ?_
  rintro e w1 ⟨rfl, rfl⟩
  go_wp2_with fail
  have HA1 := Lib.hid (Ext.alloc w1 (.cells #[.slice ra N rc] 23))
  have HL1 := Lib.hid (Rd.of_own (own_lit w1 [Value.slice ra N rc] 23 (by unfold maxLen; simp)))
  refine (lay1_c _ (.slice ra N rc) r _ HL1.out ((HR.out.ext HE0.out).ext HA1.out) H8.out (by have := HN.out; omega)).mono ?_
  rintro e w2 ⟨bv, rfl, hbo, hE2⟩
  have HE2 := Lib.hid (HA1.out.trans hE2)
  have p2 := HE2.out.cell p0
  have hB2 := Blk.ext (show Blk _ _ _ _ from HB0.out) HE2.out
  have c1 : w2.cell? ⟨l, 1, none⟩ = some (.string name) := hB2.cell 1 rfl
  have c4 : w2.cell? ⟨l, 4, none⟩ = some (.slice none 0 0) := hB2.cell 4 rfl
  have c5 : w2.cell? ⟨l, 5, none⟩ = some (.int .i64 0) := hB2.cell 5 rfl
  have HBO := Lib.hid (own_base hbo HA1.out.size); have HB2 := Lib.hid hB2
  obtain ⟨ba, bn, bc, rfl⟩ := (Rd.of_own hbo).shape
  clear hbo hE2 hB2 p0
  go_upto_region 12 with fail
  have hz1 : ¬ 9223372036854775807 < name.size + 1 := by omega
  have hz2 : ¬ 9223372036854775807 < (name ++ ⟨#[46]⟩ : ByteArray).size + (⟨(Lib.decDigits 1).toArray⟩ : ByteArray).size := seg1_size hs
  apply Mono.region1 16 Ext [.is _, .is _, .is _, .is _, .is _, .is _, .is _, .is _, .is _, .is _, .is _, .is _, .is _, .is _, .is _, .rel (NewSg w2.heap.size)] (by kernel_rfl) Ext.refl (fun _ _ _ => Ext.trans) (by kernel_rfl) rfl rfl ⟨fun _ _ _ h hE => h.ext hE, trivial⟩
  focus
    iterate 10 (apply Mono.step_is; (· refine Mono.obl_mk fun w8 hE8 _ K hK => ?_; (have j2 := hE8.cell (show w2.drew.cell? _ = _ from p2)); (have j3 := hE8.cell (show w2.drew.cell? _ = _ from c1)); (have j5 := hE8.cell (show w2.drew.cell? _ = _ from c5)); clear hE8; go_wp2_with fail; simp only [Act.put, List.setIfInBounds_toArray, List.set_cons_succ, List.set_cons_zero] at hK; exact hK _ _ (Ext.refl _) (Mono.is_rfl _ _)); simp only [Act.put, List.setIfInBounds_toArray, List.set_cons_succ, List.set_cons_zero])
    apply Mono.step_is
    · refine Mono.obl_mk fun w8 hE8 _ K hK => ?_
      clear hE8
      go_wp2_with fail
      refine (Tryz.strconv_Itoa_small 1 (by decide) w8).mono ?_
      rintro e w9 ⟨rfl, rfl⟩
      go_wp2_with fail
      simp only [Act.put, List.setIfInBounds_toArray, List.set_cons_succ, List.set_cons_zero] at hK
      exact hK _ _ (Ext.refl _) (Mono.is_rfl _ _)
    simp only [Act.put, List.setIfInBounds_toArray, List.set_cons_succ, List.set_cons_zero]
    iterate 2 (apply Mono.step_is; (· refine Mono.obl_mk fun w8 hE8 _ K hK => ?_; (have j2 := hE8.cell (show w2.drew.cell? _ = _ from p2)); (have j3 := hE8.cell (show w2.drew.cell? _ = _ from c1)); (have j5 := hE8.cell (show w2.drew.cell? _ = _ from c5)); clear hE8; go_wp2_with fail; simp only [Act.put, List.setIfInBounds_toArray, List.set_cons_succ, List.set_cons_zero] at hK; exact hK _ _ (Ext.refl _) (Mono.is_rfl _ _)); simp only [Act.put, List.setIfInBounds_toArray, List.set_cons_succ, List.set_cons_zero])
    apply Mono.step_is
    · refine Mono.obl_mk fun w8 hE8 _ K hK => ?_
      have HB8 := Lib.hid (Blk.ext (HB2.out.drew) hE8)
      clear hE8
      go_wp2_with fail
      refine (wnext_c l d name 0 0 none 0 0 _ _ w8 (show LogB w8 l d name ((0 : Nat) : Int) _ _ _ _ from HB8.out) (by omega)).mono ?_
      rintro e w9 ⟨rfl, hE9⟩
      have HE9 := Lib.hid hE9
      clear hE9
      go_wp2_with fail
      simp only [Act.put, List.setIfInBounds_toArray, List.set_cons_succ, List.set_cons_zero] at hK
      exact hK _ _ HE9.out (Mono.is_rfl _ _)
    simp only [Act.put, List.setIfInBounds_toArray, List.set_cons_succ, List.set_cons_zero]
    iterate 1 (apply Mono.step_is; (· refine Mono.obl_mk fun w8 hE8 _ K hK => ?_; (have j2 := hE8.cell (show w2.drew.cell? _ = _ from p2)); (have j3 := hE8.cell (show w2.drew.cell? _ = _ from c1)); (have j5 := hE8.cell (show w2.drew.cell? _ = _ from c5)); clear hE8; go_wp2_with fail; simp only [Act.put, List.setIfInBounds_toArray, List.set_cons_succ, List.set_cons_zero] at hK; exact hK _ _ (Ext.refl _) (Mono.is_rfl _ _)); simp only [Act.put, List.setIfInBounds_toArray, List.set_cons_succ, List.set_cons_zero])
    refine Mono.step_rel (Mono.obl_mk fun w8 hE8 _ K hK => ?_) fun v9 => ?_
    · go_wp2_with fail
      simp only [Act.put, List.setIfInBounds_toArray, List.set_cons_succ, List.set_cons_zero] at hK
      exact hK _ _ (Ext.alloc _ _) (Mono.rel_mk ⟨_, rfl, hE8.size, Blk.new _ _ _⟩)
    simp only [Act.put, List.setIfInBounds_toArray, List.set_cons_succ, List.set_cons_zero]
    refine Mono.step_end fun w8 hE8 hkn => ?_
    simp only [List.drop_succ_cons, List.drop_zero]
    obtain ⟨⟨g, rfl, hgl, hSg⟩, -⟩ := hkn
    have hE28 := (Ext.drew w2).trans hE8
    have HE8 := Lib.hid ((HE0.out.trans HE2.out).trans hE28); have HB8 := Lib.hid (HB2.out.ext hE28)
    have HP8 := Lib.hid ((HP.out.ext HE2.out).ext hE28); have HQ8 := Lib.hid ((HQ.out.ext HE2.out).ext hE28)
    have HBO8 := Lib.hid (own_ext HBO.out hE28)
    have hglw : w1.heap.size ≤ g := Nat.le_trans HE2.out.size hgl
    have hE02 := HE0.out.size
    have hql : w.heap.size + 1 < w1.heap.size := HQ.out.lt
    have hll : l < w1.heap.size := (show Blk w1 l _ _ from HB0.out).lt
    have hgo : (Value.slice ba bn bc).ownBlock ≠ some g := by
      intro e
      have := (HBO.out.lt g e).2
      omega
    obtain ⟨sn, hsn⟩ : ∃ s, s = segN name 1 := ⟨_, rfl⟩
    have HSN := Lib.hid hsn
    rw [show name ++ ⟨#[46]⟩ ++ ⟨(Lib.decDigits 1).toArray⟩ = sn from hsn.symm]
    clear hsn hE8 hE28 p2 c1 c4 c5 hz1 hz2 HBO HB2 HE2 HB0 HP HQ HE0
    go_upto_region 13 with (refine wpList_store_row rfl 79 (.tmp 9) (.tmp 91) rfl g #[.string sn, .int .u64 0, .slice none 0 0, .int .i64 0] rfl rfl 79 _ hSg (by kernel_rfl) rfl (by simp [Value.oneCell']) ?_)
    have hS9 : Blk (w8.setRow g #[.string sn, .int .u64 0, .slice none 0 0, .int .i64 0]) g #[.string sn, .int .u64 0, .slice none 0 0, .int .i64 0] 79 := setRow_heap w8 g _ _ _ (0, 0) hSg
    have hC9 : Chg [g] w8 (w8.setRow g #[.string sn, .int .u64 0, .slice none 0 0, .int .i64 0]) := Chg.some (row_grown _ g _) (.inl (by simp))
    have hE9 : Ext w (w8.setRow g #[.string sn, .int .u64 0, .slice none 0 0, .int .i64 0]) := ((Chg.ext HE8.out : Chg [g] w w8).trans hC9).toExt (fun t ht => by simp at ht; omega)
    have hB9 := HB8.out.chg hC9 (by simp; omega)
    have hP9 := HP8.out.chg hC9 (by simp; omega)
    have hQ9 := HQ8.out.chg hC9 (by simp; omega)
    have hO9 := own_offW HBO8.out hC9 (fun t ht hm => by simp at hm; subst hm; exact hgo ht)
    generalize w8.setRow g #[.string sn, .int .u64 0, .slice none 0 0, .int .i64 0] = w9 at *
    have HS9 := Lib.hid hS9; have HE9 := Lib.hid hE9; have HB9 := Lib.hid hB9; have HP9 := Lib.hid hP9; have HQ9 := Lib.hid hQ9; have HO9 := Lib.hid hO9
    have s1 : w9.cell? ⟨g, 1, none⟩ = some (.int .u64 0) := hS9.cell 1 rfl
    clear hS9 hC9 hE9 hB9 hP9 hQ9 hO9 hSg HE8 HB8 HP8 HQ8 HBO8
    go_wp2_with fail
    refine (num_ret 0 w9 (by omega)).mono ?_
    rintro e w10 ⟨nv, rfl, hno, hE10⟩
    obtain ⟨na, nn, nc, rfl⟩ := (Rd.of_own hno).shape
    have HNO := Lib.hid (Rd.of_own hno); have HE10 := Lib.hid hE10
    clear hno hE10 s1
    go_wp2_with fail
    have HA10 := Lib.hid (Ext.alloc w10 (.cells #[.slice na nn nc] 23))
    have HL10 := Lib.hid (Rd.of_own (own_lit w10 [Value.slice na nn nc] 23 (by unfold maxLen; simp)))
    refine (lay1_c _ (.slice na nn nc) (numB 0) _ HL10.out (HNO.out.ext HA10.out) (numB_bound 0) (by have := numB_len 0; have := numK_le 0; omega)).mono ?_
    rintro e w11 ⟨hv, rfl, hho, hE11⟩
    have hE911 := (HE10.out.trans HA10.out).trans hE11
    have HB11 := Lib.hid (HB9.out.ext hE911); have HP11 := Lib.hid (HP9.out.ext hE911); have HQ11 := Lib.hid (HQ9.out.ext hE911); have HS11 := Lib.hid (HS9.out.ext hE911)
    have HO11 := Lib.hid (own_ext HO9.out hE911); have HE11 := Lib.hid (HE9.out.trans hE911)
    have hlow : w9.heap.size ≤ (w10.alloc (.cells #[.slice na nn nc] 23)).heap.size := Nat.le_trans HE10.out.size HA10.out.size
    have HHO := Lib.hid (own_base hho hlow)
    obtain ⟨ha, hn, hc, rfl⟩ := (Rd.of_own hho).shape
    have hg9 : g < w9.heap.size := HS9.out.lt
    have h911 : w9.heap.size ≤ w11.heap.size := hE911.size
    clear hho hE11 hE911 hlow HB9 HP9 HQ9 HS9 HO9 HE9 HE10 HA10 HL10 HNO
    go_upto_region 14 with fail
    obtain ⟨hb, hhb⟩ : ∃ hb, hb = (Value.slice ha hn hc).ownBlock.toList := ⟨_, rfl⟩
    have hbL : ∀ t ∈ hb, w9.heap.size ≤ t := by
      intro t ht; rw [hhb] at ht; simp at ht; exact (HHO.out.lt t ht).1
    have hg2 : w.heap.size ≤ w9.heap.size := by omega
    have hnl : l ∉ hb := fun h => by have := hbL _ h; omega
    have hnp : w.heap.size ∉ hb := fun h => by have := hbL _ h; omega
    have hnq : w.heap.size + 1 ∉ hb := fun h => by have := hbL _ h; omega
    have hng : g ∉ hb := fun h => by have := hbL _ h; omega
    have p11 : w11.cell? ⟨w.heap.size, 0, none⟩ = some (lptr l) := HP11.out.cell 0 rfl
    have c0 : w11.cell? ⟨l, 0, none⟩ = some (dptr d) := HB11.out.cell 0 rfl
    have s0 : w11.cell? ⟨g, 0, none⟩ = some (.string sn) := HS11.out.cell 0 rfl
    have HHB := Lib.hid hhb
    clear hhb
    have hfl : (frmB r).length ≤ 16420 := by unfold frmB; simp only [List.length_append, numB_len, sum4, List.length_cons, List.length_nil]; have := numK_le r.length; have := HN.out; omega
    have hf0 : (frmB (numB 0)).length ≤ 30 := by unfold frmB; simp only [List.length_append, numB_len, sum4, List.length_cons, List.length_nil]; have := numK_le (numK 0 + 1); have := numK_le 0; omega
    apply Mono.region2 9 8 Ext (Chg hb) [.is _, .is _, .is _, .is _, .is _, .is _, .is _, .is _, .rel (fun u w' => w'.ownsRow w9.heap.size 5 1 u ((frmB (numB 0)).length + (frmB r).length) (u8s (frmB (numB 0)) ++ u8s (frmB r)))] (by kernel_rfl) ⟨fun _ _ h => Chg.ext h, fun _ _ _ => Ext.trans, fun _ _ _ => Chg.trans⟩ (Ext.refl _) (by kernel_rfl) rfl rfl ⟨fun u w' w'' h hE => own_ext h (show Ext w' w'' from hE), trivial⟩
    focus
      iterate 8 (apply Mono.step_is; (· refine Mono.obl_quiet (by decide) fun w12 hE12 hkn K hK => ?_; (have jp := cell_chg hE12 (show w11.drew.cell? _ = _ from p11) hnp); (have j0 := cell_chg hE12 (show w11.drew.cell? _ = _ from c0) hnl); (have js := cell_chg hE12 (show w11.drew.cell? _ = _ from s0) hng); clear hE12 hkn; go_wp2_with fail; simp only [Act.put, List.setIfInBounds_toArray, List.set_cons_succ, List.set_cons_zero] at hK; exact hK _ _ (Ext.refl _) (Mono.is_rfl _ _)); simp only [Act.put, List.setIfInBounds_toArray, List.set_cons_succ, List.set_cons_zero])
      refine Mono.step_rel (Mono.obl_loud fun w12 hE12 hkn K hK => ?_) fun v108 => ?_
      · have hE := (Ext.drew w11).trans hE12
        clear hkn
        refine wpList_append_rd rfl (.tmp 106) (.tmp 107) _ rfl el8 w9.heap.size _ _ (u8s (frmB (numB 0))) (u8s (frmB r)) rfl (own_ext HHO.out hE) _ rfl ((Rd.of_own HO11.out).ext hE) (u8s_one _) (by rw [u8s_len]; omega) (by rw [u8s_len]; unfold maxLen; omega) (by have := hE.size; omega) ?_
        intro v' w' g1 g2
        rw [u8s_len] at g1
        simp only [Act.put, List.setIfInBounds_toArray, List.set_cons_succ, List.set_cons_zero] at hK
        refine hK _ _ ?_ (Mono.rel_mk g1)
        rw [HHB.out]; exact Chg.grown g2
      simp only [Act.put, List.setIfInBounds_toArray, List.set_cons_succ, List.set_cons_zero]
      refine Mono.step_end fun w12 hE12 hkn => ?_
      simp only [List.drop_succ_cons, List.drop_zero]
      obtain ⟨hyo, _⟩ := hkn
      have hC12 := (Chg.ext (Ext.drew w11) : Chg hb w11 w11.drew).trans hE12
      have h1112 := hC12.size
      have hE12' : Ext w w12 := ((Chg.ext HE11.out : Chg hb w w11).trans hC12).toExt (fun t ht => by have := hbL t ht; omega)
      have HB12 := Lib.hid (HB11.out.chg hC12 hnl); have HP12 := Lib.hid (HP11.out.chg hC12 hnp); have HQ12 := Lib.hid (HQ11.out.chg hC12 hnq); have HS12 := Lib.hid (HS11.out.chg hC12 hng)
      have HE12 := Lib.hid hE12'
      have HY := Lib.hid (Rd.of_own hyo)
      obtain ⟨ya, yn, yc, rfl⟩ := (Rd.of_own hyo).shape
      clear hyo hC12 hE12' hE12 p11 c0 s0 hnl hnp hnq hng HB11 HP11 HQ11 HS11 HE11
      go_wp2_with fail
      have hsn : sn.size ≤ maxLen := by
        rw [HSN.out]; unfold segN; have := seg1_size hs; rw [ByteArray.size_append]; unfold maxLen; omega
      refine (write_c d n M O F S sn 0 (frmB (numB 0) ++ frmB r) _ w12 (HD.out.ext HE12.out) hn9 hwl hM hnM hsn (by omega) (by omega) (by rw [u8s_append]; exact HY.out) (by intro x hx; rcases List.mem_append.1 hx with hx | hx; exact frmB_b8 (numB_bound 0) x hx; exact frmB_b8 H8.out x hx) (by intro _ _; simp only [List.length_append]; omega)).mono ?_
      rintro e w13 ⟨rfl, O', hd13, ht13⟩
      rw [HSN.out, ← HX.out] at hd13
      rw [HSN.out, ← HX.out, HW.out]
      have hlO' : l ∉ O' := fun h => by
        rcases ht13.2.1 l h with h1 | h1
        · exact HLO.out h1
        · have := HE12.out.size; omega
      have hlow := fun t ht => HD.out.low t ht
      have hpO : w.heap.size ∉ O := fun h => by have := hlow _ h; omega
      have hqO : w.heap.size + 1 ∉ O := fun h => by have := hlow _ h; omega
      have hgO : g ∉ O := fun h => by have := hlow _ h; omega
      have HB13 := Lib.hid (HB12.out.chg ht13.1 HLO.out); have HP13 := Lib.hid (HP12.out.chg ht13.1 hpO); have HQ13 := Lib.hid (HQ12.out.chg ht13.1 hqO); have HS13 := Lib.hid (HS12.out.chg ht13.1 hgO)
      have HD13 := Lib.hid hd13; have HT13 := Lib.hid ht13; have HLO' := Lib.hid hlO'; have HGO := Lib.hid hgO; have HQO := Lib.hid hqO; have HPO := Lib.hid hpO
      have h1213 := ht13.1.size
      clear hd13 ht13 hlO' hlow hpO hqO hgO HB12 HP12 HQ12 HS12 HX HY hsn
      go_wp2_with fail
      refine (wmust_c 0 w13).mono ?_
      rintro en w14 ⟨rfl, he⟩
      rw [if_pos rfl] at he
      subst he
      have f2 : ∀ o, (w14.alloc o).frozen? ⟨g, 2, none⟩ = false := fun o => (HS13.out.alloc o).free 2
      have f3 : ∀ o, (w14.alloc o).frozen? ⟨g, 3, none⟩ = false := fun o => (HS13.out.alloc o).free 3
      have k2 : ∀ o, (w14.alloc o).cell? ⟨g, 2, none⟩ = some (.slice none 0 0) := fun o => (HS13.out.alloc o).cell 2 rfl
      have k3 : ∀ o, (w14.alloc o).cell? ⟨g, 3, none⟩ = some (.int .i64 0) := fun o => (HS13.out.alloc o).cell 3 rfl
      go_upto_region 16 with fail
      have hC15 : Chg [g] w14 (((w14.alloc (.cells #[.int .i64 (wrap64 ((hn : Int) + (bn : Int)))] 3)).setCell ⟨g, 3, none⟩ (.int .i64 hn)).setCell ⟨g, 2, none⟩ (.slice (some ⟨w14.heap.size, 0, none⟩) 1 1)) :=
        ((Chg.ext (Ext.alloc w14 _) : Chg [g] w14 _).setNew _ 3 _ (.inl (by simp))).setNew _ 2 _ (.inl (by simp))
      have hS15 := ((HS13.out.alloc (.cells #[.int .i64 (wrap64 ((hn : Int) + (bn : Int)))] 3)).set 3 (.int .i64 hn)).set 2 (.slice (some ⟨w14.heap.size, 0, none⟩) 1 1)
      obtain ⟨ev, hev⟩ : ∃ ev, ev = Value.slice (some ⟨w14.heap.size, 0, none⟩) 1 1 := ⟨_, rfl⟩
      have hone : ev.oneCell' = true := by rw [hev]; rfl
      rw [← hev] at hC15 hS15 ⊢
      generalize ((w14.alloc (.cells #[.int .i64 (wrap64 ((hn : Int) + (bn : Int)))] 3)).setCell ⟨g, 3, none⟩ (.int .i64 hn)).setCell ⟨g, 2, none⟩ ev = w15 at *
      have HD15 := Lib.hid (HD13.out.chg hC15 (fun t ht => by
        simp at ht; subst ht
        refine ⟨fun h => ?_, .inl (NoB.blk HS13.out (by intro c hc y e; simp at hc; subst e; simp at hc))⟩
        rcases HT13.out.2.1 _ h with h1 | h1
        · exact HGO.out h1
        · omega))
      have hS15' : Blk w15 g #[.string sn, .int .u64 0, ev, .int .i64 hn] 79 := by simpa using hS15
      have HB15 := Lib.hid (HB13.out.chg hC15 (by simp; omega)); have HP15 := Lib.hid (HP13.out.chg hC15 (by simp; omega)); have HQ15 := Lib.hid (HQ13.out.chg hC15 (by simp; omega)); have HS15 := Lib.hid hS15'; have HC15 := Lib.hid hC15; have HEV := Lib.hid hone
      have p15 : w15.cell? ⟨w.heap.size, 0, none⟩ = some (lptr l) := HP15.out.cell 0 rfl
      have c5 : w15.cell? ⟨l, 5, none⟩ = some (.int .i64 0) := HB15.out.cell 5 rfl
      have f5 := HB15.out.free 5
      clear hev hone hC15 hS15 hS15' f2 f3 k2 k3 HB13 HP13 HQ13 HS13
      go_upto_region 17 with fail
      have hB16 := HB15.out.set 5 (.int .i64 1)
      have hC16 : Chg [l] w15 (w15.setCell ⟨l, 5, none⟩ (.int .i64 1)) := Chg.set _ 5 _ (by simp)
      have HD16 := Lib.hid (HD15.out.chg hC16 (fun t ht => by simp at ht; subst ht; exact ⟨HLO'.out, .inl (nob_log HB15.out)⟩))
      have hP16 := HP15.out.chg hC16 (by simp; omega); have hQ16 := HQ15.out.chg hC16 (by simp; omega); have hS16 := HS15.out.chg hC16 (by simp; omega)
      generalize w15.setCell ⟨l, 5, none⟩ (.int .i64 1) = w16 at *
      have hB16' : LogB w16 l d name 0 (.slice none 0 0) (.slice none 0 0) 1 false := by unfold LogB; simpa using hB16
      have HB16 := Lib.hid hB16'; have HP16 := Lib.hid hP16; have HQ16 := Lib.hid hQ16; have HC16 := Lib.hid hC16
      have p16 : w16.cell? ⟨w.heap.size, 0, none⟩ = some (lptr l) := hP16.cell 0 rfl
      have c4 : w16.cell? ⟨l, 4, none⟩ = some (.slice none 0 0) := (show Blk w16 l _ _ from hB16').cell 4 rfl
      have s0 : w16.cell? ⟨g, 0, none⟩ = some (.string sn) := hS16.cell 0 rfl
      have s1 : w16.cell? ⟨g, 1, none⟩ = some (.int .u64 0) := hS16.cell 1 rfl
      have s2 : w16.cell? ⟨g, 2, none⟩ = some ev := hS16.cell 2 rfl
      have s3 : w16.cell? ⟨g, 3, none⟩ = some (.int .i64 hn) := hS16.cell 3 rfl
      clear hB16 hB16' hP16 hQ16 hS16 hC16 p15 c5 f5 HB15 HP15 HQ15 HS15
      apply Mono.region1 10 Ext [.is _, .is _, .is _, .is _, .is _, .is _, .rel (NewC w16.heap.size #[.string sn, .int .u64 0, ev, .int .i64 hn] 79), .rel (fun v _ => ∃ a n c, v = Value.slice a n c), .is _, .is _] (by kernel_rfl) Ext.refl (fun _ _ _ => Ext.trans) (by kernel_rfl) rfl rfl ⟨fun _ _ _ h hE => h.ext hE, fun _ _ _ h _ => h, trivial⟩
      focus
        iterate 6 (apply Mono.step_is; (· refine Mono.obl_mk fun w8 hE8 _ K hK => ?_; (have jp := hE8.cell (show w16.drew.cell? _ = _ from p16)); (have j4 := hE8.cell (show w16.drew.cell? _ = _ from c4)); (have js0 := hE8.cell (show w16.drew.cell? _ = _ from s0)); (have js1 := hE8.cell (show w16.drew.cell? _ = _ from s1)); (have js2 := hE8.cell (show w16.drew.cell? _ = _ from s2)); (have js3 := hE8.cell (show w16.drew.cell? _ = _ from s3)); clear hE8; go_wp2_with fail; simp only [Act.put, List.setIfInBounds_toArray, List.set_cons_succ, List.set_cons_zero] at hK; exact hK _ _ (Ext.refl _) (Mono.is_rfl _ _)); simp only [Act.put, List.setIfInBounds_toArray, List.set_cons_succ, List.set_cons_zero])
        refine Mono.step_rel (Mono.obl_mk fun w8 hE8 _ K hK => ?_) fun v134 => ?_
        · go_wp2_with fail
          simp only [Act.put, List.setIfInBounds_toArray, List.set_cons_succ, List.set_cons_zero] at hK
          exact hK _ _ (Ext.alloc _ _) (Mono.rel_mk ⟨_, rfl, hE8.size, Blk.new _ _ _⟩)
        simp only [Act.put, List.setIfInBounds_toArray, List.set_cons_succ, List.set_cons_zero]
        refine Mono.step_rel (Mono.obl_mk fun w8 hE8 hkn K hK => ?_) fun v135 => ?_
        · obtain ⟨g5, rfl, hg5, hb5⟩ := hkn.1 (by kernel_rfl)
          obtain ⟨i, hi, hiz, his, hib⟩ := info_parts infoSg
          refine wpList_append_own_at w8 rfl (.tmp 132) (.tmp 134) _ rfl w8.heap.size 79 i _ 4 56 Tryz.underlying62 hi hiz his hib rfl (by decide) (.slice none 0 0) 0 [] rfl (World.ownsRow_nil _ _ _ _) ⟨g5, 0, none⟩ 1 1 [.string sn, .int .u64 0, ev, .int .i64 hn] rfl rfl (fun i u hi => by rw [Addr.add_lit, Nat.zero_add]; exact hb5.cell i (by simpa using hi)) (by intro u hu; simp at hu; rcases hu with rfl | rfl | rfl | rfl <;> first | rfl | exact HEV.out) (by unfold maxLen; omega) (by omega) (Nat.le_refl _) fun v' w' g1 g2 _ g4 => ?_
          simp only [Act.put, List.setIfInBounds_toArray, List.set_cons_succ, List.set_cons_zero] at hK
          exact hK _ _ (Ext.grown g2 (by intro k hk; cases hk)) (Mono.rel_mk (by obtain ⟨a, c, h⟩ := own_shapeL g1; exact ⟨a, _, c, h⟩))
        simp only [Act.put, List.setIfInBounds_toArray, List.set_cons_succ, List.set_cons_zero]
        iterate 2 (apply Mono.step_is; (· refine Mono.obl_mk fun w8 hE8 _ K hK => ?_; (have jp := hE8.cell (show w16.drew.cell? _ = _ from p16)); (have j4 := hE8.cell (show w16.drew.cell? _ = _ from c4)); (have js0 := hE8.cell (show w16.drew.cell? _ = _ from s0)); (have js1 := hE8.cell (show w16.drew.cell? _ = _ from s1)); (have js2 := hE8.cell (show w16.drew.cell? _ = _ from s2)); (have js3 := hE8.cell (show w16.drew.cell? _ = _ from s3)); clear hE8; go_wp2_with fail; simp only [Act.put, List.setIfInBounds_toArray, List.set_cons_succ, List.set_cons_zero] at hK; exact hK _ _ (Ext.refl _) (Mono.is_rfl _ _)); simp only [Act.put, List.setIfInBounds_toArray, List.set_cons_succ, List.set_cons_zero])
        refine Mono.step_end fun w17 hE17 hkn => ?_
        simp only [List.drop_succ_cons, List.drop_zero]
        obtain ⟨-, ⟨sa, sn2, sc, rfl⟩, -⟩ := hkn
        clear s0 s1 s2 s3 c4
        have hE := (Ext.drew w16).trans hE17
        have c4 : w17.cell? ⟨l, 4, none⟩ = some (.slice none 0 0) := hE.cell ((show Blk w16 l _ _ from HB16.out).cell 4 rfl)
        have HB17 := Lib.hid (Blk.ext (show Blk w16 l _ _ from HB16.out) hE); have HP17 := Lib.hid (HP16.out.ext hE); have HQ17 := Lib.hid (HQ16.out.ext hE); have HE17 := Lib.hid hE
        have f4 := HB17.out.free 4
        clear hE hE17 p16 HB16 HP16 HQ16
        go_upto_region 18 with fail
        obtain ⟨sv, hsv⟩ : ∃ sv, sv = Value.slice sa sn2 sc := ⟨_, rfl⟩
        rw [← hsv]
        have hB18 := HB17.out.set 4 sv
        have hC18 : Chg [l] w17 (w17.setCell ⟨l, 4, none⟩ sv) := Chg.set _ 4 _ (by simp)
        have HD18 := Lib.hid ((HD16.out.ext HE17.out).chg hC18 (fun t ht => by simp at ht; subst ht; exact ⟨HLO'.out, .inl (nob_log HB17.out)⟩))
        have hP18 := HP17.out.chg hC18 (by simp; omega); have hQ18 := HQ17.out.chg hC18 (by simp; omega)
        generalize w17.setCell ⟨l, 4, none⟩ sv = w18 at *
        have hB18' : LogB w18 l d name 0 (.slice none 0 0) sv 1 false := by unfold LogB; simpa using hB18
        have HB18 := Lib.hid hB18'; have HP18 := Lib.hid hP18; have HQ18 := Lib.hid hQ18; have HC18 := Lib.hid ((Chg.ext HE17.out : Chg [l] w16 w17).trans hC18)
        have p18 : w18.cell? ⟨w.heap.size, 0, none⟩ = some (lptr l) := hP18.cell 0 rfl
        have c3 : w18.cell? ⟨l, 3, none⟩ = some (.slice none 0 0) := (show Blk w18 l _ _ from hB18').cell 3 rfl
        have HSV := Lib.hid hsv
        have hgrow : w.heap.size ≤ w18.heap.size := by
          have := (Blk.lt HP18.out); omega
        have HCA : Hid (Chg (l :: O) w w18) := Lib.hid (by
          have h1 : Chg (l :: O) w w14 := ((Chg.ext HE12.out : Chg (l :: O) w w12).trans' HT13.out.1 (fun t ht => .inl (by simp [ht])))
          have h2 : Chg (l :: O) w w15 := h1.trans' HC15.out (fun t ht => .inr (by simp at ht; omega))
          have h3 : Chg (l :: O) w w16 := h2.trans' HC16.out (fun t ht => .inl (by simp at ht; simp [ht]))
          exact h3.trans' ((Chg.ext HE17.out : Chg [l] w16 w17).trans hC18) (fun t ht => .inl (by simp at ht; simp [ht])))
        have HRB := Lib.hid (HR.out.chg HCA.out HRL.out)
        clear hsv hB18 hB18' hP18 hQ18 hC18 HB17 HP17 HQ17 HE17 f4 c4
        apply Mono.region1 11 Ext [.is _, .is _, .is _, .is _, .is _, .is _, .rel (fun v w' => Rd w' v (u8s r)), .rel (fun v w' => ∃ g c, v = .slice (some ⟨g, 0, none⟩) 1 1 ∧ w18.heap.size ≤ g ∧ Blk w' g #[c] 23 ∧ Rd w' c (u8s r)), .rel (fun v w' => ∃ c, w'.ownsRow w18.heap.size 23 1 v 1 [c] ∧ Rd w' c (u8s r)), .is _, .is _] (by kernel_rfl) Ext.refl (fun _ _ _ => Ext.trans) (by kernel_rfl) rfl rfl ⟨fun _ _ _ h hE => Rd.ext h hE, fun _ _ _ h hE => by obtain ⟨g, c, h1, h2, h3, h4⟩ := h; exact ⟨g, c, h1, h2, h3.ext hE, h4.ext hE⟩, fun _ _ _ h hE => by obtain ⟨c, h1, h2⟩ := h; exact ⟨c, own_ext h1 hE, h2.ext hE⟩, trivial⟩
        focus
          iterate 6 (apply Mono.step_is; (· refine Mono.obl_mk fun w8 hE8 _ K hK => ?_; (have jp := hE8.cell (show w18.drew.cell? _ = _ from p18)); (have j3 := hE8.cell (show w18.drew.cell? _ = _ from c3)); clear hE8; go_wp2_with fail; simp only [Act.put, List.setIfInBounds_toArray, List.set_cons_succ, List.set_cons_zero] at hK; exact hK _ _ (Ext.refl _) (Mono.is_rfl _ _)); simp only [Act.put, List.setIfInBounds_toArray, List.set_cons_succ, List.set_cons_zero])
          refine Mono.step_rel (Mono.obl_mk fun w8 hE8 _ K hK => ?_) fun v144 => ?_
          · have HR8 := Lib.hid ((HRB.out.ext (Ext.drew w18)).ext hE8)
            clear hE8
            go_wp2_with fail
            refine (clone8 (.slice ra N rc) r w8 HR8.out (by have := HN.out; omega)).mono ?_
            rintro e w10 ⟨v, rfl, ho, hE10⟩
            have HO := Lib.hid (Rd.of_own ho); have HE10 := Lib.hid hE10
            clear ho hE10
            go_wp2_with fail
            simp only [Act.put, List.setIfInBounds_toArray, List.set_cons_succ, List.set_cons_zero] at hK
            exact hK _ _ HE10.out (Mono.rel_mk HO.out)
          simp only [Act.put, List.setIfInBounds_toArray, List.set_cons_succ, List.set_cons_zero]
          refine Mono.step_rel (Mono.obl_mk fun w8 hE8 hkn K hK => ?_) fun v145 => ?_
          · have h144 : Rd w8 v144 (u8s r) := hkn.1 (by kernel_rfl)
            have H144 := Lib.hid h144; have HE8 := Lib.hid hE8
            obtain ⟨a4, n4, c4, rfl⟩ := h144.shape
            clear hkn hE8 h144
            go_wp2_with fail
            simp only [Act.put, List.setIfInBounds_toArray, List.set_cons_succ, List.set_cons_zero] at hK
            exact hK _ _ (Ext.alloc _ _) (Mono.rel_mk ⟨_, _, rfl, HE8.out.size, Blk.new _ _ _, H144.out.ext (Ext.alloc _ _)⟩)
          simp only [Act.put, List.setIfInBounds_toArray, List.set_cons_succ, List.set_cons_zero]
          refine Mono.step_rel (Mono.obl_mk fun w8 hE8 hkn K hK => ?_) fun v146 => ?_
          · obtain ⟨g5, c5, rfl, hg5, hb5, hr5⟩ := hkn.2.1 (by kernel_rfl)
            obtain ⟨a5, n5, k5, rfl⟩ := hr5.shape
            refine wpList_append_rd rfl (.tmp 142) (.tmp 145) _ rfl elR w18.heap.size _ 0 [] [Value.slice a5 n5 k5] rfl (World.ownsRow_nil _ _ _ _) _ rfl (show Rd w8 (.slice (some ⟨g5, 0, none⟩) 1 1) [Value.slice a5 n5 k5] from ⟨_, 1, rfl, Nat.le_refl _, by unfold maxLen; omega, .inr ⟨g5, 0, rfl, fun j u hj => by rw [Nat.zero_add]; exact hb5.cell j (by simpa using hj)⟩⟩) (by intro u hu; simp at hu; subst hu; rfl) (by simp) (by simp [maxLen]) hE8.size ?_
            intro v' w' g1 g2
            simp only [Act.put, List.setIfInBounds_toArray, List.set_cons_succ, List.set_cons_zero] at hK
            have hE9 : Ext w8 w' := Ext.grown g2 (by intro k hk; cases hk)
            exact hK _ _ hE9 (Mono.rel_mk ⟨_, by simpa using g1, hr5.ext hE9⟩)
          simp only [Act.put, List.setIfInBounds_toArray, List.set_cons_succ, List.set_cons_zero]
          iterate 2 (apply Mono.step_is; (· refine Mono.obl_mk fun w8 hE8 _ K hK => ?_; (have jp := hE8.cell (show w18.drew.cell? _ = _ from p18)); (have j3 := hE8.cell (show w18.drew.cell? _ = _ from c3)); clear hE8; go_wp2_with fail; simp only [Act.put, List.setIfInBounds_toArray, List.set_cons_succ, List.set_cons_zero] at hK; exact hK _ _ (Ext.refl _) (Mono.is_rfl _ _)); simp only [Act.put, List.setIfInBounds_toArray, List.set_cons_succ, List.set_cons_zero])
          refine Mono.step_end fun w19 hE19 hkn => ?_
          simp only [List.drop_succ_cons, List.drop_zero]
          obtain ⟨-, -, ⟨c, hrow, hrc⟩, -⟩ := hkn
          obtain ⟨ya2, yc2, hys⟩ := own_shapeL hrow
          subst hys
          have hE := (Ext.drew w18).trans hE19
          have HROW := Lib.hid hrow; have HRC := Lib.hid hrc
          have HB19 := Lib.hid (Blk.ext (show Blk w18 l _ _ from HB18.out) hE); have HP19 := Lib.hid (HP18.out.ext hE); have HQ19 := Lib.hid (HQ18.out.ext hE); have HE19 := Lib.hid hE
          have p19 : w19.cell? ⟨w.heap.size, 0, none⟩ = some (lptr l) := HP19.out.cell 0 rfl
          have f3 := HB19.out.free 3
          have q19 : ∀ v, (w19.setCell ⟨l, 3, none⟩ v).cell? ⟨w.heap.size + 1, 0, none⟩ = some (.int .i64 0) := fun v => (HQ19.out.other ⟨l, 3, none⟩ v (by simp; omega)).cell 0 rfl
          have c19 : w19.cell? ⟨l, 3, none⟩ = some (.slice none 0 0) := HB19.out.cell 3 rfl
          clear hE hE19 hrow hrc HB18 HP18 HQ18 p18 c3
          go_upto_region 19 with fail
          have hC20 : Chg [l] w18 (w19.setCell ⟨l, 3, none⟩ (.slice ya2 1 yc2)) := (Chg.ext HE19.out : Chg [l] w18 w19).setNew _ 3 _ (.inl (by simp))
          have hB20 : LogB (w19.setCell ⟨l, 3, none⟩ (.slice ya2 1 yc2)) l d name 0 (.slice ya2 1 yc2) sv 1 false := by
            have := (show Blk w19 l _ _ from HB19.out).set 3 (.slice ya2 1 yc2)
            unfold LogB; simpa using this
          have HD20 := Lib.hid (HD18.out.ext HE19.out |>.chg (Chg.set l 3 (.slice ya2 1 yc2) (by simp) : Chg [l] w19 _) (fun t ht => by
            simp at ht; subst ht
            refine ⟨HLO'.out, .inl ?_⟩
            have h := HB19.out
            rw [HSV.out] at h
            exact nob_log h))
          have hP20 := HP19.out.other ⟨l, 3, none⟩ (.slice ya2 1 yc2) (by simp; omega)
          have hQ20 := HQ19.out.other ⟨l, 3, none⟩ (.slice ya2 1 yc2) (by simp; omega)
          have hR20 : (w19.setCell ⟨l, 3, none⟩ (.slice ya2 1 yc2)).ownsRow w18.heap.size 23 1 (.slice ya2 1 yc2) 1 [c] := own_offW HROW.out (Chg.set l 3 _ (by simp) : Chg [l] _ _) (fun t ht hm => by simp at hm; have := (HROW.out.lt t ht).1; have := HC18.out.size; have := HC16.out.size; have := HC15.out.size; have := HE12.out.size; omega)
          have hRc : Rd (w19.setCell ⟨l, 3, none⟩ (.slice ya2 1 yc2)) c (u8s r) := HRC.out.chg (Chg.set l 3 _ (by simp) : Chg [l] _ _) (off_noB HRC.out (NoB.blk (show Blk w19 l _ _ from HB19.out) (by intro c hc y e; simp at hc; subst e; simp at hc; rw [HSV.out] at hc; cases hc)))
          generalize w19.setCell ⟨l, 3, none⟩ (.slice ya2 1 yc2) = w20 at *
          have qf := hQ20.free 0
          have q20 : w20.cell? ⟨w.heap.size + 1, 0, none⟩ = some (.int .i64 0) := hQ20.cell 0 rfl
          have HB20 := Lib.hid hB20; have HP20 := Lib.hid hP20; have HQ20 := Lib.hid hQ20; have HR20 := Lib.hid hR20; have HRc := Lib.hid hRc; have HC20 := Lib.hid hC20
          clear hB20 hP20 hQ20 hR20 hRc hC20 q19 c19 p19 f3 HB19 HP19 HQ19 HROW HRC
          go_wp2_with fail
          have hC21 : Chg [w.heap.size + 1] w20 (w20.setCell ⟨w.heap.size + 1, 0, none⟩ (.int .i64 0)) := Chg.set _ 0 _ (by simp)
          have hB21 : LogB (w20.setCell ⟨w.heap.size + 1, 0, none⟩ (.int .i64 0)) l d name 0 (.slice ya2 1 yc2) sv 1 false := (show Blk w20 l _ _ from HB20.out).other _ _ (by simp; omega)
          have hP21 := HP20.out.other ⟨w.heap.size + 1, 0, none⟩ (.int .i64 0) (by simp)
          have hQ21 := HQ20.out.set 0 (.int .i64 0)
          have hq14 : w.heap.size + 1 < w12.heap.size := by omega
          have hR21 := Rd.of_own (own_offW HR20.out hC21 (fun t ht hm => by simp at hm; have := (HR20.out.lt t ht).1; have := HC18.out.size; have := HC16.out.size; have := HC15.out.size; omega))
          have hnq : NoB w20 (w.heap.size + 1) := NoB.blk HQ20.out (by intro c hc y e; simp at hc; subst e; simp at hc)
          have hRc21 := HRc.out.chg hC21 (off_noB HRc.out hnq)
          have HD21 := Lib.hid (HD20.out.chg hC21 (fun t ht => by
            simp at ht; subst ht
            refine ⟨fun h => ?_, .inl hnq⟩
            rcases HT13.out.2.1 _ h with h1 | h1
            · exact HQO.out h1
            · omega))
          generalize w20.setCell ⟨w.heap.size + 1, 0, none⟩ (.int .i64 0) = w21 at *
          refine leaves_cons (f := 39) (args := #[ptr w.heap.size, ptr (w.heap.size + 1)]) (by simp) (by simp [go_sem]) ?_
          refine (widle_Append _ (ptr (w.heap.size + 1)) w.heap.size w21 rfl _ (hP21.cell 0 rfl)).mono ?_
          rintro en u w22 ⟨rfl, rfl, rfl⟩
          have q8 : w21.drew.cell? ⟨w.heap.size + 1, 0, none⟩ = some (.int .i64 0) := hQ21.cell 0 (by simp)
          simp [Leaves, settle, results, Tryz.results14, go_sem, q8]
          refine ⟨rfl, O', .slice ya2 1 yc2, sv, c, Blk.drew hB21, hR21.ext (Ext.drew _), hRc21.ext (Ext.drew _), ?_, ?_, HLO'.out, ?_⟩
          · exact HD21.out.ext (Ext.drew _)
          · exact ((HCA.out.trans' HC20.out (fun t ht => .inl (by simp at ht; simp [ht]))).trans' hC21 (fun t ht => .inr (by simp at ht; omega))).toDrew
          · intro t ht
            rcases HT13.out.2.1 t ht with h | h
            · exact .inl h
            · right; have := HE12.out.size; omega
end Go.Proofs.YtafjjladnghjbaaGreatDoor
