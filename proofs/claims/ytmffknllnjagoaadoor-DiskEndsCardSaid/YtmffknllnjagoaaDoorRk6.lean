/- tabellionref08: try. -/
import Derived.Test.YtmffknllnjagoaaDoorRk5
set_option linter.unusedSimpArgs false
set_option linter.unusedVariables false
namespace Go.Proofs.YtmffknllnjagoaaDoor
open Go Go.RowKit Go.Maps
open Go.Proofs (encStr)

theorem infoOp : (Tryd.prog.info? 83).map (fun i => (i.zero, i.size, i.bytes)) = some (some (.agg #[.int .i64 0, .string ⟨#[]⟩, .string ⟨#[]⟩, .int .i64 0, .slice none 0 0]), 5, 72) := by kernel_rfl
def NewO (B : Nat) (cs : Array Value) (v : Value) (w : World) : Prop := ∃ g, v = .slice (some ⟨g, 0, none⟩) 1 1 ∧ B ≤ g ∧ Blk w g cs 83
theorem newO_chg {S : List Nat} {B : Nat} {cs : Array Value} {v : Value} {w w' : World} (h : NewO B cs v w) (hg : Chg S w w') (hS : ∀ t ∈ S, t < B) : NewO B cs v w' := by
  obtain ⟨g, hv, hb, hB⟩ := h
  exact ⟨g, hv, hb, hB.chg hg fun hm => by have := hS _ hm; omega⟩
def OwnO (w0 : Nat) (o : Option Nat) (n : Nat) (cs : List Value) (v : Value) (w : World) : Prop := w.ownsRow 0 83 5 v n cs ∧ (v.ownBlock = o ∨ ∃ q, v.ownBlock = some q ∧ w0 ≤ q) ∧ ∀ g ∈ v.ownBlock.toList, NoB w g
theorem ownO_ext {w0 : Nat} {o : Option Nat} {n : Nat} {cs : List Value} {v : Value} {w w' : World} (h : OwnO w0 o n cs v w) (hE : Ext w w') : OwnO w0 o n cs v w' :=
  ⟨own_ext h.1 hE, h.2.1, fun g hg => (h.2.2 g hg).heap (hE.block g (own_lt h.1 g hg))⟩
theorem ddC_noB {o : Dd} {bv : Value} (h : ∃ a n c, bv = .slice a n c) : ∀ u ∈ ddC o bv, ∀ y, u ≠ .int .u8 y := by
  obtain ⟨a, n, c, rfl⟩ := h
  intro u hu y e
  subst e
  simp [ddC] at hu
theorem DDs.noB {w : World} {A : List Nat} : ∀ {xs : List Dd} {cs : List Value}, DDs w A xs cs → ∀ u ∈ cs, ∀ y, u ≠ .int .u8 y
  | [], _, h => by cases h; simp
  | o :: r, _, ⟨bv, rest, e, h1, _, h3⟩ => by
    intro u hu y
    rw [e] at hu
    rcases List.mem_append.1 hu with hu | hu
    · exact ddC_noB h1.shape u hu y
    · exact h3.noB u hu y
theorem length_delG_le {α : Type} (k : Nm) (l : List (Nm × α)) : (delG k l).length ≤ l.length := List.length_filter_le _ _
theorem length_putG_le {α : Type} (k : Nm) (a : α) (l : List (Nm × α)) : (putG k a l).length ≤ l.length + 1 := by
  unfold putG; rw [length_insG]; have := length_delG_le k l; omega
theorem length_doF (o : Dd) (L : FL) : (doF o L).length ≤ L.length + 1 := by
  unfold doF
  split
  · split <;> exact length_putG_le _ _ _
  · split
    · omega
    · split
      · exact length_putG_le _ _ _
      · split
        · exact Nat.le_succ_of_le (length_delG_le _ _)
        · refine Nat.le_trans (length_putG_le _ _ _) ?_
          have := length_delG_le (nmOf o.name) L; omega
set_option maxRecDepth 100000 in
set_option maxHeartbeats 4000000 in
theorem rtry_c (r n M : Nat) (O F : List Nat) (S : Dk) (o : Dd) (bv : Value) (w : World) (h : RkS w r n M O F S) (hn : n < 800000000) (hwl : S.waits.length < 1000000000) (ok : DdOk M o) (kok : KOk o) (hbv : Rd w bv (u8s o.b)) (hof : OffL bv (u8s o.b) (O ++ F)) (hM : M ≤ 70368744177664) :
    Calls Tryd.prog 51 #[dptr r, .agg (rC o bv).toArray] w fun e w' => e = .returned (.int .i64 (waitS S o).1) ∧ ∃ O', RkS w' r (n + 1) M O' F (waitS S o).2 ∧ DkTo O w w' O' := by
  obtain ⟨X, hX⟩ : ∃ X, X = waitS S o := ⟨_, rfl⟩
  rw [← hX]
  have hlow := h.lowO
  obtain ⟨kk, hkk⟩ : ∃ kk, kk = kR o.kind := ⟨_, rfl⟩
  have hrC : (rC o bv).toArray = #[.int .i64 kk, .string o.name, .string o.to, .int .i64 o.n, bv] := by rw [hkk]; rfl
  obtain ⟨W, hW⟩ : ∃ W, W = w.alloc (.cells #[.int .i64 kk, .string o.name, .string o.to, .int .i64 o.n, bv] 83) := ⟨_, rfl⟩
  have hE : Ext w W := by rw [hW]; exact Ext.alloc _ _
  have hB : Blk W w.heap.size #[.int .i64 kk, .string o.name, .string o.to, .int .i64 o.n, bv] 83 := by rw [hW]; exact Blk.new _ _ _
  have hD : RkS W r n M O F S := h.ext hE
  have HX := Lib.hid hX; have HE := Lib.hid hE; have HB := Lib.hid hB; have HD := Lib.hid hD; have HOK := Lib.hid ok; have HKOK := Lib.hid kok; have HBV := Lib.hid hbv; have HOF := Lib.hid hof; have HLOW := Lib.hid hlow; have HRC := Lib.hid hrC
  rw [hrC]
  clear hX hE hB hD ok kok hbv hof hlow h hrC hkk
  go_enter Tryd.func51, Tryd.ntmps51
  go_upto_region 1 with fail
  rw [← hW]
  clear hW
  go_wp2_with fail
  refine (rburn_c r n M O F S W HD.out).mono ?_
  rintro e w1 ⟨rfl, hd1, ht1⟩
  have hpO : w.heap.size ∉ O := fun hm => by have := HLOW.out _ hm; omega
  have HB1 := Lib.hid (HB.out.chg ht1.1 hpO)
  have hto1 : DkTo O w w1 O := (DkTo.ext HE.out HLOW.out).trans ht1
  have HD1 := Lib.hid hd1; have HT1 := Lib.hid hto1
  have hoffO : ∀ a n c, bv = .slice (some a) n c → u8s o.b ≠ [] → a.block ∉ O := fun a n c hv hne hm => HOF.out a n c hv hne (List.mem_append_left _ hm)
  have HBV1 := Lib.hid (HBV.out.chg hto1.1 hoffO)
  have HOFO := Lib.hid hoffO
  clear hd1 ht1 hto1 hoffO
  by_cases hz : S.fuse = 0
  · rw [if_pos hz]
    have HX2 : Hid (X = (6, { S with off := true })) := Lib.hid (by rw [HX.out]; simp only [waitS, if_pos hz])
    have HDz : Hid (RkS w1 r n M O F { S with off := true }) := Lib.hid (by have := HD1.out; unfold burnS at this; rwa [if_pos hz] at this)
    clear hz HX HD1
    go_wp2_with fail
    go_ret
    rw [HX2.out]
    exact ⟨rfl, O, HDz.out.more (Nat.le_succ n), HT1.out⟩
  · rw [if_neg hz]
    have HX2 : Hid (X = (0, { burnS S with now := doF o S.now, waits := S.waits ++ [o] })) := Lib.hid (by rw [HX.out]; simp only [waitS, if_neg hz])
    clear hz HX
    obtain ⟨S1, hS1⟩ : ∃ S1, S1 = burnS S := ⟨_, rfl⟩
    have hS1w : S1.waits = S.waits ∧ S1.now = S.now := by
      rw [hS1]; unfold burnS
      split
      · exact ⟨rfl, rfl⟩
      · split <;> exact ⟨rfl, rfl⟩
    rw [← hS1] at HX2 HD1
    have HX3 : Hid (X = (0, { S1 with now := doF o S1.now, waits := S1.waits ++ [o] })) := Lib.hid (by rw [HX2.out, hS1w.1, hS1w.2])
    rw [← hS1w.1] at hwl
    clear hS1w hS1 HX2
    obtain ⟨fv, sv, ov, cells, hBd, hF1, hF2, hown, hdds, hov⟩ := HD1.out.body
    obtain ⟨c0, c1, c2, c3, c4, c5⟩ := hBd.rsix
    obtain ⟨e0, e1, e2, e3, e4⟩ : w1.cell? ⟨w.heap.size, 0, none⟩ = some (.int .i64 kk) ∧ w1.cell? ⟨w.heap.size, 1, none⟩ = some (.string o.name) ∧ w1.cell? ⟨w.heap.size, 2, none⟩ = some (.string o.to) ∧ w1.cell? ⟨w.heap.size, 3, none⟩ = some (.int .i64 o.n) ∧ w1.cell? ⟨w.heap.size, 4, none⟩ = some bv := ⟨HB1.out.cell 0 rfl, HB1.out.cell 1 rfl, HB1.out.cell 2 rfl, HB1.out.cell 3 rfl, HB1.out.cell 4 rfl⟩
    have HBD := Lib.hid hBd; have HF1 := Lib.hid hF1; have HF2 := Lib.hid hF2; have HOWN := Lib.hid hown; have HDDS := Lib.hid hdds; have HOV := Lib.hid hov
    clear hBd hF1 hF2 hown hdds hov c1 c2 c3 c4 c5
    have hlF : ∀ t ∈ O ++ F, t < w1.heap.size := fun t ht => by
      rcases List.mem_append.1 ht with ht | ht
      · exact HD1.out.lowO t ht
      · exact HD1.out.lowF t ht
    have HLF := Lib.hid hlF
    clear hlF
    go_upto_region 3 with fail
    apply Mono.region1 9 Ext [.is _, .is _, .is _, .is _, .is _, .is _, .rel (fun v w' => RFv w' (O ++ F) v (doF o S1.now)), .is _, .is _] (by kernel_rfl) Ext.refl (fun _ _ _ => Ext.trans) (by kernel_rfl) rfl rfl ⟨fun v wa wb hv hE => hv.ext hE, trivial⟩
    focus
      iterate 6 (apply Mono.step_is; (· refine Mono.obl_mk fun w3 hE3 _ K hK => ?_; (replace c0 := hE3.cell (show w1.drew.cell? _ = _ from c0)); (replace e0 := hE3.cell (show w1.drew.cell? _ = _ from e0)); (replace e1 := hE3.cell (show w1.drew.cell? _ = _ from e1)); (replace e2 := hE3.cell (show w1.drew.cell? _ = _ from e2)); (replace e3 := hE3.cell (show w1.drew.cell? _ = _ from e3)); (replace e4 := hE3.cell (show w1.drew.cell? _ = _ from e4)); clear hE3; go_wp2_with fail; simp only [Act.put, List.setIfInBounds_toArray, List.set_cons_succ, List.set_cons_zero] at hK; exact hK _ _ (Ext.refl _) (Mono.is_rfl _ _)); simp only [Act.put, List.setIfInBounds_toArray, List.set_cons_succ, List.set_cons_zero])
      refine Mono.step_rel (Mono.obl_mk fun w3 hE3 _ K hK => ?_) fun v16 => ?_
      · have hE3' : Ext w1 w3 := (Ext.drew _).trans hE3
        go_wp2_with fail
        have hdo := rdo_c (O ++ F) fv S1.now o M bv w3 (HF1.out.ext hE3') (by have := HD1.out.lnow; omega) HD1.out.rnow (fun t ht => Nat.lt_of_lt_of_le (HLF.out t ht) hE3'.size) HOK.out (HBV1.out.ext hE3') HD1.out.now hM HKOK.out
        rw [HRC.out] at hdo
        refine hdo.mono ?_
        rintro en w4 ⟨v4, rfl, hf4, hE4⟩
        go_wp2_with fail
        simp only [Act.put, List.setIfInBounds_toArray, List.set_cons_succ, List.set_cons_zero] at hK
        exact hK _ _ hE4 (Mono.rel_mk hf4)
      simp only [Act.put, List.setIfInBounds_toArray, List.set_cons_succ, List.set_cons_zero]
      iterate 2 (apply Mono.step_is; (· refine Mono.obl_mk fun w3 hE3 _ K hK => ?_; clear hE3; go_wp2_with fail; simp only [Act.put, List.setIfInBounds_toArray, List.set_cons_succ, List.set_cons_zero] at hK; exact hK _ _ (Ext.refl _) (Mono.is_rfl _ _)); simp only [Act.put, List.setIfInBounds_toArray, List.set_cons_succ, List.set_cons_zero])
      refine Mono.step_end fun w3 hE3 hkn => ?_
      simp only [List.drop_succ_cons, List.drop_zero]
      clear c0 e0 e1 e2 e3 e4
      obtain ⟨hf3, _⟩ := hkn
      have hE3' : Ext w1 w3 := (Ext.drew _).trans hE3
      have hB3 := HBD.out.ext hE3'
      have f0 := hB3.free 0
      have c0 : w3.cell? ⟨r, 0, none⟩ = some fv := hB3.cell 0 rfl
      obtain ⟨va, vc, rfl⟩ := hf3.shape
      have hC4 : Chg O w1 (w3.setCell ⟨r, 0, none⟩ (.slice va (doF o S1.now).length vc)) := (Chg.ext hE3').setNew r 0 _ (.inl HD1.out.rO)
      have hC43 : Chg O w3 (w3.setCell ⟨r, 0, none⟩ (.slice va (doF o S1.now).length vc)) := Chg.set r 0 _ HD1.out.rO
      have hB4 : Blk (w3.setCell ⟨r, 0, none⟩ (.slice va (doF o S1.now).length vc)) r (rB (.slice va (doF o S1.now).length vc) sv ov S1) 71 := by simpa [rB] using hB3.set 0 (.slice va (doF o S1.now).length vc)
      have hI : ∀ t ∈ O, t ∈ O ∨ w3.heap.size ≤ t := fun t ht => .inl ht
      have HCR : Hid (Chg [r] w1 (w3.setCell ⟨r, 0, none⟩ (.slice va (doF o S1.now).length vc))) := Lib.hid ((Chg.ext hE3').setNew r 0 _ (.inl (by simp)))
      have hF4 := hf3.step hC43 hI
      have hrp : w.heap.size ≠ r := fun e => hpO (e ▸ HD1.out.rO)
      have hop4 := (HB1.out.ext hE3').chg (Chg.set (S := [r]) r 0 (.slice va (doF o S1.now).length vc) (by simp)) (by simp; exact hrp)
      have HB4 := Lib.hid hB4; have HF4 := Lib.hid hF4; have HC4 := Lib.hid hC4; have HOP4 := Lib.hid hop4
      clear hE3 hE3' hB3 hf3 hC4 hC43 hB4 hF4 hop4
      have hlen4 : (doF o S1.now).length ≤ n + 1 := by
        have h1 := HD1.out.lnow
        exact Nat.le_trans (length_doF o S1.now) (by omega)
      have HLEN4 := Lib.hid hlen4
      clear hlen4
      go_upto_region 4 with fail
      revert HB4 HF4 HC4 HOP4 HCR
      generalize w3.setCell ⟨r, 0, none⟩ (.slice va (doF o S1.now).length vc) = w4
      intro HCR HB4 HF4 HC4 HOP4
      clear c0 f0 hI
      obtain ⟨oa, oc, rfl⟩ := own_shapeL HOWN.out
      obtain ⟨rowb, hrowb⟩ : ∃ q, q = (Value.slice oa S1.waits.length oc).ownBlock := ⟨_, rfl⟩
      have hrowO := HOV.out
      rw [← hrowb] at hrowO
      have hrd : r ∉ rowb.toList := fun hm => (hrowO _ hm).2 rfl
      have hrq : w.heap.size ∉ rowb.toList := fun hm => hpO (hrowO _ hm).1
      have hlow4 : ∀ t ∈ O, t < w4.heap.size := fun t ht => Nat.lt_of_lt_of_le (HD1.out.lowO t ht) HC4.out.size
      have hrl : ∀ t ∈ rowb.toList, t < w4.heap.size := fun t ht => hlow4 t (hrowO t ht).1
      have hown4 : w4.ownsRow 0 83 5 (.slice oa S1.waits.length oc) S1.waits.length cells := own_chgL HOWN.out HCR.out (fun t ht => by simp; exact (hrowO t (by rw [hrowb]; exact ht)).2)
      have hnob4 : ∀ t ∈ rowb.toList, NoB w4 t := fun t ht => (HD1.out.noB t (hrowO t ht).1).heap (HCR.out.block t (HD1.out.lowO t (hrowO t ht).1) (by simp; exact (hrowO t ht).2))
      obtain ⟨i, hi, hiz, his, hib⟩ := info_parts infoOp
      have hrD : (ddC (reD o) bv).toArray = #[.int .i64 kk, .string o.name, .string o.to, .int .i64 o.n, bv] := HRC.out
      have HRD := Lib.hid hrD
      have HOWN4 := Lib.hid hown4; have HNOB4 := Lib.hid hnob4; have HROWO := Lib.hid hrowO; have HROW := Lib.hid hrowb; have HHD := Lib.hid (HDDS.out.noB)
      clear hown4 hnob4 hrowO hrowb HOWN
      apply Mono.region2 10 7 Ext (Chg rowb.toList) [.is _, .is _, .is _, .is _, .is _, .is _, .rel (NewO w4.heap.size (ddC (reD o) bv).toArray), .rel (OwnO w4.heap.size rowb (S1.waits.length + 1) (cells ++ ddC (reD o) bv)), .is _, .is _] (by kernel_rfl) ⟨fun _ _ h => Chg.ext h, fun _ _ _ => Ext.trans, fun _ _ _ => Chg.trans⟩ (Ext.refl _) (by kernel_rfl) rfl rfl ⟨fun v wa wb hv hE => newO_chg hv hE hrl, fun v wa wb hv hE => ownO_ext hv hE, trivial⟩
      focus
        iterate 6 (apply Mono.step_is; (· refine Mono.obl_quiet (by decide) fun w9 hE9 _ K hK => ?_; (have cm : w9.cell? ⟨r, 2, none⟩ = some (.slice oa S1.waits.length oc) := (HB4.out.drew.chg hE9 hrd).cell 2 rfl); (have hdd := HOP4.out.drew.chg hE9 hrq); (have e0 : w9.cell? ⟨w.heap.size, 0, none⟩ = some (.int .i64 kk) := hdd.cell 0 rfl); (have e1 : w9.cell? ⟨w.heap.size, 1, none⟩ = some (.string o.name) := hdd.cell 1 rfl); (have e2 : w9.cell? ⟨w.heap.size, 2, none⟩ = some (.string o.to) := hdd.cell 2 rfl); (have e3 : w9.cell? ⟨w.heap.size, 3, none⟩ = some (.int .i64 o.n) := hdd.cell 3 rfl); (have e4 : w9.cell? ⟨w.heap.size, 4, none⟩ = some bv := hdd.cell 4 rfl); clear hdd hE9; go_wp2_with fail; simp only [Act.put, List.setIfInBounds_toArray, List.set_cons_succ, List.set_cons_zero] at hK; exact hK _ _ (Ext.refl _) (Mono.is_rfl _ _)); simp only [Act.put, List.setIfInBounds_toArray, List.set_cons_succ, List.set_cons_zero])
        refine Mono.step_rel (Mono.obl_quiet (by decide) fun w9 hE9 _ K hK => ?_) fun v25 => ?_
        · go_wp2_with fail
          simp only [Act.put, List.setIfInBounds_toArray, List.set_cons_succ, List.set_cons_zero] at hK
          exact hK _ _ (Ext.alloc _ _) (Mono.rel_mk ⟨_, rfl, hE9.size, by rw [HRD.out]; exact Blk.new _ _ _⟩)
        simp only [Act.put, List.setIfInBounds_toArray, List.set_cons_succ, List.set_cons_zero]
        refine Mono.step_rel (Mono.obl_loud fun w9 hE9 hkn K hK => ?_) fun v26 => ?_
        · obtain ⟨g5, rfl, hg5, hb5⟩ := hkn.1 (by kernel_rfl)
          refine wpList_append_noB rfl (.tmp 23) (.tmp 25) _ rfl 0 83 i _ 5 72 Tryd.underlying69 hi hiz his hib rfl (by decide) (.slice oa S1.waits.length oc) S1.waits.length cells rfl (own_ext HOWN4.out.drew hE9) ⟨g5, 0, none⟩ 1 1 (ddC (reD o) bv) rfl rfl (fun i u hi => by rw [Addr.add_lit, Nat.zero_add]; exact hb5.cell i (by simpa [ddC] using hi)) (by obtain ⟨x1, x2, x3, hbs⟩ := HBV.out.shape; intro u hu; simp [ddC] at hu; rcases hu with rfl | rfl | rfl | rfl | rfl <;> first | rfl | (rw [hbs]; rfl)) (by unfold maxLen; omega) (by omega) (Nat.zero_le _) (by intro u hu y e; subst e; simp [Value.cells] at hu) (ddC_noB HBV.out.shape) HHD.out (fun g hg => (HNOB4.out g (by rw [HROW.out]; exact hg)).heap (hE9.block g (hrl g (by rw [HROW.out]; exact hg)))) fun v' w' g1 g2 g3 g4 => ?_
          simp only [Act.put, List.setIfInBounds_toArray, List.set_cons_succ, List.set_cons_zero] at hK
          rw [← HROW.out] at g2 g4
          exact hK _ _ (Chg.grown g2) (Mono.rel_mk ⟨g1, g4.imp id fun h => ⟨_, h, hE9.size⟩, g3⟩)
        simp only [Act.put, List.setIfInBounds_toArray, List.set_cons_succ, List.set_cons_zero]
        iterate 2 (apply Mono.step_is; (· refine Mono.obl_quiet (by decide) fun w9 hE9 _ K hK => ?_; (have cm : w9.cell? ⟨r, 2, none⟩ = some (.slice oa S1.waits.length oc) := (HB4.out.drew.chg hE9 hrd).cell 2 rfl); clear hE9; go_wp2_with fail; simp only [Act.put, List.setIfInBounds_toArray, List.set_cons_succ, List.set_cons_zero] at hK; exact hK _ _ (Ext.refl _) (Mono.is_rfl _ _)); simp only [Act.put, List.setIfInBounds_toArray, List.set_cons_succ, List.set_cons_zero])
        refine Mono.step_end fun w9 hE9 hkn => ?_
        obtain ⟨_, ⟨ho9, hq9, hn9⟩, _⟩ := hkn
        simp only [List.drop_succ_cons, List.drop_zero]
        replace hE9 : Chg rowb.toList w4 w9 := Chg.drew.trans hE9
        obtain ⟨oa2, oc2, hv26⟩ := own_shapeL ho9
        have hBd9 := HB4.out.chg hE9 hrd
        have fm := hBd9.free 2
        have cm : w9.cell? ⟨r, 2, none⟩ = some (.slice oa S1.waits.length oc) := hBd9.cell 2 rfl
        have hgO : Chg O w4 (w9.setCell ⟨r, 2, none⟩ v26) := (hE9.mono (S := O) fun t ht => .inl (HROWO.out t ht).1).setNew r 2 _ (.inl HD1.out.rO)
        have hg1 : Chg O w1 (w9.setCell ⟨r, 2, none⟩ v26) := HC4.out.trans hgO
        have hg9 : Chg [r] w9 (w9.setCell ⟨r, 2, none⟩ v26) := Chg.set _ _ _ (by simp)
        have hvr : ∀ t ∈ v26.ownBlock.toList, t ≠ r ∧ (t ∈ O ∨ w4.heap.size ≤ t) := fun t ht => by
          rcases hq9 with hq | ⟨q, hq, hql⟩
          · rw [hq] at ht; exact ⟨(HROWO.out t ht).2, .inl (HROWO.out t ht).1⟩
          · rw [hq] at ht; simp at ht; subst ht
            exact ⟨fun e => by have := hlow4 r HD1.out.rO; omega, .inr hql⟩
        have hnew : ∀ t ∈ r :: v26.ownBlock.toList, t ∈ O ∨ w4.heap.size ≤ t := fun t ht => by
          rcases List.mem_cons.1 ht with rfl | ht
          · exact .inl HD1.out.rO
          · exact (hvr t ht).2
        have h14 := HC4.out.size
        have hnew1 : ∀ t ∈ r :: v26.ownBlock.toList, t ∈ O ∨ w1.heap.size ≤ t := fun t ht => (hnew t ht).imp id fun h => Nat.le_trans h14 h
        have hw1 := HT1.out.1.size
        have hoffn : OffL bv (u8s o.b) ((r :: v26.ownBlock.toList) ++ F) := HOF.out.more HBV.out fun t ht => by
          rcases List.mem_append.1 ht with ht | ht
          · rcases hnew1 t ht with h | h
            · exact .inl (List.mem_append_left _ h)
            · exact .inr (Nat.le_trans hw1 h)
          · exact .inl (List.mem_append_right _ ht)
        have hbvn : Rd (w9.setCell ⟨r, 2, none⟩ v26) bv (u8s o.b) := HBV1.out.chg hg1 (fun a n c hv hne hm => HOFO.out a n c hv hne hm)
        have R := HD1.out.step (S' := { S1 with now := doF o S1.now, waits := S1.waits ++ [o] }) (n' := n + 1) hg1 (by simpa [rB] using hBd9.set 2 v26) rfl (HF4.out.step hgO hnew) (HF2.out.step hg1 hnew1)
          (by simpa using own_chgL ho9 hg9 (fun t ht => by simp; exact (hvr t ht).1))
          (by rw [List.map_append]; exact (HDDS.out.step hg1 hnew1).push hbvn hoffn)
          (fun t ht => ⟨(hvr t ht).1, (hvr t ht).2.imp id fun h => Nat.le_trans h14 h, (hn9 t ht).heap (hg9.block t (own_lt ho9 t ht) (by simp; exact (hvr t ht).1))⟩)
          (HD1.out.now.do HOK.out) HD1.out.sure HD1.out.rnow.do HD1.out.rsure HLEN4.out (Nat.le_succ_of_le HD1.out.lsure)
          (fun q hq => by
            rcases List.mem_append.1 hq with hq | hq
            · exact HD1.out.ok q hq
            · simp at hq; subst hq; exact ⟨HOK.out, HKOK.out⟩) HD1.out.fuse0 HD1.out.fuse1 rfl
        rw [hv26] at R
        have HR := Lib.hid R
        clear R hE9 ho9 hq9 hn9 hBd9 hgO hg1 hg9 hvr hnew hnew1 hoffn hbvn h14 hw1
        subst hv26
        go_wp2_with fail
        go_ret
        rw [HX3.out]
        exact ⟨rfl, _, HR.out.1, HT1.out.trans HR.out.2⟩
end Go.Proofs.YtmffknllnjagoaaDoor
