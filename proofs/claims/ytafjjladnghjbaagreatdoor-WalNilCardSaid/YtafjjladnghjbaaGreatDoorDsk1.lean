/- disk: a deed is done to files. -/
import Derived.Test.YtafjjladnghjbaaGreatDoorDsk0
namespace Go.Proofs.YtafjjladnghjbaaGreatDoor
open Go Go.RowKit Go.Maps

def ddV (o : Dd) (bv : Value) : Value := .agg #[.int .i64 o.kind, .string o.name, .string o.to, .int .i64 o.n, bv]
theorem take_min {α : Type} (x : List α) (n : Int) (h : 0 ≤ n) : x.take (min n (x.length : Int)).toNat = x.take n.toNat := by
  by_cases hn : n ≤ x.length
  · rw [Int.min_eq_left hn]
  · rw [Int.min_eq_right (by omega)]
    simp
    rw [List.take_of_length_le (by omega)]
theorem Rd.cut {w : World} {v : Value} {cs : List Value} (h : Rd w v cs) (m : Nat) (hm : m ≤ cs.length) : ∃ a c, v = .slice a cs.length c ∧ Rd w (.slice a m c) (cs.take m) := by
  obtain ⟨a, c, hv, h1, h2, h3⟩ := h
  refine ⟨a, c, hv, a, c, by rw [List.length_take, Nat.min_eq_left hm], by rw [List.length_take]; omega, h2, ?_⟩
  rcases h3 with h3 | ⟨b, o, ha, hc⟩
  · left; rw [h3]; simp
  · right; refine ⟨b, o, ha, fun j u hj => hc j u ?_⟩
    rw [List.getElem?_take] at hj
    split at hj
    · exact hj
    · cases hj

set_option maxRecDepth 100000 in
set_option maxHeartbeats 600000 in
theorem do_c (b n M : Nat) (A : List Nat) (L : FL) (o : Dd) (bv : Value) (w : World) (hA : ∀ t ∈ A, t < w.heap.size) (h : Files w b n A L) (hn : n < 1000000000) (ok : DdOk M o) (hbv : Rd w bv (u8s o.b)) (hL : LenLe M L) (hM : M ≤ 70368744177664) :
    Calls Tryz.prog 58 #[.map (some b), ddV o bv] w fun e w' => e = .returned (.tuple #[]) ∧ Files w' b (n + 1) A (doF o L) ∧ Chg [b] w w' := by
  obtain ⟨kind, name, nto, on, ob⟩ := o
  obtain ⟨ok1, ok2, ok3, ok4, ok5, ok6⟩ := ok
  simp only at ok1 ok2 ok3 ok4 ok5 ok6 hbv
  obtain ⟨k, rfl⟩ := Int.eq_ofNat_of_zero_le ok3
  skip
  obtain ⟨X, hX⟩ : ∃ X, X = doF ⟨kind, name, nto, (k : Int), ob⟩ L := ⟨_, rfl⟩
  rw [← hX]
  unfold ddV
  simp only
  have hlb := h.lt
  obtain ⟨W, hW⟩ : ∃ W, W = w.alloc (.cells #[.int .i64 kind, .string name, .string nto, .int .i64 (k : Int), bv] 92) := ⟨_, rfl⟩
  have hE : Ext w W := by rw [hW]; exact Ext.alloc _ _
  have hB : Blk W w.heap.size #[.int .i64 kind, .string name, .string nto, .int .i64 (k : Int), bv] 92 := by rw [hW]; exact Blk.new _ _ _
  have hF : Files W b n A L := h.ext hE
  obtain ⟨v, hr1, -, hv, hv8, hvo⟩ := hF.look Tryz.underlying72 ok1
  obtain ⟨old, hold⟩ : ∃ old, old = (getG (nmOf name) L).getD [] := ⟨_, rfl⟩
  obtain ⟨ok', hok'⟩ : ∃ k, k = (getG (nmOf name) L).isSome := ⟨_, rfl⟩
  have hol : old.length ≤ M := by rw [hold]; exact hL.get _
  rw [← hold] at hv hv8 hvo
  rw [← hok'] at hr1
  have hv' := hv.open
  obtain ⟨va, vc, rfl, hv1, hv2, hv3⟩ := hv'
  obtain ⟨ba, bc, rfl, hb1, hb2, hb3⟩ := hbv.open
  have c0 : W.cell? ⟨w.heap.size, 0, none⟩ = some (.int .i64 kind) := hB.cell 0 rfl
  have c1 : W.cell? ⟨w.heap.size, 1, none⟩ = some (.string name) := hB.cell 1 rfl
  have c2 : W.cell? ⟨w.heap.size, 2, none⟩ = some (.string nto) := hB.cell 2 rfl
  have c3 : W.cell? ⟨w.heap.size, 3, none⟩ = some (.int .i64 (k : Int)) := hB.cell 3 rfl
  have c4 : W.cell? ⟨w.heap.size, 4, none⟩ = some (.slice ba ob.length bc) := hB.cell 4 rfl
  have HA := Lib.hid hA; clear hA; have HVO := Lib.hid hvo; clear hvo; have HE := Lib.hid hE; have HF := Lib.hid hF; have HX := Lib.hid hX; have HB := Lib.hid hB; have HV := Lib.hid hv; have HV3 := Lib.hid hv3; have HB3 := Lib.hid hb3; have HR := Lib.hid hr1; have HOLD := Lib.hid hold; have HOK := Lib.hid hok'; have HBV := Lib.hid (hbv.ext hE); have H4 := Lib.hid ok4
  clear hE hF hX hB hv hv3 hb3 hold hok' hbv ok4 h
  replace hv2 : vc ≤ 9223372036854775807 := by unfold maxLen at hv2; omega
  replace hb2 : bc ≤ 9223372036854775807 := by unfold maxLen at hb2; omega
  go_enter Tryz.func58, Tryz.ntmps58
  go_upto_region 1 with fail
  rw [← hW]
  clear hW
  have hXe : ∀ w1, Chg [b] W w1 → Chg [b] w w1 := fun w1 hc => (Chg.ext HE.out).trans hc
  have HXE := Lib.hid hXe; clear hXe
  by_cases hk : kind = 119
  · subst hk
    by_cases hob : ob = []
    · subst hob
      obtain ⟨w1, hs1, hf1, hc1, hz1⟩ := HF.out.put Tryz.underlying72 ok1 (by unfold maxLen; omega) HV.out hv8 HVO.out
      have hr1 := HR.out
      have HF1 := Lib.hid hf1; have HC1 := Lib.hid hc1; clear hf1 hc1 hz1
      go_wp2_with fail
      refine bodyPost_end (results_none Tryz.results58 _ _ _) rfl ⟨rfl, ?_, HXE.out _ HC1.out⟩
      rw [HX.out]; simp only [doF, if_true]; rw [← HOLD.out]; exact HF1.out
    · have HV8 := Lib.hid hv8; clear hv8
      have hbl : (0 : Int) < ob.length := by
        rcases Nat.eq_zero_or_pos ob.length with e | e
        · exact absurd (List.eq_nil_of_length_eq_zero e) hob
        · omega
      clear hob
      have hr1 := HR.out
      have h4 := H4.out rfl
      clear H4
      obtain ⟨N, hN⟩ : ∃ N : Nat, N = max old.length (k + ob.length) := ⟨_, rfl⟩
      have hN' : max (old.length : Int) ((k : Int) + ob.length) = (N : Int) := by rw [hN]; omega
      have hNM : N ≤ M := by rw [hN]; omega
      have HN := Lib.hid hN; clear hN
      have hb2N : 1 * N ≤ 281474976710656 := by omega
      have hb3N : N ≤ maxLen := by unfold maxLen; omega
      go_upto_region 7 with fail
      go_upto_region 8 with (with_reducible refine wpList_makeN rfl (.tmp 47) (.tmp 47) 23 rfl el8 0 .i64 .i64 (N : Int) (N : Int) N rfl rfl rfl rfl hb2N hb3N (Nat.zero_le _) ?_; intro w1 hown1 hg1)
      have hX1 : w1.heap[W.heap.size]? = some (.cells (u8s (List.replicate N 0)).toArray 5 (0, 0)) := by rw [← made8]; exact own_full hown1
      have hE1 : Ext W w1 := ⟨hg1.os, hg1.tape, hg1.output, hg1.size, fun k hk => hg1.block k hk (by simp)⟩
      clear hown1 hg1
      obtain ⟨ys, hys⟩ : ∃ ys, ys = u8s (List.replicate N 0) := ⟨_, rfl⟩
      obtain ⟨os, hos⟩ : ∃ os, os = u8s old := ⟨_, rfl⟩
      rw [← hys] at hX1
      have HYS := Lib.hid hys; have HOS := Lib.hid hos; clear hys hos
      have hyl : ys.length = N := by rw [HYS.out]; simp [u8s]
      have hosl : os.length = old.length := by rw [HOS.out]; simp [u8s]
      have holN : old.length ≤ N := by rw [HN.out]; omega
      have HX1 := Lib.hid hX1; have HE1 := Lib.hid hE1; clear hX1 hE1
      have hp1 : 0 < os.length → ∃ ad, va = some ad ∧ ∀ (j : Nat) (u : Value), os[j]? = some u → w1.cell? (ad.add j) = some u := by
        intro hpos
        rcases HV.out with ⟨_, _, hv, _, _, h3⟩
        injection hv with e1 e2 e3
        subst e1
        rcases h3 with h3 | ⟨vb, vo, ha, hc⟩
        · rw [HOS.out, h3] at hpos; simp at hpos
        · exact ⟨_, ha, fun j u hj => by rw [Addr.add_lit]; exact HE1.out.cell (hc j u (by rw [← HOS.out]; exact hj))⟩
      have HP1 := Lib.hid hp1; clear hp1
      have hmn : os.length = Nat.min old.length N := by rw [hosl]; exact (Nat.min_eq_left holN).symm
      have hf1 : 0 + os.length ≤ ys.length := by omega
      have h11 : ∀ u ∈ os, u.oneCell' = true := by rw [HOS.out]; exact u8s_one _
      have HX1o := HX1.out
      go_upto_region 9 with (refine wpList_copy_splice (o := ⟨some 51, _, _, _, _, _⟩) rfl (.tmp 49) (.tmp 50) 23 23 rfl 5 Tryz.underlying23 el8s (some ⟨W.heap.size, 0, none⟩) va N N old.length vc rfl rfl W.heap.size 0 ys 5 HX1o os hmn (fun h => ⟨rfl, HP1.out h⟩) hf1 h11 W.heap.size W HE1.out (Nat.le_refl _) ?_; intro w2 HX2 hE2)
      have hE2' : Ext W w2 := hE2
      have HE2 := Lib.hid hE2'; clear hE2 hE2'
      have k3 := HE2.out.cell c3; have k4 := HE2.out.cell c4
      have hkN : (k : Int) < (N : Int) := by have := HN.out; omega
      clear hN' hr1 h4 c0 c2 c3 c4 hv1 hv2 hol hmn hf1 h11 HX1o hb2N hb3N holN hL ok5
      have HYL := Lib.hid hyl; have HOSL := Lib.hid hosl; clear hyl hosl
      go_frame
      apply Mono.region1 6 Ext [.is _, .is _, .is _, .is _, .is _, .is _] (by kernel_rfl) Ext.refl (fun _ _ _ => Ext.trans) (by kernel_rfl) rfl rfl trivial
      focus
        iterate 6 (apply Mono.step_is; (· refine Mono.obl_mk fun w3 hE3 _ K hK => ?_; (replace k3 := hE3.cell (show w2.drew.cell? _ = _ from k3)); (replace k4 := hE3.cell (show w2.drew.cell? _ = _ from k4)); clear hE3; go_wp2_with fail; simp only [Act.put, List.setIfInBounds_toArray, List.set_cons_succ, List.set_cons_zero] at hK; exact hK _ _ (Ext.refl _) (Mono.is_rfl _ _)); simp only [Act.put, List.setIfInBounds_toArray, List.set_cons_succ, List.set_cons_zero])
        refine Mono.step_end fun w3 hE3 hkn => ?_
        simp only [List.drop_succ_cons, List.drop_zero]
        clear hkn k3 k4
        have HE3 := Lib.hid (HE2.out.trans ((Ext.drew _).trans hE3))
        have HX3 := (show w2.drew.heap[W.heap.size]? = _ from HX2.out)
        replace HX3 := hE3.heap HX3
        clear hE3
        obtain ⟨us, hus⟩ : ∃ us, us = u8s ob := ⟨_, rfl⟩
        obtain ⟨zs, hzs⟩ : ∃ zs, zs = splice ys 0 os := ⟨_, rfl⟩
        rw [← hzs] at HX3
        have hul : us.length = ob.length := by rw [hus]; simp [u8s]
        have hzl : zs.length = N := by rw [hzs, length_splice _ _ _ (by rw [HYL.out, HOSL.out]; have := HN.out; omega), HYL.out]
        have hfit : k + us.length ≤ zs.length := by rw [hul, hzl]; have := HN.out; omega
        have h11 : ∀ u ∈ us, u.oneCell' = true := by rw [hus]; exact u8s_one _
        have HUS := Lib.hid hus; have HZS := Lib.hid hzs; clear hus hzs
        have hmn : us.length = Nat.min ob.length (N - k) := by
          rw [hul]; have h := HN.out
          exact (Nat.min_eq_left (show ob.length ≤ N - k by omega)).symm
        have hp3 : ∃ ad, ba = some ad ∧ ∀ (j : Nat) (u : Value), us[j]? = some u → w3.cell? (ad.add j) = some u := by
          rcases HBV.out with ⟨_, _, hv, _, _, h3⟩
          injection hv with e1 e2 e3
          subst e1
          rcases h3 with h3 | ⟨vb, vo, ha, hc⟩
          · have : us.length = 0 := by rw [HUS.out, h3]; rfl
            omega
          · exact ⟨_, ha, fun j u hj => by rw [Addr.add_lit]; exact HE3.out.cell (hc j u (by rw [← HUS.out]; exact hj))⟩
        have HP3 := Lib.hid hp3; clear hp3
        have hov : splice zs k us = u8s (over old k ob) := by
          rw [HZS.out, HYS.out, HOS.out, HUS.out, ← u8s_over, HN.out]
        have hol4 : (over old k ob).length = N := by rw [length_over, HN.out]
        have hnext : ∀ w4, w4.heap[W.heap.size]? = some (.cells (splice zs k us).toArray 5 (0, 0)) → Ext W w4 →
            w4.cell? ⟨w.heap.size, 1, none⟩ = some (.string name) ∧ ∃ w5, (Instr.mapUpdate 72 (.map (some b)) (.string name) (.slice (some ⟨W.heap.size, 0, none⟩) N N)).run Tryz.prog w4 = .ok () w5 ∧ Hid (Files w5 b (n + 1) A (putG (nmOf name) (over old k ob) L)) ∧ Hid (Chg [b] w w5) := by
          intro w4 HX4 hE4
          rw [hov] at HX4
          have hrd4 : Rd w4 (.slice (some ⟨W.heap.size, 0, none⟩) N N) (u8s (over old k ob)) := by
            refine ⟨_, _, by rw [u8s_len, hol4], by rw [u8s_len, hol4]; exact Nat.le_refl _, by unfold maxLen; omega, .inr ⟨W.heap.size, 0, rfl, fun j u hj => ?_⟩⟩
            rw [cell_of_row w4 W.heap.size (0 + j) _ _ (0, 0) HX4]
            simpa using hj
          obtain ⟨w5, hs5, hf5, hc5, -⟩ := (HF.out.ext hE4).put Tryz.underlying72 ok1 (by unfold maxLen; omega) hrd4 (over_b8 HV8.out ok6) (fun a n c hv _ hm => by cases hv; have := HA.out _ hm; have := HE.out.size; simp at *; omega)
          exact ⟨hE4.cell c1, w5, hs5, hf5, HXE.out _ ((Chg.ext hE4).trans hc5)⟩
        have HNX := Lib.hid hnext; clear hnext hov hol4
        go_wp2_with (refine wpList_copy_splice (o := ⟨some 58, _, _, _, _, _⟩) rfl (.tmp 55) (.tmp 57) 23 23 rfl 5 Tryz.underlying23 el8s _ _ _ _ _ _ rfl rfl W.heap.size k zs 5 HX3 us hmn (fun h => ⟨rfl, HP3.out⟩) hfit h11 W.heap.size W HE3.out (Nat.le_refl _) ?_; intro w4 HX4 hE4; obtain ⟨k1, w5, hs5, HF5, HC5⟩ := HNX.out w4 HX4.out hE4)
        refine bodyPost_end (results_none Tryz.results58 _ _ _) rfl ⟨rfl, ?_, HC5.out⟩
        rw [HX.out]
        simp only [doF, if_true, Int.toNat_natCast]
        rw [if_neg (by intro e; subst e; simp at hbl), ← HOLD.out]
        exact HF5.out
  · have hk9 : (kind == 119) = false := by simpa using hk
    have HX2 : Hid (X = match getG (nmOf name) L with | none => L | some x => if kind = 99 then putG (nmOf name) (x.take k) L else if kind = 114 then delG (nmOf name) L else putG (nmOf nto) x (delG (nmOf name) L)) := Lib.hid (by
      rw [HX.out]; simp only [doF, if_neg hk, Int.toNat_natCast]; rfl)
    have HV8 := Lib.hid hv8
    clear hk HX hv8 H4 HV3 HB3
    have hr1 := HR.out
    cases hG : getG (nmOf name) L with
    | none =>
      have hoF : ok' = false := by rw [HOK.out, hG]; rfl
      rw [hG] at HX2
      have HR2 : Hid (X = L) := HX2
      clear HX2 HOK HOLD hG
      subst hoF
      go_wp2_with fail
      refine bodyPost_end (results_none Tryz.results58 _ _ _) rfl ⟨rfl, ?_, HXE.out _ (Chg.refl _ _)⟩
      rw [HR2.out]; exact HF.out.mono (Nat.le_succ n)
    | some x =>
      have hoT : ok' = true := by rw [HOK.out, hG]; rfl
      have hox : old = x := by rw [HOLD.out, hG]; rfl
      rw [hG] at HX2
      have HR2 : Hid (X = if kind = 99 then putG (nmOf name) (x.take k) L else if kind = 114 then delG (nmOf name) L else putG (nmOf nto) x (delG (nmOf name) L)) := HX2
      clear HX2 HOK HOLD hG
      subst hoT hox
      by_cases h99 : kind = 99
      · subst h99
        have HR3 : Hid (X = putG (nmOf name) (old.take k) L) := Lib.hid (by rw [HR2.out, if_pos rfl])
        clear HR2 hk9
        obtain ⟨m, hm⟩ : ∃ m : Nat, m = min k old.length := ⟨_, rfl⟩
        have hmin : min (k : Int) (old.length : Int) = (m : Int) := by rw [hm]; omega
        have hmv : m ≤ vc := by omega
        have hmo : m ≤ old.length := by omega
        have htk : old.take m = old.take k := by rw [hm]; by_cases h : k ≤ old.length; rw [Nat.min_eq_left h]; rw [Nat.min_eq_right (by omega), List.take_of_length_le (Nat.le_refl _), List.take_of_length_le (by omega)]
        have hcut : ∀ w4, Ext W w4 → ∃ w5, (Instr.mapUpdate 72 (.map (some b)) (.string name) (.slice va m vc)).run Tryz.prog w4 = .ok () w5 ∧ Hid (Files w5 b (n + 1) A (putG (nmOf name) (old.take k) L)) ∧ Hid (Chg [b] w w5) := by
          intro w4 hE4
          obtain ⟨a', c', hv, hc⟩ := HV.out.cut m (by rw [u8s_len]; exact hmo)
          injection hv with e1 e2 e3
          subst e1 e3
          have hc' : Rd w4 (.slice va m vc) (u8s (old.take k)) := by
            rw [← htk]
            have : u8s (old.take m) = (u8s old).take m := by simp [u8s]
            rw [this]; exact hc.ext hE4
          have hz0 : u8s old = [] → u8s (old.take k) = [] := fun h0 => by rw [show u8s (old.take k) = (u8s old).take k by simp [u8s], h0, List.take_nil]
          obtain ⟨w5, hs5, hf5, hc5, -⟩ := (HF.out.ext hE4).put Tryz.underlying72 ok1 (by unfold maxLen; omega) hc' (fun z hz => HV8.out z (List.mem_of_mem_take hz)) (fun a n c hv hne hm => by cases hv; exact HVO.out _ _ _ rfl (fun h0 => hne (hz0 h0)) hm)
          exact ⟨w5, hs5, hf5, HXE.out _ ((Chg.ext hE4).trans hc5)⟩
        have HCUT := Lib.hid hcut; clear hcut htk hm hmo
        go_upto_region 13 with fail
        clear c0 c2 c4 hr1 hv1 hb1 hol hn hM hL
        have k1 := c1; have k3 := c3
        apply Mono.region1 10 Ext [.is _, .is _, .is _, .is _, .is _, .is _, .is _, .is _, .is _, .is _] (by kernel_rfl) Ext.refl (fun _ _ _ => Ext.trans) (by kernel_rfl) rfl rfl trivial
        focus
          iterate 10 (apply Mono.step_is; (· refine Mono.obl_mk fun w3 hE3 _ K hK => ?_; (replace k1 := hE3.cell (show W.drew.cell? _ = _ from k1)); (replace k3 := hE3.cell (show W.drew.cell? _ = _ from k3)); clear hE3; go_wp2_with fail; simp only [Act.put, List.setIfInBounds_toArray, List.set_cons_succ, List.set_cons_zero] at hK; exact hK _ _ (Ext.refl _) (Mono.is_rfl _ _)); simp only [Act.put, List.setIfInBounds_toArray, List.set_cons_succ, List.set_cons_zero])
          refine Mono.step_end fun w3 hE3 hkn => ?_
          simp only [List.drop_succ_cons, List.drop_zero]
          clear hkn k1 k3 c1 c3
          have hE4 : Ext W w3 := (Ext.drew _).trans hE3
          clear hE3
          obtain ⟨w5, hs5, HF5, HC5⟩ := HCUT.out w3 hE4
          clear hE4
          go_wp2_with fail
          refine bodyPost_end (results_none Tryz.results58 _ _ _) rfl ⟨rfl, ?_, HC5.out⟩
          rw [HR3.out]; exact HF5.out
      · have hk8 : (kind == 99) = false := by simpa using h99
        have HR3 : Hid (X = if kind = 114 then delG (nmOf name) L else putG (nmOf nto) old (delG (nmOf name) L)) := Lib.hid (by rw [HR2.out, if_neg h99])
        clear HR2 h99
        obtain ⟨w1, hs1, hf1, hc1, -⟩ := HF.out.drop Tryz.underlying72 ok1 0
        by_cases h114 : kind = 114
        · subst h114
          have HR4 : Hid (X = delG (nmOf name) L) := Lib.hid (by rw [HR3.out, if_pos rfl])
          have HF1 := Lib.hid hf1; have HC1 := Lib.hid hc1
          clear HR3 hk9 hk8 hf1 hc1
          go_wp2_with fail
          refine bodyPost_end (results_none Tryz.results58 _ _ _) rfl ⟨rfl, ?_, HXE.out _ HC1.out⟩
          rw [HR4.out]; exact HF1.out.mono (Nat.le_succ n)
        · have hk7 : (kind == 114) = false := by simpa using h114
          have HR4 : Hid (X = putG (nmOf nto) old (delG (nmOf name) L)) := Lib.hid (by rw [HR3.out, if_neg h114])
          have hb1 : ∀ t ∈ [b], NoB W t ∨ W.heap.size ≤ t := fun t ht => by simp at ht; subst ht; exact .inl HF.out.noB
          have hrd1 := HV.out.chgB hc1 hb1
          have k2 : w1.cell? ⟨w.heap.size, 2, none⟩ = some (.string nto) := cell_chg hc1 c2 (by simp; omega)
          obtain ⟨w2, hs2, hf2, hc2, -⟩ := hf1.put Tryz.underlying72 ok2 (by unfold maxLen; omega) hrd1 HV8.out HVO.out
          have HF2 := Lib.hid hf2; have HC2 := Lib.hid (HXE.out _ (hc1.trans hc2))
          clear HR3 h114 hf1 hc1 hf2 hc2 hb1 hrd1
          go_wp2_with fail
          refine bodyPost_end (results_none Tryz.results58 _ _ _) rfl ⟨rfl, ?_, HC2.out⟩
          rw [HR4.out]; exact HF2.out
end Go.Proofs.YtafjjladnghjbaaGreatDoor
