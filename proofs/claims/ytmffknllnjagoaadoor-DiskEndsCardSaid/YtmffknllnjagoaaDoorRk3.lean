/- tabellionref08: Do. -/
import Derived.Test.YtmffknllnjagoaaDoorRkL
set_option linter.unusedSimpArgs false
set_option linter.unusedVariables false
namespace Go.Proofs.YtmffknllnjagoaaDoor
open Go Go.RowKit Go.Maps
open Go.Proofs (encStr)

/-- The reference's kinds. -/
def kR (k : Int) : Int := if k = 119 then 1 else if k = 99 then 2 else if k = 114 then 3 else 4
def rC (o : Dd) (bv : Value) : List Value := [.int .i64 (kR o.kind), .string o.name, .string o.to, .int .i64 o.n, bv]
theorem RFv.of_own {w w' : World} {A : List Nat} {v bv : Value} {E : EL} {name : ByteArray} {xs : List Int} (ho : w'.ownsRow w.heap.size 75 2 v (putG (nmOf name) (bv, xs) E).length (FCs (putG (nmOf name) (bv, xs) E)))
    (hok : EOk w' A E) (hA : ∀ t ∈ A, t < w.heap.size) (h1 : Rd w' bv (u8s xs)) (h2 : B8 xs) (h3 : OffL bv (u8s xs) A) : RFv w' A v (putG (nmOf name) xs (mapG (·.2) E)) :=
  ⟨putG (nmOf name) (bv, xs) E, own_rowE ho hA, fun p hp => by
    rcases mem_putG.1 hp with rfl | ⟨hp, _⟩
    · exact ⟨h1, h2, h3⟩
    · exact hok p hp, (mapG_putG (fun p : Value × List Int => p.2) (nmOf name) (bv, xs) E).symm⟩
theorem RFv.of_del {w w' : World} {A : List Nat} {v : Value} {E : EL} {name : ByteArray} (ho : w'.ownsRow w.heap.size 75 2 v (delG (nmOf name) E).length (FCs (delG (nmOf name) E)))
    (hok : EOk w' A E) (hA : ∀ t ∈ A, t < w.heap.size) : RFv w' A v (delG (nmOf name) (mapG (·.2) E)) :=
  ⟨delG (nmOf name) E, own_rowE ho hA, hok.del _, (mapG_delG (fun p : Value × List Int => p.2) (nmOf name) E).symm⟩
theorem EOk.ext {w w' : World} {A : List Nat} {E : EL} (h : EOk w A E) (hE : Ext w w') : EOk w' A E := h.chg (S := []) (Chg.ext hE) (by simp)
theorem RowE.ext {w w' : World} {A : List Nat} {v : Value} {E : EL} (h : RowE w A v E) (hE : Ext w w') : RowE w' A v E := h.chg (S := []) (Chg.ext hE) (by simp)
theorem own_ownRd {w : World} {B : Nat} {v : Value} {xs : List Int} (h : w.ownsRow B 5 1 v xs.length (u8s xs)) {A : List Nat} (hA : ∀ t ∈ A, t < B) : Rd w v (u8s xs) ∧ OffL v (u8s xs) A :=
  ⟨Rd.of_own h, (From.own h).off hA⟩
theorem own_from {w : World} {B n : Nat} {e : TypeId} {sz : Nat} {v : Value} {xs : List Value} (h : w.ownsRow B e sz v n xs) : ∀ q, v.ownBlock = some q → B ≤ q := by
  intro q hq
  rcases h.2 with ⟨h1, _⟩ | ⟨g', cap, cur, h1, h2, _⟩
  · rw [h1] at hq; cases hq
  · rw [h1] at hq; cases hq; exact h2
/-- An empty slice with no room, of a block from B on. -/
def EmpR (B : Nat) (v : Value) (w : World) : Prop := (∃ p, v = .slice (some ⟨p, 0, none⟩) 0 0) ∧ w.ownsRow B 5 1 v 0 []
theorem EmpR.ext {B : Nat} {v : Value} {w w' : World} (h : EmpR B v w) (hE : Ext w w') : EmpR B v w' := ⟨h.1, own_ext h.2 hE⟩
theorem EmpR.new {B : Nat} (w : World) (hB : B ≤ w.heap.size) : EmpR B (.slice (some ⟨w.heap.size, 0, none⟩) 0 0) (w.alloc (.cells #[] 5)) :=
  ⟨⟨_, rfl⟩, rfl, .inr ⟨w.heap.size, 0, #[], rfl, hB, Blk.new w #[] 5, Nat.le_refl _, Nat.zero_le _, rfl, rfl⟩⟩
/-- A row of bytes, of blocks from B on. -/
def Own8 (B : Nat) (xs : List Int) (v : Value) (w : World) : Prop := w.ownsRow B 5 1 v xs.length (u8s xs)
theorem Own8.ext {B : Nat} {xs : List Int} {v : Value} {w w' : World} (h : Own8 B xs v w) (hE : Ext w w') : Own8 B xs v w' := own_ext h hE
set_option maxRecDepth 100000 in
set_option maxHeartbeats 4000000 in
theorem rdo_c (A : List Nat) (v : Value) (L : FL) (o : Dd) (M : Nat) (bv : Value) (w : World) (h : RFv w A v L) (hl : L.length < 900000000) (hris : RisG L) (hA : ∀ t ∈ A, t < w.heap.size) (ok : DdOk M o) (hbv : Rd w bv (u8s o.b)) (hL : LenLe M L) (hM : M ≤ 70368744177664)
    (hk : o.kind = 119 ∨ o.kind = 99 ∨ o.kind = 114 ∨ o.kind = 110) :
    Calls Tryd.prog 50 #[v, .agg (rC o bv).toArray] w fun e w' => ∃ v', e = .returned v' ∧ RFv w' A v' (doF o L) ∧ Ext w w' := by
  obtain ⟨kind, name, nto, on, ob⟩ := o
  obtain ⟨ok1, ok2, ok3, ok4, ok5, ok6⟩ := ok
  simp only at ok1 ok2 ok3 ok4 ok5 ok6 hbv hk
  obtain ⟨k, rfl⟩ := Int.eq_ofNat_of_zero_le ok3
  obtain ⟨X, hX⟩ : ∃ X, X = doF ⟨kind, name, nto, (k : Int), ob⟩ L := ⟨_, rfl⟩
  rw [← hX]
  unfold rC
  simp only
  obtain ⟨kk, hkk⟩ : ∃ kk, kk = kR kind := ⟨_, rfl⟩
  rw [← hkk]
  obtain ⟨W, hW⟩ : ∃ W, W = w.alloc (.cells #[.int .i64 kk, .string name, .string nto, .int .i64 (k : Int), bv] 83) := ⟨_, rfl⟩
  have hE : Ext w W := by rw [hW]; exact Ext.alloc _ _
  have hB : Blk W w.heap.size #[.int .i64 kk, .string name, .string nto, .int .i64 (k : Int), bv] 83 := by rw [hW]; exact Blk.new _ _ _
  have hF : RFv W A v L := h.ext hE
  obtain ⟨ba, bc, rfl, hb1, hb2, hb3⟩ := hbv.open
  have c0 : W.cell? ⟨w.heap.size, 0, none⟩ = some (.int .i64 kk) := hB.cell 0 rfl
  have c1 : W.cell? ⟨w.heap.size, 1, none⟩ = some (.string name) := hB.cell 1 rfl
  have c2 : W.cell? ⟨w.heap.size, 2, none⟩ = some (.string nto) := hB.cell 2 rfl
  have c3 : W.cell? ⟨w.heap.size, 3, none⟩ = some (.int .i64 (k : Int)) := hB.cell 3 rfl
  have c4 : W.cell? ⟨w.heap.size, 4, none⟩ = some (.slice ba ob.length bc) := hB.cell 4 rfl
  replace hb2 : bc ≤ 9223372036854775807 := by unfold maxLen at hb2; omega
  have hAW : ∀ t ∈ A, t < W.heap.size := fun t ht => Nat.lt_of_lt_of_le (hA t ht) hE.size
  have HA := Lib.hid hA; have HAW := Lib.hid hAW; have HE := Lib.hid hE; have HF := Lib.hid hF; have HX := Lib.hid hX; have HBV := Lib.hid (hbv.ext hE); have H4 := Lib.hid ok4; have HRIS := Lib.hid hris; have HL := Lib.hid hL; have HK := Lib.hid hk; have HKK := Lib.hid hkk
  clear hA hAW hE hF hX hb3 hbv ok4 h hB hris hL hk hkk
  go_enter Tryd.func50, Tryd.ntmps50
  go_upto_region 1 with fail
  rw [← hW]
  clear hW
  go_wp2_with fail
  refine (rfind_c A v L name W HF.out (by omega)).mono ?_
  rintro e w1 ⟨rfl, rfl⟩
  obtain ⟨E, hrow, hok, hLE⟩ := HF.out
  have hEl : E.length < 900000000 := by have : L.length = E.length := by rw [hLE]; simp [mapG]
                                        omega
  obtain ⟨a, c, rfl, hc1, hc2, hc3⟩ := hrow
  have HROW : Hid (RowE w1 A (.slice a E.length c) E) := Lib.hid ⟨a, c, rfl, hc1, hc2, hc3⟩
  obtain ⟨N, hN⟩ : ∃ N, N = E.length := ⟨_, rfl⟩
  rw [← hN] at hc1 hEl HROW ⊢
  have HN := Lib.hid hN; have HC := Lib.hid hc3; have HOK := Lib.hid hok; have HLE := Lib.hid hLE
  clear hN hc3 hok hLE HF
  replace hc2 : c ≤ 9223372036854775807 := by unfold maxLen at hc2; omega
  by_cases h119 : kind = 119
  · have hk1 : kk = 1 := by rw [HKK.out, h119]; unfold kR; rw [if_pos rfl]
    subst hk1; subst h119
    obtain ⟨old, hold⟩ : ∃ old, old = (getG (nmOf name) L).getD [] := ⟨_, rfl⟩
    obtain ⟨I, hI⟩ : ∃ I, I = posI (nmOf name) L := ⟨_, rfl⟩
    rw [← hI]
    have holM : old.length ≤ M := by rw [hold]; exact HL.out.get _
    obtain ⟨Z, hZ⟩ : ∃ Z, Z = (if ob = [] then old else over old k ob) := ⟨_, rfl⟩
    have hXX : X = putG (nmOf name) Z L := by
      rw [HX.out, hZ]; simp only [doF, if_true, Int.toNat_natCast, ← hold]; split <;> rfl
    have hfound : (I = -1 ∧ old = []) ∨ ∃ (i : Nat) (p : Nm × (Value × List Int)), I = (i : Int) ∧ E[i]? = some p ∧ p.2.2 = old := by
      rcases posI_cases (nmOf name) L with ⟨hp, hg⟩ | ⟨i, p0, hp, hi, hpn, hg⟩
      · exact .inl ⟨by rw [hI, hp], by rw [hold, hg]; rfl⟩
      · rw [HLE.out] at hi
        simp only [mapG, List.getElem?_map, Option.map_eq_some_iff] at hi
        obtain ⟨q, h1, h2⟩ := hi
        exact .inr ⟨i, q, by rw [hI, hp], h1, by rw [hold, hg, ← h2]; rfl⟩
    have hob8 : B8 old := by
      rcases hfound with ⟨_, h0⟩ | ⟨i, p, _, hpE, h0⟩
      · rw [h0]; intro x hx; simp at hx
      · rw [← h0]; exact (HOK.out p (List.mem_of_getElem? hpE)).2.1
    have HXX := Lib.hid hXX; have HZ := Lib.hid hZ; have HFO := Lib.hid hfound; have HB8 := Lib.hid hob8
    have h4 : (k : Int) + ob.length ≤ M := H4.out rfl
    clear hold hI hZ hXX hfound hob8 HX HKK HK H4 HRIS HL
    go_upto_if 16 with fail
    go_cut [6] (fun v wx => Own8 w1.heap.size old v wx ∧ Ext w1 wx)
    case first =>
      rcases HFO.out with ⟨hp, ho⟩ | ⟨i, p, hp, hpE, hpo⟩
      · subst hp; subst ho
        go_wp2_with fail
        go_meet
        exact ⟨World.ownsRow_nil _ _ _ _, Ext.refl _⟩
      · subst hp
        obtain ⟨b, rfl, hcell2⟩ : ∃ b, a = some ⟨b, 0, none⟩ ∧ w1.cell? ⟨b, i * 2 + 1, none⟩ = some p.2.1 := by
          rcases HC.out with h0 | ⟨b, ha, _, hcc⟩
          · rw [h0] at hpE; simp at hpE
          · exact ⟨b, ha, (hcc i p hpE).2⟩
        obtain ⟨hrd, _, _⟩ := HOK.out p (List.mem_of_getElem? hpE)
        rw [hpo] at hrd
        have hiN : i < N := by rw [HN.out]; exact (List.getElem?_eq_some_iff.1 hpE).1
        obtain ⟨pv, hpv⟩ : ∃ pv, pv = p.2.1 := ⟨_, rfl⟩
        rw [← hpv] at hcell2 hrd
        obtain ⟨pa, pc, rfl, hp1, hp2, hp3⟩ := hrd.open
        have HRD := Lib.hid hrd
        clear hrd hpE hpo hpv hp3
        go_wp2_with (at_builtin; refine wpList_append_rd rfl (.tmp 17) (.tmp 22) _ rfl el8 w1.heap.size (.slice none 0 0) 0 [] (u8s old) rfl (World.ownsRow_nil _ _ _ _) _ rfl HRD.out (u8s_one _) (by rw [u8s_len]; omega) (by rw [u8s_len]; unfold maxLen; omega) (Nat.le_refl _) ?_; intro v5 w5 g1 g2)
        go_meet
        rw [List.nil_append, Nat.zero_add, u8s_len] at g1
        exact ⟨g1, Ext.grown g2 (by simp [Value.ownBlock])⟩
    case rest =>
      obtain ⟨ho6, hE6⟩ := hcut
      obtain ⟨Y, hY⟩ : ∃ Y, Y = (if ob = [] then old else old ++ List.replicate (k - old.length) 0) := ⟨_, rfl⟩
      have HY := Lib.hid hY; have HO6 := Lib.hid ho6; have HE6 := Lib.hid hE6
      have hobl : ob = [] ∨ 0 < ob.length := by cases ob with
        | nil => exact .inl rfl
        | cons x r => right; simp
      clear hY ho6 hE6 c0 c2
      go_upto_block 0 with fail
      go_cut [6] (fun v wx => Own8 w1.heap.size Y v wx ∧ Ext w1 wx)
      case first =>
        go_wp2_with fail
        go_loopg [6] (k - old.length) (fun g v wr => ∃ (q : Nat) (ys : List Int), ys = old ++ List.replicate (q - old.length) 0 ∧ old.length ≤ q ∧ ys.length = q ∧ wr.ownsRow w1.heap.size 5 1 v q (u8s ys) ∧ Ext w1 wr ∧ (q = old.length ∨ (ob ≠ [] ∧ q ≤ k)) ∧ g = k - q)
        case atStart => exact ⟨old.length, old, by simp, Nat.le_refl _, rfl, HO6.out, HE6.out, .inl rfl, rfl⟩
        case round =>
          obtain ⟨q, ys, hys, hoq, hyl, ho, hE, hq, hg⟩ := hrel
          obtain ⟨va, vc, rfl⟩ := own_shapeL ho
          have e3 := hE.cell c3; have e4 := hE.cell c4
          have hqM : q ≤ M := by rcases hq with h | h <;> omega
          have HYS := Lib.hid hys; have HO := Lib.hid ho; have HEr := Lib.hid hE; have HQ := Lib.hid hq
          clear hys ho hE hq
          rcases hobl with rfl | hpos
          · have hR : Hid (Y = ys ∧ q = Y.length) := Lib.hid (by
              rcases HQ.out with h | h
              · have e : ys = old := by rw [HYS.out, h, Nat.sub_self]; simp
                rw [HY.out, if_pos rfl, e]; exact ⟨rfl, h⟩
              · exact absurd rfl h.1)
            by_cases hlt : q < k
            · have hlt2 : (q : Int) < (k : Int) := by omega
              go_wp2_with fail
              go_meet
              unfold Own8; rw [← hR.out.2, hR.out.1]
              exact ⟨HO.out, HEr.out⟩
            · have hlt2 : (k : Int) ≤ (q : Int) := by omega
              go_wp2_with fail
              go_meet
              unfold Own8; rw [← hR.out.2, hR.out.1]
              exact ⟨HO.out, HEr.out⟩
          · have hpos2 : (0 : Int) < (ob.length : Int) := by omega
            have hne : Hid (ob ≠ []) := Lib.hid (List.length_pos_iff.1 hpos)
            by_cases hlt : q < k
            · have hlt2 : (q : Int) < (k : Int) := by omega
              have hqb : (q + 1) * 1 ≤ 140737488355328 := by omega
              have hqm : q + 1 ≤ maxLen := by unfold maxLen; omega
              have hsz := HEr.out.size
              go_wp2_with (at_builtin; refine wpList_push rfl (.tmp 35) (.tmp 36) _ rfl el8 w1.heap.size (.slice va q vc) q (u8s ys) (.int .u8 0) rfl HO.out _ rfl rfl hqb hqm hsz ?_; intro v5 w5 g1 g2)
              go_roundg (gk - 1)
              case measure => omega
              case rel => exact ⟨q + 1, ys ++ [0], by rw [HYS.out, show q + 1 - old.length = (q - old.length) + 1 by omega, List.replicate_succ', List.append_assoc], by omega, by simp [hyl], by rw [show u8s (ys ++ [0]) = u8s ys ++ [.int .u8 0] by simp [u8s]]; exact g1, Below.grown HEr.out g2 hsz (own_from HO.out), .inr ⟨hne.out, by omega⟩, by omega⟩
            · have hlt2 : (k : Int) ≤ (q : Int) := by omega
              have hR : Hid (Y = ys ∧ q = Y.length) := Lib.hid (by
                have e : k - old.length = q - old.length := by
                  rcases HQ.out with h | h <;> omega
                rw [HY.out, if_neg hne.out, e, ← HYS.out]; exact ⟨rfl, hyl.symm⟩)
              go_wp2_with fail
              go_meet
              unfold Own8; rw [← hR.out.2, hR.out.1]
              exact ⟨HO.out, HEr.out⟩
      case rest =>
        obtain ⟨ho6, hE6⟩ := hcut
        have ⟨w7, hw7⟩ : ∃ w7, w7 = wc := ⟨_, rfl⟩
        subst hw7
        have e1 := hE6.cell c1; have e3 := hE6.cell c3; have e4 := hE6.cell c4
        have HO6 := Lib.hid ho6; have HE6 := Lib.hid hE6
        obtain ⟨q, hq⟩ : ∃ q, q = Y.length := ⟨_, rfl⟩
        obtain ⟨va, vc, rfl⟩ := own_shapeL ho6
        rw [← hq]
        rw [← hq] at HO6
        obtain ⟨_, _, hq2, hqc, hqm⟩ : ∃ va' vc', Value.slice va q vc = .slice va' q vc' ∧ q ≤ vc ∧ vc ≤ maxLen := by
          obtain ⟨a', c', h1, h2, h3, _⟩ := (Rd.of_own ho6).open
          rw [← hq] at h1 h2
          cases h1
          exact ⟨_, _, rfl, h2, h3⟩
        clear hq2
        replace hqm : vc ≤ 9223372036854775807 := by unfold maxLen at hqm; omega
        have hqM : q ≤ M := by
          rw [hq, HY.out]; split
          · exact holM
          · simp; omega
        clear ho6 hE6 c3 c4
        go_upto_if 41 with fail
        go_cut [6] (fun v wx => Own8 w1.heap.size Z v wx ∧ Ext w1 wx)
        case first =>
          rcases hobl with rfl | hpos
          · have hR : Hid (Z = Y) := Lib.hid (by rw [HZ.out, HY.out, if_pos rfl, if_pos rfl])
            have hZl : Hid (q = Z.length) := Lib.hid (by rw [hR.out, hq])
            clear hq
            go_wp2_with fail
            go_meet
            rw [hR.out]; exact ⟨HO6.out, HE6.out⟩
          · have hne : ob ≠ [] := List.length_pos_iff.1 hpos
            have hR : Hid (Z = Y.take k ++ ob ++ Y.drop (k + ob.length)) := Lib.hid (by rw [HZ.out, if_neg hne, HY.out, if_neg hne, over_eq])
            have hkq : k ≤ q := by rw [hq, HY.out, if_neg hne]; simp; omega
            have HQ := Lib.hid hq
            clear hq hne
            go_upto_region 10 with fail
            have hE2 : Ext w7 (w7.alloc (.cells #[] 5)) := Ext.alloc _ _
            have hem : EmpR w7.heap.size (.slice (some ⟨w7.heap.size, 0, none⟩) 0 0) (w7.alloc (.cells #[] 5)) := EmpR.new w7 (Nat.le_refl _)
            revert hE2 hem
            generalize w7.alloc (.cells #[] 5) = W2
            intro hE2 hem
            have f1 := hE2.cell e1; have f3 := hE2.cell e3; have f4 := hE2.cell e4
            have HE2 := Lib.hid hE2; have HEM := Lib.hid hem
            have E3 := Lib.hid e3; have E4 := Lib.hid e4
            clear hE2 hem e1 e3 e4
            go_upto_if 51 with fail
            go_cut [7] (fun v wx => Own8 w7.heap.size (Y.drop (k + ob.length)) v wx ∧ Ext w7 wx)
            case first =>
              by_cases hlt : k + ob.length < q
              · have hlt2 : (k : Int) + (ob.length : Int) < (q : Int) := by omega
                have hrd : Rd W2 (.slice va q vc) (u8s Y) := by
                  have := (Rd.of_own HO6.out).ext HE2.out
                  exact this
                have hrd' : Rd W2 (.slice va Y.length vc) (u8s Y) := by rw [← HQ.out]; exact hrd
                have hrd2 := hrd'.drop (N := k + ob.length) (by rw [← HQ.out]; omega)
                rw [← HQ.out] at hrd2
                have HRD2 := Lib.hid hrd2
                have hnc : ¬ vc = k + ob.length := by omega
                rw [if_neg hnc] at hrd2
                have hdl : (Y.drop (k + ob.length)).length ≤ M := by rw [List.length_drop, ← HQ.out]; omega
                have HRD2 := Lib.hid hrd2
                clear hrd hrd' hrd2
                go_wp2_with (at_builtin; refine wpList_append_rd rfl (.tmp 52) (.tmp 60) _ rfl el8 w7.heap.size (.slice (some ⟨w7.heap.size, 0, none⟩) 0 0) 0 [] (u8s (Y.drop (k + ob.length))) rfl HEM.out.2 _ rfl HRD2.out (u8s_one _) (by rw [u8s_len]; omega) (by rw [u8s_len]; unfold maxLen; omega) HE2.out.size ?_; intro v5 w5 g1 g2)
                go_meet
                rw [List.nil_append, Nat.zero_add, u8s_len] at g1
                exact ⟨g1, Below.grown HE2.out g2 HE2.out.size (own_from HEM.out.2)⟩
              · have hge : (q : Int) ≤ (k : Int) + (ob.length : Int) := by omega
                have hnil : Hid (Y.drop (k + ob.length) = []) := Lib.hid (List.drop_eq_nil_of_le (by rw [← HQ.out]; omega))
                have hd : decide ((k : Int) + (ob.length : Int) < (q : Int)) = false := decide_eq_false (by omega)
                clear hlt
                go_wp2_with fail
                go_meet
                rw [hnil.out]
                exact ⟨HEM.out.2, HE2.out⟩
            case rest =>
              obtain ⟨ho7, hE7⟩ := hcut
              have ⟨w8, hw8⟩ : ∃ w8, w8 = wc := ⟨_, rfl⟩
              subst hw8
              have g3 := hE7.cell E3.out; have g4 := hE7.cell E4.out
              have hrdT : Rd w8 u7 (u8s (Y.drop (k + ob.length))) := Rd.of_own ho7
              have hrdY : Rd w8 (.slice va q vc) (u8s Y) := (Rd.of_own HO6.out).ext hE7
              have hrdO : Rd w8 (.slice ba ob.length bc) (u8s ob) := HBV.out.ext (HE6.out.trans hE7)
              have htk : (Y.take k).length = k := by rw [List.length_take, ← HQ.out]; omega
              have hdl : (Y.drop (k + ob.length)).length ≤ M := by rw [List.length_drop, ← HQ.out]; omega
              have hE8 : Ext w1 w8 := HE6.out.trans hE7
              have HRT := Lib.hid hrdT; have HRY := Lib.hid hrdY; have HRO := Lib.hid hrdO; have HTK := Lib.hid htk; have HE8 := Lib.hid hE8
              clear ho7 hE7 hrdT hrdY hrdO htk hE8 f1 f3 f4 HE2 HEM
              go_upto_region 12 with fail
              apply Mono.region2 10 8 Ext (Kp w8.heap.size 5 k) [.rel (EmpR w8.heap.size), .is _, .is _, .is _, .is _, .rel (Own8 w8.heap.size (Y.take k)), .is _, .is _, .rel (Own8 w8.heap.size (Y.take k ++ ob)), .is _] (by kernel_rfl) (Kp.pre _ _ _) (Ext.refl _) (by kernel_rfl) rfl rfl ⟨fun v wa wb hv hE => ⟨hv.1, hE.keep _ _ _ (Nat.zero_le _) hv.2⟩, fun v wa wb hv hE => hE.keep _ _ _ (by rw [HTK.out]; exact Nat.le_refl _) hv, fun v wa wb hv hE => own_ext hv hE, trivial⟩
              focus
                refine Mono.step_rel (Mono.obl_quiet (by decide) fun w9 hE9 _ K hK => ?_) fun v62 => ?_
                · go_wp2_with fail
                  simp only [Act.put, List.setIfInBounds_toArray, List.set_cons_succ, List.set_cons_zero] at hK
                  exact hK _ _ (Ext.alloc _ _) (Mono.rel_mk (EmpR.new _ hE9.size))
                simp only [Act.put, List.setIfInBounds_toArray, List.set_cons_succ, List.set_cons_zero]
                iterate 4 (apply Mono.step_is; (· refine Mono.obl_quiet (by decide) fun w9 hE9 _ K hK => ?_; (replace g3 := (hE9.toExt (Nat.le_refl _)).cell (show w8.drew.cell? _ = _ from g3)); (replace g4 := (hE9.toExt (Nat.le_refl _)).cell (show w8.drew.cell? _ = _ from g4)); clear hE9; go_wp2_with fail; simp only [Act.put, List.setIfInBounds_toArray, List.set_cons_succ, List.set_cons_zero] at hK; exact hK _ _ (Ext.refl _) (Mono.is_rfl _ _)); simp only [Act.put, List.setIfInBounds_toArray, List.set_cons_succ, List.set_cons_zero])
                refine Mono.step_rel (Mono.obl_quiet (by decide) fun w9 hE9 hkn K hK => ?_) fun v67 => ?_
                · obtain ⟨⟨p9, rfl⟩, ho9⟩ := hkn.1 (by kernel_rfl)
                  have hEw : Ext w8 w9 := (Ext.drew _).trans (hE9.toExt (Nat.le_refl _))
                  have hrd3 : Rd w9 (.slice va k vc) (u8s (Y.take k)) := by
                    obtain ⟨a', c', hv, h2⟩ := (HRY.out.ext hEw).cut k (by rw [u8s_len, ← HQ.out]; omega)
                    injection hv with e1 e2 e3
                    subst e1 e3
                    rw [show u8s (Y.take k) = (u8s Y).take k by simp [u8s]]
                    exact h2
                  refine wpList_append_kp rfl (.tmp 62) (.tmp 66) _ rfl w8.heap.size 5 _ 1 el8 _ 0 [] rfl ho9 _ (u8s (Y.take k)) rfl hrd3 (u8s_one _) (by rw [u8s_len, HTK.out]; unfold maxLen; omega) (by rw [u8s_len, HTK.out]; omega) hEw.size fun v' w' g1 _ g3 => ?_
                  simp only [Act.put, List.setIfInBounds_toArray, List.set_cons_succ, List.set_cons_zero] at hK
                  refine hK _ _ (g3 ?_) (Mono.rel_mk ?_)
                  · by_cases hz : u8s (Y.take k) = []
                    · exact .inl hz
                    · exact .inr fun a' c' hv => by cases hv; have := List.length_pos_iff.2 hz; omega
                  · unfold Own8; rwa [List.nil_append, Nat.zero_add, u8s_len] at g1
                simp only [Act.put, List.setIfInBounds_toArray, List.set_cons_succ, List.set_cons_zero]
                iterate 2 (apply Mono.step_is; (· refine Mono.obl_quiet (by decide) fun w9 hE9 _ K hK => ?_; (replace g3 := (hE9.toExt (Nat.le_refl _)).cell (show w8.drew.cell? _ = _ from g3)); (replace g4 := (hE9.toExt (Nat.le_refl _)).cell (show w8.drew.cell? _ = _ from g4)); clear hE9; go_wp2_with fail; simp only [Act.put, List.setIfInBounds_toArray, List.set_cons_succ, List.set_cons_zero] at hK; exact hK _ _ (Ext.refl _) (Mono.is_rfl _ _)); simp only [Act.put, List.setIfInBounds_toArray, List.set_cons_succ, List.set_cons_zero])
                refine Mono.step_rel (Mono.obl_loud fun w9 hE9 hkn K hK => ?_) fun v70 => ?_
                · have ho9 := hkn.2.1 (by kernel_rfl)
                  have hEw : Ext w8 w9 := (Ext.drew _).trans hE9
                  refine wpList_append_kp rfl (.tmp 67) (.tmp 69) _ rfl w8.heap.size 5 _ 1 el8 _ (Y.take k).length (u8s (Y.take k)) rfl ho9 _ (u8s ob) rfl (HRO.out.ext hEw) (u8s_one _) (by rw [u8s_len, HTK.out]; unfold maxLen; omega) (by rw [u8s_len, HTK.out]; omega) hEw.size fun v' w' g1 g2 _ => ?_
                  simp only [Act.put, List.setIfInBounds_toArray, List.set_cons_succ, List.set_cons_zero] at hK
                  rw [HTK.out] at g2
                  refine hK _ _ g2 (Mono.rel_mk ?_)
                  unfold Own8
                  rw [List.length_append, show u8s (Y.take k ++ ob) = u8s (Y.take k) ++ u8s ob by simp [u8s]]
                  rwa [u8s_len] at g1
                simp only [Act.put, List.setIfInBounds_toArray, List.set_cons_succ, List.set_cons_zero]
                iterate 1 (apply Mono.step_is; (· refine Mono.obl_quiet (by decide) fun w9 hE9 _ K hK => ?_; clear hE9; go_wp2_with fail; simp only [Act.put, List.setIfInBounds_toArray, List.set_cons_succ, List.set_cons_zero] at hK; exact hK _ _ (Ext.refl _) (Mono.is_rfl _ _)); simp only [Act.put, List.setIfInBounds_toArray, List.set_cons_succ, List.set_cons_zero])
                refine Mono.step_end fun w9 hE9 hkn => ?_
                simp only [List.drop_succ_cons, List.drop_zero]
                obtain ⟨_, _, ho9, _⟩ := hkn
                have hEw : Ext w8 w9 := (Ext.drew _).trans (hE9.toExt (Nat.le_refl _))
                have HEW := Lib.hid hEw; have HO9 := Lib.hid ho9
                clear hE9 hEw ho9 g3 g4
                have hl9 : (Y.take k ++ ob).length = k + ob.length := by rw [List.length_append, HTK.out]
                have HL9 := Lib.hid hl9
                clear hl9
                go_wp2_with (at_builtin; refine wpList_append_rd rfl (.tmp 70) (.tmp 71) _ rfl el8 w8.heap.size v70 (Y.take k ++ ob).length (u8s (Y.take k ++ ob)) (u8s (Y.drop (k + ob.length))) rfl HO9.out _ rfl (HRT.out.ext HEW.out) (u8s_one _) (by rw [u8s_len, HL9.out]; omega) (by rw [u8s_len, HL9.out]; unfold maxLen; omega) HEW.out.size ?_; intro v5 w5 g1 g2)
                go_meet
                refine ⟨?_, HE8.out.trans (Below.grown HEW.out g2 HEW.out.size (own_from HO9.out))⟩
                rw [hR.out]
                unfold Own8
                rw [List.length_append (bs := Y.drop (k + ob.length)), show u8s (Y.take k ++ ob ++ Y.drop (k + ob.length)) = u8s (Y.take k ++ ob) ++ u8s (Y.drop (k + ob.length)) by simp [u8s]]
                rw [u8s_len] at g1
                exact own_base g1 HE8.out.size
        case rest =>
          obtain ⟨ho9, hE9⟩ := hcut
          have e1 := hE9.cell c1
          have HO9 := Lib.hid ho9; have HE9 := Lib.hid hE9
          have hlen : E.length < 1000000000 := by rw [← HN.out]; omega
          clear ho9 hE9
          obtain ⟨hru, hou⟩ := own_ownRd HO9.out (A := A) HAW.out
          obtain ⟨ua, uc, rfl⟩ := own_shapeL HO9.out
          have HRU := Lib.hid hru; have HOU := Lib.hid hou
          clear hru hou
          go_wp2_with fail
          refine (rwith_c A (.slice a N c) (.slice ua Z.length uc) E name Z wc (HROW.out.ext HE9.out) (HOK.out.ext HE9.out) HRU.out (fun t ht => Nat.lt_of_lt_of_le (HAW.out t ht) HE9.out.size) hlen).mono ?_
          rintro e w10 ⟨v10, rfl, ho10, hE10⟩
          have hR := RFv.of_own ho10 ((HOK.out.ext HE9.out).ext hE10) (fun t ht => Nat.lt_of_lt_of_le (HAW.out t ht) HE9.out.size) (HRU.out.ext hE10) (by rw [HZ.out]; split; exact HB8.out; exact over_b8 HB8.out ok6) HOU.out
          have hEE := HE.out.trans (HE9.out.trans hE10)
          have HR := Lib.hid hR; have HEE := Lib.hid hEE
          clear hR hEE ho10 hE10
          go_wp2_with fail
          go_ret
          rw [HXX.out, HLE.out]
          exact ⟨_, rfl, HR.out, HEE.out⟩
  · have HX2 : Hid (X = match getG (nmOf name) L with | none => L | some x => if kind = 99 then putG (nmOf name) (x.take k) L else if kind = 114 then delG (nmOf name) L else putG (nmOf nto) x (delG (nmOf name) L)) := Lib.hid (by
      rw [HX.out]; simp only [doF, if_neg h119, Int.toNat_natCast]; rfl)
    have hk1 : (kk == 1) = false := by
      rw [HKK.out]; unfold kR; rw [if_neg h119]; split
      · rfl
      · split <;> rfl
    rcases posI_cases (nmOf name) L with ⟨hp, hg⟩ | ⟨i, p0, hp, hi, hpn, hg⟩
    · rw [hp]
      have HR : Hid (X = L) := Lib.hid (by rw [HX2.out, hg])
      clear hp hg HX HX2 h119
      go_wp2_with fail
      go_ret
      rw [HR.out]
      exact ⟨_, rfl, ⟨E, by rw [HN.out] at HROW ⊢; exact HROW.out, HOK.out, HLE.out⟩, HE.out⟩
    · rw [hp]
      obtain ⟨p, hpE, hpn2, hpx⟩ : ∃ p, E[i]? = some p ∧ p.1 = nmOf name ∧ p.2.2 = p0.2 := by
        rw [HLE.out] at hi
        simp only [mapG, List.getElem?_map, Option.map_eq_some_iff] at hi
        obtain ⟨q, h1, h2⟩ := hi
        exact ⟨q, h1, by rw [← hpn, ← h2], by rw [← h2]⟩
      obtain ⟨old, hold⟩ : ∃ old, old = p.2.2 := ⟨_, rfl⟩
      have hgo : getG (nmOf name) L = some old := by rw [hg, hold, hpx]
      obtain ⟨b, rfl, hcell, hcell2⟩ : ∃ b, a = some ⟨b, 0, none⟩ ∧ w1.cell? ⟨b, i * 2, none⟩ = some (encStr p.1) ∧ w1.cell? ⟨b, i * 2 + 1, none⟩ = some p.2.1 := by
        rcases HC.out with h0 | ⟨b, ha, _, hcc⟩
        · rw [h0] at hpE; simp at hpE
        · exact ⟨b, ha, (hcc i p hpE).1, (hcc i p hpE).2⟩
      obtain ⟨hrd, hb8, hoff⟩ := HOK.out p (List.mem_of_getElem? hpE)
      rw [← hold] at hrd hb8 hoff
      have holM : old.length ≤ M := HL.out _ (getG_mem hgo)
      have hiN : i < N := by rw [HN.out]; exact (List.getElem?_eq_some_iff.1 hpE).1
      obtain ⟨pv, hpv⟩ : ∃ pv, pv = p.2.1 := ⟨_, rfl⟩
      rw [← hpv] at hcell2 hrd hoff
      obtain ⟨pa, pc, rfl, hp1, hp2, hp3⟩ := hrd.open
      replace hp2 : pc ≤ 9223372036854775807 := by unfold maxLen at hp2; omega
      have hEok : mapG (fun q : Value × List Int => q.2) E = L := HLE.out.symm
      have HRD := Lib.hid hrd; have HB8 := Lib.hid hb8; have HOFF := Lib.hid hoff; have HG := Lib.hid hgo; have HEL := Lib.hid hEok
      clear hg hgo hrd hb8 hoff hp hpE hpn hpn2 hpx hi hcell hold hpv hp3 hEok
      have HX3 : Hid (X = if kind = 99 then putG (nmOf name) (old.take k) L else if kind = 114 then delG (nmOf name) L else putG (nmOf nto) old (delG (nmOf name) L)) := Lib.hid (by rw [HX2.out, HG.out])
      clear HX2 HX
      by_cases h99 : kind = 99
      · have hk2 : kk = 2 := by rw [HKK.out]; unfold kR; rw [if_neg h119, if_pos h99]
        have HX4 : Hid (X = putG (nmOf name) (old.take k) L) := Lib.hid (by rw [HX3.out, if_pos h99])
        clear HX3 h99 h119 hk1
        subst hk2
        by_cases hlt : k < old.length
        · have hlt2 : (k : Int) < (old.length : Int) := by omega
          go_upto_region 17 with fail
          go_quiet (fail)
          have hE2 : Ext w1 (w1.drewN nq) := Ext.drewN _ _
          revert hE2
          generalize w1.drewN nq = w2
          intro hE2
          have HE2 := Lib.hid hE2
          have k1 := hE2.cell c1; have k3 := hE2.cell c3; have k5 := hE2.cell hcell2
          have htk : (old.take k).length = k := by rw [List.length_take]; omega
          have HTK := Lib.hid htk
          clear hE2 c0 c1 c2 c3 c4 hcell2 htk hb1 hb2
          go_upto_region 18 with fail
          apply Mono.region1 14 Ext [.is _, .is _, .is _, .rel (EmpR w2.heap.size), .is _, .is _, .is _, .is _, .is _, .is _, .is _, .is _, .rel (Own8 w2.heap.size (old.take k)), .rel (fun v w' => ∃ u, v = .agg #[.string name, u] ∧ Own8 w2.heap.size (old.take k) u w')] (by kernel_rfl) Ext.refl (fun _ _ _ => Ext.trans) (by kernel_rfl) rfl rfl ⟨fun v wa wb hv hE => hv.ext hE, fun v wa wb hv hE => hv.ext hE, fun v wa wb hv hE => ⟨hv.choose, hv.choose_spec.1, hv.choose_spec.2.ext hE⟩, trivial⟩
          focus
            iterate 3 (apply Mono.step_is; (· refine Mono.obl_mk fun w3 hE3 _ K hK => ?_; (replace k1 := hE3.cell (show w2.drew.cell? _ = _ from k1)); (replace k3 := hE3.cell (show w2.drew.cell? _ = _ from k3)); (replace k5 := hE3.cell (show w2.drew.cell? _ = _ from k5)); clear hE3; go_wp2_with fail; simp only [Act.put, List.setIfInBounds_toArray, List.set_cons_succ, List.set_cons_zero] at hK; exact hK _ _ (Ext.refl _) (Mono.is_rfl _ _)); simp only [Act.put, List.setIfInBounds_toArray, List.set_cons_succ, List.set_cons_zero])
            refine Mono.step_rel (Mono.obl_mk fun w3 hE3 _ K hK => ?_) fun v97 => ?_
            · go_wp2_with fail
              simp only [Act.put, List.setIfInBounds_toArray, List.set_cons_succ, List.set_cons_zero] at hK
              exact hK _ _ (Ext.alloc _ _) (Mono.rel_mk (EmpR.new _ hE3.size))
            simp only [Act.put, List.setIfInBounds_toArray, List.set_cons_succ, List.set_cons_zero]
            iterate 8 (apply Mono.step_is; (· refine Mono.obl_mk fun w3 hE3 _ K hK => ?_; (replace k1 := hE3.cell (show w2.drew.cell? _ = _ from k1)); (replace k3 := hE3.cell (show w2.drew.cell? _ = _ from k3)); (replace k5 := hE3.cell (show w2.drew.cell? _ = _ from k5)); clear hE3; go_wp2_with fail; simp only [Act.put, List.setIfInBounds_toArray, List.set_cons_succ, List.set_cons_zero] at hK; exact hK _ _ (Ext.refl _) (Mono.is_rfl _ _)); simp only [Act.put, List.setIfInBounds_toArray, List.set_cons_succ, List.set_cons_zero])
            refine Mono.step_rel (Mono.obl_mk fun w3 hE3 hkn K hK => ?_) fun v106 => ?_
            · obtain ⟨⟨p9, rfl⟩, ho9⟩ := hkn.1 (by kernel_rfl)
              have hrd3 : Rd w3 (.slice pa k pc) (u8s (old.take k)) := by
                have h1 := ((HRD.out.ext HE2.out).ext (Ext.drew _)).ext hE3
                obtain ⟨a', c', hv, h2⟩ := h1.cut k (by rw [u8s_len]; omega)
                injection hv with e1 e2 e3
                subst e1 e3
                rw [show u8s (old.take k) = (u8s old).take k by simp [u8s]]
                exact h2
              refine wpList_append_kp rfl (.tmp 97) (.tmp 105) _ rfl w2.heap.size 5 _ 1 el8 _ 0 [] rfl ho9 _ (u8s (old.take k)) rfl hrd3 (u8s_one _) (by rw [u8s_len, HTK.out]; unfold maxLen; omega) (by rw [u8s_len, HTK.out]; omega) hE3.size fun v' w' g1 _ g3 => ?_
              simp only [Act.put, List.setIfInBounds_toArray, List.set_cons_succ, List.set_cons_zero] at hK
              refine hK _ _ (g3 ?_) (Mono.rel_mk ?_)
              · by_cases hz : u8s (old.take k) = []
                · exact .inl hz
                · exact .inr fun a' c' hv => by cases hv; have := List.length_pos_iff.2 hz; omega
              · unfold Own8; rwa [List.nil_append, Nat.zero_add, u8s_len] at g1
            simp only [Act.put, List.setIfInBounds_toArray, List.set_cons_succ, List.set_cons_zero]
            refine Mono.step_rel (Mono.obl_mk fun w3 hE3 hkn K hK => ?_) fun v107 => ?_
            · have ho9 := hkn.2.1 (by kernel_rfl)
              obtain ⟨a9, c9, hv9⟩ := own_shapeL ho9
              rw [HTK.out] at hv9
              subst hv9
              go_wp2_with fail
              simp only [Act.put, List.setIfInBounds_toArray, List.set_cons_succ, List.set_cons_zero] at hK
              exact hK _ _ (Ext.refl _) (Mono.rel_mk ⟨_, rfl, ho9⟩)
            simp only [Act.put, List.setIfInBounds_toArray, List.set_cons_succ, List.set_cons_zero]
            refine Mono.step_end fun w9 hE9 hkn => ?_
            simp only [List.drop_succ_cons, List.drop_zero]
            obtain ⟨_, _, ⟨u, rfl, ho9⟩, _⟩ := hkn
            have hE9' : Ext w1 w9 := HE2.out.trans ((Ext.drew _).trans hE9)
            have HE9 := Lib.hid hE9'
            clear hE9 hE9' k1 k3 k5
            go_wp2_with fail
            have hlen : E.length < 1000000000 := by rw [← HN.out]; omega
            obtain ⟨hru, hou⟩ := own_ownRd ho9 (A := A) (fun t ht => Nat.lt_of_lt_of_le (HAW.out t ht) HE2.out.size)
            refine (rwith_c A (.slice (some ⟨b, 0, none⟩) N c) u E name (old.take k) w9 (HROW.out.ext HE9.out) (HOK.out.ext HE9.out) hru (fun t ht => Nat.lt_of_lt_of_le (HAW.out t ht) HE9.out.size) hlen).mono ?_
            rintro e w10 ⟨v10, rfl, ho10, hE10⟩
            have hR := RFv.of_own ho10 ((HOK.out.ext HE9.out).ext hE10) (fun t ht => Nat.lt_of_lt_of_le (HAW.out t ht) HE9.out.size) (hru.ext hE10) (fun z hz => HB8.out z (List.mem_of_mem_take hz)) hou
            have hEE := HE.out.trans (HE9.out.trans hE10)
            have HR := Lib.hid hR; have HEE := Lib.hid hEE
            clear hR hEE ho10 hE10 hru hou
            go_wp2_with fail
            go_ret
            rw [HX4.out, ← HEL.out]
            exact ⟨_, rfl, HR.out, HEE.out⟩
        · have hge : (old.length : Int) ≤ (k : Int) := by omega
          have HX5 : Hid (X = L) := Lib.hid (by rw [HX4.out, List.take_of_length_le (by omega)]; exact putG_same HRIS.out HG.out)
          clear hlt HX4
          go_upto_region 17 with fail
          go_quiet (fail)
          go_wp2_with fail
          go_ret
          rw [HX5.out]
          exact ⟨_, rfl, ⟨E, by rw [HN.out] at HROW ⊢; exact HROW.out, HOK.out, HLE.out⟩, HE.out.trans (Ext.drewN _ _)⟩
      · have hk2 : (kk == 2) = false := by
          rw [HKK.out]; unfold kR; rw [if_neg h119, if_neg h99]; split
          · rfl
          · rfl
        have HX4 : Hid (X = if kind = 114 then delG (nmOf name) L else putG (nmOf nto) old (delG (nmOf name) L)) := Lib.hid (by rw [HX3.out, if_neg h99])
        clear HX3
        have hlen : E.length < 1000000000 := by rw [← HN.out]; omega
        by_cases h114 : kind = 114
        · have HX5 : Hid (X = delG (nmOf name) L) := Lib.hid (by rw [HX4.out, if_pos h114])
          have hk3 : kk = 3 := by rw [HKK.out]; unfold kR; rw [if_neg h119, if_neg h99, if_pos h114]
          subst hk3
          clear h114 h99 h119 HX4 hk1 hk2
          go_wp2_with fail
          refine (rwithout_c A (.slice (some ⟨b, 0, none⟩) N c) E name w1 HROW.out HOK.out HAW.out hlen).mono ?_
          rintro e w10 ⟨v10, rfl, ho10, hE10⟩
          have hR := RFv.of_del ho10 (HOK.out.ext hE10) HAW.out
          have hEE := HE.out.trans hE10
          have HR := Lib.hid hR; have HEE := Lib.hid hEE
          clear hR hEE ho10 hE10
          go_wp2_with fail
          go_ret
          rw [HX5.out, ← HEL.out]
          exact ⟨_, rfl, HR.out, HEE.out⟩
        · have HX5 : Hid (X = putG (nmOf nto) old (delG (nmOf name) L)) := Lib.hid (by rw [HX4.out, if_neg h114])
          have hk3 : kk = 4 := by rw [HKK.out]; unfold kR; rw [if_neg h119, if_neg h99, if_neg h114]
          subst hk3
          clear h114 h99 h119 HX4 hk1 hk2
          have k1 := c1; have k2 := c2; have k5 := hcell2
          go_upto_region 22 with fail
          clear c0 c1 c2 c3 c4 hcell2 hb1 hb2
          apply Mono.region1 12 Ext [.is _, .is _, .is _, .rel (fun v w' => w'.ownsRow w1.heap.size 75 2 v (delG (nmOf name) E).length (FCs (delG (nmOf name) E))), .is _, .is _, .is _, .is _, .is _, .is _, .is _, .is _] (by kernel_rfl) Ext.refl (fun _ _ _ => Ext.trans) (by kernel_rfl) rfl rfl ⟨fun v wa wb hv hE => own_ext hv hE, trivial⟩
          focus
            iterate 3 (apply Mono.step_is; (· refine Mono.obl_mk fun w3 hE3 _ K hK => ?_; (replace k1 := hE3.cell (show w1.drew.cell? _ = _ from k1)); (replace k2 := hE3.cell (show w1.drew.cell? _ = _ from k2)); (replace k5 := hE3.cell (show w1.drew.cell? _ = _ from k5)); clear hE3; go_wp2_with fail; simp only [Act.put, List.setIfInBounds_toArray, List.set_cons_succ, List.set_cons_zero] at hK; exact hK _ _ (Ext.refl _) (Mono.is_rfl _ _)); simp only [Act.put, List.setIfInBounds_toArray, List.set_cons_succ, List.set_cons_zero])
            refine Mono.step_rel (Mono.obl_mk fun w3 hE3 _ K hK => ?_) fun v120 => ?_
            · have hE3' : Ext w1 w3 := (Ext.drew _).trans hE3
              go_wp2_with fail
              refine (rwithout_c A (.slice (some ⟨b, 0, none⟩) N c) E name w3 (HROW.out.ext hE3') (HOK.out.ext hE3') (fun t ht => Nat.lt_of_lt_of_le (HAW.out t ht) hE3'.size) hlen).mono ?_
              rintro e w10 ⟨v10, rfl, ho10, hE10⟩
              go_wp2_with fail
              simp only [Act.put, List.setIfInBounds_toArray, List.set_cons_succ, List.set_cons_zero] at hK
              exact hK _ _ hE10 (Mono.rel_mk (own_base ho10 hE3'.size))
            simp only [Act.put, List.setIfInBounds_toArray, List.set_cons_succ, List.set_cons_zero]
            iterate 8 (apply Mono.step_is; (· refine Mono.obl_mk fun w3 hE3 _ K hK => ?_; (replace k1 := hE3.cell (show w1.drew.cell? _ = _ from k1)); (replace k2 := hE3.cell (show w1.drew.cell? _ = _ from k2)); (replace k5 := hE3.cell (show w1.drew.cell? _ = _ from k5)); clear hE3; go_wp2_with fail; simp only [Act.put, List.setIfInBounds_toArray, List.set_cons_succ, List.set_cons_zero] at hK; exact hK _ _ (Ext.refl _) (Mono.is_rfl _ _)); simp only [Act.put, List.setIfInBounds_toArray, List.set_cons_succ, List.set_cons_zero])
            refine Mono.step_end fun w9 hE9 hkn => ?_
            simp only [List.drop_succ_cons, List.drop_zero]
            obtain ⟨ho9, _⟩ := hkn
            have hE9' : Ext w1 w9 := (Ext.drew _).trans hE9
            have HE9 := Lib.hid hE9'; have HO9 := Lib.hid ho9
            clear hE9 hE9' k1 k2 k5 ho9
            go_wp2_with fail
            have hdl := delG_len (nmOf name) E
            refine (rwith_c A v120 (.slice pa old.length pc) (delG (nmOf name) E) nto old w9 (own_rowE HO9.out HAW.out) ((HOK.out.ext HE9.out).del _) (HRD.out.ext HE9.out) (fun t ht => Nat.lt_of_lt_of_le (HAW.out t ht) HE9.out.size) (by omega)).mono ?_
            rintro e w10 ⟨v10, rfl, ho10, hE10⟩
            have hR := RFv.of_own ho10 (((HOK.out.ext HE9.out).del (nmOf name)).ext hE10) (fun t ht => Nat.lt_of_lt_of_le (HAW.out t ht) HE9.out.size) ((HRD.out.ext HE9.out).ext hE10) HB8.out HOFF.out
            rw [mapG_delG] at hR
            have hEE := HE.out.trans (HE9.out.trans hE10)
            have HR := Lib.hid hR; have HEE := Lib.hid hEE
            clear hR hEE ho10 hE10
            go_wp2_with fail
            go_ret
            rw [HX5.out, ← HEL.out]
            exact ⟨_, rfl, HR.out, HEE.out⟩
end Go.Proofs.YtmffknllnjagoaaDoor
