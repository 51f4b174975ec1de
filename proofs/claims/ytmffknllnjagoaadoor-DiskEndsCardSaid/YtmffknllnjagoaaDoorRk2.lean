/- tabellionref08: with. -/
import Derived.Test.YtmffknllnjagoaaDoorRk1
import Derived.Deep.QuietTactic
import Derived.BigQuiet
set_option linter.unusedSimpArgs false
set_option linter.unusedVariables false
namespace Go.Proofs.YtmffknllnjagoaaDoor
open Go Go.RowKit Go.Maps
open Go.Proofs (encStr)

section
variable {α : Type}
def seenB (k : Nm) (l : List (Nm × α)) : Bool := l.any fun q => bytesBefore k q.1
def withO (x : Nm × α) (l : List (Nm × α)) : List (Nm × α) := if seenB x.1 l then insG x l else l
theorem seenB_app (k : Nm) (l : List (Nm × α)) (q : Nm × α) : seenB k (l ++ [q]) = (seenB k l || bytesBefore k q.1) := by simp [seenB]
theorem insG_seen (x q : Nm × α) : ∀ l : List (Nm × α), seenB x.1 l = true → insG x (l ++ [q]) = insG x l ++ [q]
  | [], h => by simp [seenB] at h
  | y :: r, h => by
    unfold insG
    rw [List.cons_append]
    by_cases hb : bytesBefore x.1 y.1 = true
    · simp [hb]
    · have h2 : seenB x.1 r = true := by simpa [seenB, hb] using h
      have ih := insG_seen x q r h2
      simp only [hb, Bool.false_eq_true, ↓reduceIte]
      show y :: insG x (r ++ [q]) = _
      rw [ih]; rfl
theorem insG_last (x : Nm × α) : ∀ l : List (Nm × α), seenB x.1 l = false → insG x l = l ++ [x]
  | [], _ => rfl
  | y :: r, h => by
    have hb : bytesBefore x.1 y.1 = false := by simp [seenB] at h; exact h.1
    have h2 : seenB x.1 r = false := by simp [seenB] at h; simp [seenB]; exact h.2
    unfold insG
    rw [hb, insG_last x r h2]; rfl
theorem insG_here (x q : Nm × α) : ∀ l : List (Nm × α), seenB x.1 l = false → bytesBefore x.1 q.1 = true → insG x (l ++ [q]) = l ++ [x] ++ [q]
  | [], _, hq => by simp [insG, hq]
  | y :: r, h, hq => by
    have hb : bytesBefore x.1 y.1 = false := by simp [seenB] at h; exact h.1
    have h2 : seenB x.1 r = false := by simp [seenB] at h; simp [seenB]; exact h.2
    have ih := insG_here x q r h2 hq
    rw [List.cons_append]
    unfold insG
    rw [hb, ih]; rfl
end
/-- One file more, at the operation. -/
theorem wpList_pushF {ops : Array Oper} {rest : List Oper} {o : Oper} {a : Act} {Q : Exit → Act → World → Prop} (hgd : o.guard = none) (s x : Operand)
    (ho : o.op = .call { callee := .builtin .append, args := #[s, x], argTypes := #[68, 68] })
    (wB w0 : World) (L : EL) (p : Nm × (Value × List Int)) (c1 c2 v : Value) (hs : a.eval s = v) (hx : a.eval x = .slice (some ⟨w0.heap.size, 0, none⟩) 1 1) (hc : fC p = [c1, c2]) (h1 : c1.oneCell' = true) (h2 : c2.oneCell' = true)
    (hown : w0.ownsRow wB.heap.size 75 2 v L.length (FCs L)) (hE : Ext wB w0) (hl : L.length < 2000000000)
    (h : ∀ v' w', w'.ownsRow wB.heap.size 75 2 v' (L ++ [p]).length (FCs (L ++ [p])) → Ext wB w' → wpList Tryd.prog ops Q rest (a.put o.dst v') w') :
    wpList Tryd.prog ops Q (o :: rest) a (w0.alloc (.cells #[c1, c2] 75)) := by
  obtain ⟨i0, hi, hiz, his, hib⟩ := info_parts infoFi
  refine wpList_append_own_at _ hgd s x _ ho wB.heap.size 75 i0 _ 2 40 Tryd.underlying68 hi hiz his hib rfl (by decide) v L.length (FCs L) hs (own_ext hown (Ext.alloc _ _)) ⟨w0.heap.size, 0, none⟩ 1 1 [c1, c2] hx rfl (fun j u hj => ?_) (fun u hu => ?_) (by unfold maxLen; omega) (by omega) (Nat.le_trans hE.size (by simp)) fun v' w' g1 g2 _ g4 => h v' w' ?_ ?_
  · rw [Addr.add_lit, Nat.zero_add]
    exact (Blk.new w0 #[c1, c2] 75).cell j (by simpa using hj)
  · simp at hu; rcases hu with rfl | rfl
    · exact h1
    · exact h2
  · rw [FCs_app, hc, List.length_append]; exact g1
  · refine Below.grown (hE.trans (Ext.alloc _ _)) g2 (Nat.le_trans hE.size (by simp)) fun q hq => ?_
    rcases hown.2 with ⟨h1, _⟩ | ⟨g', cap, cur, h1, h2, _⟩
    · rw [h1] at hq; cases hq
    · rw [h1] at hq; cases hq; exact h2
theorem less_before : ∀ (a b : List UInt8), Op.bytesLess a b = bytesBefore a b
  | [], [] => rfl
  | [], _ :: _ => rfl
  | _ :: _, [] => rfl
  | a :: r, b :: s => by
    have ih := less_before r s
    show (decide (a < b) || (a == b && Op.bytesLess r s)) = (decide (a < b) || (a == b && bytesBefore r s))
    rw [ih]
theorem less_name (s : ByteArray) (b : List UInt8) : Op.bytesLess s.toList b = bytesBefore (nmOf s) b := by
  rw [Lib.toList_data, less_before]
theorem encStr_nm (s : ByteArray) : encStr (nmOf s) = .string s := rfl
set_option maxRecDepth 100000 in
set_option maxHeartbeats 4000000 in
theorem rwith_c (A : List Nat) (v bv : Value) (E : EL) (name : ByteArray) (xs : List Int) (w : World) (hrow : RowE w A v E) (hok : EOk w A E) (hbv : Rd w bv (u8s xs)) (hA : ∀ t ∈ A, t < w.heap.size) (hl : E.length < 1000000000) :
    Calls Tryd.prog 63 #[v, .agg #[.string name, bv]] w fun e w' => ∃ v', e = .returned v' ∧ w'.ownsRow w.heap.size 75 2 v' (putG (nmOf name) (bv, xs) E).length (FCs (putG (nmOf name) (bv, xs) E)) ∧ Ext w w' := by
  obtain ⟨D, hD⟩ : ∃ D, D = delG (nmOf name) E := ⟨_, rfl⟩
  have hDl : D.length < 1000000000 := by rw [hD]; have := delG_len (nmOf name) E; omega
  have hput : putG (nmOf name) (bv, xs) E = insG (nmOf name, (bv, xs)) D := by rw [hD]; rfl
  rw [hput]
  have HROW := Lib.hid hrow; have HOK := Lib.hid hok; have HD := Lib.hid hD; have HBV := Lib.hid hbv; have HAA := Lib.hid hA
  obtain ⟨ba, bn, bc, rfl⟩ := hbv.shape
  clear hrow hok hD hput hbv hA
  go_enter Tryd.func63, Tryd.ntmps63
  go_upto_region 1 with fail
  obtain ⟨W, hW⟩ : ∃ W, W = w.alloc (.cells #[.string name, .slice ba bn bc] 75) := ⟨_, rfl⟩
  have hWE : Ext w W := by rw [hW]; exact Ext.alloc _ _
  have hWB : Blk W w.heap.size #[.string name, .slice ba bn bc] 75 := by rw [hW]; exact Blk.new _ _ _
  rw [← hW]
  have e0 : W.cell? ⟨w.heap.size, 0, none⟩ = some (.string name) := hWB.cell 0 rfl
  have e1 : W.cell? ⟨w.heap.size, 1, none⟩ = some (.slice ba bn bc) := hWB.cell 1 rfl
  have HWE := Lib.hid hWE
  clear hW hWE hWB
  go_wp2_with fail
  refine (rwithout_c A v E name W (HROW.out.chg (S := []) (Chg.ext HWE.out) (by simp)) (HOK.out.chg (S := []) (Chg.ext HWE.out) (by simp)) (fun t ht => Nat.lt_of_lt_of_le (HAA.out t ht) HWE.out.size) hl).mono ?_
  rintro e w1 ⟨rv, rfl, hrv, hE1⟩
  rw [← HD.out] at hrv
  obtain ⟨N, hN⟩ : ∃ N, N = D.length := ⟨_, rfl⟩
  have hrow1 := own_rowE (A := []) hrv (by simp)
  obtain ⟨ra, rc, hrve, hc1, hc2, hc3⟩ := hrow1
  have hrd1 : ∀ p ∈ D, ∃ a c, p.2.1 = Value.slice a p.2.2.length c := fun p hp => by
    rw [HD.out] at hp
    obtain ⟨a, c, h, _⟩ := (HOK.out.del _ p hp).1.open
    exact ⟨a, c, h⟩
  rw [← hN] at hrve hc1 hDl
  replace hc2 : rc ≤ 9223372036854775807 := by unfold maxLen at hc2; omega
  replace e0 := hE1.cell e0; replace e1 := hE1.cell e1
  obtain ⟨i0, hi, hiz, his, hib⟩ := info_parts infoFi
  have HN := Lib.hid hN; have HC := Lib.hid hc3; have HE1 := Lib.hid (HWE.out.trans hE1); have HRD := Lib.hid hrd1
  clear hN hc3 hE1 hrv hrd1
  subst hrve
  go_wp2_with fail
  go_loopg [5, 6, 8] N (fun g o pt ix wr => ∃ (i : Nat), i + g = N ∧ ix = .int .i64 (i : Int) ∧ pt = .bool (seenB (nmOf name) (D.take i)) ∧ wr.ownsRow w1.heap.size 75 2 o (withO (nmOf name, (Value.slice ba bn bc, xs)) (D.take i)).length (FCs (withO (nmOf name, (Value.slice ba bn bc, xs)) (D.take i))) ∧ Ext w1 wr)
  case atStart => exact ⟨0, by omega, rfl, rfl, World.ownsRow_nil _ _ _ _, Ext.refl _⟩
  case round =>
    obtain ⟨i, hiN, rfl, rfl, ho, hE⟩ := hrel
    have HO := Lib.hid ho; have HE := Lib.hid hE
    clear ho hE
    by_cases hlt : i < N
    · obtain ⟨p, hp⟩ : ∃ p, D[i]? = some p := ⟨_, List.getElem?_eq_getElem (by rw [← HN.out]; exact hlt)⟩
      obtain ⟨b, rfl, k1, k2⟩ : ∃ b, ra = some ⟨b, 0, none⟩ ∧ w1.cell? ⟨b, i * 2, none⟩ = some (encStr p.1) ∧ w1.cell? ⟨b, i * 2 + 1, none⟩ = some p.2.1 := by
        rcases HC.out with h0 | ⟨b, ha, _, hcc⟩
        · rw [h0] at hp; simp at hp
        · exact ⟨b, ha, (hcc i p hp).1, (hcc i p hp).2⟩
      obtain ⟨pa, pc, hpv⟩ := HRD.out p (List.mem_of_getElem? hp)
      rw [hpv] at k2
      have hcell := HE.out.cell k1; have hcell2 := HE.out.cell k2
      have f0 := HE.out.cell e0; have f1 := HE.out.cell e1
      have K1 := Lib.hid k1; have K2 := Lib.hid k2
      clear k1 k2
      go_upto_region 7 with fail
      have hpe : fC (p.1, (Value.slice pa p.2.2.length pc, p.2.2)) = [encStr p.1, Value.slice pa p.2.2.length pc] := rfl
      have hxe : fC (nmOf name, (Value.slice ba bn bc, xs)) = [Value.string name, Value.slice ba bn bc] := rfl
      have hpp : (p.1, (Value.slice pa p.2.2.length pc, p.2.2)) = p := by rw [← hpv]
      have htk : D.take (i + 1) = D.take i ++ [p] := by rw [List.take_add_one, hp]; rfl
      have hsn : seenB (nmOf name) (D.take (i + 1)) = (seenB (nmOf name) (D.take i) || bytesBefore (nmOf name) p.1) := by rw [htk, seenB_app]
      have hdl : (D.take i).length ≤ N := by rw [List.length_take, HN.out]; omega
      have HPP := Lib.hid hpp; have HTK := Lib.hid htk; have HSN := Lib.hid hsn
      clear hp hpv hpp htk hsn
      cases hs : seenB (nmOf name) (D.take i) with
      | true =>
        have hO0 := HO.out
        unfold withO at hO0
        rw [if_pos hs] at hO0
        have hli : (insG (nmOf name, (Value.slice ba bn bc, xs)) (D.take i)).length < 2000000000 := by rw [length_insG]; omega
        have hres : withO (nmOf name, (Value.slice ba bn bc, xs)) (D.take (i + 1)) = insG (nmOf name, (Value.slice ba bn bc, xs)) (D.take i) ++ [p] := by
          unfold withO
          rw [HSN.out, hs, Bool.true_or, if_pos rfl, HTK.out, insG_seen _ _ _ hs]
        have hsn2 : seenB (nmOf name) (D.take (i + 1)) = true := by rw [HSN.out, hs]; rfl
        have HRES := Lib.hid hres; have HSN2 := Lib.hid hsn2; have HO0 := Lib.hid hO0
        clear hs hres hsn2 hO0
        go_quiet (fail)
        go_wp2_with (at_builtin; refine wpList_pushF rfl (.tmp 35) (.tmp 40) rfl w1 (wr.drewN nq) _ (p.1, (Value.slice pa p.2.2.length pc, p.2.2)) _ _ u5 rfl rfl hpe rfl rfl (own_ext HO0.out (Ext.drewN _ _)) (HE.out.trans (Ext.drewN _ _)) hli ?_; intro v5 w5 g1 g2)
        rw [HPP.out, ← HRES.out] at g1
        go_roundg (gk - 1)
        case measure => omega
        case rel => exact ⟨i + 1, by omega, by go_num, by rw [HSN2.out], g1, g2⟩
      | false =>
        have hO0 := HO.out
        unfold withO at hO0
        rw [if_neg (by rw [hs]; simp)] at hO0
        cases hb : bytesBefore (nmOf name) p.1 with
        | true =>
          have hlt1 : Op.bytesLess name.toList p.1 = true := by rw [less_name]; exact hb
          have hres : withO (nmOf name, (Value.slice ba bn bc, xs)) (D.take (i + 1)) = D.take i ++ [(nmOf name, (Value.slice ba bn bc, xs))] ++ [p] := by
            unfold withO
            rw [HSN.out, hs, hb, Bool.false_or, if_pos rfl, HTK.out, insG_here _ _ _ hs hb]
          have hsn2 : seenB (nmOf name) (D.take (i + 1)) = true := by rw [HSN.out, hs, hb]; rfl
          have hl1 : (D.take i).length < 2000000000 := by omega
          have hl2 : (D.take i ++ [(nmOf name, (Value.slice ba bn bc, xs))]).length < 2000000000 := by rw [List.length_append]; simp only [List.length_cons, List.length_nil]; omega
          have HRES := Lib.hid hres; have HSN2 := Lib.hid hsn2; have HO0 := Lib.hid hO0
          clear hs hres hsn2 hO0 hb
          go_quiet (fail)
          clear hlt1
          go_wp2_with (at_builtin; first
            | (refine wpList_pushF (o := ⟨some 34, _, _, _, _, _⟩) rfl (.tmp 31) (.tmp 33) rfl w1 (wr.drewN nq) _ (nmOf name, (Value.slice ba bn bc, xs)) _ _ u5 rfl rfl hxe rfl rfl (own_ext HO0.out (Ext.drewN _ _)) (HE.out.trans (Ext.drewN _ _)) hl1 ?_; intro v4 w4 g3 g4; have q1 := g4.cell K1.out; have q2 := g4.cell K2.out)
            | (refine wpList_pushF (o := ⟨some 41, _, _, _, _, _⟩) rfl (.tmp 35) (.tmp 40) rfl w1 w4 _ (p.1, (Value.slice pa p.2.2.length pc, p.2.2)) _ _ v4 rfl rfl hpe rfl rfl g3 g4 hl2 ?_; intro v5 w5 g1 g2))
          rw [HPP.out, ← HRES.out] at g1
          go_roundg (gk - 1)
          case measure => omega
          case rel => exact ⟨i + 1, by omega, by go_num, by rw [HSN2.out], g1, g2⟩
        | false =>
          have hlt1 : Op.bytesLess name.toList p.1 = false := by rw [less_name]; exact hb
          have hres : withO (nmOf name, (Value.slice ba bn bc, xs)) (D.take (i + 1)) = D.take i ++ [p] := by
            unfold withO
            rw [HSN.out, hs, hb, Bool.false_or, if_neg (by simp), HTK.out]
          have hsn2 : seenB (nmOf name) (D.take (i + 1)) = false := by rw [HSN.out, hs, hb]; rfl
          have hl1 : (D.take i).length < 2000000000 := by omega
          have HRES := Lib.hid hres; have HSN2 := Lib.hid hsn2; have HO0 := Lib.hid hO0
          clear hs hres hsn2 hO0 hb
          go_quiet (fail)
          clear hlt1
          go_wp2_with (at_builtin; refine wpList_pushF rfl (.tmp 35) (.tmp 40) rfl w1 (wr.drewN nq) _ (p.1, (Value.slice pa p.2.2.length pc, p.2.2)) _ _ u5 rfl rfl hpe rfl rfl (own_ext HO0.out (Ext.drewN _ _)) (HE.out.trans (Ext.drewN _ _)) hl1 ?_; intro v5 w5 g1 g2)
          rw [HPP.out, ← HRES.out] at g1
          go_roundg (gk - 1)
          case measure => omega
          case rel => exact ⟨i + 1, by omega, by go_num, by rw [HSN2.out], g1, g2⟩
    · have hge : (N : Int) ≤ (i : Int) := by omega
      have HTK : Hid (D.take i = D) := Lib.hid (by rw [List.take_of_length_le (by rw [← HN.out]; omega)])
      have hO0 := HO.out
      rw [HTK.out]
      rw [HTK.out] at hO0
      unfold withO at hO0
      clear hlt
      cases hs : seenB (nmOf name) D with
      | true =>
        rw [if_pos hs] at hO0
        have HO0 := Lib.hid hO0
        clear hs hO0
        go_wp2_with fail
        go_ret
        exact ⟨_, rfl, own_base HO0.out HE1.out.size, HE1.out.trans HE.out⟩
      | false =>
        rw [if_neg (by rw [hs]; simp)] at hO0
        have hres : insG (nmOf name, (Value.slice ba bn bc, xs)) D = D ++ [(nmOf name, (Value.slice ba bn bc, xs))] := insG_last _ _ hs
        have HO0 := Lib.hid hO0; have HRES := Lib.hid hres
        have hxe : fC (nmOf name, (Value.slice ba bn bc, xs)) = [Value.string name, Value.slice ba bn bc] := rfl
        have f0 := HE.out.cell e0; have f1 := HE.out.cell e1
        have hl1 : D.length < 2000000000 := by rw [← HN.out]; omega
        clear hs hO0 hres
        go_wp2_with (at_builtin; refine wpList_pushF rfl (.tmp 44) (.tmp 46) rfl w1 wr _ (nmOf name, (Value.slice ba bn bc, xs)) _ _ u5 rfl rfl hxe rfl rfl HO0.out HE.out hl1 ?_; intro v5 w5 g1 g2)
        go_ret
        rw [HRES.out]
        exact ⟨_, rfl, own_base g1 HE1.out.size, HE1.out.trans g2⟩
end Go.Proofs.YtmffknllnjagoaaDoor
