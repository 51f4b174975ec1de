/- tabellionref19: Send (printed by wip/gen/nrsend.py). -/
import Derived.Test.YtjodgbabfhcilaaBun10
import Derived.Test.YtjodgbabfhcilaaRpl
set_option linter.unusedSimpArgs false
set_option linter.unusedVariables false
namespace Go.Proofs.Ytjodgbabfhcilaa
open Go Go.RowKit Go.Maps

theorem rform_isSome (M : Msg) (hok : MsgOk M) : rformM M = (wrM M).isSome := by
  rw [wrM_eq M hok]
  cases hr : rformM M with
  | true =>
    rw [rform_body M hok hr]
    simp [(rform_facts M hr).2.1]
  | false =>
    cases hy : wBody M with
    | none => rfl
    | some ys =>
      by_cases hb : bareM M = M
      · rw [body_rform M hy hb] at hr; cases hr
      · simp [hb]
section
variable {P : Program} {w : World} {ops : Array Oper} {rest : List Oper} {o : Oper} {a : Act} {Q : Exit → Act → World → Prop} {e : TypeId} {z : Value}
/-- 'append(s[:n:n], x)': a new row. -/
theorem wpList_append_full (hgd : o.guard = none) (s x : Operand) (t : TypeId) (ho : o.op = .call { callee := .builtin .append, args := #[s, x], argTypes := #[t, t] })
    (size bytes : Nat) (ht : P.underlying t = some (.slice e)) (hi : (P.info? e).map (fun i => (i.zero, i.size, i.bytes)) = some (some z, size, bytes)) (hzs : z.cells.size = size) (hsz : 0 < size)
    (sa : Option Addr) (n : Nat) (olds news : List Value) (hs : a.eval s = .slice sa n n) (hlo : olds.length = n * size) (hsa : (sa = none ∧ n = 0) ∨ ∃ ad, sa = some ad ∧ ∀ j u, olds[j]? = some u → w.cell? (ad.add j) = some u)
    (ad : Addr) (hx : a.eval x = .slice (some ad) 1 1) (hl : news.length = size) (hnews : ∀ j u, news[j]? = some u → w.cell? (ad.add j) = some u) (h1 : ∀ u ∈ news, u.oneCell' = true) (hb1 : (n + 1) * bytes ≤ 140737488355328) (hb2 : n + 1 ≤ maxLen)
    (h : ∀ v' w', w'.ownsRow w.heap.size e size v' (n + 1) (olds ++ news) → Ext w w' → wpList P ops Q rest (a.put o.dst v') w') : wpList P ops Q (o :: rest) a w := by
  obtain ⟨i, hi, hz, hsize, hby⟩ := info_parts hi
  refine wpList_plain hgd fun K hK => ?_
  have key : ∃ v' w', (Builtin.append_ #[t, t] o.type #[.slice sa n n, .slice (some ad) 1 1]).run P w = .ok v' w' ∧ w'.ownsRow w.heap.size e size v' (n + 1) (olds ++ news) ∧ Ext w w' := by
    rcases hsa with ⟨rfl, rfl⟩ | ⟨b, rfl, holds⟩
    · have : olds = [] := List.eq_nil_of_length_eq_zero (by omega)
      subst this
      obtain ⟨v', w', hr, h2, h3, _⟩ := run_append_own_at (P := P) w w.heap.size t o.type e i z size bytes ht hi hz hsize hby hzs hsz (.slice none 0 0) 0 [] ⟨by simp, .inl ⟨rfl, rfl⟩⟩ ad 1 1 news (by omega) hnews h1 hb2 hb1 (Nat.le_refl _)
      exact ⟨v', w', hr, h2, ⟨h3.os, h3.tape, h3.output, h3.size, fun k hk => h3.block k hk (by simp [Value.ownBlock])⟩⟩
    · obtain ⟨v', w', hr, h2, h3⟩ := run_append_arg_grows (P := P) w t o.type e i z size bytes ht hi hz hsize hby hzs hsz b n n olds hlo holds ad 1 1 news (by omega) hnews (by omega) hb2 hb1
      exact ⟨v', w', hr, h2, ⟨h3.os, h3.tape, h3.output, h3.size, fun k hk => h3.block k hk (by simp)⟩⟩
  obtain ⟨v', w', hr, h2, h3⟩ := key
  unfold Oper.wp execOp
  simp only [ho, resolve, invoke, builtin, Sem.run_bind, Sem.run_pure, Result.andThen_ok, List.map_toArray, List.map_cons, List.map_nil, hs, hx, hr]
  exact hK _ _ (h v' w' h2 h3)
end
/-- A slice of one new message. -/
def One12 (q : MQ) (v : Value) (w : World) : Prop := ∃ g, v = .slice (some ⟨g, 0, none⟩) 1 1 ∧ ∀ (j : Nat) u, (mC q)[j]? = some u → w.cell? ⟨g, j, none⟩ = some u
theorem One12.ext {q : MQ} {v : Value} {w w' : World} (h : One12 q v w) (hE : Ext w w') : One12 q v w' := by
  obtain ⟨g, h1, h2⟩ := h
  exact ⟨g, h1, fun j u hj => hE.cell (h2 j u hj)⟩
/-- The list with one more, in a new row. -/
def More12 (B : Nat) (rows : List Value) (n : Nat) (v : Value) (w : World) : Prop := w.ownsRow B 34 12 v n rows
theorem More12.ext {B n : Nat} {rows : List Value} {v : Value} {w w' : World} (h : More12 B rows n v w) (hE : Ext w w') : More12 B rows n v w' := own_ext h hE
/-- What the document's Send answers. -/
def rsendE (M : Msg) (ws : List (Int × Int)) (n : Nat) : Int := if rformM M = false then 1 else if (M.src, M.dst) ∈ ws then 6 else if 256 ≤ n then 7 else 0
/-- One more is under way. -/
theorem RefN.push {w w5 : World} {r : Nat} {ls wv lv' : Value} {S : List MQ} {ws : List (Int × Int)} {A : List Nat} {q : MQ} (h : RefN w r ls wv S ws A) (hA : ∀ t ∈ A, t < w.heap.size) (hE : Ext w w5)
    (ho : w5.ownsRow w.heap.size 34 12 lv' (S.length + 1) ((S.map mC).flatten ++ mC q)) (hq : MsgR (fun k => k ∉ r :: A) w (mV q) q.1) (hok : MsgOk q.1) :
    RefN (w5.setCell ⟨r, 0, none⟩ lv') r lv' wv (S ++ [q]) ws A ∧ Chg [r] w (w5.setCell ⟨r, 0, none⟩ lv') := by
  have hr := h.rw.rb.lt
  have hC : Chg [r] w5 (w5.setCell ⟨r, 0, none⟩ lv') := Chg.set r 0 lv' (by simp)
  have hfr := own_ltB ho
  refine ⟨⟨⟨by simpa using (h.rw.rb.ext hE).set 0 lv', (h.rw.ways.ext hE).chg hC (fun a n c e _ hm => by simp at hm; exact (h.rw.wA a n c e).2 hm), h.rw.rA, h.rw.wA, fun a n c e => Nat.lt_of_lt_of_le (h.rw.wlt a n c e) (Nat.le_trans hE.size hC.size)⟩, ?_, fun a n c e => ?_, fun x hx => ?_⟩, (Chg.ext hE : Chg [r] w w5).trans hC⟩
  · refine RowV.chg (S := [r]) (RowV.of_own (s := 12) (rows := (S ++ [q]).map mC) (by simpa using ho) (mC_lens _)) hC (fun a n c e _ hm => ?_)
    have := (hfr a.block (by rw [e]; simp [Value.ownBlock])).2
    simp at hm
    omega
  · have h1 := hfr a.block (by rw [e]; simp [Value.ownBlock])
    exact ⟨fun hm => by have := hA _ hm; omega, by omega, by have := hC.size; omega⟩
  · have key : ∀ y : MQ, MsgR (fun k => k ∉ r :: A) w (mV y) y.1 → MsgR (fun k => k ∉ r :: A) (w5.setCell ⟨r, 0, none⟩ lv') (mV y) y.1 := fun y hy => (hy.ext hE).chg hC (fun t ht hr => by simp at ht; subst ht; exact hr (by simp))
    rcases List.mem_append.1 hx with h1 | h1
    · exact ⟨key x (h.ms x h1).1, (h.ms x h1).2⟩
    · rw [List.mem_singleton.1 h1]; exact ⟨key q hq, hok⟩
set_option maxRecDepth 100000 in
set_option maxHeartbeats 8000000 in
theorem rsend_c {w : World} {r : Nat} {ls wv : Value} {S : List MQ} {ws : List (Int × Int)} {A : List Nat} (h : RefN w r ls wv S ws A) (hA : ∀ t ∈ A, t < w.heap.size) (hl : S.length ≤ 1000) (q : MQ) (hq : MsgR (fun k => k ∉ r :: A) w (mV q) q.1) (hok : MsgOk q.1) :
    Calls Try.prog 14 #[ptr r, mV q] w fun e w' => e = .returned (.int .i64 (rsendE q.1 ws S.length)) ∧ ∃ ls', Chg [r] w w' ∧ (rsendE q.1 ws S.length ≠ 0 ∧ Ext w w' ∨ rsendE q.1 ws S.length = 0 ∧ RefN w' r ls' wv (S ++ [q]) ws A) := by
  have HQ := Lib.hid hq; have HOK := Lib.hid hok; have HH := Lib.hid h; have HA := Lib.hid hA
  obtain ⟨M, ev, mv, iv⟩ := q
  obtain ⟨a9, m9, c9, a10, m10, c10, a11, m11, c11, e⟩ := hq.toV.shape
  simp only [mV, mCells, Value.agg.injEq, Array.mk.injEq, List.cons.injEq, and_true, true_and] at e
  obtain ⟨rfl, rfl, rfl⟩ := e
  obtain ⟨E, hE⟩ : ∃ E, E = rsendE M ws S.length := ⟨_, rfl⟩
  rw [← hE]
  have HE := Lib.hid hE
  obtain ⟨L, hL⟩ : ∃ L, L = S.length := ⟨_, rfl⟩
  obtain ⟨sa, sc, rfl, hsc1, hsc2, hrows⟩ := h.list
  have hbox := Blk.new w #[.int .i64 M.kind, .int .u64 M.src, .int .u64 M.dst, .int .u64 M.term, .int .u64 M.index, .int .u64 M.logTerm, .int .u64 M.commit, .int .u64 M.stamp, .bool M.yes, .slice a9 m9 c9, .slice a10 m10 c10, .slice a11 m11 c11] 34
  have HE1 := Lib.hid (Ext.alloc w (.cells #[.int .i64 M.kind, .int .u64 M.src, .int .u64 M.dst, .int .u64 M.term, .int .u64 M.index, .int .u64 M.logTerm, .int .u64 M.commit, .int .u64 M.stamp, .bool M.yes, .slice a9 m9 c9, .slice a10 m10 c10, .slice a11 m11 c11] 34))
  have HB1 := Lib.hid hbox
  have HL := Lib.hid hL; have HROWS := Lib.hid hrows
  rw [List.length_map, ← hL] at hsc1
  rw [← hL] at hl
  replace hsc2 : sc ≤ 9223372036854775807 := by unfold maxLen at hsc2; omega
  clear h hA hq hok hE hL hrows hbox
  go_enter Try.func14, Try.ntmps14
  go_wp2_with (refine wpList_load_row rfl 34 (.tmp 3) rfl w.heap.size rfl 34 _ (0, 0) _ HB1.out Try.underlying34 rfl (by kernel_rfl) ?_)
  refine (rform_c _ M _ (HQ.out.toV.ext HE1.out) HOK.out).mono ?_
  rintro e w2 ⟨rfl, hE2⟩
  have HE2 := Lib.hid (HE1.out.trans hE2); have HB2 := Lib.hid (HB1.out.ext hE2)
  obtain ⟨fb, hfb⟩ : ∃ fb, fb = rformM M := ⟨_, rfl⟩
  rw [← hfb]
  have HFB := Lib.hid hfb.symm
  clear hE2 hfb HE1 HB1
  cases fb with
  | false =>
    go_wp2_with fail
    go_ret
    have e1 : E = 1 := by rw [HE.out]; unfold rsendE; rw [if_pos HFB.out]
    rw [e1]
    exact ⟨rfl, .slice none 0 0, Chg.ext HE2.out, .inl ⟨by decide, HE2.out⟩⟩
  | true =>
    have HN2 := Lib.hid (HH.out.ext HE2.out)
    obtain ⟨k0, k1, k2, k3, k4, k5, k6, k7, k8, k9, k10, k11⟩ := HB2.out.twelve
    clear k0 k3 k4 k5 k6 k7 k8 k9 k10 k11
    go_wp2_with fail
    refine (rblocked_c HN2.out.rw M.src M.dst).mono ?_
    rintro e w3 ⟨rfl, rfl⟩
    obtain ⟨z, hz⟩ : ∃ z, z = decide ((M.src, M.dst) ∈ ws) := ⟨_, rfl⟩
    rw [← hz]
    have HZ := Lib.hid hz.symm
    clear hz k1 k2
    cases z with
    | true =>
      go_wp2_with fail
      go_ret
      have e1 : E = 6 := by rw [HE.out]; unfold rsendE; rw [if_neg (by rw [HFB.out]; simp), if_pos (of_decide_eq_true HZ.out)]
      rw [e1]
      exact ⟨rfl, .slice none 0 0, Chg.ext HE2.out, .inl ⟨by decide, HE2.out⟩⟩
    | false =>
      have p0 := HN2.out.rw.rb.cell 0 rfl
      simp only [List.getElem_toArray, List.getElem_cons_zero, List.length_map] at p0
      rw [← HL.out] at p0
      by_cases hfull : 256 ≤ L
      · have hf : (256 : Int) ≤ (L : Int) := by omega
        go_wp2_with fail
        go_ret
        have e1 : E = 7 := by rw [HE.out]; unfold rsendE; rw [if_neg (by rw [HFB.out]; simp), if_neg (of_decide_eq_false HZ.out), if_pos (by rw [← HL.out]; exact hfull)]
        rw [e1]
        exact ⟨rfl, .slice none 0 0, Chg.ext HE2.out, .inl ⟨by decide, HE2.out⟩⟩
      · have hf : (L : Int) < 256 := by omega
        have e1 : E = 0 := by rw [HE.out]; unfold rsendE; rw [if_neg (by rw [HFB.out]; simp), if_neg (of_decide_eq_false HZ.out), if_neg (by rw [← HL.out]; exact hfull)]
        have HE0 := Lib.hid e1
        clear hfull e1
        have HLEN := Lib.hid (show (S.map mC).flatten.length = L * 12 from by rw [mC_flat, HL.out])
        have HONE := Lib.hid (show ∀ u ∈ mC (M, .slice a9 m9 c9, .slice a10 m10 c10, .slice a11 m11 c11), u.oneCell' = true from fun u hu => by simp [mC] at hu; rcases hu with e | e | e | e | e | e | e | e | e | e | e | e <;> subst e <;> rfl)
        have HSA := Lib.hid (show ∀ W : World, Ext w W → (sa = none ∧ L = 0) ∨ ∃ ad, sa = some ad ∧ ∀ j u, ((S.map mC).flatten)[j]? = some u → W.cell? (ad.add j) = some u from fun W hW => by
          rcases HROWS.out with h0 | ⟨b, o, rfl, hc⟩
          · have h1 : S = [] := List.map_eq_nil_iff.1 h0
            have h2 : L = 0 := by rw [HL.out, h1]; rfl
            cases sa with
            | none => exact .inl ⟨rfl, h2⟩
            | some ad => exact .inr ⟨ad, rfl, fun j u hj => by rw [h0] at hj; simp at hj⟩
          · refine .inr ⟨_, rfl, fun j u hj => ?_⟩
            have := rows_news (W := W) (sb := b) (so := o) (d := 0) (S := S) (fun i r hr j' u' hu => hW.cell (hc i r hr j' u' hu)) j u hj
            simpa using this)
        rcases sa with _ | sad
        · go_upto_region 7 with fail
          apply Mono.region1 21 Ext [.is _, .is _, .is _, .is _, .is _, .is _, .is _, .is _, .is _, .is _, .is _, .is _, .is _, .is _, .is _, .is _, .is _, .rel (One12 (M, .slice a9 m9 c9, .slice a10 m10 c10, .slice a11 m11 c11)), .rel (More12 w3.heap.size ((S.map mC).flatten ++ mC (M, .slice a9 m9 c9, .slice a10 m10 c10, .slice a11 m11 c11)) (L + 1)), .is _, .is _] (by kernel_rfl) Ext.refl (fun _ _ _ => Ext.trans) (by kernel_rfl) rfl rfl ⟨fun _ _ _ h hE => h.ext hE, fun _ _ _ h hE => More12.ext h hE, trivial⟩
          focus
            iterate 15 (apply Mono.step_is; (· refine Mono.obl_mk fun w7 hE7 _ K hK => ?_; (have q0 := hE7.cell (show w3.drew.cell? _ = _ from p0)); clear hE7; go_wp2_with fail; simp only [Act.put, List.setIfInBounds_toArray, List.set_cons_succ, List.set_cons_zero] at hK; exact hK _ _ (Ext.refl _) (Mono.is_rfl _ _)); simp only [Act.put, List.setIfInBounds_toArray, List.set_cons_succ, List.set_cons_zero])
            iterate 1 (apply Mono.step_is; (· refine Mono.obl_mk fun w7 hE7 _ K hK => ?_; (have q0 := hE7.cell (show w3.drew.cell? _ = _ from p0)); clear hE7; go_wp2_with fail; simp only [Act.put, List.setIfInBounds_toArray, List.set_cons_succ, List.set_cons_zero] at hK; exact hK _ _ (Ext.refl _) (Mono.is_rfl _ _)); simp only [Act.put, List.setIfInBounds_toArray, List.set_cons_succ, List.set_cons_zero])
            apply Mono.step_is
            · refine Mono.obl_mk fun w7 hE7 _ K hK => ?_
              have HB7 := Lib.hid (HB2.out.ext ((Ext.drew w3).trans hE7))
              clear hE7
              go_wp2_with (refine wpList_load_row rfl 34 (.tmp 3) rfl w.heap.size rfl 34 _ (0, 0) _ HB7.out Try.underlying34 rfl (by kernel_rfl) ?_)
              simp only [Act.put, List.setIfInBounds_toArray, List.set_cons_succ, List.set_cons_zero] at hK
              exact hK _ _ (Ext.refl _) (Mono.is_rfl _ _)
            simp only [Act.put, List.setIfInBounds_toArray, List.set_cons_succ, List.set_cons_zero]
            refine Mono.step_rel (Mono.obl_mk fun w12 hE12 _ K hK => ?_) fun v37 => ?_
            · clear hE12
              go_wp2_with fail
              simp only [Act.put, List.setIfInBounds_toArray, List.set_cons_succ, List.set_cons_zero] at hK
              exact hK _ _ (Ext.alloc _ _) (Mono.rel_mk ⟨w12.heap.size, rfl, fun j u hj => (Blk.new w12 _ _).cell j (by rw [List.getElem?_toArray]; exact hj)⟩)
            simp only [Act.put, List.setIfInBounds_toArray, List.set_cons_succ, List.set_cons_zero]
            refine Mono.step_rel (Mono.obl_mk fun w12 hE12 hkk K hK => ?_) fun v38 => ?_
            · obtain ⟨g1, rfl, hg1⟩ := hkk.1 (by kernel_rfl)
              have HG := Lib.hid hg1
              have HE12 := Lib.hid (show Ext w w12 from HE2.out.trans ((Ext.drew w3).trans hE12))
              have HS12 := Lib.hid (show w3.heap.size ≤ w12.heap.size from ((Ext.drew w3).trans hE12).size)
              clear hkk hE12 hg1
              go_wp2_with (at_builtin; refine wpList_append_full rfl (.tmp 35) (.tmp 37) _ rfl 12 144 Try.underlying22 infoMsg rfl (by omega) none L ((S.map mC).flatten) (mC (M, .slice a9 m9 c9, .slice a10 m10 c10, .slice a11 m11 c11)) rfl HLEN.out (by have := HSA.out w12 HE12.out; simpa using this) ⟨g1, 0, none⟩ rfl (mC_len _) (fun j u hj => by have := HG.out j u hj; cases j with | zero => exact this | succ k => simpa [Addr.add] using this) HONE.out (by omega) (by unfold maxLen; omega) ?_; intro v' w8 hh hE8; have HH8 := Lib.hid (own_low hh HS12.out); have HE8 := Lib.hid hE8; clear hh hE8)
              simp only [Act.put, List.setIfInBounds_toArray, List.set_cons_succ, List.set_cons_zero] at hK
              exact hK _ _ HE8.out (Mono.rel_mk HH8.out)
            simp only [Act.put, List.setIfInBounds_toArray, List.set_cons_succ, List.set_cons_zero]
            iterate 2 (apply Mono.step_is; (· refine Mono.obl_mk fun w7 hE7 _ K hK => ?_; (have q0 := hE7.cell (show w3.drew.cell? _ = _ from p0)); clear hE7; go_wp2_with fail; simp only [Act.put, List.setIfInBounds_toArray, List.set_cons_succ, List.set_cons_zero] at hK; exact hK _ _ (Ext.refl _) (Mono.is_rfl _ _)); simp only [Act.put, List.setIfInBounds_toArray, List.set_cons_succ, List.set_cons_zero])
            refine Mono.step_end fun w12 hE12 hkk => ?_
            simp only [List.drop_succ_cons, List.drop_zero]
            have HM := Lib.hid (show World.ownsRow _ _ _ _ _ _ _ from hkk.2.1)
            have HE12 := Lib.hid (show Ext w3 w12 from (Ext.drew w3).trans hE12)
            clear hkk
            have p1 := hE12.cell (show w3.drew.cell? _ = _ from p0)
            have f1 := (HN2.out.rw.rb.ext HE12.out).free 0
            clear hE12
            obtain ⟨ta, tn, tc, rfl⟩ := own_shape HM.out
            go_wp2_with fail
            go_ret
            have hq0 := HE0.out
            have hpush := RefN.push (lv' := .slice ta tn tc) HH.out HA.out (HE2.out.trans HE12.out) (by rw [← HL.out]; exact own_low HM.out HE2.out.size) HQ.out HOK.out
            rw [hq0]
            exact ⟨rfl, _, hpush.2, .inr ⟨rfl, hpush.1⟩⟩
        · go_upto_region 7 with fail
          apply Mono.region1 21 Ext [.is _, .is _, .is _, .is _, .is _, .is _, .is _, .is _, .is _, .is _, .is _, .is _, .is _, .is _, .is _, .is _, .is _, .rel (One12 (M, .slice a9 m9 c9, .slice a10 m10 c10, .slice a11 m11 c11)), .rel (More12 w3.heap.size ((S.map mC).flatten ++ mC (M, .slice a9 m9 c9, .slice a10 m10 c10, .slice a11 m11 c11)) (L + 1)), .is _, .is _] (by kernel_rfl) Ext.refl (fun _ _ _ => Ext.trans) (by kernel_rfl) rfl rfl ⟨fun _ _ _ h hE => h.ext hE, fun _ _ _ h hE => More12.ext h hE, trivial⟩
          focus
            iterate 15 (apply Mono.step_is; (· refine Mono.obl_mk fun w7 hE7 _ K hK => ?_; (have q0 := hE7.cell (show w3.drew.cell? _ = _ from p0)); clear hE7; go_wp2_with fail; simp only [Act.put, List.setIfInBounds_toArray, List.set_cons_succ, List.set_cons_zero] at hK; exact hK _ _ (Ext.refl _) (Mono.is_rfl _ _)); simp only [Act.put, List.setIfInBounds_toArray, List.set_cons_succ, List.set_cons_zero])
            iterate 1 (apply Mono.step_is; (· refine Mono.obl_mk fun w7 hE7 _ K hK => ?_; (have q0 := hE7.cell (show w3.drew.cell? _ = _ from p0)); clear hE7; go_wp2_with fail; simp only [Act.put, List.setIfInBounds_toArray, List.set_cons_succ, List.set_cons_zero] at hK; exact hK _ _ (Ext.refl _) (Mono.is_rfl _ _)); simp only [Act.put, List.setIfInBounds_toArray, List.set_cons_succ, List.set_cons_zero])
            apply Mono.step_is
            · refine Mono.obl_mk fun w7 hE7 _ K hK => ?_
              have HB7 := Lib.hid (HB2.out.ext ((Ext.drew w3).trans hE7))
              clear hE7
              go_wp2_with (refine wpList_load_row rfl 34 (.tmp 3) rfl w.heap.size rfl 34 _ (0, 0) _ HB7.out Try.underlying34 rfl (by kernel_rfl) ?_)
              simp only [Act.put, List.setIfInBounds_toArray, List.set_cons_succ, List.set_cons_zero] at hK
              exact hK _ _ (Ext.refl _) (Mono.is_rfl _ _)
            simp only [Act.put, List.setIfInBounds_toArray, List.set_cons_succ, List.set_cons_zero]
            refine Mono.step_rel (Mono.obl_mk fun w12 hE12 _ K hK => ?_) fun v37 => ?_
            · clear hE12
              go_wp2_with fail
              simp only [Act.put, List.setIfInBounds_toArray, List.set_cons_succ, List.set_cons_zero] at hK
              exact hK _ _ (Ext.alloc _ _) (Mono.rel_mk ⟨w12.heap.size, rfl, fun j u hj => (Blk.new w12 _ _).cell j (by rw [List.getElem?_toArray]; exact hj)⟩)
            simp only [Act.put, List.setIfInBounds_toArray, List.set_cons_succ, List.set_cons_zero]
            refine Mono.step_rel (Mono.obl_mk fun w12 hE12 hkk K hK => ?_) fun v38 => ?_
            · obtain ⟨g1, rfl, hg1⟩ := hkk.1 (by kernel_rfl)
              have HG := Lib.hid hg1
              have HE12 := Lib.hid (show Ext w w12 from HE2.out.trans ((Ext.drew w3).trans hE12))
              have HS12 := Lib.hid (show w3.heap.size ≤ w12.heap.size from ((Ext.drew w3).trans hE12).size)
              clear hkk hE12 hg1
              go_wp2_with (at_builtin; refine wpList_append_full rfl (.tmp 35) (.tmp 37) _ rfl 12 144 Try.underlying22 infoMsg rfl (by omega) (some sad) L ((S.map mC).flatten) (mC (M, .slice a9 m9 c9, .slice a10 m10 c10, .slice a11 m11 c11)) rfl HLEN.out (by have := HSA.out w12 HE12.out; simpa using this) ⟨g1, 0, none⟩ rfl (mC_len _) (fun j u hj => by have := HG.out j u hj; cases j with | zero => exact this | succ k => simpa [Addr.add] using this) HONE.out (by omega) (by unfold maxLen; omega) ?_; intro v' w8 hh hE8; have HH8 := Lib.hid (own_low hh HS12.out); have HE8 := Lib.hid hE8; clear hh hE8)
              simp only [Act.put, List.setIfInBounds_toArray, List.set_cons_succ, List.set_cons_zero] at hK
              exact hK _ _ HE8.out (Mono.rel_mk HH8.out)
            simp only [Act.put, List.setIfInBounds_toArray, List.set_cons_succ, List.set_cons_zero]
            iterate 2 (apply Mono.step_is; (· refine Mono.obl_mk fun w7 hE7 _ K hK => ?_; (have q0 := hE7.cell (show w3.drew.cell? _ = _ from p0)); clear hE7; go_wp2_with fail; simp only [Act.put, List.setIfInBounds_toArray, List.set_cons_succ, List.set_cons_zero] at hK; exact hK _ _ (Ext.refl _) (Mono.is_rfl _ _)); simp only [Act.put, List.setIfInBounds_toArray, List.set_cons_succ, List.set_cons_zero])
            refine Mono.step_end fun w12 hE12 hkk => ?_
            simp only [List.drop_succ_cons, List.drop_zero]
            have HM := Lib.hid (show World.ownsRow _ _ _ _ _ _ _ from hkk.2.1)
            have HE12 := Lib.hid (show Ext w3 w12 from (Ext.drew w3).trans hE12)
            clear hkk
            have p1 := hE12.cell (show w3.drew.cell? _ = _ from p0)
            have f1 := (HN2.out.rw.rb.ext HE12.out).free 0
            clear hE12
            obtain ⟨ta, tn, tc, rfl⟩ := own_shape HM.out
            go_wp2_with fail
            go_ret
            have hq0 := HE0.out
            have hpush := RefN.push (lv' := .slice ta tn tc) HH.out HA.out (HE2.out.trans HE12.out) (by rw [← HL.out]; exact own_low HM.out HE2.out.size) HQ.out HOK.out
            rw [hq0]
            exact ⟨rfl, _, hpush.2, .inr ⟨rfl, hpush.1⟩⟩
end Go.Proofs.Ytjodgbabfhcilaa
