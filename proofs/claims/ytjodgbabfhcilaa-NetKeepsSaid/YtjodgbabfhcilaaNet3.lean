/- net: New and Send. -/
import Derived.Test.YtjodgbabfhcilaaNet2
import Derived.Maps.AppendAt
set_option linter.unusedSimpArgs false
set_option linter.unusedVariables false
namespace Go.Proofs.Ytjodgbabfhcilaa
open Go Go.RowKit Go.Maps

section
variable {P : Program} {w : World} {ops : Array Oper} {rest : List Oper} {o : Oper} {a : Act} {Q : Exit → Act → World → Prop} {t e : TypeId} {z : Value} {bytes : Nat} {v : Value} {xs : List Value}
/-- 'append(s, u)', and where the new slice lies. -/
theorem wpList_push_at (hgd : o.guard = none) (s x : Operand) (t' : TypeId) (ho : o.op = .call { callee := .builtin .append, args := #[s, x], argTypes := #[t', t'] })
    (hT : ElT P t' e z bytes) (base : Nat) (v : Value) (n : Nat) (xs : List Value) (u : Value) (hs : a.eval s = v) (hown : w.ownsRow base e 1 v n xs) (e' : TypeId) (hx : a.eval x = .slice (some ⟨w.heap.size, 0, none⟩) 1 1) (h1 : u.oneCell' = true)
    (hb1 : (n + 1) * bytes ≤ 140737488355328) (hb2 : n + 1 ≤ maxLen) (hbase : base ≤ w.heap.size)
    (h : ∀ v' w', w'.ownsRow base e 1 v' (n + 1) (xs ++ [u]) → w.grownBy w' v.ownBlock → (v'.ownBlock = v.ownBlock ∨ v'.ownBlock = some (w.heap.size + 1)) → wpList P ops Q rest (a.put o.dst v') w') : wpList P ops Q (o :: rest) a (w.alloc (.cells #[u] e')) := by
  obtain ⟨i, hi, hz, hsz, hby⟩ := hT.info
  refine wpList_append_own_at (w.alloc (.cells #[u] e')) hgd s x t' ho base e i z 1 bytes hT.ty hi hz hsz hby hT.one (by decide) v n xs hs (hown.alloc _) _ 1 1 [u] hx rfl (cell_one_new _ _ _) (by simpa using h1) (by omega) hb1 (by simp; omega) fun v' w' g1 g2 _ g4 => h v' w' g1 ?_ (by simpa using g4)
  have ga := World.grownBy_alloc w (.cells #[u] e') v.ownBlock
  refine ⟨g2.os.trans ga.os, g2.tape.trans ga.tape, g2.output.trans ga.output, Nat.le_trans ga.size g2.size, fun k hk hne => (g2.block k (by have := ga.size; omega) hne).trans (ga.block k hk hne)⟩
end
theorem ItOk.step {w w' : World} {A A' S : List Nat} {q : Item} (h : ItOk w A q) (hg : Chg S w w') (hS : ∀ t ∈ S, t ∈ A ∨ w.heap.size ≤ t) (hA : ∀ t ∈ A', t ∈ A ∨ w.heap.size ≤ t) : ItOk w' A' q := by
  obtain ⟨bs, h1, h2, h3, h4⟩ := h
  exact ⟨bs, h1, h2.chgA h3 hg hS, h3.more h2 hA, h4⟩
/-- One more is under way. -/
theorem NetS.push {w0 w w5 : World} {p m k : Nat} {lv lv' : Value} {l : List Item} {W : WL} (h : NetS w0 w p m lv l k W) (q : Item)
    (ho : w5.ownsRow w0.heap.size 32 1 lv' (l.length + 1) (l.map (·.1) ++ [q.1])) (hC : Chg lv.ownBlock.toList w w5) (hb : lv'.ownBlock = lv.ownBlock ∨ ∃ g, lv'.ownBlock = some g ∧ w.heap.size ≤ g) (hq : ItOk w (NMut p m lv) q) :
    NetS w0 (w5.setCell ⟨p, 0, none⟩ lv') p m lv' (l ++ [q]) k W ∧ Chg (NMut p m lv) w (w5.setCell ⟨p, 0, none⟩ lv') ∧ (∀ t ∈ lv'.ownBlock.toList, t ∈ lv.ownBlock.toList ∨ w.heap.size ≤ t) := by
  have hC2 : Chg (NMut p m lv) w w5 := hC.mono fun t ht => .inl (by simp [NMut, ht])
  have hC3 : Chg (NMut p m lv) w (w5.setCell ⟨p, 0, none⟩ lv') := hC2.trans (Chg.set p 0 lv' (by simp [NMut]))
  have hn : ∀ t ∈ lv'.ownBlock.toList, t ∈ lv.ownBlock.toList ∨ w.heap.size ≤ t := fun t ht => by
    rcases hb with hb | ⟨g, hb, hge⟩
    · rw [hb] at ht; exact .inl ht
    · rw [hb] at ht; simp at ht; right; omega
  have hp : p ∉ lv'.ownBlock.toList := fun hm => by
    rcases hn p hm with h1 | h1
    · exact h.pl h1
    · have := h.pb.lt; omega
  have hm : m ∉ lv'.ownBlock.toList := fun hm => by
    rcases hn m hm with h1 | h1
    · exact h.ml h1
    · have := World.ownsMap.lt h.wl; omega
  have hC4 : Chg (p :: lv.ownBlock.toList) w (w5.setCell ⟨p, 0, none⟩ lv') := (hC.mono fun t ht => .inl (by simp [ht])).trans (Chg.set p 0 lv' (by simp))
  refine ⟨⟨by simpa using (h.pb.chg hC h.pl).set 0 lv', ?_, own_chgM h.wl hC4 ?_, ?_, h.pm, hp, hm, h.newp, h.newm, ?_⟩, hC3, hn⟩
  · rw [List.length_append, List.map_append]
    exact own_off ho (Chg.set (S := [p]) p 0 lv' (by simp)) (fun t ht hm => by simp at hm; subst hm; exact hp ht)
  · intro hm2
    rcases List.mem_cons.1 hm2 with e | e
    · exact h.pm e.symm
    · exact h.ml e
  · intro q' hq'
    have hA : ∀ t ∈ NMut p m lv', t ∈ NMut p m lv ∨ w.heap.size ≤ t := fun t ht => by
      simp only [NMut, List.mem_cons] at ht ⊢
      rcases ht with h1 | h1 | h1
      · exact .inl (.inl h1)
      · exact .inl (.inr (.inl h1))
      · rcases hn t h1 with h2 | h2
        · exact .inl (.inr (.inr h2))
        · exact .inr h2
    rcases List.mem_append.1 hq' with h1 | h1
    · exact (h.it q' h1).step hC3 (fun t ht => .inl ht) hA
    · rw [List.mem_singleton.1 h1]; exact hq.step hC3 (fun t ht => .inl ht) hA
  · exact Chg.below h.old hC3 h.old.size (fun t ht => (h.mut_lt t ht).2)
theorem wrM_fine {M : Msg} (hok : MsgOk M) {bs : List Int} (h : wrM M = some bs) : B8 bs ∧ bs.length ≤ 1000000 := by
  rw [wrM_eq M hok] at h
  cases hy : wBody M with
  | none => rw [hy] at h; cases h
  | some ys =>
    rw [hy] at h
    have hf := wBody_fine M hok hy
    dsimp only at h
    split at h
    · cases h
      refine ⟨fun x hx => ?_, by have := hf.2; simp only [List.length_cons]; omega⟩
      rcases List.mem_cons.1 hx with rfl | hx
      · omega
      · exact hf.1 x hx
    · cases h
/-- What Send answers. -/
def sendE (X : Option (List Int)) (b : Bool) (n : Nat) : Int := match X with
  | none => 1
  | some _ => if b then 6 else if 256 ≤ n then 7 else 0
/-- What Send leaves. -/
def SendOut (w0 w : World) (p m k : Nat) (lv : Value) (l : List Item) (W : WL) (M : Msg) (e : Int) (w' : World) : Prop :=
  ∃ lv' l', NetS w0 w' p m lv' l' k W ∧ Chg (NMut p m lv) w w' ∧ (∀ t ∈ lv'.ownBlock.toList, t ∈ lv.ownBlock.toList ∨ w.heap.size ≤ t) ∧
    (e ≠ 0 ∧ l' = l ∧ lv' = lv ∧ Ext w w' ∨ e = 0 ∧ ∃ bv, From w.heap.size bv ∧ l' = l ++ [(bv, M)])
theorem SendOut.none' {w0 w w' : World} {p m k : Nat} {lv : Value} {l : List Item} {W : WL} {M : Msg} {e : Int} (h : NetS w0 w p m lv l k W) (hE : Ext w w') (he : e ≠ 0) : SendOut w0 w p m k lv l W M e w' :=
  ⟨lv, l, h.ext hE, Chg.ext hE, fun t ht => .inl ht, .inl ⟨he, rfl, rfl, hE⟩⟩
theorem nnew_c (w : World) : Calls Try.prog 8 #[] w fun e w' => ∃ p m, e = .returned (ptr p) ∧ NetS w w' p m (.slice none 0 0) [] 0 [] := by
  have hmm := @run_makeMap Try.prog
  go_enter Try.func8, Try.ntmps8
  go_wp2_with fail
  go_ret
  refine ⟨w.heap.size + 1, w.heap.size, rfl, ?_⟩
  have hE1 := Ext.alloc w (.map #[] 0)
  have hB := Blk.new (w.alloc (.map #[] 0)) #[.slice none 0 0, .map (some w.heap.size)] 60
  have hE2 := Ext.alloc (w.alloc (.map #[] 0)) (.cells #[.slice none 0 0, .map (some w.heap.size)] 60)
  exact ⟨by simpa using hB, ⟨rfl, .inl ⟨rfl, rfl⟩⟩, own_chgM (Walls.made w) (Chg.ext hE2 : Chg [] _ _) (by simp), (fun q hq => by cases hq), by omega, by simp [Value.ownBlock], by simp [Value.ownBlock], by omega, by omega, hE1.trans hE2⟩
set_option maxHeartbeats 4000000 in
theorem nsend_nil (v : Value) (M : Msg) (w : World) (hv : MsgV w 0 v M) : Calls Try.prog 9 #[.pointer none, v] w (RetIs (.int .i64 6) w) := by
  obtain ⟨a9, m9, c9, a10, m10, c10, a11, m11, c11, rfl⟩ := hv.shape
  clear hv
  go_enter Try.func9, Try.ntmps9
  go_wp2_with fail
  go_ret
  exact ⟨rfl, Ext.alloc _ _⟩
set_option maxRecDepth 100000 in
set_option maxHeartbeats 4000000 in
theorem nsend_c {w0 w : World} {p m k : Nat} {lv : Value} {l : List Item} {W : WL} (h : NetS w0 w p m lv l k W) (hl : l.length ≤ 1000) (v : Value) (M : Msg) (hv : MsgV w 0 v M) (hok : MsgOk M) :
    Calls Try.prog 9 #[ptr p, v] w fun e w' => e = .returned (.int .i64 (sendE (wrM M) (wall W M.src M.dst) l.length)) ∧ SendOut w0 w p m k lv l W M (sendE (wrM M) (wall W M.src M.dst) l.length) w' := by
  obtain ⟨E, hE⟩ : ∃ E, E = sendE (wrM M) (wall W M.src M.dst) l.length := ⟨_, rfl⟩
  rw [← hE]
  have HE := Lib.hid hE
  have HN := Lib.hid h; have HV := Lib.hid hv; have HOK := Lib.hid hok
  obtain ⟨a9, m9, c9, a10, m10, c10, a11, m11, c11, rfl⟩ := hv.shape
  clear h hv hok hE
  go_enter Try.func9, Try.ntmps9
  obtain ⟨cs, hcs⟩ : ∃ cs : Array Value, cs = #[.int .i64 M.kind, .int .u64 M.src, .int .u64 M.dst, .int .u64 M.term, .int .u64 M.index, .int .u64 M.logTerm, .int .u64 M.commit, .int .u64 M.stamp, .bool M.yes, .slice a9 m9 c9, .slice a10 m10 c10, .slice a11 m11 c11] := ⟨_, rfl⟩
  have hB1 := Blk.new w #[.int .i64 M.kind, .int .u64 M.src, .int .u64 M.dst, .int .u64 M.term, .int .u64 M.index, .int .u64 M.logTerm, .int .u64 M.commit, .int .u64 M.stamp, .bool M.yes, .slice a9 m9 c9, .slice a10 m10 c10, .slice a11 m11 c11] 34
  have HE1 := Lib.hid (Ext.alloc w (.cells #[.int .i64 M.kind, .int .u64 M.src, .int .u64 M.dst, .int .u64 M.term, .int .u64 M.index, .int .u64 M.logTerm, .int .u64 M.commit, .int .u64 M.stamp, .bool M.yes, .slice a9 m9 c9, .slice a10 m10 c10, .slice a11 m11 c11] 34))
  have HB1 := Lib.hid hB1
  clear hB1 hcs
  go_wp2_with (refine wpList_load_row rfl 34 (.tmp 3) rfl w.heap.size rfl 34 _ (0, 0) _ HB1.out Try.underlying34 rfl (by kernel_rfl) ?_)
  refine (mput_c _ M 0 _ (HV.out.ext HE1.out) HOK.out).mono ?_
  rintro e w1 ⟨hE1, bv, ec, rfl, hX⟩
  have HE2 := Lib.hid (HE1.out.trans hE1)
  have HB2 := Lib.hid (HB1.out.ext hE1)
  obtain ⟨X, hXe⟩ : ∃ X, X = wrM M := ⟨_, rfl⟩
  rw [← hXe] at hX HE
  have HX := Lib.hid hXe.symm
  clear hE1 hXe HE1 HB1
  cases X with
  | none =>
    obtain ⟨rfl, rfl⟩ := hX
    go_wp2_with fail
    go_ret
    have e1 : E = 1 := HE.out
    rw [e1]
    exact ⟨rfl, SendOut.none' HN.out HE2.out (by decide)⟩
  | some bs =>
    obtain ⟨rfl, hrd, hfr⟩ := hX
    have HRD := Lib.hid hrd; have HFR := Lib.hid hfr
    have HN1 := Lib.hid (HN.out.ext HE2.out)
    obtain ⟨k0, k1, k2, k3, k4, k5, k6, k7, k8, k9, k10, k11⟩ := HB2.out.twelve
    have hsrc := HOK.out.src; have hdst := HOK.out.dst
    have HFI := Lib.hid (wrM_fine HOK.out HX.out)
    obtain ⟨va, vn, vc, rfl⟩ := hrd.shape
    clear hrd hfr k0 k3 k4 k5 k6 k7 k8 k9 k10 k11
    go_wp2_with fail
    refine (nblocked_c HN1.out hsrc hdst).mono ?_
    rintro e w2 ⟨rfl, hE2⟩
    have HE3 := Lib.hid (HE2.out.trans hE2); have HN2 := Lib.hid (HN1.out.ext hE2); have HRD2 := Lib.hid (HRD.out.ext hE2)
    clear hE2 k1 k2 hsrc hdst
    obtain ⟨b, hb⟩ : ∃ b, b = wall W M.src M.dst := ⟨_, rfl⟩
    rw [← hb] at HE ⊢
    clear hb
    cases b with
    | true =>
      go_wp2_with fail
      go_ret
      have e1 : E = 6 := HE.out
      rw [e1]
      exact ⟨rfl, SendOut.none' HN.out HE3.out (by decide)⟩
    | false =>
      obtain ⟨la, lc, hlv, hlc, hlm⟩ := HN2.out.sh
      have p0 := HN2.out.pb.cell 0 rfl
      simp only [List.getElem_toArray, List.getElem_cons_zero] at p0
      rw [hlv] at p0
      obtain ⟨L, hL⟩ : ∃ L, L = l.length := ⟨_, rfl⟩
      rw [← hL] at p0 hl HE
      have HL := Lib.hid hL; have HLV := Lib.hid hlv
      clear hL hlv
      by_cases hfull : 256 ≤ L
      · have hf : (256 : Int) ≤ (L : Int) := by omega
        go_wp2_with fail
        go_ret
        have e1 : E = 7 := by have := HE.out; simpa [sendE, hfull] using this
        rw [e1]
        exact ⟨rfl, SendOut.none' HN.out HE3.out (by decide)⟩
      · have hf : (L : Int) < 256 := by omega
        clear hfull
        have HOWN := Lib.hid (show w2.ownsRow w0.heap.size 32 1 (.slice la L lc) L (l.map (·.1)) from by rw [HL.out, ← HLV.out]; exact HN2.out.own)
        have HPL := Lib.hid HN2.out.pl
        go_wp2_with (at_builtin; refine wpList_push_at rfl (.tmp 36) (.tmp 38) _ rfl elS w0.heap.size (.slice la L lc) L (l.map (·.1)) (.slice va vn vc) rfl HOWN.out 32 rfl rfl (by omega) (by unfold maxLen; omega) HN2.out.old.size ?_; intro lv' w5 ho5 hg5 hb5; obtain ⟨xa, xn, xc, rfl⟩ := own_shape ho5; have HO5 := Lib.hid ho5; have HG5 := Lib.hid hg5; have HB5 := Lib.hid hb5; have hpb5 := HN2.out.pb.chg (Chg.grown hg5) (by rw [HL.out, ← HLV.out]; exact HPL.out); have q0 := hpb5.cell 0 rfl; have hfz := hpb5.free 0; simp only [List.getElem_toArray, List.getElem_cons_zero] at q0; clear ho5 hg5 hb5 hpb5 p0)
        go_ret
        have e1 : E = 0 := by have := HE.out; rw [this]; unfold sendE; simp; omega
        rw [e1]
        rw [HL.out, ← HLV.out] at HB5 HG5
        rw [HL.out] at HO5
        obtain ⟨r1, r2, r3⟩ := HN2.out.push (.slice va vn vc, M) HO5.out (Chg.grown HG5.out) (HB5.out.imp id fun e => ⟨_, e, Nat.le_succ _⟩) ⟨bs, HX.out, HRD2.out, (HFR.out).off (fun t ht => by have := (HN.out.mut_lt t ht).1; simp; omega), HFI.out.1, HFI.out.2, HOK.out⟩
        refine ⟨rfl, _, _, r1, (Chg.ext HE3.out : Chg (NMut p m lv) w w2).trans r2, fun t ht => ?_, .inr ⟨rfl, _, HFR.out.mono (by simp), rfl⟩⟩
        rcases r3 t ht with h1 | h1
        · exact .inl h1
        · exact .inr (Nat.le_trans HE3.out.size h1)
end Go.Proofs.Ytjodgbabfhcilaa
