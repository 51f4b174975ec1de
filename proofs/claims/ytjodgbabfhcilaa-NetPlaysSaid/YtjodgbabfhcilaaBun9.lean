/- Parts of the proof, in plain words at the head of each: Net2, Net3, Net4, Net5, Net6, Net7. -/
import Derived.Test.YtjodgbabfhcilaaBun2
import Derived.Test.YtjodgbabfhcilaaRform
import Derived.Maps.AppendAt
import Derived.Test.YtjodgbabfhcilaaBun1
set_option linter.unusedSimpArgs false
set_option linter.unusedVariables false
/- net: a net in memory; New, Len, Block, Blocked; and of no net. -/
namespace Go.Proofs.Ytjodgbabfhcilaa
open Go Go.RowKit Go.Maps

/-- A message under way: its bytes' value, and the message. -/
abbrev Item := Value × Msg
/-- What a net writes to. -/
def NMut (p m : Nat) (lv : Value) : List Nat := p :: m :: lv.ownBlock.toList
def ItOk (w : World) (A : List Nat) (q : Item) : Prop := ∃ bs, wrM q.2 = some bs ∧ Rd w q.1 (u8s bs) ∧ OffL q.1 (u8s bs) A ∧ B8 bs ∧ bs.length ≤ 1000000 ∧ MsgOk q.2
theorem ItOk.chg {w w' : World} {A S : List Nat} {q : Item} (h : ItOk w A q) (hg : Chg S w w') (hS : ∀ t ∈ S, t ∈ A ∨ w.heap.size ≤ t) : ItOk w' A q := by
  obtain ⟨bs, h1, h2, h3, h4⟩ := h
  exact ⟨bs, h1, h2.chgA h3 hg hS, h3, h4⟩
theorem ItOk.more {w : World} {A A' : List Nat} {q : Item} (h : ItOk w A q) (hA : ∀ t ∈ A', t ∈ A ∨ w.heap.size ≤ t) : ItOk w A' q := by
  obtain ⟨bs, h1, h2, h3, h4⟩ := h
  exact ⟨bs, h1, h2, h3.more h2 hA, h4⟩
theorem ItOk.shape {w : World} {A : List Nat} {q : Item} (h : ItOk w A q) : ∃ a n c, q.1 = .slice a n c := by obtain ⟨_, _, h, _⟩ := h; exact h.shape
/-- p is a net: l under way, the ways of W blocked (at most k in the map m); all of it is newer than w0. -/
structure NetS (w0 w : World) (p m : Nat) (lv : Value) (l : List Item) (k : Nat) (W : WL) : Prop where
  pb : Blk w p #[lv, .map (some m)] 60
  own : w.ownsRow w0.heap.size 32 1 lv l.length (l.map (·.1))
  wl : Walls w m k W
  it : ∀ q ∈ l, ItOk w (NMut p m lv) q
  pm : p ≠ m
  pl : p ∉ lv.ownBlock.toList
  ml : m ∉ lv.ownBlock.toList
  newp : w0.heap.size ≤ p
  newm : w0.heap.size ≤ m
  old : Ext w0 w
section
variable {w0 w w' : World} {p m k : Nat} {lv : Value} {l : List Item} {W : WL}
theorem NetS.one (h : NetS w0 w p m lv l k W) : ∀ u ∈ l.map (·.1), u.oneCell' = true := by
  intro u hu
  obtain ⟨q, hq, rfl⟩ := List.mem_map.1 hu
  obtain ⟨a, n, c, e⟩ := (h.it q hq).shape
  rw [e]; rfl
theorem NetS.ext (h : NetS w0 w p m lv l k W) (hE : Ext w w') : NetS w0 w' p m lv l k W :=
  ⟨h.pb.ext hE, own_ext h.own hE, own_chgM h.wl (Chg.ext hE : Chg [] w w') (by simp), fun q hq => (h.it q hq).chg (Chg.ext hE : Chg [] w w') (by simp), h.pm, h.pl, h.ml, h.newp, h.newm, h.old.trans hE⟩
theorem NetS.sh (h : NetS w0 w p m lv l k W) : ∃ a c, lv = .slice a l.length c ∧ l.length ≤ c ∧ c ≤ maxLen := by
  rcases h.own.2 with ⟨h1, h2⟩ | ⟨g, cap, cur, h1, _, _, h2, h3, _⟩
  · exact ⟨none, 0, by rw [h1, h2], by omega, by unfold maxLen; omega⟩
  · exact ⟨_, cap, h1, h2, h3⟩
theorem NetS.mut_lt (h : NetS w0 w p m lv l k W) : ∀ t ∈ NMut p m lv, t < w.heap.size ∧ w0.heap.size ≤ t := by
  intro t ht
  simp only [NMut, List.mem_cons] at ht
  rcases ht with rfl | rfl | ht
  · exact ⟨h.pb.lt, h.newp⟩
  · exact ⟨World.ownsMap.lt h.wl, h.newm⟩
  · rcases h.own.2 with ⟨h1, _⟩ | ⟨g, cap, cur, h1, h2, h3, _⟩
    · rw [h1] at ht; simp [Value.ownBlock] at ht
    · rw [h1] at ht; simp [Value.ownBlock] at ht; subst ht
      exact ⟨(Array.getElem?_eq_some_iff.1 h3).1, h2⟩
theorem own_off {S : List Nat} {base : Nat} {e : TypeId} {size : Nat} {v : Value} {n : Nat} {xs : List Value} (h : w.ownsRow base e size v n xs) (hg : Chg S w w') (hS : ∀ t ∈ v.ownBlock.toList, t ∉ S) : w'.ownsRow base e size v n xs := by
  obtain ⟨h1, h2⟩ := h
  refine ⟨h1, ?_⟩
  rcases h2 with h2 | ⟨g, cap, cur, hv, hg', hh, r⟩
  · exact .inl h2
  · exact .inr ⟨g, cap, cur, hv, hg', (hg.block g (Array.getElem?_eq_some_iff.1 hh).1 (hS g (by rw [hv]; simp [Value.ownBlock]))).trans hh, r⟩
/-- .. behind a change of the map alone. -/
theorem NetS.ways {k' : Nat} {W' : WL} (h : NetS w0 w p m lv l k W) (hg : Chg [m] w w') (hW : Walls w' m k' W') : NetS w0 w' p m lv l k' W' := by
  refine ⟨h.pb.chg hg (by simp; exact h.pm), own_off h.own hg (fun t ht hm => by simp at hm; subst hm; exact h.ml ht), hW, fun q hq => (h.it q hq).chg hg (fun t ht => .inl (by simp at ht; subst ht; simp [NMut])), h.pm, h.pl, h.ml, h.newp, h.newm, ?_⟩
  exact Chg.below h.old hg h.old.size (fun t ht => by simp at ht; subst ht; exact h.newm)
end

set_option maxHeartbeats 1000000 in
theorem nlen_nil (w : World) : Calls Try.prog 12 #[.pointer none] w fun e w' => e = .returned (.int .i64 0) ∧ w' = w := by
  go_enter Try.func12, Try.ntmps12
  go_wp2_with fail
  go_ret
  exact ⟨rfl, rfl⟩
set_option maxHeartbeats 1000000 in
theorem nlen_c {w0 w : World} {p m k : Nat} {lv : Value} {l : List Item} {W : WL} (h : NetS w0 w p m lv l k W) : Calls Try.prog 12 #[ptr p] w fun e w' => e = .returned (.int .i64 (l.length : Int)) ∧ w' = w := by
  obtain ⟨a, c, rfl, h1, h2⟩ := h.sh
  have c0 := h.pb.cell 0 rfl
  simp only [List.getElem_toArray, List.getElem_cons_zero] at c0
  obtain ⟨L, hL⟩ : ∃ L, L = l.length := ⟨_, rfl⟩
  rw [← hL] at c0 h1 ⊢
  clear hL h
  have h3 : L ≤ 9223372036854775807 := by unfold maxLen at h2; omega
  go_enter Try.func12, Try.ntmps12
  go_wp2_with fail
  go_ret
  exact ⟨rfl, rfl⟩
set_option maxHeartbeats 1000000 in
theorem nblocked_nil (a b : Int) (w : World) : Calls Try.prog 24 #[.pointer none, .int .u64 a, .int .u64 b] w fun e w' => e = .returned (.bool true) ∧ w' = w := by
  go_enter Try.func24, Try.ntmps24
  go_wp2_with fail
  go_ret
  exact ⟨rfl, rfl⟩
set_option maxHeartbeats 1000000 in
theorem nblocked_c {w0 w : World} {p m k : Nat} {lv : Value} {l : List Item} {W : WL} (h : NetS w0 w p m lv l k W) {a b : Int} (ha : U64 a) (hb : U64 b) :
    Calls Try.prog 24 #[ptr p, .int .u64 a, .int .u64 b] w (RetIs (.bool (wall W a b)) w) := by
  have c1 := h.pb.cell 1 rfl
  simp only [List.getElem_toArray, List.getElem_cons_zero, List.getElem_cons_succ] at c1
  have hlook := h.wl.look ha hb
  obtain ⟨z, hz⟩ : ∃ z, z = wall W a b := ⟨_, rfl⟩
  rw [← hz] at hlook ⊢
  clear hz h
  go_enter Try.func24, Try.ntmps24
  go_wp2_with fail
  go_ret
  exact ⟨rfl, Ext.alloc _ _⟩
set_option maxHeartbeats 1000000 in
theorem nblock_nil (a b : Int) (y : Bool) (w : World) : Calls Try.prog 21 #[.pointer none, .int .u64 a, .int .u64 b, .bool y] w fun e w' => e = .returned (.tuple #[]) ∧ w' = w := by
  go_enter Try.func21, Try.ntmps21
  go_wp2_with fail
  exact bodyPost_end (results_none Try.results21 _ _ _) rfl ⟨rfl, rfl⟩
/-- The ways behind a Block. -/
def walled (W : WL) (a b : Int) (y : Bool) : WL := if y then putG (wayK a b) () W else delG (wayK a b) W
set_option maxHeartbeats 1000000 in
theorem nblock_c {w0 w : World} {p m k : Nat} {lv : Value} {l : List Item} {W : WL} (h : NetS w0 w p m lv l k W) (hk : k < maxLen) {a b : Int} (ha : U64 a) (hb : U64 b) (y : Bool) :
    Calls Try.prog 21 #[ptr p, .int .u64 a, .int .u64 b, .bool y] w fun e w' => e = .returned (.tuple #[]) ∧ NetS w0 w' p m lv l (k + 1) (walled W a b y) ∧ Chg [m] w w' := by
  have c1 := h.pb.cell 1 rfl
  simp only [List.getElem_toArray, List.getElem_cons_zero, List.getElem_cons_succ] at c1
  cases y with
  | true =>
    obtain ⟨w', hrun, hw, hg, _⟩ := h.wl.put hk ha hb
    have HF := Lib.hid (show NetS w0 w' p m lv l (k + 1) (walled W a b true) ∧ Chg [m] w w' from ⟨h.ways hg hw, hg⟩)
    clear h hw hg
    go_enter Try.func21, Try.ntmps21
    go_wp2_with fail
    exact bodyPost_end (results_none Try.results21 _ _ _) rfl ⟨rfl, HF.out⟩
  | false =>
    obtain ⟨w', hrun, hw, hg, _⟩ := h.wl.drop ha hb 0
    have HF := Lib.hid (show NetS w0 w' p m lv l (k + 1) (walled W a b false) ∧ Chg [m] w w' from ⟨h.ways hg (World.ownsMap.mono hw (Nat.le_succ _)), hg⟩)
    clear h hw hg
    go_enter Try.func21, Try.ntmps21
    go_wp2_with fail
    exact bodyPost_end (results_none Try.results21 _ _ _) rfl ⟨rfl, HF.out⟩
end Go.Proofs.Ytjodgbabfhcilaa

/- net: New and Send. -/
namespace Go.Proofs.Ytjodgbabfhcilaa
open Go Go.RowKit Go.Maps

section
variable {P : Program} {w : World} {ops : Array Oper} {rest : List Oper} {o : Oper} {a : Act} {Q : Exit → Act → World → Prop} {t e : TypeId} {z : Value} {bytes : Nat} {v : Value} {xs : List Value}
/-- 'append(s, u)', and where the new slice lies. -/
theorem wpList_push_at (hgd : o.guard = none) (s x : Operand) (t' : TypeId) (ho : o.op = .call { callee := .builtin .append, args := #[s, x], argTypes := #[t', t'] })
    (hT : ElT P t' e z bytes) (base : Nat) (v : Value) (n : Nat) (xs : List Value) (u : Value) (hs : a.eval s = v) (hown : w.ownsRow base e 1 v n xs) (e' : TypeId) (hx : a.eval x = .slice (some ⟨w.heap.size, 0, none⟩) 1 1) (h1 : u.oneCell' = true)
    (hb1 : (n + 1) * bytes ≤ 140737488355328) (hb2 : n + 1 ≤ maxLen) (hbase : base ≤ w.heap.size)
    (h : ∀ v' w', w'.ownsRow base e 1 v' (n + 1) (xs ++ [u]) → w.grownBy w' v.ownBlock → (v'.ownBlock = v.ownBlock ∨ v'.ownBlock = some (w.heap.size + 1)) → wpList P ops Q rest (a.put o.dst v') w') : wpList P ops Q (o :: rest) a (w.alloc (.cells #[u] e')) := by
  obtain ⟨i, hi, hz, hsz, hby⟩ := hT.info
  refine wpList_append_own_at (w.alloc (.cells #[u] e')) hgd s x t' ho base e i z 1 bytes hT.ty hi hz hsz hby hT.one (by decide) v n xs hs (hown.alloc _) _ 1 1 [u] hx rfl (cell_one_new _ _ _) (by simpa using h1) (by omega) hb1 (by simp; omega) fun v' w' g1 g2 _ g4 => h v' w' g1 ?_ (by simpa using g4)
  have ga := World.grownBy_alloc w (.cells #[u] e') v.ownBlock
  refine ⟨g2.os.trans ga.os, g2.tape.trans ga.tape, g2.output.trans ga.output, Nat.le_trans ga.size g2.size, fun k hk hne => (g2.block k (by have := ga.size; omega) hne).trans (ga.block k hk hne)⟩
end
theorem ItOk.step {w w' : World} {A A' S : List Nat} {q : Item} (h : ItOk w A q) (hg : Chg S w w') (hS : ∀ t ∈ S, t ∈ A ∨ w.heap.size ≤ t) (hA : ∀ t ∈ A', t ∈ A ∨ w.heap.size ≤ t) : ItOk w' A' q := by
  obtain ⟨bs, h1, h2, h3, h4⟩ := h
  exact ⟨bs, h1, h2.chgA h3 hg hS, h3.more h2 hA, h4⟩
/-- One more is under way. -/
theorem NetS.push {w0 w w5 : World} {p m k : Nat} {lv lv' : Value} {l : List Item} {W : WL} (h : NetS w0 w p m lv l k W) (q : Item)
    (ho : w5.ownsRow w0.heap.size 32 1 lv' (l.length + 1) (l.map (·.1) ++ [q.1])) (hC : Chg lv.ownBlock.toList w w5) (hb : lv'.ownBlock = lv.ownBlock ∨ ∃ g, lv'.ownBlock = some g ∧ w.heap.size ≤ g) (hq : ItOk w (NMut p m lv) q) :
    NetS w0 (w5.setCell ⟨p, 0, none⟩ lv') p m lv' (l ++ [q]) k W ∧ Chg (NMut p m lv) w (w5.setCell ⟨p, 0, none⟩ lv') ∧ (∀ t ∈ lv'.ownBlock.toList, t ∈ lv.ownBlock.toList ∨ w.heap.size ≤ t) := by
  have hC2 : Chg (NMut p m lv) w w5 := hC.mono fun t ht => .inl (by simp [NMut, ht])
  have hC3 : Chg (NMut p m lv) w (w5.setCell ⟨p, 0, none⟩ lv') := hC2.trans (Chg.set p 0 lv' (by simp [NMut]))
  have hn : ∀ t ∈ lv'.ownBlock.toList, t ∈ lv.ownBlock.toList ∨ w.heap.size ≤ t := fun t ht => by
    rcases hb with hb | ⟨g, hb, hge⟩
    · rw [hb] at ht; exact .inl ht
    · rw [hb] at ht; simp at ht; right; omega
  have hp : p ∉ lv'.ownBlock.toList := fun hm => by
    rcases hn p hm with h1 | h1
    · exact h.pl h1
    · have := h.pb.lt; omega
  have hm : m ∉ lv'.ownBlock.toList := fun hm => by
    rcases hn m hm with h1 | h1
    · exact h.ml h1
    · have := World.ownsMap.lt h.wl; omega
  have hC4 : Chg (p :: lv.ownBlock.toList) w (w5.setCell ⟨p, 0, none⟩ lv') := (hC.mono fun t ht => .inl (by simp [ht])).trans (Chg.set p 0 lv' (by simp))
  refine ⟨⟨by simpa using (h.pb.chg hC h.pl).set 0 lv', ?_, own_chgM h.wl hC4 ?_, ?_, h.pm, hp, hm, h.newp, h.newm, ?_⟩, hC3, hn⟩
  · rw [List.length_append, List.map_append]
    exact own_off ho (Chg.set (S := [p]) p 0 lv' (by simp)) (fun t ht hm => by simp at hm; subst hm; exact hp ht)
  · intro hm2
    rcases List.mem_cons.1 hm2 with e | e
    · exact h.pm e.symm
    · exact h.ml e
  · intro q' hq'
    have hA : ∀ t ∈ NMut p m lv', t ∈ NMut p m lv ∨ w.heap.size ≤ t := fun t ht => by
      simp only [NMut, List.mem_cons] at ht ⊢
      rcases ht with h1 | h1 | h1
      · exact .inl (.inl h1)
      · exact .inl (.inr (.inl h1))
      · rcases hn t h1 with h2 | h2
        · exact .inl (.inr (.inr h2))
        · exact .inr h2
    rcases List.mem_append.1 hq' with h1 | h1
    · exact (h.it q' h1).step hC3 (fun t ht => .inl ht) hA
    · rw [List.mem_singleton.1 h1]; exact hq.step hC3 (fun t ht => .inl ht) hA
  · exact Chg.below h.old hC3 h.old.size (fun t ht => (h.mut_lt t ht).2)
theorem wrM_fine {M : Msg} (hok : MsgOk M) {bs : List Int} (h : wrM M = some bs) : B8 bs ∧ bs.length ≤ 1000000 := by
  rw [wrM_eq M hok] at h
  cases hy : wBody M with
  | none => rw [hy] at h; cases h
  | some ys =>
    rw [hy] at h
    have hf := wBody_fine M hok hy
    dsimp only at h
    split at h
    · cases h
      refine ⟨fun x hx => ?_, by have := hf.2; simp only [List.length_cons]; omega⟩
      rcases List.mem_cons.1 hx with rfl | hx
      · omega
      · exact hf.1 x hx
    · cases h
/-- What Send answers. -/
def sendE (X : Option (List Int)) (b : Bool) (n : Nat) : Int := match X with
  | none => 1
  | some _ => if b then 6 else if 256 ≤ n then 7 else 0
/-- What Send leaves. -/
def SendOut (w0 w : World) (p m k : Nat) (lv : Value) (l : List Item) (W : WL) (M : Msg) (e : Int) (w' : World) : Prop :=
  ∃ lv' l', NetS w0 w' p m lv' l' k W ∧ Chg (NMut p m lv) w w' ∧ (∀ t ∈ lv'.ownBlock.toList, t ∈ lv.ownBlock.toList ∨ w.heap.size ≤ t) ∧
    (e ≠ 0 ∧ l' = l ∧ lv' = lv ∧ Ext w w' ∨ e = 0 ∧ ∃ bv, From w.heap.size bv ∧ l' = l ++ [(bv, M)])
theorem SendOut.none' {w0 w w' : World} {p m k : Nat} {lv : Value} {l : List Item} {W : WL} {M : Msg} {e : Int} (h : NetS w0 w p m lv l k W) (hE : Ext w w') (he : e ≠ 0) : SendOut w0 w p m k lv l W M e w' :=
  ⟨lv, l, h.ext hE, Chg.ext hE, fun t ht => .inl ht, .inl ⟨he, rfl, rfl, hE⟩⟩
theorem nnew_c (w : World) : Calls Try.prog 8 #[] w fun e w' => ∃ p m, e = .returned (ptr p) ∧ NetS w w' p m (.slice none 0 0) [] 0 [] := by
  have hmm := @run_makeMap Try.prog
  go_enter Try.func8, Try.ntmps8
  go_wp2_with fail
  go_ret
  refine ⟨w.heap.size + 1, w.heap.size, rfl, ?_⟩
  have hE1 := Ext.alloc w (.map #[] 0)
  have hB := Blk.new (w.alloc (.map #[] 0)) #[.slice none 0 0, .map (some w.heap.size)] 60
  have hE2 := Ext.alloc (w.alloc (.map #[] 0)) (.cells #[.slice none 0 0, .map (some w.heap.size)] 60)
  exact ⟨by simpa using hB, ⟨rfl, .inl ⟨rfl, rfl⟩⟩, own_chgM (Walls.made w) (Chg.ext hE2 : Chg [] _ _) (by simp), (fun q hq => by cases hq), by omega, by simp [Value.ownBlock], by simp [Value.ownBlock], by omega, by omega, hE1.trans hE2⟩
set_option maxHeartbeats 4000000 in
theorem nsend_nil (v : Value) (M : Msg) (w : World) (hv : MsgV w 0 v M) : Calls Try.prog 9 #[.pointer none, v] w (RetIs (.int .i64 6) w) := by
  obtain ⟨a9, m9, c9, a10, m10, c10, a11, m11, c11, rfl⟩ := hv.shape
  clear hv
  go_enter Try.func9, Try.ntmps9
  go_wp2_with fail
  go_ret
  exact ⟨rfl, Ext.alloc _ _⟩
set_option maxRecDepth 100000 in
set_option maxHeartbeats 4000000 in
theorem nsend_c {w0 w : World} {p m k : Nat} {lv : Value} {l : List Item} {W : WL} (h : NetS w0 w p m lv l k W) (hl : l.length ≤ 1000) (v : Value) (M : Msg) (hv : MsgV w 0 v M) (hok : MsgOk M) :
    Calls Try.prog 9 #[ptr p, v] w fun e w' => e = .returned (.int .i64 (sendE (wrM M) (wall W M.src M.dst) l.length)) ∧ SendOut w0 w p m k lv l W M (sendE (wrM M) (wall W M.src M.dst) l.length) w' := by
  obtain ⟨E, hE⟩ : ∃ E, E = sendE (wrM M) (wall W M.src M.dst) l.length := ⟨_, rfl⟩
  rw [← hE]
  have HE := Lib.hid hE
  have HN := Lib.hid h; have HV := Lib.hid hv; have HOK := Lib.hid hok
  obtain ⟨a9, m9, c9, a10, m10, c10, a11, m11, c11, rfl⟩ := hv.shape
  clear h hv hok hE
  go_enter Try.func9, Try.ntmps9
  obtain ⟨cs, hcs⟩ : ∃ cs : Array Value, cs = #[.int .i64 M.kind, .int .u64 M.src, .int .u64 M.dst, .int .u64 M.term, .int .u64 M.index, .int .u64 M.logTerm, .int .u64 M.commit, .int .u64 M.stamp, .bool M.yes, .slice a9 m9 c9, .slice a10 m10 c10, .slice a11 m11 c11] := ⟨_, rfl⟩
  have hB1 := Blk.new w #[.int .i64 M.kind, .int .u64 M.src, .int .u64 M.dst, .int .u64 M.term, .int .u64 M.index, .int .u64 M.logTerm, .int .u64 M.commit, .int .u64 M.stamp, .bool M.yes, .slice a9 m9 c9, .slice a10 m10 c10, .slice a11 m11 c11] 34
  have HE1 := Lib.hid (Ext.alloc w (.cells #[.int .i64 M.kind, .int .u64 M.src, .int .u64 M.dst, .int .u64 M.term, .int .u64 M.index, .int .u64 M.logTerm, .int .u64 M.commit, .int .u64 M.stamp, .bool M.yes, .slice a9 m9 c9, .slice a10 m10 c10, .slice a11 m11 c11] 34))
  have HB1 := Lib.hid hB1
  clear hB1 hcs
  go_wp2_with (refine wpList_load_row rfl 34 (.tmp 3) rfl w.heap.size rfl 34 _ (0, 0) _ HB1.out Try.underlying34 rfl (by kernel_rfl) ?_)
  refine (mput_c _ M 0 _ (HV.out.ext HE1.out) HOK.out).mono ?_
  rintro e w1 ⟨hE1, bv, ec, rfl, hX⟩
  have HE2 := Lib.hid (HE1.out.trans hE1)
  have HB2 := Lib.hid (HB1.out.ext hE1)
  obtain ⟨X, hXe⟩ : ∃ X, X = wrM M := ⟨_, rfl⟩
  rw [← hXe] at hX HE
  have HX := Lib.hid hXe.symm
  clear hE1 hXe HE1 HB1
  cases X with
  | none =>
    obtain ⟨rfl, rfl⟩ := hX
    go_wp2_with fail
    go_ret
    have e1 : E = 1 := HE.out
    rw [e1]
    exact ⟨rfl, SendOut.none' HN.out HE2.out (by decide)⟩
  | some bs =>
    obtain ⟨rfl, hrd, hfr⟩ := hX
    have HRD := Lib.hid hrd; have HFR := Lib.hid hfr
    have HN1 := Lib.hid (HN.out.ext HE2.out)
    obtain ⟨k0, k1, k2, k3, k4, k5, k6, k7, k8, k9, k10, k11⟩ := HB2.out.twelve
    have hsrc := HOK.out.src; have hdst := HOK.out.dst
    have HFI := Lib.hid (wrM_fine HOK.out HX.out)
    obtain ⟨va, vn, vc, rfl⟩ := hrd.shape
    clear hrd hfr k0 k3 k4 k5 k6 k7 k8 k9 k10 k11
    go_wp2_with fail
    refine (nblocked_c HN1.out hsrc hdst).mono ?_
    rintro e w2 ⟨rfl, hE2⟩
    have HE3 := Lib.hid (HE2.out.trans hE2); have HN2 := Lib.hid (HN1.out.ext hE2); have HRD2 := Lib.hid (HRD.out.ext hE2)
    clear hE2 k1 k2 hsrc hdst
    obtain ⟨b, hb⟩ : ∃ b, b = wall W M.src M.dst := ⟨_, rfl⟩
    rw [← hb] at HE ⊢
    clear hb
    cases b with
    | true =>
      go_wp2_with fail
      go_ret
      have e1 : E = 6 := HE.out
      rw [e1]
      exact ⟨rfl, SendOut.none' HN.out HE3.out (by decide)⟩
    | false =>
      obtain ⟨la, lc, hlv, hlc, hlm⟩ := HN2.out.sh
      have p0 := HN2.out.pb.cell 0 rfl
      simp only [List.getElem_toArray, List.getElem_cons_zero] at p0
      rw [hlv] at p0
      obtain ⟨L, hL⟩ : ∃ L, L = l.length := ⟨_, rfl⟩
      rw [← hL] at p0 hl HE
      have HL := Lib.hid hL; have HLV := Lib.hid hlv
      clear hL hlv
      by_cases hfull : 256 ≤ L
      · have hf : (256 : Int) ≤ (L : Int) := by omega
        go_wp2_with fail
        go_ret
        have e1 : E = 7 := by have := HE.out; simpa [sendE, hfull] using this
        rw [e1]
        exact ⟨rfl, SendOut.none' HN.out HE3.out (by decide)⟩
      · have hf : (L : Int) < 256 := by omega
        clear hfull
        have HOWN := Lib.hid (show w2.ownsRow w0.heap.size 32 1 (.slice la L lc) L (l.map (·.1)) from by rw [HL.out, ← HLV.out]; exact HN2.out.own)
        have HPL := Lib.hid HN2.out.pl
        go_wp2_with (at_builtin; refine wpList_push_at rfl (.tmp 36) (.tmp 38) _ rfl elS w0.heap.size (.slice la L lc) L (l.map (·.1)) (.slice va vn vc) rfl HOWN.out 32 rfl rfl (by omega) (by unfold maxLen; omega) HN2.out.old.size ?_; intro lv' w5 ho5 hg5 hb5; obtain ⟨xa, xn, xc, rfl⟩ := own_shape ho5; have HO5 := Lib.hid ho5; have HG5 := Lib.hid hg5; have HB5 := Lib.hid hb5; have hpb5 := HN2.out.pb.chg (Chg.grown hg5) (by rw [HL.out, ← HLV.out]; exact HPL.out); have q0 := hpb5.cell 0 rfl; have hfz := hpb5.free 0; simp only [List.getElem_toArray, List.getElem_cons_zero] at q0; clear ho5 hg5 hb5 hpb5 p0)
        go_ret
        have e1 : E = 0 := by have := HE.out; rw [this]; unfold sendE; simp; omega
        rw [e1]
        rw [HL.out, ← HLV.out] at HB5 HG5
        rw [HL.out] at HO5
        obtain ⟨r1, r2, r3⟩ := HN2.out.push (.slice va vn vc, M) HO5.out (Chg.grown HG5.out) (HB5.out.imp id fun e => ⟨_, e, Nat.le_succ _⟩) ⟨bs, HX.out, HRD2.out, (HFR.out).off (fun t ht => by have := (HN.out.mut_lt t ht).1; simp; omega), HFI.out.1, HFI.out.2, HOK.out⟩
        refine ⟨rfl, _, _, r1, (Chg.ext HE3.out : Chg (NMut p m lv) w w2).trans r2, fun t ht => ?_, .inr ⟨rfl, _, HFR.out.mono (by simp), rfl⟩⟩
        rcases r3 t ht with h1 | h1
        · exact .inl h1
        · exact .inr (Nat.le_trans HE3.out.size h1)
end Go.Proofs.Ytjodgbabfhcilaa

/- net: At. -/
namespace Go.Proofs.Ytjodgbabfhcilaa
open Go Go.RowKit Go.Maps

theorem wrM_get {M : Msg} (hok : MsgOk M) {bs : List Int} (h : wrM M = some bs) : getM bs = .ok M := by
  rw [wrM_eq M hok] at h
  cases hy : wBody M with
  | none => rw [hy] at h; cases h
  | some ys =>
    rw [hy] at h
    dsimp only at h
    split at h
    · rename_i hb
      cases h
      rw [getM_put M hok hy, hb]
    · cases h
/-- What At answers. -/
def atN (ms : List Msg) (i : Int) : Msg × Int := if 0 ≤ i ∧ i < (ms.length : Int) then ((ms[i.toNat]?).getD Msg.zero, 0) else (Msg.zero, 9)
/-- How At ends. -/
def AtOut (X : Msg × Int) (w : World) (e : Ending) (w' : World) : Prop := ∃ v, e = .returned (.tuple #[v, .int .i64 X.2]) ∧ MsgV w' w.heap.size v X.1 ∧ Ext w w'
theorem msgV_zero (w : World) (B : Nat) : MsgV w B (.agg (zc 0)) Msg.zero := ⟨_, _, _, rfl, EntsV.nil _ _, ⟨Rd.nil _, From.nil _⟩, Rd.nil _, From.nil _⟩
theorem msgU_zero (w : World) : MsgU w (.agg (zc 0)) := ⟨Msg.zero, _, _, _, rfl, EntsU.nil _, UnA.nil _, UnA.nil _⟩
theorem MsgU.chg {S : List Nat} {w w' : World} {B : Nat} {v : Value} {M : Msg} (h : MsgU w v) (hV : MsgV w B v M) (hg : Chg S w w') (hS : ∀ t ∈ S, t < B) : MsgU w' v := by
  obtain ⟨m, ev, mv, iv, e, u1, u2, u3⟩ := h
  obtain ⟨ev', mv', iv', e', k1, k2, k3⟩ := hV
  rw [e] at e'
  have e3 : ev = ev' ∧ mv = mv' ∧ iv = iv' := by simp [mCells] at e'; exact ⟨e'.2.2.2.2.2.2.2.2.2.1, e'.2.2.2.2.2.2.2.2.2.2.1, e'.2.2.2.2.2.2.2.2.2.2.2⟩
  obtain ⟨rfl, rfl, rfl⟩ := e3
  exact ⟨m, _, _, _, e, u1.chg k1 hg hS, ((show RdW _ _ _ from ⟨k2.1, u2⟩).chg hg (k2.2.off hS)).2, ((show RdW _ _ _ from ⟨k3.1, u3⟩).chg hg (k3.2.off hS)).2⟩
/-- What At answers, in memory that may be written. -/
def AtOutU (X : Msg × Int) (w : World) (e : Ending) (w' : World) : Prop := ∃ v, e = .returned (.tuple #[v, .int .i64 X.2]) ∧ MsgV w' w.heap.size v X.1 ∧ Ext w w' ∧ MsgU w' v
theorem zc_one : (zc 0).all (·.oneCell') = true := by simp [Value.oneCell']
theorem zc_size : (Try.prog.info? 34).map (·.size) = some (zc 0).size := by kernel_rfl
theorem Blk.msg {w : World} {b : Nat} {e : TypeId} {c0 c1 c2 c3 c4 c5 c6 c7 c8 c9 c10 c11 : Value} (h : Blk w b #[c0, c1, c2, c3, c4, c5, c6, c7, c8, c9, c10, c11] e) (d0 d1 d2 d3 d4 d5 d6 d7 d8 d9 d10 d11 : Value) :
    Blk (w.setRow b #[d0, d1, d2, d3, d4, d5, d6, d7, d8, d9, d10, d11]) b #[d0, d1, d2, d3, d4, d5, d6, d7, d8, d9, d10, d11] e := h.row _
set_option maxHeartbeats 1000000 in
theorem nat_fin (p : Nat) (c : Int) (c0 c1 c2 c3 c4 c5 c6 c7 c8 c9 c10 c11 : Value) (F : World) (tmps : Array Value) (R : Ending → World → Prop) (hB : Blk F p #[c0, c1, c2, c3, c4, c5, c6, c7, c8, c9, c10, c11] 34)
    (h4 : tmps[4]? = some (ptr p)) (h5 : tmps[5]? = some (.int .i64 c)) (hR : R (.returned (.tuple #[.agg #[c0, c1, c2, c3, c4, c5, c6, c7, c8, c9, c10, c11], .int .i64 c])) F) :
    bodyPost Try.prog Try.f17 R .ret { tmps := tmps, defers := [] } F := by
  obtain ⟨x0, x1, x2, x3, x4, x5, x6, x7, x8, x9, x10, x11⟩ := hB.twelve
  refine bodyPost_ret (v := .tuple #[.agg #[c0, c1, c2, c3, c4, c5, c6, c7, c8, c9, c10, c11], .int .i64 c]) ?_ rfl hR
  simp [results, Try.results17, go_sem, h4, h5, x0, x1, x2, x3, x4, x5, x6, x7, x8, x9, x10, x11]
theorem setRow_ext {w w1 : World} {b : Nat} (hE : Ext w w1) (hb : w.heap.size ≤ b) (cs : Array Value) : Ext w (w1.setRow b cs) :=
  ((Chg.ext hE : Chg [b] w w1).trans (Chg.some (grown_row w1 b cs) (.inl (by simp)))).toExt (fun t ht => by simp at ht; omega)
set_option maxHeartbeats 4000000 in
theorem nat_nil (i : Int) (hi : -9223372036854775808 ≤ i ∧ i ≤ 9223372036854775807) (w : World) : Calls Try.prog 17 #[.pointer none, .int .i64 i] w (AtOut (Msg.zero, 9) w) := by
  obtain ⟨w1, hw1⟩ : ∃ w1, w1 = w.alloc (.cells (zc 0) 34) := ⟨_, rfl⟩
  have HE1 := Lib.hid (show Ext w w1 from by rw [hw1]; exact Ext.alloc _ _)
  have HB1 := Lib.hid (show Blk w1 w.heap.size (zc 0) 34 from by rw [hw1]; exact Blk.new _ _ _)
  have HW := Lib.hid hw1
  clear hw1
  by_cases h0 : i < 0
  · go_enter Try.func17, Try.ntmps17
    go_upto_region 1 with fail
    rw [← HW.out]
    go_wp2_with (refine wpList_store_row rfl 34 (.tmp 4) (.tmp 14) rfl w.heap.size (zc 0) rfl rfl 34 _ HB1.out zc_size rfl zc_one ?_)
    exact nat_fin w.heap.size 9 _ _ _ _ _ _ _ _ _ _ _ _ _ _ _ (HB1.out.row _) rfl rfl ⟨_, rfl, msgV_zero _ _, setRow_ext HE1.out (Nat.le_refl _) _⟩
  · have h1 : 0 ≤ i := by omega
    clear h0
    go_enter Try.func17, Try.ntmps17
    go_upto_region 1 with fail
    rw [← HW.out]
    go_wp2_with fail
    refine (nlen_nil w1).mono ?_
    rintro e w2 ⟨rfl, rfl⟩
    go_wp2_with (refine wpList_store_row rfl 34 (.tmp 4) (.tmp 14) rfl w.heap.size (zc 0) rfl rfl 34 _ HB1.out zc_size rfl zc_one ?_)
    exact nat_fin w.heap.size 9 _ _ _ _ _ _ _ _ _ _ _ _ _ _ _ (HB1.out.row _) rfl rfl ⟨_, rfl, msgV_zero _ _, setRow_ext HE1.out (Nat.le_refl _) _⟩
set_option maxHeartbeats 4000000 in
theorem nat_u {w0 w : World} {p m k : Nat} {lv : Value} {l : List Item} {W : WL} (h : NetS w0 w p m lv l k W) (hl : l.length ≤ 1000) (i : Int) (hi : -9223372036854775808 ≤ i ∧ i ≤ 9223372036854775807) :
    Calls Try.prog 17 #[ptr p, .int .i64 i] w (AtOutU (atN (l.map (·.2)) i) w) := by
  obtain ⟨w1, hw1⟩ : ∃ w1, w1 = w.alloc (.cells (zc 0) 34) := ⟨_, rfl⟩
  have HE1 := Lib.hid (show Ext w w1 from by rw [hw1]; exact Ext.alloc _ _)
  have HB1 := Lib.hid (show Blk w1 w.heap.size (zc 0) 34 from by rw [hw1]; exact Blk.new _ _ _)
  have HW := Lib.hid hw1
  have HN := Lib.hid (h.ext HE1.out)
  clear hw1 h
  obtain ⟨hi0, hi1⟩ := hi
  obtain ⟨X, hX⟩ : ∃ X, X = atN (l.map (·.2)) i := ⟨_, rfl⟩
  rw [← hX]
  unfold atN at hX
  rw [List.length_map] at hX
  by_cases h0 : i < 0
  · obtain rfl : X = (Msg.zero, 9) := by rw [hX, if_neg (by omega)]
    clear hX
    go_enter Try.func17, Try.ntmps17
    go_upto_region 1 with fail
    rw [← HW.out]
    go_wp2_with (refine wpList_store_row rfl 34 (.tmp 4) (.tmp 14) rfl w.heap.size (zc 0) rfl rfl 34 _ HB1.out zc_size rfl zc_one ?_)
    exact nat_fin w.heap.size 9 _ _ _ _ _ _ _ _ _ _ _ _ _ _ _ (HB1.out.row _) rfl rfl ⟨_, rfl, msgV_zero _ _, setRow_ext HE1.out (Nat.le_refl _) _, msgU_zero _⟩
  obtain ⟨n, rfl⟩ := Int.eq_ofNat_of_zero_le (show 0 ≤ i by omega)
  have h1 : (0 : Int) ≤ (n : Int) := by omega
  clear h0
  obtain ⟨L, hL⟩ : ∃ L, L = l.length := ⟨_, rfl⟩
  have HL := Lib.hid hL
  rw [← hL] at hX hl
  clear hL
  by_cases h2 : L ≤ n
  · obtain rfl : X = (Msg.zero, 9) := by rw [hX, if_neg (by omega)]
    clear hX
    have h3 : (L : Int) ≤ (n : Int) := by omega
    have hLE := Lib.hid (nlen_c HN.out)
    rw [← HL.out] at hLE
    go_enter Try.func17, Try.ntmps17
    go_upto_region 1 with fail
    rw [← HW.out]
    go_wp2_with fail
    refine hLE.out.mono ?_
    rintro e w2 ⟨rfl, rfl⟩
    go_wp2_with (refine wpList_store_row rfl 34 (.tmp 4) (.tmp 14) rfl w.heap.size (zc 0) rfl rfl 34 _ HB1.out zc_size rfl zc_one ?_)
    exact nat_fin w.heap.size 9 _ _ _ _ _ _ _ _ _ _ _ _ _ _ _ (HB1.out.row _) rfl rfl ⟨_, rfl, msgV_zero _ _, setRow_ext HE1.out (Nat.le_refl _) _, msgU_zero _⟩
  · have h3 : n < L := by omega
    clear h2
    obtain ⟨q, hq⟩ : ∃ q, l[n]? = some q := ⟨_, List.getElem?_eq_getElem (by have := HL.out; omega)⟩
    obtain rfl : X = (q.2, 0) := by rw [hX, if_pos (by omega)]; simp [hq]
    clear hX
    obtain ⟨bs, hwr, hrd, _, hb8, hbl, hok⟩ := HN.out.it q (List.mem_of_getElem? hq)
    have HRD := Lib.hid hrd
    have HG := Lib.hid (wrM_get hok hwr)
    have HB8 := Lib.hid hb8
    obtain ⟨va, vn, vc, hv⟩ := hrd.shape
    obtain ⟨g, lc, rfl, hnc, hcl⟩ : ∃ g lc, lv = .slice (some ⟨g, 0, none⟩) L lc ∧ L ≤ lc ∧ w1.cell? ⟨g, n, none⟩ = some q.1 := by
      rcases HN.out.own.2 with ⟨_, h1⟩ | ⟨g, cap, cur, h1, _, hh, h4, _, h5, h6⟩
      · have := HL.out; omega
      · refine ⟨g, cap, by rw [h1, HL.out], by rw [HL.out]; exact h4, ?_⟩
        refine (show Blk w1 g cur _ from hh).cell n ?_
        have hn : (cur.toList.take (l.length * 1))[n]? = some q.1 := by rw [h6, List.getElem?_map, hq]; rfl
        rw [List.getElem?_take] at hn
        split at hn
        · simpa using hn
        · cases hn
    have p0 := HN.out.pb.cell 0 rfl
    simp only [List.getElem_toArray, List.getElem_cons_zero] at p0
    have h4 : (n : Int) < (L : Int) := by omega
    have hLE := Lib.hid (nlen_c HN.out)
    rw [← HL.out] at hLE
    rw [hv] at hcl HRD
    clear hwr hrd hb8 hok hv hq hi0 hi1
    go_enter Try.func17, Try.ntmps17
    go_upto_region 1 with fail
    rw [← HW.out]
    go_wp2_with fail
    refine hLE.out.mono ?_
    rintro e w2 ⟨rfl, rfl⟩
    go_wp2_with fail
    refine (mget_c _ bs _ HRD.out HB8.out (by omega)).mono ?_
    rintro e w3 ⟨hE3, v3, e3, x3, rfl, ⟨hv3, hu3⟩, hc⟩
    rw [HG.out] at hc
    obtain ⟨rfl, rfl⟩ := hc
    obtain ⟨a9, m9, c9, a10, m10, c10, a11, m11, c11, rfl⟩ := hv3.shape
    have HB3 := Lib.hid (HB1.out.ext hE3); have HE3 := Lib.hid (HE1.out.trans hE3); have HV3 := Lib.hid (hv3); have HU3 := Lib.hid hu3
    have HS := Lib.hid (show w.heap.size + 1 = w2.heap.size from by rw [HW.out]; simp)
    have hmc : (#[.int .i64 q.2.kind, .int .u64 q.2.src, .int .u64 q.2.dst, .int .u64 q.2.term, .int .u64 q.2.index, .int .u64 q.2.logTerm, .int .u64 q.2.commit, .int .u64 q.2.stamp, .bool q.2.yes, .slice a9 m9 c9, .slice a10 m10 c10, .slice a11 m11 c11] : Array Value) = mCells q.2 (.slice a9 m9 c9) (.slice a10 m10 c10) (.slice a11 m11 c11) := rfl
    have HMC := Lib.hid hmc
    clear hE3 hv3 hu3 hcl p0 hmc
    go_wp2_with (refine wpList_store_row rfl 34 (.tmp 4) (.tmp 23) rfl w.heap.size (mCells q.2 (.slice a9 m9 c9) (.slice a10 m10 c10) (.slice a11 m11 c11)) rfl rfl 34 _ HB3.out (mCells_size _ _ _ _) rfl (mCells_one _ _ _ _ _ _ _ _ _ _) ?_)
    have hbk := HB3.out.row (mCells q.2 (.slice a9 m9 c9) (.slice a10 m10 c10) (.slice a11 m11 c11))
    refine nat_fin w.heap.size 0 _ _ _ _ _ _ _ _ _ _ _ _ _ _ _ hbk rfl rfl ⟨_, rfl, ?_, setRow_ext HE3.out (Nat.le_refl _) _, HU3.out.chg HV3.out (Chg.some (S := [w.heap.size]) (grown_row w3 w.heap.size _) (.inl (by simp))) (fun t ht => by simp at ht; have := HS.out; omega)⟩
    have hg := Chg.some (S := [w.heap.size]) (grown_row w3 w.heap.size (mCells q.2 (.slice a9 m9 c9) (.slice a10 m10 c10) (.slice a11 m11 c11))) (.inl (by simp))
    have hz := HV3.out.chg hg (fun t ht => by simp at ht; have := HS.out; omega)
    obtain ⟨ev, mv, iv, e, k1, k2, k3⟩ := hz
    have hle : w.heap.size ≤ w2.heap.size := by have := HS.out; omega
    exact ⟨ev, mv, iv, e, k1.low hle, ⟨k2.1, k2.2.mono hle⟩, k3.1, k3.2.mono hle⟩
theorem nat_c {w0 w : World} {p m k : Nat} {lv : Value} {l : List Item} {W : WL} (h : NetS w0 w p m lv l k W) (hl : l.length ≤ 1000) (i : Int) (hi : -9223372036854775808 ≤ i ∧ i ≤ 9223372036854775807) :
    Calls Try.prog 17 #[ptr p, .int .i64 i] w (AtOut (atN (l.map (·.2)) i) w) := (nat_u h hl i hi).mono fun _ _ ⟨v, e, h1, h2, _⟩ => ⟨v, e, h1, h2⟩
end Go.Proofs.Ytjodgbabfhcilaa

/- net: Twice and Take. -/
namespace Go.Proofs.Ytjodgbabfhcilaa
open Go Go.RowKit Go.Maps

/-- What Twice answers. -/
def twiceN (n : Nat) (i : Int) : Int := if 0 ≤ i ∧ i < (n : Int) then (if 256 ≤ n then 7 else 0) else 9
/-- What Twice leaves. -/
def TwiceOut (w0 w : World) (p m k : Nat) (lv : Value) (l : List Item) (W : WL) (i : Int) (e : Int) (w' : World) : Prop :=
  ∃ lv' l', NetS w0 w' p m lv' l' k W ∧ Chg (NMut p m lv) w w' ∧ (∀ t ∈ lv'.ownBlock.toList, t ∈ lv.ownBlock.toList ∨ w.heap.size ≤ t) ∧
    (e ≠ 0 ∧ l' = l ∧ lv' = lv ∧ Ext w w' ∨ e = 0 ∧ ∃ q, l[i.toNat]? = some q ∧ l' = l ++ [q])
theorem TwiceOut.none' {w0 w w' : World} {p m k : Nat} {lv : Value} {l : List Item} {W : WL} {i : Int} {e : Int} (h : NetS w0 w p m lv l k W) (hE : Ext w w') (he : e ≠ 0) : TwiceOut w0 w p m k lv l W i e w' :=
  ⟨lv, l, h.ext hE, Chg.ext hE, fun t ht => .inl ht, .inl ⟨he, rfl, rfl, hE⟩⟩
set_option maxHeartbeats 4000000 in
theorem ntwice_nil (i : Int) (hi : -9223372036854775808 ≤ i ∧ i ≤ 9223372036854775807) (w : World) : Calls Try.prog 19 #[.pointer none, .int .i64 i] w fun e w' => e = .returned (.int .i64 9) ∧ w' = w := by
  by_cases h0 : i < 0
  · go_enter Try.func19, Try.ntmps19
    go_wp2_with fail
    go_ret
    exact ⟨rfl, rfl⟩
  · have h1 : 0 ≤ i := by omega
    clear h0
    go_enter Try.func19, Try.ntmps19
    go_wp2_with fail
    refine (nlen_nil w).mono ?_
    rintro e w2 ⟨rfl, rfl⟩
    go_wp2_with fail
    go_ret
    exact ⟨rfl, rfl⟩
/-- A slice of one new element. -/
def One1 (B : Nat) (u : Value) (v : Value) (w : World) : Prop := ∃ g, v = .slice (some ⟨g, 0, none⟩) 1 1 ∧ B ≤ g ∧ w.cell? ⟨g, 0, none⟩ = some u
/-- The list with one more, ahead of its store. -/
def More1 (w0 w : World) (lv u : Value) (l : List Item) (v : Value) (wx : World) : Prop :=
  wx.ownsRow w0.heap.size 32 1 v (l.length + 1) (l.map (·.1) ++ [u]) ∧ Chg lv.ownBlock.toList w wx ∧ (v.ownBlock = lv.ownBlock ∨ ∃ g, v.ownBlock = some g ∧ w.heap.size ≤ g)
theorem One1.ext {B : Nat} {u v : Value} {w w' : World} (h : One1 B u v w) (hE : Ext w w') : One1 B u v w' := by
  obtain ⟨g, h1, h2, h3⟩ := h
  exact ⟨g, h1, h2, hE.cell h3⟩
theorem One1.chg {B : Nat} {u v : Value} {w w' : World} {g : Nat} (h : One1 B u v w) (hE : Chg [g] w w') (hg : g < B) : One1 B u v w' := by
  obtain ⟨g', h1, h2, h3⟩ := h
  exact ⟨g', h1, h2, cell_chg hE h3 (by simp; omega)⟩
theorem More1.ext {w0 w : World} {lv u : Value} {l : List Item} {v : Value} {wx wy : World} (h : More1 w0 w lv u l v wx) (hE : Ext wx wy) : More1 w0 w lv u l v wy :=
  ⟨own_ext h.1 hE, h.2.1.trans' (Chg.ext hE : Chg [] wx wy) (by simp), h.2.2⟩
set_option maxRecDepth 100000 in
set_option maxHeartbeats 4000000 in
theorem ntwice_c {w0 w : World} {p m k : Nat} {lv : Value} {l : List Item} {W : WL} (h : NetS w0 w p m lv l k W) (hl : l.length ≤ 1000) (i : Int) (hi : -9223372036854775808 ≤ i ∧ i ≤ 9223372036854775807) :
    Calls Try.prog 19 #[ptr p, .int .i64 i] w fun e w' => e = .returned (.int .i64 (twiceN l.length i)) ∧ TwiceOut w0 w p m k lv l W i (twiceN l.length i) w' := by
  obtain ⟨hi0, hi1⟩ := hi
  have HN := Lib.hid h
  obtain ⟨X, hX⟩ : ∃ X, X = twiceN l.length i := ⟨_, rfl⟩
  rw [← hX]
  unfold twiceN at hX
  by_cases h0 : i < 0
  · obtain rfl : X = 9 := by rw [hX, if_neg (by omega)]
    clear hX h
    go_enter Try.func19, Try.ntmps19
    go_wp2_with fail
    go_ret
    exact ⟨rfl, TwiceOut.none' HN.out (Ext.refl _) (by decide)⟩
  obtain ⟨n, rfl⟩ := Int.eq_ofNat_of_zero_le (show 0 ≤ i by omega)
  have h1 : (0 : Int) ≤ (n : Int) := by omega
  clear h0
  obtain ⟨L, hL⟩ : ∃ L, L = l.length := ⟨_, rfl⟩
  have HL := Lib.hid hL
  rw [← hL] at hX hl
  clear hL
  have hLE := Lib.hid (nlen_c h)
  rw [← HL.out] at hLE
  by_cases h2 : L ≤ n
  · obtain rfl : X = 9 := by rw [hX, if_neg (by omega)]
    have h3 : (L : Int) ≤ (n : Int) := by omega
    clear hX h
    go_enter Try.func19, Try.ntmps19
    go_wp2_with fail
    refine hLE.out.mono ?_
    rintro e w2 ⟨rfl, rfl⟩
    go_wp2_with fail
    go_ret
    exact ⟨rfl, TwiceOut.none' HN.out (Ext.refl _) (by decide)⟩
  have h3 : n < L := by omega
  have h4 : (n : Int) < (L : Int) := by omega
  clear h2
  obtain ⟨q, hq⟩ : ∃ q, l[n]? = some q := ⟨_, List.getElem?_eq_getElem (by have := HL.out; omega)⟩
  have hit := h.it q (List.mem_of_getElem? hq)
  have HIT := Lib.hid hit
  obtain ⟨va, vn, vc, hv⟩ := hit.shape
  obtain ⟨g, lc, rfl, hnc, hcl⟩ : ∃ g lc, lv = .slice (some ⟨g, 0, none⟩) L lc ∧ L ≤ lc ∧ w.cell? ⟨g, n, none⟩ = some q.1 := by
    rcases h.own.2 with ⟨_, h1⟩ | ⟨g, cap, cur, h1, _, hh, h4, _, h5, h6⟩
    · have := HL.out; omega
    · refine ⟨g, cap, by rw [h1, HL.out], by rw [HL.out]; exact h4, ?_⟩
      refine (show Blk w g cur _ from hh).cell n ?_
      have hn : (cur.toList.take (l.length * 1))[n]? = some q.1 := by rw [h6, List.getElem?_map, hq]; rfl
      rw [List.getElem?_take] at hn
      split at hn
      · simpa using hn
      · cases hn
  have p0 := h.pb.cell 0 rfl
  simp only [List.getElem_toArray, List.getElem_cons_zero] at p0
  by_cases hfull : 256 ≤ L
  · obtain rfl : X = 7 := by rw [hX, if_pos (by omega), if_pos hfull]
    have hf : (256 : Int) ≤ (L : Int) := by omega
    clear hX h hit hfull
    go_enter Try.func19, Try.ntmps19
    go_wp2_with fail
    refine hLE.out.mono ?_
    rintro e w2 ⟨rfl, rfl⟩
    go_wp2_with fail
    go_ret
    exact ⟨rfl, TwiceOut.none' HN.out (Ext.refl _) (by decide)⟩
  · obtain rfl : X = 0 := by rw [hX, if_pos (by omega), if_neg hfull]
    have hf : (L : Int) < 256 := by omega
    rw [hv] at hcl
    have HQ := Lib.hid hq; have HV := Lib.hid hv
    clear hX h hit hfull hq hv
    go_enter Try.func19, Try.ntmps19
    go_wp2_with fail
    refine hLE.out.mono ?_
    rintro e w2 ⟨rfl, rfl⟩
    go_upto_region 5 with fail
    rw [show decide ((n : Int) < 0) = false from decide_eq_false (by omega), show decide (L ≤ n) = false from decide_eq_false (by omega), show decide ((256 : Int) ≤ (L : Int)) = false from decide_eq_false (by omega)]
    simp only [Bool.or_self]
    have hgl : g < w2.heap.size := (HN.out.mut_lt g (by simp [NMut, Value.ownBlock])).1
    have HGL := Lib.hid hgl
    clear hgl
    apply Mono3.region2 16 13 Ext (Chg [g]) [.is _, .is _, .is _, .is _, .is _, .is _, .is _, .is _, .is _, .is _, .is _, .is _, .rel (One1 w2.heap.size (.slice va vn vc)), .rel (More1 w0 w2 (.slice (some ⟨g, 0, none⟩) L lc) (.slice va vn vc) l), .is _, .is _] (by kernel_rfl) ⟨fun _ _ h => Chg.ext h, fun _ _ _ => Ext.trans, fun _ _ _ => Chg.trans⟩ (Ext.refl _) (by kernel_rfl) rfl rfl ⟨fun u w w' h hE => h.chg (show Chg [g] w w' from hE) HGL.out, fun u w w' h hE => h.ext (show Ext w w' from hE), trivial⟩
    focus
      iterate 1 (apply Mono3.step_is; (· refine Mono3.obl_quiet (by decide) (by kernel_rfl) fun w12 hE12 hkn K hK => ?_; clear hE12 hkn; go_wp2_with fail; simp only [Act.put, List.setIfInBounds_toArray, List.set_cons_succ, List.set_cons_zero] at hK; exact hK _ _ (Ext.refl _) (Mono3.is_rfl _ _)); simp only [Act.put, List.setIfInBounds_toArray, List.set_cons_succ, List.set_cons_zero])
      iterate 11 (apply Mono3.step_is; (· refine Mono3.obl_early (by decide) (by kernel_rfl) fun w12 hE12 hkn K hK => ?_; (have q0 := hE12.cell (show w2.drew.cell? _ = _ from p0)); (have q1 := hE12.cell (show w2.drew.cell? _ = _ from hcl)); clear hE12 hkn; go_wp2_with fail; simp only [Act.put, List.setIfInBounds_toArray, List.set_cons_succ, List.set_cons_zero] at hK; exact hK _ _ (Ext.refl _) (Mono3.is_rfl _ _)); simp only [Act.put, List.setIfInBounds_toArray, List.set_cons_succ, List.set_cons_zero])
      refine Mono3.step_rel (Mono3.obl_early (by decide) (by kernel_rfl) fun w12 hE12 hkn K hK => ?_) fun v33 => ?_
      · have HS := Lib.hid (show w2.heap.size ≤ w12.heap.size from hE12.size)
        clear hkn hE12
        go_wp2_with fail
        simp only [Act.put, List.setIfInBounds_toArray, List.set_cons_succ, List.set_cons_zero] at hK
        exact hK _ _ (Ext.alloc _ _) (Mono3.rel_mk ⟨_, rfl, HS.out, (Blk.new w12 #[.slice va vn vc] 32).cell 0 rfl⟩)
      simp only [Act.put, List.setIfInBounds_toArray, List.set_cons_succ, List.set_cons_zero]
      refine Mono3.step_rel (Mono3.obl_loud fun w12 hE12 hkn K hK => ?_) fun v34 => ?_
      · obtain ⟨g1, rfl, hg1, hc1⟩ := hkn.1 (by kernel_rfl)
        have HC1 := Lib.hid hc1
        have HE12 := Lib.hid (show Ext w2 w12 from (Ext.drew w2).trans hE12)
        have HOWN := Lib.hid (show w12.ownsRow w0.heap.size 32 1 (.slice (some ⟨g, 0, none⟩) L lc) L (l.map (·.1)) from by have := own_ext HN.out.own HE12.out; rw [← HL.out] at this; exact this)
        obtain ⟨i0, hi0, hz0, hz1, hz2⟩ := elS.info
        clear hE12 hkn hc1
        go_wp2_with (at_builtin; refine wpList_append_own_at w12 rfl (.tmp 25) (.tmp 33) _ rfl w0.heap.size 32 i0 _ 1 24 elS.ty hi0 hz0 hz1 hz2 elS.one (by decide) (.slice (some ⟨g, 0, none⟩) L lc) L (l.map (·.1)) rfl HOWN.out ⟨g1, 0, none⟩ 1 1 [.slice va vn vc] rfl rfl (fun j u hj => by cases j with | zero => simp at hj; subst hj; exact HC1.out | succ j => simp at hj) (fun u hu => by simp at hu; subst hu; rfl) (by unfold maxLen; omega) (by omega) (Nat.le_trans HN.out.old.size HE12.out.size) ?_; intro v' w5 ho5 hg5 _ hb5; have HR5 := Lib.hid (show More1 w0 w2 (.slice (some ⟨g, 0, none⟩) L lc) (.slice va vn vc) l v' w5 from ⟨by rw [← HL.out]; exact ho5, (Chg.ext HE12.out : Chg (Value.slice (some ⟨g, 0, none⟩) L lc).ownBlock.toList w2 w12).trans (Chg.grown hg5), hb5.imp id fun e => ⟨_, e, HE12.out.size⟩⟩); have HC5 := Lib.hid (show Chg [g] w12 w5 from Chg.grown hg5); clear ho5 hg5 hb5)
        simp only [Act.put, List.setIfInBounds_toArray, List.set_cons_succ, List.set_cons_zero] at hK
        exact hK _ _ HC5.out (Mono3.rel_mk HR5.out)
      simp only [Act.put, List.setIfInBounds_toArray, List.set_cons_succ, List.set_cons_zero]
      iterate 2 (apply Mono3.step_is; (· refine Mono3.obl_quiet (by decide) (by kernel_rfl) fun w12 hE12 hkn K hK => ?_; clear hE12 hkn; go_wp2_with fail; simp only [Act.put, List.setIfInBounds_toArray, List.set_cons_succ, List.set_cons_zero] at hK; exact hK _ _ (Ext.refl _) (Mono3.is_rfl _ _)); simp only [Act.put, List.setIfInBounds_toArray, List.set_cons_succ, List.set_cons_zero])
      refine Mono3.step_end fun w12 hE12 hkn => ?_
      simp only [List.drop_succ_cons, List.drop_zero]
      obtain ⟨ho5, hC5, hb5⟩ := hkn.2.1
      obtain ⟨xa, xn, xc, rfl⟩ := own_shape ho5
      have hpb5 := HN.out.pb.chg hC5 HN.out.pl
      have q0 := hpb5.cell 0 rfl
      have hfz := hpb5.free 0
      simp only [List.getElem_toArray, List.getElem_cons_zero] at q0
      have HO5 := Lib.hid ho5; have HC5 := Lib.hid hC5; have HB5 := Lib.hid hb5
      clear hE12 hkn hpb5 ho5 hC5 hb5 p0 hcl
      go_wp2_with fail
      go_ret
      have HQS : (.slice va vn vc, q.2) = q := by rw [← HV.out]
      obtain ⟨r1, r2, r3⟩ := HN.out.push q (by rw [HV.out]; exact HO5.out) HC5.out HB5.out HIT.out
      exact ⟨rfl, _, _, r1, r2, r3, .inr ⟨rfl, q, HQ.out, rfl⟩⟩
end Go.Proofs.Ytjodgbabfhcilaa

/- net: Take. -/
namespace Go.Proofs.Ytjodgbabfhcilaa
open Go Go.RowKit Go.Maps

/-- What Take leaves. -/
def TakeOut (w0 w : World) (p m k : Nat) (lv : Value) (l : List Item) (W : WL) (i : Int) (X : Msg × Int) (e : Ending) (w' : World) : Prop :=
  ∃ lv' l' v, e = .returned (.tuple #[v, .int .i64 X.2]) ∧ MsgV w' w.heap.size v X.1 ∧ NetS w0 w' p m lv' l' k W ∧ Chg (NMut p m lv) w w' ∧ (∀ t ∈ lv'.ownBlock.toList, t ∈ lv.ownBlock.toList ∨ w.heap.size ≤ t) ∧
    (X.2 ≠ 0 ∧ l' = l ∧ lv' = lv ∧ Ext w w' ∨ X.2 = 0 ∧ l' = l.eraseIdx i.toNat)
set_option maxHeartbeats 1000000 in
theorem ntake_fin (p : Nat) (c : Int) (c0 c1 c2 c3 c4 c5 c6 c7 c8 c9 c10 c11 : Value) (F : World) (tmps : Array Value) (R : Ending → World → Prop) (hB : Blk F p #[c0, c1, c2, c3, c4, c5, c6, c7, c8, c9, c10, c11] 34)
    (h4 : tmps[4]? = some (ptr p)) (h5 : tmps[5]? = some (.int .i64 c)) (hR : R (.returned (.tuple #[.agg #[c0, c1, c2, c3, c4, c5, c6, c7, c8, c9, c10, c11], .int .i64 c])) F) :
    bodyPost Try.prog Try.f10 R .ret { tmps := tmps, defers := [] } F := by
  obtain ⟨x0, x1, x2, x3, x4, x5, x6, x7, x8, x9, x10, x11⟩ := hB.twelve
  refine bodyPost_ret (v := .tuple #[.agg #[c0, c1, c2, c3, c4, c5, c6, c7, c8, c9, c10, c11], .int .i64 c]) ?_ rfl hR
  simp [results, Try.results10, go_sem, h4, h5, x0, x1, x2, x3, x4, x5, x6, x7, x8, x9, x10, x11]
theorem MsgV.to {w : World} {B B' : Nat} {v : Value} {x : Msg} (h : MsgV w B v x) (hB : B' ≤ B) : MsgV w B' v x := by
  obtain ⟨ev, mv, iv, e, k1, k2, k3⟩ := h
  exact ⟨ev, mv, iv, e, k1.low hB, ⟨k2.1, k2.2.mono hB⟩, k3.1, k3.2.mono hB⟩
theorem eraseMap {α β : Type} (f : α → β) : ∀ (l : List α) (n : Nat), (l.map f).eraseIdx n = (l.eraseIdx n).map f
  | [], n => by simp
  | x :: r, 0 => by simp
  | x :: r, n + 1 => by simp [eraseMap f r n]
/-- A change beside the net. -/
theorem NetS.aside {w0 w w' : World} {p m k : Nat} {lv : Value} {l : List Item} {W : WL} {T : List Nat} (h : NetS w0 w p m lv l k W) (hg : Chg T w w') (hT : ∀ t ∈ T, t ∉ NMut p m lv ∧ w0.heap.size ≤ t) (hq : ∀ q ∈ l, ∀ bs, wrM q.2 = some bs → OffL q.1 (u8s bs) T) : NetS w0 w' p m lv l k W := by
  have hp : p ∉ T := fun hm => (hT p hm).1 (by simp [NMut])
  have hm : m ∉ T := fun hm => (hT m hm).1 (by simp [NMut])
  refine ⟨h.pb.chg hg hp, own_off h.own hg (fun t ht hm => (hT t hm).1 (by simp only [NMut, List.mem_cons]; exact .inr (.inr ht))), own_chgM h.wl hg hm, fun q hql => ?_, h.pm, h.pl, h.ml, h.newp, h.newm, Chg.below h.old hg h.old.size (fun t ht => (hT t ht).2)⟩
  obtain ⟨bs, h1, h2, h3, h4⟩ := h.it q hql
  exact ⟨bs, h1, h2.chg hg (hq q hql bs h1), h3, h4⟩
/-- What was under way in w lies ahead of what is newer. -/
theorem NetS.offNew {w0 w : World} {p m k : Nat} {lv : Value} {l : List Item} {W : WL} {T : List Nat} (h : NetS w0 w p m lv l k W) (hT : ∀ t ∈ T, w.heap.size ≤ t) : ∀ q ∈ l, ∀ bs, wrM q.2 = some bs → OffL q.1 (u8s bs) T := fun q hq bs hb a n c e hne hm => by
  obtain ⟨bs', h1, h2, _⟩ := h.it q hq
  obtain rfl : bs' = bs := Option.some.inj (h1.symm.trans hb)
  have := h2.ltB e hne
  have := hT _ hm
  omega
/-- One is taken out. -/
theorem NetS.take {w0 w w4 : World} {p m k g L lc n : Nat} {l : List Item} {W : WL} (h : NetS w0 w p m (.slice (some ⟨g, 0, none⟩) L lc) l k W) (hn : n < l.length) (hL : L = l.length)
    (ho : w4.ownsRow w0.heap.size 32 1 (.slice (some ⟨g, 0, none⟩) (L - 1) lc) (L - 1) ((l.map (·.1)).eraseIdx n)) (hC : Chg [g] w w4) :
    NetS w0 (w4.setCell ⟨p, 0, none⟩ (.slice (some ⟨g, 0, none⟩) (L - 1) lc)) p m (.slice (some ⟨g, 0, none⟩) (L - 1) lc) (l.eraseIdx n) k W ∧ Chg [p, m, g] w (w4.setCell ⟨p, 0, none⟩ (.slice (some ⟨g, 0, none⟩) (L - 1) lc)) := by
  have hpg : p ≠ g := fun e => h.pl (by simp [Value.ownBlock, e])
  have hmg : m ≠ g := fun e => h.ml (by simp [Value.ownBlock, e])
  have hC3 : Chg [p, m, g] w (w4.setCell ⟨p, 0, none⟩ (.slice (some ⟨g, 0, none⟩) (L - 1) lc)) := (hC.mono fun t ht => .inl (by simp at ht; simp [ht])).trans (Chg.set p 0 _ (by simp))
  have hC2 : Chg [p, g] w (w4.setCell ⟨p, 0, none⟩ (.slice (some ⟨g, 0, none⟩) (L - 1) lc)) := (hC.mono fun t ht => .inl (by simp at ht; simp [ht])).trans (Chg.set p 0 _ (by simp))
  refine ⟨⟨by simpa using (h.pb.chg hC (by simpa using hpg)).set 0 (.slice (some ⟨g, 0, none⟩) (L - 1) lc), ?_, own_chgM h.wl hC2 (by simp; exact ⟨Ne.symm h.pm, hmg⟩), ?_, h.pm, by simpa [Value.ownBlock] using hpg, by simpa [Value.ownBlock] using hmg, h.newp, h.newm, ?_⟩, hC3⟩
  · have e1 : (l.eraseIdx n).length = L - 1 := by rw [List.length_eraseIdx, if_pos hn, hL]
    have e2 : (l.eraseIdx n).map (·.1) = (l.map (·.1)).eraseIdx n := (eraseMap _ _ _).symm
    rw [e1, e2]
    exact own_off ho (Chg.set (S := [p]) p 0 _ (by simp)) (fun t ht hm => by simp [Value.ownBlock] at ht; simp at hm; exact hpg (by rw [← hm, ht]))
  · intro q hq
    exact (h.it q (List.mem_of_mem_eraseIdx hq)).step hC3 (fun t ht => .inl (by simpa [NMut, Value.ownBlock] using ht)) (fun t ht => .inl (by simpa [NMut, Value.ownBlock] using ht))
  · exact Chg.below h.old hC3 h.old.size (fun t ht => (h.mut_lt t (by simpa [NMut, Value.ownBlock] using ht)).2)

set_option maxRecDepth 100000 in
set_option maxHeartbeats 4000000 in
theorem ntake_c {w0 w : World} {p m k : Nat} {lv : Value} {l : List Item} {W : WL} (h : NetS w0 w p m lv l k W) (hl : l.length ≤ 1000) (i : Int) (hi : -9223372036854775808 ≤ i ∧ i ≤ 9223372036854775807) :
    Calls Try.prog 10 #[ptr p, .int .i64 i] w (TakeOut w0 w p m k lv l W i (atN (l.map (·.2)) i)) := by
  obtain ⟨w1, hw1⟩ : ∃ w1, w1 = w.alloc (.cells (zc 0) 34) := ⟨_, rfl⟩
  have HE1 := Lib.hid (show Ext w w1 from by rw [hw1]; exact Ext.alloc _ _)
  have HB1 := Lib.hid (show Blk w1 w.heap.size (zc 0) 34 from by rw [hw1]; exact Blk.new _ _ _)
  have HS1 := Lib.hid (show w1.heap.size = w.heap.size + 1 from by rw [hw1]; simp)
  have HW := Lib.hid hw1
  have HN := Lib.hid h
  have HAT := Lib.hid (nat_c (h.ext HE1.out) hl i hi)
  obtain ⟨X, hX⟩ : ∃ X, X = atN (l.map (·.2)) i := ⟨_, rfl⟩
  rw [← hX] at HAT ⊢
  unfold atN at hX
  rw [List.length_map] at hX
  have HX := Lib.hid hX
  clear hw1 h hX
  go_enter Try.func10, Try.ntmps10
  go_upto_region 1 with fail
  rw [← HW.out]
  clear HW
  go_wp2_with fail
  refine HAT.out.mono ?_
  rintro e w2 ⟨v2, rfl, hv2, hE2⟩
  obtain ⟨a9, m9, c9, a10, m10, c10, a11, m11, c11, rfl⟩ := hv2.shape
  obtain ⟨X1, X2⟩ := X
  dsimp only at hE2 hv2
  have HE2 := Lib.hid (HE1.out.trans hE2); have HB2 := Lib.hid (HB1.out.ext hE2); have HV2 := Lib.hid hv2
  have HS2 := Lib.hid (show w1.heap.size ≤ w2.heap.size from hE2.size)
  have HB3 := Lib.hid (Blk.new w2 (zc 0) 34)
  have HE3 := Lib.hid (Ext.alloc w2 (.cells (zc 0) 34))
  clear hE2 hv2 HB1 HAT
  go_upto_region 2 with (refine wpList_store_row rfl 34 (.tmp 6) (.tmp 12) rfl w2.heap.size (mCells X1 (.slice a9 m9 c9) (.slice a10 m10 c10) (.slice a11 m11 c11)) rfl rfl 34 _ HB3.out (mCells_size _ _ _ _) rfl (mCells_one _ _ _ _ _ _ _ _ _ _) ?_)
  have hb4 := HB3.out.row (mCells X1 (.slice a9 m9 c9) (.slice a10 m10 c10) (.slice a11 m11 c11))
  have hE4 := setRow_ext HE3.out (Nat.le_refl _) (mCells X1 (.slice a9 m9 c9) (.slice a10 m10 c10) (.slice a11 m11 c11))
  generalize (w2.alloc (.cells (zc 0) 34)).setRow w2.heap.size (mCells X1 (.slice a9 m9 c9) (.slice a10 m10 c10) (.slice a11 m11 c11)) = w4 at *
  have HB6 := Lib.hid hb4; have HB4 := Lib.hid (HB2.out.ext hE4); have HV4 := Lib.hid (HV2.out.ext hE4); have HE4 := Lib.hid (HE2.out.trans hE4)
  have HN4 := Lib.hid (HN.out.ext HE4.out)
  clear hb4 hE4 HB3 HE3 HB2 HV2 HE2
  by_cases hr : 0 ≤ i ∧ i < (l.length : Int)
  · obtain ⟨n, rfl⟩ := Int.eq_ofNat_of_zero_le hr.1
    have hnl : n < l.length := by omega
    have HXX := HX.out
    rw [if_pos hr] at HXX
    obtain ⟨hx1, rfl⟩ := Prod.mk.inj HXX
    obtain ⟨L, hL⟩ : ∃ L, L = l.length := ⟨_, rfl⟩
    have HL := Lib.hid hL
    obtain ⟨g, lc, rfl, hnc, hcm⟩ : ∃ g lc, lv = .slice (some ⟨g, 0, none⟩) L lc ∧ L ≤ lc ∧ lc ≤ maxLen := by
      rcases HN4.out.own.2 with ⟨_, h1⟩ | ⟨g, cap, cur, h1, _, hh, h4, h5, _⟩
      · omega
      · exact ⟨g, cap, by rw [h1, hL], by rw [hL]; exact h4, h5⟩
    rw [← hL] at hl hnl hr
    have p0 := HN4.out.pb.cell 0 rfl
    simp only [List.getElem_toArray, List.getElem_cons_zero] at p0
    have hn1 := hr.2
    obtain ⟨j, hj⟩ : ∃ j, j = n + 1 := ⟨_, rfl⟩
    have hj1 : (n : Int) + 1 = (j : Int) := by omega
    have HOWN := Lib.hid (show w4.ownsRow w0.heap.size 32 1 (.slice (some ⟨g, 0, none⟩) L lc) L (l.map (·.1)) from by have := HN4.out.own; rw [← hL] at this; exact this)
    have HJ := Lib.hid hj; have HLN := Lib.hid (show n < l.length by rw [← hL]; exact hnl)
    have HML := Lib.hid (show ∀ t ∈ [p, m, g], t < w.heap.size from fun t ht => (HN.out.mut_lt t (by simpa [NMut, Value.ownBlock] using ht)).1)
    have HNW := Lib.hid (HN.out.old.size)
    clear HXX hx1 hL hj hr hi HX HE1
    go_wp2_with fail
    refine (ndel_c w0.heap.size g L lc n j (l.map (·.1)) w4 HOWN.out hnl HJ.out hl HN4.out.one).mono ?_
    rintro e w5 ⟨rfl, ho5, hC5⟩
    obtain ⟨hN6, hC6⟩ := HN4.out.take HLN.out HL.out ho5 hC5
    have hpb5 := HN4.out.pb.chg hC5 (by have := HN4.out.pl; simpa [Value.ownBlock] using this)
    have q0 := hpb5.cell 0 rfl
    have hfz := hpb5.free 0
    simp only [List.getElem_toArray, List.getElem_cons_zero] at q0
    have HN6 := Lib.hid hN6; have HC6 := Lib.hid hC6
    clear p0 hpb5 ho5 hC5 hN6 hC6
    go_upto_region 4 with fail
    generalize w5.setCell ⟨p, 0, none⟩ (.slice (some ⟨g, 0, none⟩) (L - 1) lc) = w6 at *
    have hml := HML.out
    have HB66 := Lib.hid (HB6.out.chg HC6.out (fun hm => by have := hml _ hm; have := HS1.out; have := HS2.out; omega))
    have HB46 := Lib.hid (HB4.out.chg HC6.out (fun hm => by have := hml _ hm; omega))
    have HV6 := Lib.hid (HV4.out.chg HC6.out (fun t ht => by have := hml t ht; have := HS1.out; omega))
    clear q0 hfz hml
    go_wp2_with (first | (refine wpList_load_row rfl 34 (.tmp 6) rfl w2.heap.size rfl 34 _ (0, 0) _ HB66.out Try.underlying34 rfl (by kernel_rfl) ?_) | (refine wpList_store_row rfl 34 (.tmp 4) (.tmp 27) rfl w.heap.size (mCells X1 (.slice a9 m9 c9) (.slice a10 m10 c10) (.slice a11 m11 c11)) rfl rfl 34 _ HB46.out (mCells_size _ _ _ _) rfl (mCells_one _ _ _ _ _ _ _ _ _ _) ?_))
    have hbk := HB46.out.row (mCells X1 (.slice a9 m9 c9) (.slice a10 m10 c10) (.slice a11 m11 c11))
    have hg := Chg.some (S := [w.heap.size]) (grown_row w6 w.heap.size (mCells X1 (.slice a9 m9 c9) (.slice a10 m10 c10) (.slice a11 m11 c11))) (.inl (by simp))
    have hN := HN6.out
    refine ntake_fin w.heap.size 0 _ _ _ _ _ _ _ _ _ _ _ _ _ _ _ hbk rfl rfl ⟨.slice (some ⟨g, 0, none⟩) (L - 1) lc, l.eraseIdx n, _, rfl, (HV6.out.chg hg (fun t ht => by simp at ht; have := HS1.out; omega)).to (by have := HS1.out; omega), ?_, ?_, fun t ht => .inl (by simpa [Value.ownBlock] using ht), .inr ⟨rfl, by simp⟩⟩
    · refine hN.aside hg (fun t ht => ?_) (fun q hq bs hb => HN.out.offNew (T := [w.heap.size]) (by simp) q (List.mem_of_mem_eraseIdx hq) bs hb)
      simp at ht
      subst ht
      exact ⟨fun hm => by have := HML.out w.heap.size (by simpa [NMut, Value.ownBlock] using hm); omega, HNW.out⟩
    · refine ((Chg.ext HE4.out : Chg (NMut p m (.slice (some ⟨g, 0, none⟩) L lc)) w w4).trans (HC6.out.mono fun t ht => .inl (by simpa [NMut, Value.ownBlock] using ht))).trans' hg (fun t ht => .inr (by simp at ht; omega))
  · have HXX := HX.out
    rw [if_neg hr] at HXX
    obtain ⟨rfl, rfl⟩ := Prod.mk.inj HXX
    clear HXX hr hi
    go_wp2_with (first | (refine wpList_load_row rfl 34 (.tmp 6) rfl w2.heap.size rfl 34 _ (0, 0) _ HB6.out Try.underlying34 rfl (by kernel_rfl) ?_) | (refine wpList_store_row rfl 34 (.tmp 4) (.tmp 27) rfl w.heap.size (mCells Msg.zero (.slice a9 m9 c9) (.slice a10 m10 c10) (.slice a11 m11 c11)) rfl rfl 34 _ HB4.out (mCells_size _ _ _ _) rfl (mCells_one _ _ _ _ _ _ _ _ _ _) ?_))
    have hbk := HB4.out.row (mCells Msg.zero (.slice a9 m9 c9) (.slice a10 m10 c10) (.slice a11 m11 c11))
    have hg := Chg.some (S := [w.heap.size]) (grown_row w4 w.heap.size (mCells Msg.zero (.slice a9 m9 c9) (.slice a10 m10 c10) (.slice a11 m11 c11))) (.inl (by simp))
    have hE := setRow_ext HE4.out (Nat.le_refl _) (mCells Msg.zero (.slice a9 m9 c9) (.slice a10 m10 c10) (.slice a11 m11 c11))
    refine ntake_fin w.heap.size 9 _ _ _ _ _ _ _ _ _ _ _ _ _ _ _ hbk rfl rfl ⟨lv, l, _, rfl, ?_, HN.out.ext hE, Chg.ext hE, fun t ht => .inl ht, .inl ⟨by decide, rfl, rfl, hE⟩⟩
    exact (HV4.out.chg hg (fun t ht => by simp at ht; have := HS1.out; omega)).to (by have := HS1.out; omega)
end Go.Proofs.Ytjodgbabfhcilaa

/- tabellionlaw19: vote, awake; the law NetNil. -/
namespace Go.Proofs.Ytjodgbabfhcilaa
open Go Go.RowKit Go.Maps

/-- A small message. -/
def wayM (a b t : Int) : Msg := ⟨2, a, b, t, 0, 0, 0, 0, false, [], [], []⟩
abbrev wayC (a b t : Int) : Array Value := #[.int .i64 2, .int .u64 a, .int .u64 b, .int .u64 t, .int .u64 0, .int .u64 0, .int .u64 0, .int .u64 0, .bool false, .slice none 0 0, .slice none 0 0, .slice none 0 0]
theorem wayV_msg (w : World) (B : Nat) (a b t : Int) : MsgV w B (.agg (wayC a b t)) (wayM a b t) := ⟨_, _, _, rfl, EntsV.nil _ _, ⟨Rd.nil _, From.nil _⟩, Rd.nil _, From.nil _⟩
theorem wayM_ok {a b t : Int} (ha : U64 a) (hb : U64 b) (ht : U64 t) : MsgOk (wayM a b t) := by
  have z64 : U64 0 := by unfold U64; omega
  exact ⟨by simp [wayM], ha, hb, ht, z64, z64, z64, z64, (fun e he => by cases he), (fun e he => by cases he), (fun e he => by cases he)⟩
theorem wayC_one (a b t : Int) : (wayC a b t).all (·.oneCell') = true := by simp [Value.oneCell']
theorem wayC_size (a b t : Int) : (Try.prog.info? 34).map (·.size) = some (wayC a b t).size := by kernel_rfl
theorem vote5 : (wrM (wayM 1 2 5)).isSome = true := by decide +kernel
set_option maxHeartbeats 1000000 in
theorem vote_fin (p : Nat) (c0 c1 c2 c3 c4 c5 c6 c7 c8 c9 c10 c11 : Value) (F : World) (tmps : Array Value) (R : Ending → World → Prop) (hB : Blk F p #[c0, c1, c2, c3, c4, c5, c6, c7, c8, c9, c10, c11] 34)
    (h4 : tmps[2]? = some (ptr p)) (hR : R (.returned (.agg #[c0, c1, c2, c3, c4, c5, c6, c7, c8, c9, c10, c11])) F) :
    bodyPost Try.prog Try.f23 R .ret { tmps := tmps, defers := [] } F := by
  obtain ⟨x0, x1, x2, x3, x4, x5, x6, x7, x8, x9, x10, x11⟩ := hB.twelve
  refine bodyPost_ret (v := .agg #[c0, c1, c2, c3, c4, c5, c6, c7, c8, c9, c10, c11]) ?_ rfl hR
  simp [results, Try.results23, go_sem, h4, x0, x1, x2, x3, x4, x5, x6, x7, x8, x9, x10, x11]
set_option maxHeartbeats 1000000 in
theorem vote_c (t : Int) (w : World) : Calls Try.prog 23 #[.int .u64 t] w (RetIs (.agg (wayC 1 2 t)) w) := by
  have HB := Lib.hid (Blk.new w (zc 0) 34)
  go_enter Try.func23, Try.ntmps23
  go_wp2_with (refine wpList_store_row rfl 34 (.tmp 2) (.tmp 4) rfl w.heap.size (wayC 1 2 t) rfl rfl 34 _ HB.out (wayC_size _ _ _) rfl (wayC_one _ _ _) ?_)
  exact vote_fin w.heap.size _ _ _ _ _ _ _ _ _ _ _ _ _ _ _ (HB.out.row _) rfl ⟨rfl, setRow_ext (Ext.alloc _ _) (Nat.le_refl _) _⟩
set_option maxRecDepth 100000 in
set_option maxHeartbeats 4000000 in
theorem ntake_nil (i : Int) (hi : -9223372036854775808 ≤ i ∧ i ≤ 9223372036854775807) (w : World) : Calls Try.prog 10 #[.pointer none, .int .i64 i] w (AtOut (Msg.zero, 9) w) := by
  obtain ⟨w1, hw1⟩ : ∃ w1, w1 = w.alloc (.cells (zc 0) 34) := ⟨_, rfl⟩
  have HE1 := Lib.hid (show Ext w w1 from by rw [hw1]; exact Ext.alloc _ _)
  have HB1 := Lib.hid (show Blk w1 w.heap.size (zc 0) 34 from by rw [hw1]; exact Blk.new _ _ _)
  have HS1 := Lib.hid (show w1.heap.size = w.heap.size + 1 from by rw [hw1]; simp)
  have HW := Lib.hid hw1
  have HAT := Lib.hid (nat_nil i hi w1)
  clear hw1
  go_enter Try.func10, Try.ntmps10
  go_upto_region 1 with fail
  rw [← HW.out]
  clear HW
  go_wp2_with fail
  refine HAT.out.mono ?_
  rintro e w2 ⟨v2, rfl, hv2, hE2⟩
  dsimp only at hE2 hv2
  obtain ⟨a9, m9, c9, a10, m10, c10, a11, m11, c11, rfl⟩ := hv2.shape
  have HE2 := Lib.hid (HE1.out.trans hE2); have HB2 := Lib.hid (HB1.out.ext hE2); have HV2 := Lib.hid hv2
  have HS2 := Lib.hid (show w1.heap.size ≤ w2.heap.size from hE2.size)
  have HB3 := Lib.hid (Blk.new w2 (zc 0) 34)
  have HE3 := Lib.hid (Ext.alloc w2 (.cells (zc 0) 34))
  clear hE2 hv2 HB1 HAT
  go_upto_region 2 with (refine wpList_store_row rfl 34 (.tmp 6) (.tmp 12) rfl w2.heap.size (mCells Msg.zero (.slice a9 m9 c9) (.slice a10 m10 c10) (.slice a11 m11 c11)) rfl rfl 34 _ HB3.out (mCells_size _ _ _ _) rfl (mCells_one _ _ _ _ _ _ _ _ _ _) ?_)
  have hb4 := HB3.out.row (mCells Msg.zero (.slice a9 m9 c9) (.slice a10 m10 c10) (.slice a11 m11 c11))
  have hE4 := setRow_ext HE3.out (Nat.le_refl _) (mCells Msg.zero (.slice a9 m9 c9) (.slice a10 m10 c10) (.slice a11 m11 c11))
  generalize (w2.alloc (.cells (zc 0) 34)).setRow w2.heap.size (mCells Msg.zero (.slice a9 m9 c9) (.slice a10 m10 c10) (.slice a11 m11 c11)) = w4 at *
  have HB6 := Lib.hid hb4; have HB4 := Lib.hid (HB2.out.ext hE4); have HV4 := Lib.hid (HV2.out.ext hE4); have HE4 := Lib.hid (HE2.out.trans hE4)
  clear hb4 hE4 HB3 HE3 HB2 HV2 HE2
  go_wp2_with (first | (refine wpList_load_row rfl 34 (.tmp 6) rfl w2.heap.size rfl 34 _ (0, 0) _ HB6.out Try.underlying34 rfl (by kernel_rfl) ?_) | (refine wpList_store_row rfl 34 (.tmp 4) (.tmp 27) rfl w.heap.size (mCells Msg.zero (.slice a9 m9 c9) (.slice a10 m10 c10) (.slice a11 m11 c11)) rfl rfl 34 _ HB4.out (mCells_size _ _ _ _) rfl (mCells_one _ _ _ _ _ _ _ _ _ _) ?_))
  have hbk := HB4.out.row (mCells Msg.zero (.slice a9 m9 c9) (.slice a10 m10 c10) (.slice a11 m11 c11))
  have hg := Chg.some (S := [w.heap.size]) (grown_row w4 w.heap.size (mCells Msg.zero (.slice a9 m9 c9) (.slice a10 m10 c10) (.slice a11 m11 c11))) (.inl (by simp))
  have hE := setRow_ext HE4.out (Nat.le_refl _) (mCells Msg.zero (.slice a9 m9 c9) (.slice a10 m10 c10) (.slice a11 m11 c11))
  refine ntake_fin w.heap.size 9 _ _ _ _ _ _ _ _ _ _ _ _ _ _ _ hbk rfl rfl ⟨_, rfl, ?_, hE⟩
  exact (HV4.out.chg hg (fun t ht => by simp at ht; have := HS1.out; omega)).to (by have := HS1.out; omega)
set_option maxRecDepth 100000 in
set_option maxHeartbeats 4000000 in
theorem awake19_c (w : World) : Calls Try.prog 7 #[] w (RetIs (.bool true) w) := by
  obtain ⟨bs, hbs⟩ := Option.isSome_iff_exists.1 vote5
  have HBS := Lib.hid hbs
  clear hbs
  go_enter Try.func7, Try.ntmps7
  go_wp2_with fail
  refine (nnew_c w).mono ?_
  rintro e w1 ⟨p, m, rfl, hN1⟩
  have HN1 := Lib.hid hN1
  clear hN1
  go_wp2_with fail
  refine (vote_c 5 w1).mono ?_
  rintro e w2 ⟨rfl, hE2⟩
  have HN2 := Lib.hid (HN1.out.ext hE2)
  clear hE2 HN1
  go_wp2_with fail
  refine (nsend_c HN2.out (by simp) _ (wayM 1 2 5) (wayV_msg w2 0 1 2 5) (wayM_ok (by unfold U64; omega) (by unfold U64; omega) (by unfold U64; omega))).mono ?_
  rintro e w3 ⟨rfl, lv3, l3, hN3, _, _, h3⟩
  rw [HBS.out, show sendE (some bs) (wall [] (wayM 1 2 5).src (wayM 1 2 5).dst) ([] : List Item).length = 0 from rfl] at *
  obtain ⟨h3, _⟩ | ⟨_, bv, _, rfl⟩ := h3
  · exact absurd rfl h3
  have HN3 := Lib.hid hN3
  clear hN3 HN2
  go_wp2_with fail
  refine (ntwice_c HN3.out (by simp) 0 (by omega)).mono ?_
  rintro e w4 ⟨rfl, lv4, l4, hN4, _, _, h4⟩
  rw [show twiceN ([] ++ [(bv, wayM 1 2 5)] : List Item).length 0 = 0 from rfl] at *
  obtain ⟨h4, _⟩ | ⟨_, q, hq, rfl⟩ := h4
  · exact absurd rfl h4
  obtain rfl : (bv, wayM 1 2 5) = q := by simpa using hq
  have HN4 := Lib.hid hN4
  clear hN4 HN3 hq
  go_wp2_with fail
  refine (nlen_c HN4.out).mono ?_
  rintro e w5 ⟨rfl, rfl⟩
  rw [show ((([] ++ [(bv, wayM 1 2 5)] ++ [(bv, wayM 1 2 5)] : List Item).length : Nat) : Int) = 2 from rfl]
  go_wp2_with fail
  refine (ntake_c HN4.out (by simp) 1 (by omega)).mono ?_
  rintro e w6 ⟨lv6, l6, v6, rfl, hv6, hN6, _⟩
  rw [show atN (([] ++ [(bv, wayM 1 2 5)] ++ [(bv, wayM 1 2 5)] : List Item).map (·.2)) 1 = (wayM 1 2 5, 0) from rfl] at *
  dsimp only at hv6
  obtain ⟨a9, m9, c9, a10, m10, c10, a11, m11, c11, rfl⟩ := hv6.shape
  have HF := Lib.hid hN6.old
  have HB3 := Lib.hid (Blk.new w6 (zc 0) 34)
  have HE3 := Lib.hid (Ext.alloc w6 (.cells (zc 0) 34))
  clear hv6 hN6 HN4
  go_upto_region 5 with (refine wpList_store_row rfl 34 (.tmp 2) (.tmp 26) rfl w6.heap.size (mCells (wayM 1 2 5) (.slice a9 m9 c9) (.slice a10 m10 c10) (.slice a11 m11 c11)) rfl rfl 34 _ HB3.out (mCells_size _ _ _ _) rfl (mCells_one _ _ _ _ _ _ _ _ _ _) ?_)
  have hb4 := HB3.out.row (mCells (wayM 1 2 5) (.slice a9 m9 c9) (.slice a10 m10 c10) (.slice a11 m11 c11))
  have hE4 := setRow_ext HE3.out (Nat.le_refl _) (mCells (wayM 1 2 5) (.slice a9 m9 c9) (.slice a10 m10 c10) (.slice a11 m11 c11))
  generalize (w6.alloc (.cells (zc 0) 34)).setRow w6.heap.size (mCells (wayM 1 2 5) (.slice a9 m9 c9) (.slice a10 m10 c10) (.slice a11 m11 c11)) = w7 at *
  have c3 := (Blk.twelve hb4).2.2.2.1
  have HF7 := Lib.hid (HF.out.trans hE4)
  simp only [wayM] at c3
  clear hb4 hE4 HF HB3 HE3
  go_wp2_with fail
  go_ret
  exact ⟨rfl, HF7.out⟩
set_option maxRecDepth 100000 in
set_option maxHeartbeats 4000000 in
/-- NetNil is true. -/
theorem netnil_c (v : Value) (M : Msg) (i a b : Int) (w : World) (hv : MsgV w 0 v M) (hi : -9223372036854775808 ≤ i ∧ i ≤ 9223372036854775807) : Calls Try.prog 6 #[v, .int .i64 i, .int .u64 a, .int .u64 b] w (RetIs (.bool true) w) := by
  obtain ⟨a9, m9, c9, a10, m10, c10, a11, m11, c11, rfl⟩ := hv.shape
  obtain ⟨w1, hw1⟩ : ∃ w1, w1 = w.alloc (.cells #[.int .i64 M.kind, .int .u64 M.src, .int .u64 M.dst, .int .u64 M.term, .int .u64 M.index, .int .u64 M.logTerm, .int .u64 M.commit, .int .u64 M.stamp, .bool M.yes, .slice a9 m9 c9, .slice a10 m10 c10, .slice a11 m11 c11] 34) := ⟨_, rfl⟩
  have HE1 := Lib.hid (show Ext w w1 from by rw [hw1]; exact Ext.alloc _ _)
  have HB1 := Lib.hid (show Blk w1 w.heap.size #[.int .i64 M.kind, .int .u64 M.src, .int .u64 M.dst, .int .u64 M.term, .int .u64 M.index, .int .u64 M.logTerm, .int .u64 M.commit, .int .u64 M.stamp, .bool M.yes, .slice a9 m9 c9, .slice a10 m10 c10, .slice a11 m11 c11] 34 from by rw [hw1]; exact Blk.new _ _ _)
  have HW := Lib.hid hw1; have HV := Lib.hid hv; have HI := Lib.hid hi
  clear hw1 hv hi
  go_enter Try.func6, Try.ntmps6
  go_upto_region 1 with fail
  rw [← HW.out]
  clear HW
  go_wp2_with fail
  refine (awake19_c w1).mono ?_
  rintro e w2 ⟨rfl, hE2⟩
  have HE2 := Lib.hid (HE1.out.trans hE2); have HB2 := Lib.hid (HB1.out.ext hE2)
  clear hE2 HE1 HB1
  go_wp2_with fail
  refine (nblock_nil a b false w2).mono ?_
  rintro e w3 ⟨rfl, rfl⟩
  go_wp2_with fail
  refine (nat_nil i HI.out w3).mono ?_
  rintro e w4 ⟨v4, rfl, hv4, hE4⟩
  dsimp only at hE4 hv4
  obtain ⟨b9, n9, d9, b10, n10, d10, b11, n11, d11, rfl⟩ := hv4.shape
  have HE4 := Lib.hid (HE2.out.trans hE4); have HB4 := Lib.hid (HB2.out.ext hE4)
  have HC4 := Lib.hid (Blk.new w4 (zc 0) 34)
  have HD4 := Lib.hid (Ext.alloc w4 (.cells (zc 0) 34))
  clear hE4 hv4 HE2 HB2
  go_upto_region 6 with (refine wpList_store_row rfl 34 (.tmp 10) (.tmp 24) rfl w4.heap.size (mCells Msg.zero (.slice b9 n9 d9) (.slice b10 n10 d10) (.slice b11 n11 d11)) rfl rfl 34 _ HC4.out (mCells_size _ _ _ _) rfl (mCells_one _ _ _ _ _ _ _ _ _ _) ?_)
  have hE5 := setRow_ext HD4.out (Nat.le_refl _) (mCells Msg.zero (.slice b9 n9 d9) (.slice b10 n10 d10) (.slice b11 n11 d11))
  generalize (w4.alloc (.cells (zc 0) 34)).setRow w4.heap.size (mCells Msg.zero (.slice b9 n9 d9) (.slice b10 n10 d10) (.slice b11 n11 d11)) = w5 at *
  have HE5 := Lib.hid (HE4.out.trans hE5); have HB5 := Lib.hid (HB4.out.ext hE5)
  clear hE5 HC4 HD4 HE4 HB4
  go_wp2_with fail
  refine (ntake_nil i HI.out w5).mono ?_
  rintro e w6 ⟨v6, rfl, hv6, hE6⟩
  dsimp only at hE6 hv6
  obtain ⟨e9, q9, f9, e10, q10, f10, e11, q11, f11, rfl⟩ := hv6.shape
  have HE6 := Lib.hid (HE5.out.trans hE6); have HB6 := Lib.hid (HB5.out.ext hE6)
  have HC6 := Lib.hid (Blk.new w6 (zc 0) 34)
  have HD6 := Lib.hid (Ext.alloc w6 (.cells (zc 0) 34))
  clear hE6 hv6 HE5 HB5
  go_upto_region 7 with (refine wpList_store_row rfl 34 (.tmp 12) (.tmp 30) rfl w6.heap.size (mCells Msg.zero (.slice e9 q9 f9) (.slice e10 q10 f10) (.slice e11 q11 f11)) rfl rfl 34 _ HC6.out (mCells_size _ _ _ _) rfl (mCells_one _ _ _ _ _ _ _ _ _ _) ?_)
  have hE7 := setRow_ext HD6.out (Nat.le_refl _) (mCells Msg.zero (.slice e9 q9 f9) (.slice e10 q10 f10) (.slice e11 q11 f11))
  generalize (w6.alloc (.cells (zc 0) 34)).setRow w6.heap.size (mCells Msg.zero (.slice e9 q9 f9) (.slice e10 q10 f10) (.slice e11 q11 f11)) = w7 at *
  have HE7 := Lib.hid (HE6.out.trans hE7); have HB7 := Lib.hid (HB6.out.ext hE7)
  clear hE7 HC6 HD6 HE6 HB6
  go_wp2_with (refine wpList_load_row rfl 34 (.tmp 4) rfl w.heap.size rfl 34 _ (0, 0) _ HB7.out Try.underlying34 rfl (by kernel_rfl) ?_)
  refine (nsend_nil _ M w7 (HV.out.ext HE7.out)).mono ?_
  rintro e w8 ⟨rfl, hE8⟩
  have HE8 := Lib.hid (HE7.out.trans hE8)
  clear hE8 HE7 HB7
  go_wp2_with fail
  refine (nlen_nil w8).mono ?_
  rintro e w9 ⟨rfl, rfl⟩
  go_wp2_with fail
  refine (ntwice_nil i HI.out w9).mono ?_
  rintro e w10 ⟨rfl, rfl⟩
  go_wp2_with fail
  refine (nblocked_nil a b w10).mono ?_
  rintro e w11 ⟨rfl, rfl⟩
  go_wp2_with fail
  go_ret
  exact ⟨rfl, HE8.out⟩
end Go.Proofs.Ytjodgbabfhcilaa
