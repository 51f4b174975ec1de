/- net: a net in memory; New, Len, Block, Blocked; and of no net. -/
import Derived.Test.YtjodgbabfhcilaaNet1
import Derived.Test.YtjodgbabfhcilaaRform
set_option linter.unusedSimpArgs false
set_option linter.unusedVariables false
namespace Go.Proofs.Ytjodgbabfhcilaa
open Go Go.RowKit Go.Maps

/-- A message under way: its bytes' value, and the message. -/
abbrev Item := Value × Msg
/-- What a net writes to. -/
def NMut (p m : Nat) (lv : Value) : List Nat := p :: m :: lv.ownBlock.toList
def ItOk (w : World) (A : List Nat) (q : Item) : Prop := ∃ bs, wrM q.2 = some bs ∧ Rd w q.1 (u8s bs) ∧ OffL q.1 (u8s bs) A ∧ B8 bs ∧ bs.length ≤ 1000000 ∧ MsgOk q.2
theorem ItOk.chg {w w' : World} {A S : List Nat} {q : Item} (h : ItOk w A q) (hg : Chg S w w') (hS : ∀ t ∈ S, t ∈ A ∨ w.heap.size ≤ t) : ItOk w' A q := by
  obtain ⟨bs, h1, h2, h3, h4⟩ := h
  exact ⟨bs, h1, h2.chgA h3 hg hS, h3, h4⟩
theorem ItOk.more {w : World} {A A' : List Nat} {q : Item} (h : ItOk w A q) (hA : ∀ t ∈ A', t ∈ A ∨ w.heap.size ≤ t) : ItOk w A' q := by
  obtain ⟨bs, h1, h2, h3, h4⟩ := h
  exact ⟨bs, h1, h2, h3.more h2 hA, h4⟩
theorem ItOk.shape {w : World} {A : List Nat} {q : Item} (h : ItOk w A q) : ∃ a n c, q.1 = .slice a n c := by obtain ⟨_, _, h, _⟩ := h; exact h.shape
/-- p is a net: l under way, the ways of W blocked (at most k in the map m); all of it is newer than w0. -/
structure NetS (w0 w : World) (p m : Nat) (lv : Value) (l : List Item) (k : Nat) (W : WL) : Prop where
  pb : Blk w p #[lv, .map (some m)] 60
  own : w.ownsRow w0.heap.size 32 1 lv l.length (l.map (·.1))
  wl : Walls w m k W
  it : ∀ q ∈ l, ItOk w (NMut p m lv) q
  pm : p ≠ m
  pl : p ∉ lv.ownBlock.toList
  ml : m ∉ lv.ownBlock.toList
  newp : w0.heap.size ≤ p
  newm : w0.heap.size ≤ m
  old : Ext w0 w
section
variable {w0 w w' : World} {p m k : Nat} {lv : Value} {l : List Item} {W : WL}
theorem NetS.one (h : NetS w0 w p m lv l k W) : ∀ u ∈ l.map (·.1), u.oneCell' = true := by
  intro u hu
  obtain ⟨q, hq, rfl⟩ := List.mem_map.1 hu
  obtain ⟨a, n, c, e⟩ := (h.it q hq).shape
  rw [e]; rfl
theorem NetS.ext (h : NetS w0 w p m lv l k W) (hE : Ext w w') : NetS w0 w' p m lv l k W :=
  ⟨h.pb.ext hE, own_ext h.own hE, own_chgM h.wl (Chg.ext hE : Chg [] w w') (by simp), fun q hq => (h.it q hq).chg (Chg.ext hE : Chg [] w w') (by simp), h.pm, h.pl, h.ml, h.newp, h.newm, h.old.trans hE⟩
theorem NetS.sh (h : NetS w0 w p m lv l k W) : ∃ a c, lv = .slice a l.length c ∧ l.length ≤ c ∧ c ≤ maxLen := by
  rcases h.own.2 with ⟨h1, h2⟩ | ⟨g, cap, cur, h1, _, _, h2, h3, _⟩
  · exact ⟨none, 0, by rw [h1, h2], by omega, by unfold maxLen; omega⟩
  · exact ⟨_, cap, h1, h2, h3⟩
theorem NetS.mut_lt (h : NetS w0 w p m lv l k W) : ∀ t ∈ NMut p m lv, t < w.heap.size ∧ w0.heap.size ≤ t := by
  intro t ht
  simp only [NMut, List.mem_cons] at ht
  rcases ht with rfl | rfl | ht
  · exact ⟨h.pb.lt, h.newp⟩
  · exact ⟨World.ownsMap.lt h.wl, h.newm⟩
  · rcases h.own.2 with ⟨h1, _⟩ | ⟨g, cap, cur, h1, h2, h3, _⟩
    · rw [h1] at ht; simp [Value.ownBlock] at ht
    · rw [h1] at ht; simp [Value.ownBlock] at ht; subst ht
      exact ⟨(Array.getElem?_eq_some_iff.1 h3).1, h2⟩
theorem own_off {S : List Nat} {base : Nat} {e : TypeId} {size : Nat} {v : Value} {n : Nat} {xs : List Value} (h : w.ownsRow base e size v n xs) (hg : Chg S w w') (hS : ∀ t ∈ v.ownBlock.toList, t ∉ S) : w'.ownsRow base e size v n xs := by
  obtain ⟨h1, h2⟩ := h
  refine ⟨h1, ?_⟩
  rcases h2 with h2 | ⟨g, cap, cur, hv, hg', hh, r⟩
  · exact .inl h2
  · exact .inr ⟨g, cap, cur, hv, hg', (hg.block g (Array.getElem?_eq_some_iff.1 hh).1 (hS g (by rw [hv]; simp [Value.ownBlock]))).trans hh, r⟩
/-- .. behind a change of the map alone. -/
theorem NetS.ways {k' : Nat} {W' : WL} (h : NetS w0 w p m lv l k W) (hg : Chg [m] w w') (hW : Walls w' m k' W') : NetS w0 w' p m lv l k' W' := by
  refine ⟨h.pb.chg hg (by simp; exact h.pm), own_off h.own hg (fun t ht hm => by simp at hm; subst hm; exact h.ml ht), hW, fun q hq => (h.it q hq).chg hg (fun t ht => .inl (by simp at ht; subst ht; simp [NMut])), h.pm, h.pl, h.ml, h.newp, h.newm, ?_⟩
  exact Chg.below h.old hg h.old.size (fun t ht => by simp at ht; subst ht; exact h.newm)
end

set_option maxHeartbeats 1000000 in
theorem nlen_nil (w : World) : Calls Try.prog 12 #[.pointer none] w fun e w' => e = .returned (.int .i64 0) ∧ w' = w := by
  go_enter Try.func12, Try.ntmps12
  go_wp2_with fail
  go_ret
  exact ⟨rfl, rfl⟩
set_option maxHeartbeats 1000000 in
theorem nlen_c {w0 w : World} {p m k : Nat} {lv : Value} {l : List Item} {W : WL} (h : NetS w0 w p m lv l k W) : Calls Try.prog 12 #[ptr p] w fun e w' => e = .returned (.int .i64 (l.length : Int)) ∧ w' = w := by
  obtain ⟨a, c, rfl, h1, h2⟩ := h.sh
  have c0 := h.pb.cell 0 rfl
  simp only [List.getElem_toArray, List.getElem_cons_zero] at c0
  obtain ⟨L, hL⟩ : ∃ L, L = l.length := ⟨_, rfl⟩
  rw [← hL] at c0 h1 ⊢
  clear hL h
  have h3 : L ≤ 9223372036854775807 := by unfold maxLen at h2; omega
  go_enter Try.func12, Try.ntmps12
  go_wp2_with fail
  go_ret
  exact ⟨rfl, rfl⟩
set_option maxHeartbeats 1000000 in
theorem nblocked_nil (a b : Int) (w : World) : Calls Try.prog 24 #[.pointer none, .int .u64 a, .int .u64 b] w fun e w' => e = .returned (.bool true) ∧ w' = w := by
  go_enter Try.func24, Try.ntmps24
  go_wp2_with fail
  go_ret
  exact ⟨rfl, rfl⟩
set_option maxHeartbeats 1000000 in
theorem nblocked_c {w0 w : World} {p m k : Nat} {lv : Value} {l : List Item} {W : WL} (h : NetS w0 w p m lv l k W) {a b : Int} (ha : U64 a) (hb : U64 b) :
    Calls Try.prog 24 #[ptr p, .int .u64 a, .int .u64 b] w (RetIs (.bool (wall W a b)) w) := by
  have c1 := h.pb.cell 1 rfl
  simp only [List.getElem_toArray, List.getElem_cons_zero, List.getElem_cons_succ] at c1
  have hlook := h.wl.look ha hb
  obtain ⟨z, hz⟩ : ∃ z, z = wall W a b := ⟨_, rfl⟩
  rw [← hz] at hlook ⊢
  clear hz h
  go_enter Try.func24, Try.ntmps24
  go_wp2_with fail
  go_ret
  exact ⟨rfl, Ext.alloc _ _⟩
set_option maxHeartbeats 1000000 in
theorem nblock_nil (a b : Int) (y : Bool) (w : World) : Calls Try.prog 21 #[.pointer none, .int .u64 a, .int .u64 b, .bool y] w fun e w' => e = .returned (.tuple #[]) ∧ w' = w := by
  go_enter Try.func21, Try.ntmps21
  go_wp2_with fail
  exact bodyPost_end (results_none Try.results21 _ _ _) rfl ⟨rfl, rfl⟩
/-- The ways behind a Block. -/
def walled (W : WL) (a b : Int) (y : Bool) : WL := if y then putG (wayK a b) () W else delG (wayK a b) W
set_option maxHeartbeats 1000000 in
theorem nblock_c {w0 w : World} {p m k : Nat} {lv : Value} {l : List Item} {W : WL} (h : NetS w0 w p m lv l k W) (hk : k < maxLen) {a b : Int} (ha : U64 a) (hb : U64 b) (y : Bool) :
    Calls Try.prog 21 #[ptr p, .int .u64 a, .int .u64 b, .bool y] w fun e w' => e = .returned (.tuple #[]) ∧ NetS w0 w' p m lv l (k + 1) (walled W a b y) ∧ Chg [m] w w' := by
  have c1 := h.pb.cell 1 rfl
  simp only [List.getElem_toArray, List.getElem_cons_zero, List.getElem_cons_succ] at c1
  cases y with
  | true =>
    obtain ⟨w', hrun, hw, hg, _⟩ := h.wl.put hk ha hb
    have HF := Lib.hid (show NetS w0 w' p m lv l (k + 1) (walled W a b true) ∧ Chg [m] w w' from ⟨h.ways hg hw, hg⟩)
    clear h hw hg
    go_enter Try.func21, Try.ntmps21
    go_wp2_with fail
    exact bodyPost_end (results_none Try.results21 _ _ _) rfl ⟨rfl, HF.out⟩
  | false =>
    obtain ⟨w', hrun, hw, hg, _⟩ := h.wl.drop ha hb 0
    have HF := Lib.hid (show NetS w0 w' p m lv l (k + 1) (walled W a b false) ∧ Chg [m] w w' from ⟨h.ways hg (World.ownsMap.mono hw (Nat.le_succ _)), hg⟩)
    clear h hw hg
    go_enter Try.func21, Try.ntmps21
    go_wp2_with fail
    exact bodyPost_end (results_none Try.results21 _ _ _) rfl ⟨rfl, HF.out⟩
end Go.Proofs.Ytjodgbabfhcilaa
