/- disk: a disk in memory; New, lost, burn, Down, Room, Fuse, Waiting; slices.Clone, maps.Clone. -/
import Derived.Test.YtafjjladnghjbaaGreatDoorDsk1
import Derived.Test.YtafjjladnghjbaaGreatDoorDraw
import Derived.Lib.AppendZeros
import Derived.Lib.SlBytesConst
namespace Go.Proofs.YtafjjladnghjbaaGreatDoor
open Go Go.RowKit Go.Maps

/-- A disk. -/
structure Dk where
  now : FL
  sure : FL
  waits : List Dd
  room : Int
  fuse : Int
  off : Bool
def ddC (o : Dd) (bv : Value) : List Value := [.int .i64 o.kind, .string o.name, .string o.to, .int .i64 o.n, bv]
/-- The cells of a list of deeds; no bytes lie in a block of A. -/
def DDs (w : World) (A : List Nat) : List Dd → List Value → Prop
  | [], cs => cs = []
  | o :: r, cs => ∃ bv rest, cs = ddC o bv ++ rest ∧ Rd w bv (u8s o.b) ∧ OffL bv (u8s o.b) A ∧ DDs w A r rest
section
variable {w w' : World} {A A' S : List Nat}
theorem DDs.len : ∀ {xs : List Dd} {cs : List Value}, DDs w A xs cs → cs.length = xs.length * 5
  | [], _, h => by cases h; rfl
  | _ :: r, _, ⟨bv, rest, e, _, _, h⟩ => by rw [e]; simp [ddC, h.len]; omega
theorem DDs.chg : ∀ {xs : List Dd} {cs : List Value}, DDs w A xs cs → Chg S w w' → (∀ t ∈ S, NoB w t ∨ t ∈ A ∨ w.heap.size ≤ t) → DDs w' A xs cs
  | [], _, h, _, _ => h
  | _ :: _, _, ⟨bv, rest, e, h1, h2, h3⟩, hg, hS => ⟨bv, rest, e, h1.chgA h2 hg hS, h2, h3.chg hg hS⟩
theorem DDs.off : ∀ {xs : List Dd} {cs : List Value}, DDs w A xs cs → (∀ t ∈ A', t ∈ A ∨ w.heap.size ≤ t) → DDs w A' xs cs
  | [], _, h, _ => h
  | _ :: _, _, ⟨bv, rest, e, h1, h2, h3⟩, hA => ⟨bv, rest, e, h1, h2.more h1 hA, h3.off hA⟩
theorem DDs.push : ∀ {xs : List Dd} {cs : List Value} {o : Dd} {bv : Value}, DDs w A xs cs → Rd w bv (u8s o.b) → OffL bv (u8s o.b) A → DDs w A (xs ++ [o]) (cs ++ ddC o bv)
  | [], _, o, bv, h, h1, h2 => by cases h; exact ⟨bv, [], by simp, h1, h2, rfl⟩
  | _ :: _, _, o, bv, ⟨bv', rest, e, k1, k2, k3⟩, h1, h2 => ⟨bv', rest ++ ddC o bv, by rw [e]; simp, k1, k2, k3.push h1 h2⟩
theorem DDs.get : ∀ {xs : List Dd} {cs : List Value} {i : Nat} {o : Dd}, DDs w A xs cs → xs[i]? = some o → ∃ bv, Rd w bv (u8s o.b) ∧ OffL bv (u8s o.b) A ∧ ∀ j u, (ddC o bv)[j]? = some u → cs[i * 5 + j]? = some u
  | [], _, i, o, _, h => by simp at h
  | x :: r, _, 0, o, ⟨bv, rest, e, k1, k2, _⟩, h => by
    simp at h; subst h
    refine ⟨bv, k1, k2, fun j u hj => ?_⟩
    rw [e, Nat.zero_mul, Nat.zero_add, List.getElem?_append_left (List.getElem?_eq_some_iff.1 hj).1]; exact hj
  | x :: r, _, i + 1, o, ⟨bv, rest, e, _, _, k3⟩, h => by
    obtain ⟨bv', h1, h2, h3⟩ := k3.get (i := i) (by simpa using h)
    refine ⟨bv', h1, h2, fun j u hj => ?_⟩
    rw [e, List.getElem?_append_right (by simp [ddC]; omega)]
    have := h3 j u hj
    rw [← this]; congr 1; simp [ddC]; omega
end
/-- d is a disk S; O: its own blocks. Files are at most n, of at most M bytes each. -/
structure DkS (w : World) (d n M : Nat) (O F : List Nat) (S : Dk) : Prop where
  body : ∃ bn bs wv cs, Blk w d #[.map (some bn), .map (some bs), wv, .int .i64 S.room, .int .i64 S.fuse, .bool S.off] 75 ∧
    Files w bn n (wv.ownBlock.toList ++ F) S.now ∧ Files w bs n (wv.ownBlock.toList ++ F) S.sure ∧ w.ownsRow 0 92 5 wv S.waits.length cs ∧ DDs w (wv.ownBlock.toList ++ F) S.waits cs ∧
    bn ≠ bs ∧ d ∈ O ∧ bn ∈ O ∧ bs ∈ O ∧ (∀ t ∈ wv.ownBlock.toList, t ∈ O ∧ t ≠ d ∧ t ≠ bn ∧ t ≠ bs ∧ t < w.heap.size) ∧ d ≠ bn ∧ d ≠ bs
  now : LenLe M S.now
  sure : LenLe M S.sure
  ok : ∀ o ∈ S.waits, DdOk M o
  low : ∀ t ∈ O, t < w.heap.size
  fuse0 : -1 ≤ S.fuse
  fuse1 : S.fuse ≤ 9223372036854775807
  room0 : -9223372036854775808 ≤ S.room
  room1 : S.room ≤ 9223372036854775807
  lowF : ∀ t ∈ F, t < w.heap.size
/-- What stays over a call on a disk with the blocks O. -/
def DkTo (O : List Nat) (w w' : World) (O' : List Nat) : Prop := Chg O w w' ∧ (∀ t ∈ O', t ∈ O ∨ w.heap.size ≤ t) ∧ (∀ t ∈ O, t < w.heap.size)
theorem DkTo.trans {O O' O'' : List Nat} {w w' w'' : World} (h : DkTo O w w' O') (k : DkTo O' w' w'' O'') : DkTo O w w'' O'' :=
  ⟨h.1.trans' k.1 h.2.1, fun t ht => by
    rcases k.2.1 t ht with h1 | h1
    · exact h.2.1 t h1
    · right; have := h.1.size; omega, h.2.2⟩
theorem DkTo.refl {O : List Nat} {w : World} (h : ∀ t ∈ O, t < w.heap.size) : DkTo O w w O := ⟨Chg.refl _ _, fun t ht => .inl ht, h⟩
theorem DkTo.ext {O : List Nat} {w w' : World} (hE : Ext w w') (h : ∀ t ∈ O, t < w.heap.size) : DkTo O w w' O := ⟨Chg.ext hE, fun t ht => .inl ht, h⟩

theorem dk_nob {w : World} {d bn bs : Nat} {wv : Value} {r f : Int} {o : Bool} {m : Nat} {cs : List Value} (h : Blk w d #[.map (some bn), .map (some bs), wv, .int .i64 r, .int .i64 f, .bool o] 75) (hw : w.ownsRow 0 92 5 wv m cs) : NoB w d := by
  obtain ⟨a, l, c, rfl⟩ : ∃ a l c, wv = .slice a l c := by
    rcases hw.2 with ⟨h1, _⟩ | ⟨g, cap, cur, hv, _⟩
    · exact ⟨_, _, _, h1⟩
    · exact ⟨_, _, _, hv⟩
  refine NoB.blk h ?_
  intro c hc y e
  simp at hc
  subst e
  simp at hc
/-- Other blocks turn: the disk is as it was. -/
theorem DkS.chg {w w' : World} {d n M : Nat} {O F T : List Nat} {S : Dk} (h : DkS w d n M O F S) (hg : Chg T w w') (hT : ∀ t ∈ T, t ∉ O ∧ (NoB w t ∨ t ∈ F ∨ w.heap.size ≤ t)) : DkS w' d n M O F S := by
  obtain ⟨⟨bn, bs, wv, cs, h1, h2, h3, h4, h5, h6, h7, h8, h9, h10, h11⟩, k1, k2, k3, k4, k5, k6, k7, k8, k9⟩ := h
  have hS : ∀ t ∈ T, NoB w t ∨ t ∈ wv.ownBlock.toList ++ F ∨ w.heap.size ≤ t := fun t ht => (hT t ht).2.imp id fun h => h.imp (List.mem_append_right _) id
  refine ⟨⟨bn, bs, wv, cs, h1.chg hg fun hm => (hT _ hm).1 h7, h2.chg hg (fun hm => (hT _ hm).1 h8) hS, h3.chg hg (fun hm => (hT _ hm).1 h9) hS, ?_, h5.chg hg hS, h6, h7, h8, h9, fun t ht => ?_, h11⟩, k1, k2, k3, fun t ht => Nat.lt_of_lt_of_le (k4 t ht) hg.size, k5, k6, k7, k8, fun t ht => Nat.lt_of_lt_of_le (k9 t ht) hg.size⟩
  · obtain ⟨e1, e2⟩ := h4
    refine ⟨e1, ?_⟩
    rcases e2 with e2 | ⟨g, cap, cur, rfl, hg', hh, r⟩
    · exact .inl e2
    · have hl := (Array.getElem?_eq_some_iff.1 hh).1
      exact .inr ⟨g, cap, cur, rfl, hg', (hg.block g hl fun hm => (hT _ hm).1 (h10 g (by simp [Value.ownBlock])).1).trans hh, r⟩
  · obtain ⟨q1, q2, q3, q4, q5⟩ := h10 t ht; exact ⟨q1, q2, q3, q4, Nat.lt_of_lt_of_le q5 hg.size⟩
theorem DkS.ext {w w' : World} {d n M : Nat} {O F : List Nat} {S : Dk} (h : DkS w d n M O F S) (hE : Ext w w') : DkS w' d n M O F S := h.chg (T := []) (Chg.ext hE) (by simp)
/-- Foreign blocks: other ones, made since. -/
theorem DkS.foreign {w w' : World} {d n M : Nat} {O F F' : List Nat} {S : Dk} (h : DkS w d n M O F S) (hE : Ext w w') (hF : ∀ t ∈ F', t ∈ F ∨ w.heap.size ≤ t) (hl : ∀ t ∈ F', t < w'.heap.size) : DkS w' d n M O F' S := by
  obtain ⟨⟨bn, bs, wv, cs, h1, h2, h3, h4, h5, h6, h7, h8, h9, h10, h11⟩, k1, k2, k3, k4, k5, k6, k7, k8, k9⟩ := h
  have hA : ∀ t ∈ wv.ownBlock.toList ++ F', t ∈ wv.ownBlock.toList ++ F ∨ w.heap.size ≤ t := fun t ht => by
    rcases List.mem_append.1 ht with ht | ht
    · exact .inl (List.mem_append_left _ ht)
    · exact (hF t ht).imp (List.mem_append_right _) id
  have h0 : ∀ t ∈ ([] : List Nat), NoB w t ∨ t ∈ wv.ownBlock.toList ++ F' ∨ w.heap.size ≤ t := by simp
  refine ⟨⟨bn, bs, wv, cs, h1.ext hE, (h2.off hA).ext hE, (h3.off hA).ext hE, own_ext h4 hE, (h5.off hA).chg (S := []) (Chg.ext hE) h0, h6, h7, h8, h9, fun t ht => ?_, h11⟩, k1, k2, k3, fun t ht => Nat.lt_of_lt_of_le (k4 t ht) hE.size, k5, k6, k7, k8, hl⟩
  obtain ⟨q1, q2, q3, q4, q5⟩ := h10 t ht; exact ⟨q1, q2, q3, q4, Nat.lt_of_lt_of_le q5 hE.size⟩
theorem DkS.more {w : World} {d n n' M : Nat} {O F : List Nat} {S : Dk} (h : DkS w d n M O F S) (hn : n ≤ n') : DkS w d n' M O F S := by
  obtain ⟨⟨bn, bs, wv, cs, h1, h2, h3, h4⟩, k1, k2, k3, k4, k5, k6, k7, k8, k9⟩ := h
  exact ⟨⟨bn, bs, wv, cs, h1, h2.mono hn, h3.mono hn, h4⟩, k1, k2, k3, k4, k5, k6, k7, k8, k9⟩

/-- The three last cells turn. -/
theorem DkS.turn {w : World} {d n M : Nat} {O F : List Nat} {S : Dk} (h : DkS w d n M O F S) : ∃ bn bs wv, (∃ a l c, wv = .slice a l c ∧ l = S.waits.length) ∧ Blk w d #[.map (some bn), .map (some bs), wv, .int .i64 S.room, .int .i64 S.fuse, .bool S.off] 75 ∧
    ∀ w' r f o, Chg [d] w w' → Blk w' d #[.map (some bn), .map (some bs), wv, .int .i64 r, .int .i64 f, .bool o] 75 → -1 ≤ f → f ≤ 9223372036854775807 → -9223372036854775808 ≤ r → r ≤ 9223372036854775807 →
      DkS w' d n M O F { S with room := r, fuse := f, off := o } ∧ DkTo O w w' O := by
  obtain ⟨⟨bn, bs, wv, cs, h1, h2, h3, h4, h5, h6, h7, h8, h9, h10, h11, h12⟩, k1, k2, k3, k4, k5, k6, k7, k8, k9⟩ := h
  refine ⟨bn, bs, wv, ?_, h1, fun w' r f o hg hb f0 f1 r0 r1 => ?_⟩
  · rcases h4.2 with ⟨h, h0⟩ | ⟨g, cap, cur, hv, _⟩
    · exact ⟨_, _, _, h, h0.symm⟩
    · exact ⟨_, _, _, hv, rfl⟩
  have hN := dk_nob h1 h4
  have hS : ∀ t ∈ [d], NoB w t ∨ t ∈ wv.ownBlock.toList ++ F ∨ w.heap.size ≤ t := fun t ht => by simp at ht; subst ht; exact .inl hN
  refine ⟨⟨⟨bn, bs, wv, cs, hb, h2.chg hg (by simp; exact fun e => h11 e.symm) hS, h3.chg hg (by simp; exact fun e => h12 e.symm) hS, ?_, h5.chg hg hS, h6, h7, h8, h9, fun t ht => ?_, h11, h12⟩, k1, k2, k3, fun t ht => Nat.lt_of_lt_of_le (k4 t ht) hg.size, f0, f1, r0, r1, fun t ht => Nat.lt_of_lt_of_le (k9 t ht) hg.size⟩, hg.mono (fun t ht => by simp at ht; subst ht; exact .inl h7), fun t ht => .inl ht, k4⟩
  · obtain ⟨e1, e2⟩ := h4
    refine ⟨e1, ?_⟩
    rcases e2 with e2 | ⟨g, cap, cur, rfl, hg', hh, r⟩
    · exact .inl e2
    · have hl := (Array.getElem?_eq_some_iff.1 hh).1
      exact .inr ⟨g, cap, cur, rfl, hg', (hg.block g hl fun hm => (h10 g (by simp [Value.ownBlock])).2.1 (by simpa using hm)).trans hh, r⟩
  · obtain ⟨q1, q2, q3, q4, q5⟩ := h10 t ht; exact ⟨q1, q2, q3, q4, Nat.lt_of_lt_of_le q5 hg.size⟩

/-! ### slices.Clone, maps.Clone -/
set_option maxRecDepth 100000 in
set_option maxHeartbeats 400000 in
/-- slices.Clone: nil of nil; else a new slice. -/
theorem clone8 (v : Value) (xs : List Int) (w : World) (hr : Rd w v (u8s xs)) (hx : xs.length ≤ 140737488355328) : Calls Tryz.prog 30 #[v] w (RetOwn 5 w (u8s xs)) := by
  have HR := Lib.hid hr
  obtain ⟨a, c, rfl, hl, hc, h3⟩ := Rd.open hr
  have q := fun (w : World) (a : Option Addr) (n c n' c' : Nat) => Lib.run_eql_slice_nil (P := Tryz.prog) w 23 _ a n c n' c' Tryz.underlying23
  cases a with
  | none =>
    have h0 : xs = [] := by rcases h3 with h | ⟨_, _, h, _⟩; exact h; cases h
    subst h0
    clear h3 hr HR
    go_enter Tryz.func30, Tryz.ntmps30
    go_wp2_with fail
    go_ret
    exact ⟨_, rfl, World.ownsRow_nil _ _ _ _, Ext.refl _⟩
  | some ad =>
    clear h3 hr
    have HO1 : Hid ((w.alloc (.cells #[] 5)).ownsRow w.heap.size 5 1 (.slice (some ⟨w.heap.size, 0, none⟩) 0 0) 0 []) := own_lit w [] 5 (by simp)
    go_enter Tryz.func30, Tryz.ntmps30
    go_wp2_with (at_builtin; refine wpList_append_rd rfl (.tmp 5) (.tmp 6) _ rfl el8 w.heap.size _ 0 [] (u8s xs) rfl HO1.out _ rfl (HR.out.ext (Ext.alloc _ _)) (u8s_one _) (by rw [u8s_len]; omega) (by rw [u8s_len]; unfold maxLen; omega) (by simp) ?_)
    intro v2 w2 ho2 hg2
    have hE2 : Ext w w2 := Below.grown (Ext.alloc w (.cells #[] 5)) hg2 (by simp) (by intro k hk; simp [Value.ownBlock] at hk; omega)
    have HO2 := Lib.hid ho2; clear ho2 hg2
    go_wp2_with fail
    go_ret
    exact ⟨_, rfl, by have := HO2.out; simpa using own_n this, hE2⟩
set_option maxRecDepth 100000 in
theorem mclone_c (b n : Nat) (A : List Nat) (L : FL) (w : World) (h : Files w b n A L) (hA : ∀ t ∈ A, t < w.heap.size) :
    Calls Tryz.prog 59 #[.map (some b)] w fun e w' => e = .returned (.map (some w.heap.size)) ∧ Files w' w.heap.size n A L ∧ Ext w w' := by
  obtain ⟨E, ho, hE, hL⟩ := h
  obtain ⟨es, clock, hb, F, hs, hD⟩ := ho
  have hx : Ext w (w.alloc (.map es clock)) := Ext.alloc _ _
  have hF : Files (w.alloc (.map es clock)) w.heap.size n A L := ⟨E, ⟨es, clock, (MapKept.heap_alloc w _).1, F, hs, hD⟩, fun p hp => ⟨(hE p hp).1.ext hx, (hE p hp).2⟩, hL⟩
  have hq := fun w => run_eql_map_nil_sl (P := Tryz.prog) w 72 _ _ (some b) Tryz.underlying72
  have HX := Lib.hid hx; have HF := Lib.hid hF
  clear hx hF hE hL hD F hs
  go_enter Tryz.func59, Tryz.ntmps59
  go_wp2_with fail
  rw [run_callFunc_extern Tryz.func91 (by kernel_rfl) (by kernel_rfl) (by kernel_rfl) (e := Extern.MapsClone.clone) (by kernel_rfl), run_maps_clone_sl w 72 hb]
  simp only [Result.andThen]
  rw [Oper.upon_value]
  go_wp2_with fail
  rw [run_typeAssert_map_sl _ 72 20 _ _ _ Tryz.underlying72]
  simp only [Result.andThen]
  rw [Oper.upon_value]
  go_wp2_with fail
  go_ret
  exact ⟨rfl, HF.out, HX.out⟩
end Go.Proofs.YtafjjladnghjbaaGreatDoor
