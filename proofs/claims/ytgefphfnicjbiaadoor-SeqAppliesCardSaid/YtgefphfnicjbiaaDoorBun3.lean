/- Parts of the proof, in plain words at the head of each: Bin, Blk, Concat, Draw, Chg, Lse, Rv, UnT, Clo, Sqa, Cpy, Psh, Sqb, SkL, Sqc. -/
import Derived.Test.YtgefphfnicjbiaaDoorBase
import Derived.Test.YtgefphfnicjbiaaDoorBun1
import Derived.Test.YtgefphfnicjbiaaDoorShelf
import Derived.Deep.DeepCutAuto
import Derived.Lib.AppendZeros
import Derived.Defers
import Derived.Recover
import Derived.WalkLawsBesides
import Derived.ArgAppend
import Derived.Test.YtgefphfnicjbiaaDoorMono
import Derived.Laws.CopyRow
import Derived.Lib.AppendZerosOnto
import Derived.Lib.Overlaps
set_option linter.unusedSimpArgs false
set_option linter.unusedVariables false
/- Contracts of package bin: the writers. -/
namespace Go.Proofs.YtgefphfnicjbiaaDoor
open Go Go.RowKit

theorem el8 : ElT Tryd.prog 27 5 (.int .u8 0) 1 := ElT.mk' Tryd.underlying27 (by kernel_rfl) rfl

end Go.Proofs.YtgefphfnicjbiaaDoor

/- A block of the call's own, known whole. Of any program. -/
namespace Go.Proofs.YtgefphfnicjbiaaDoor
open Go Go.RowKit

/-- Block b holds cs. -/
def Blk (w : World) (b : Nat) (cs : Array Value) (e : TypeId) : Prop := w.heap[b]? = some (.cells cs e (0, 0))

section
variable {w w' : World} {b : Nat} {cs : Array Value} {e : TypeId}
theorem Blk.lt (h : Blk w b cs e) : b < w.heap.size := (Array.getElem?_eq_some_iff.1 h).1
theorem Blk.cell (h : Blk w b cs e) (j : Nat) {u : Value} (hj : cs[j]? = some u) : w.cell? ⟨b, j, none⟩ = some u := by
  rw [cell_of_row w b j cs e (0, 0) h]; exact hj
theorem Blk.free (h : Blk w b cs e) (j : Nat) : w.frozen? ⟨b, j, none⟩ = false := by
  have h' : w.heap[b]? = some (.cells cs e (0, 0)) := h
  simp [World.frozen?, h']
theorem Blk.ext (h : Blk w b cs e) (hE : Ext w w') : Blk w' b cs e := hE.heap h
theorem Blk.below {B : Nat} (h : Blk w b cs e) (hE : Below B w w') (hb : b < B) : Blk w' b cs e := (hE.block b hb).trans h
theorem Blk.alloc (h : Blk w b cs e) (o : Obj) : Blk (w.alloc o) b cs e := h.ext (Ext.alloc _ _)
theorem Blk.new (w : World) (cs : Array Value) (e : TypeId) : Blk (w.alloc (.cells cs e)) w.heap.size cs e := heap_alloc_new w _
theorem Blk.set (h : Blk w b cs e) (j : Nat) (v : Value) : Blk (w.setCell ⟨b, j, none⟩ v) b (cs.setIfInBounds j v) e := by
  have h' : w.heap[b]? = some (.cells cs e (0, 0)) := h
  simp [Blk, World.setCell, Array.getElem?_modify, h']
theorem Blk.other (h : Blk w b cs e) (a : Addr) (v : Value) (ha : a.block ≠ b) : Blk (w.setCell a v) b cs e := by
  unfold Blk; rw [Below.heap_setCell _ _ _ _ (Ne.symm ha)]; exact h
theorem Blk.drew (h : Blk w b cs e) : Blk w.drew b cs e := h

theorem Blk.six {c0 c1 c2 c3 c4 c5 : Value} (h : Blk w b #[c0, c1, c2, c3, c4, c5] e) :
    w.cell? ⟨b, 0, none⟩ = some c0 ∧ w.cell? ⟨b, 1, none⟩ = some c1 ∧ w.cell? ⟨b, 2, none⟩ = some c2 ∧ w.cell? ⟨b, 3, none⟩ = some c3 ∧ w.cell? ⟨b, 4, none⟩ = some c4 ∧ w.cell? ⟨b, 5, none⟩ = some c5 :=
  ⟨h.cell 0 rfl, h.cell 1 rfl, h.cell 2 rfl, h.cell 3 rfl, h.cell 4 rfl, h.cell 5 rfl⟩
theorem Blk.six_free (h : Blk w b cs e) : w.frozen? ⟨b, 0, none⟩ = false ∧ w.frozen? ⟨b, 1, none⟩ = false ∧ w.frozen? ⟨b, 2, none⟩ = false ∧ w.frozen? ⟨b, 3, none⟩ = false ∧ w.frozen? ⟨b, 4, none⟩ = false ∧ w.frozen? ⟨b, 5, none⟩ = false :=
  ⟨h.free 0, h.free 1, h.free 2, h.free 3, h.free 4, h.free 5⟩
end
end Go.Proofs.YtgefphfnicjbiaaDoor

/- Contracts of slices.Grow, slices.Concat and slices.Clone at []byte. -/
namespace Go.Proofs.YtgefphfnicjbiaaDoor
open Go Go.RowKit
/-- A list of texts, by slices. -/
structure Texts (w : World) (cs : List Value) (xss : List (List Int)) : Prop where
  len : cs.length = xss.length
  get : ∀ (j : Nat) (c : Value) (xs : List Int), cs[j]? = some c → xss[j]? = some xs → Rd w c (u8s xs)

theorem Texts.ext {w w' : World} {cs : List Value} {xss : List (List Int)} (h : Texts w cs xss) (hE : Ext w w') : Texts w' cs xss := ⟨h.len, fun j c xs h1 h2 => (h.get j c xs h1 h2).ext hE⟩

theorem Texts.nil (w : World) : Texts w [] [] := ⟨rfl, fun j c xs h => by simp at h⟩
theorem Texts.cons {w : World} {c : Value} {xs : List Int} {cs : List Value} {xss : List (List Int)} (h : Rd w c (u8s xs)) (ht : Texts w cs xss) : Texts w (c :: cs) (xs :: xss) := by
  refine ⟨by simp [ht.len], fun j c' xs' h1 h2 => ?_⟩
  cases j with
  | zero => simp at h1 h2; subst h1; subst h2; exact h
  | succ j => exact ht.get j c' xs' (by simpa using h1) (by simpa using h2)

theorem flatten_take_succ (xss : List (List Int)) (r : Nat) (xs : List Int) (h : xss[r]? = some xs) : (xss.take (r + 1)).flatten = (xss.take r).flatten ++ xs := by
  rw [List.take_add_one, h]; simp
theorem flatten_take_le (xss : List (List Int)) (r : Nat) : (xss.take r).flatten.length ≤ xss.flatten.length := by
  conv => rhs; rw [← List.take_append_drop r xss, List.flatten_append, List.length_append]
  omega

set_option maxHeartbeats 400000 in
/-- slices.Clone: nil of nil; else a new slice. -/
theorem clone8 (v : Value) (xs : List Int) (w : World) (hr : Rd w v (u8s xs)) (hx : xs.length ≤ 140737488355328) : Calls Tryd.prog 19 #[v] w (RetOwn 5 w (u8s xs)) := by
  have HR := Lib.hid hr
  obtain ⟨a, c, rfl, hl, hc, h3⟩ := Rd.open hr
  have q := fun (w : World) (a : Option Addr) (n c n' c' : Nat) => Lib.run_eql_slice_nil (P := Tryd.prog) w 27 _ a n c n' c' Tryd.underlying27
  cases a with
  | none =>
    have h0 : xs = [] := by rcases h3 with h | ⟨_, _, h, _⟩; exact h; cases h
    subst h0
    clear h3 hr HR
    go_enter Tryd.func19, Tryd.ntmps19
    go_wp2_with fail
    go_ret
    exact ⟨_, rfl, World.ownsRow_nil _ _ _ _, Ext.refl _⟩
  | some ad =>
    clear h3 hr
    have HO1 : Hid ((w.alloc (.cells #[] 5)).ownsRow w.heap.size 5 1 (.slice (some ⟨w.heap.size, 0, none⟩) 0 0) 0 []) := own_lit w [] 5 (by simp)
    go_enter Tryd.func19, Tryd.ntmps19
    go_wp2_with (at_builtin; refine wpList_append_rd rfl (.tmp 5) (.tmp 6) _ rfl el8 w.heap.size _ 0 [] (u8s xs) rfl HO1.out _ rfl (HR.out.ext (Ext.alloc _ _)) (u8s_one _) (by rw [u8s_len]; omega) (by rw [u8s_len]; unfold maxLen; omega) (by simp) ?_)
    intro v2 w2 ho2 hg2
    have hE2 : Ext w w2 := Below.grown (Ext.alloc w (.cells #[] 5)) hg2 (by simp) (by intro k hk; simp [Value.ownBlock] at hk; omega)
    have HO2 := Lib.hid ho2; clear ho2 hg2
    go_wp2_with fail
    go_ret
    exact ⟨_, rfl, by have := HO2.out; simpa using own_n this, hE2⟩
end Go.Proofs.YtgefphfnicjbiaaDoor

/- 'recover' in a region that draws its order. Of any program. -/
namespace Go.Proofs.YtgefphfnicjbiaaDoor
open Go Go.RowKit

/-- All orders that a region may take. -/
def orders (md : Region.Mode) (ops : Array Oper) : Nat → Array Bool → List (List Nat)
  | 0, _ => [[]]
  | fuel + 1, listed => match Region.ready md ops listed with
    | [] => [[]]
    | rs => rs.flatMap fun i => (orders md ops fuel (listed.setIfInBounds i true)).map (i :: ·)

theorem go_mem_orders (md : Region.Mode) (ops : Array Oper) : ∀ (fuel t : Nat) (listed : Array Bool), Region.linearise.go md ops fuel t listed [] ∈ orders md ops fuel listed := by
  intro fuel
  induction fuel with
  | zero => intro t listed; simp [Region.linearise.go, orders]
  | succ fuel ih =>
    intro t listed
    simp only [Region.linearise.go]
    change (match (Region.ready md ops listed)[t % (Region.ready md ops listed).length]? with
      | some i => Region.linearise.go md ops fuel (t / (Region.ready md ops listed).length) (listed.setIfInBounds i true) [i]
      | none => [].reverse) ∈ _
    simp only [orders]
    cases hr : Region.ready md ops listed with
    | nil => simp
    | cons x xs =>
      have hlt : t % (x :: xs).length < (x :: xs).length := Nat.mod_lt _ (by simp)
      rw [List.getElem?_eq_getElem hlt]
      simp only []
      rw [linearise_go_acc, List.reverse_singleton, List.singleton_append]
      exact List.mem_flatMap.2 ⟨_, List.getElem_mem hlt, List.mem_map.2 ⟨_, ih _ _, rfl⟩⟩

theorem wpS_region_draw {P : Program} {ops : Array Oper} {Q : Exit → Act → List Frame → World → Prop} {a : Act} {cs : List Frame} {w : World} {id : Nat} (L : List (List Nat)) (hm : P.follows .mixedOrders = true) (hL : orders .any ops ops.size (Array.replicate ops.size false) = L)
    (h : ∀ l ∈ L, wpOpsS P ops Q l a cs w.drew) : (Code.region id ops true).wpS P Q a cs w := by
  subst hL
  intro b k hb hr
  have hl : Region.schedule (P.follows .mixedOrders) ops (w.tape w.drawn (.order b.fn id)) ∈ orders .any ops ops.size (Array.replicate ops.size false) := by
    simp only [Region.schedule, hm, Bool.true_or, if_true]
    exact go_mem_orders .any ops _ _ _
  obtain ⟨e, a', cs', w', q, r⟩ := wp_opsS _ a cs w.drew (h _ hl) b k hb hr
  exact ⟨e, a', cs', w', q, .of_steps (.one step_region_draw) r⟩

/-! ### What a call leaves alone but for one block -/
theorem Ext.grownBy {w w' : World} (h : Ext w w') (r : Option Nat) : w.grownBy w' r := ⟨h.os, h.tape, h.output, h.size, fun k hk _ => h.block k hk⟩
theorem grown_refl (w : World) (r : Option Nat) : w.grownBy w r := ⟨rfl, rfl, rfl, Nat.le_refl _, fun _ _ _ => rfl⟩
theorem grown_set (w : World) (b j : Nat) (v : Value) (s : Option Nat := none) : w.grownBy (w.setCell ⟨b, j, none⟩ v) (some b) :=
  ⟨rfl, rfl, rfl, by simp [World.setCell], fun k _ hne => by rw [Below.heap_setCell _ _ _ _ (by intro e; exact hne (by rw [e]))]⟩
theorem grown_trans1 {a b c : World} {r : Option Nat} (h : a.grownBy b r) (k : b.grownBy c r) : a.grownBy c r := grown_trans h k (.inl rfl)
theorem grown_drew {w w' : World} {r : Option Nat} (h : w.grownBy w' r) : w.grownBy w'.drew r := ⟨h.os, h.tape, h.output, h.size, h.block⟩
theorem Blk.grown {w w' : World} {b : Nat} {cs : Array Value} {e : TypeId} {r : Option Nat} (h : Blk w b cs e) (hg : w.grownBy w' r) (hr : some b ≠ r) : Blk w' b cs e := by
  unfold Blk at *; rw [hg.block b (Blk.lt h) hr]; exact h
theorem cell_grown {w w' : World} {r : Option Nat} (hg : w.grownBy w' r) {p : Addr} {v : Value} (h : w.cell? p = some v) (hr : some p.block ≠ r) : w'.cell? p = some v := by
  rw [World.cell?_of_block (hg.block p.block (World.block_lt_of_cell? w p h) hr)]; exact h
/-- The block that v lies in, if it has cells, is none of r. -/
def Off (v : Value) (cs : List Value) (r : Option Nat) : Prop := ∀ a n c, v = .slice (some a) n c → cs ≠ [] → some a.block ≠ r
theorem Rd.grown {w w' : World} {v : Value} {cs : List Value} {r : Option Nat} (h : Rd w v cs) (hg : w.grownBy w' r) (ho : Off v cs r) : Rd w' v cs := by
  obtain ⟨a, c, hv, h1, h2, h3⟩ := h
  refine ⟨a, c, hv, h1, h2, ?_⟩
  by_cases hn : cs = []
  · exact .inl hn
  · rcases h3 with h3 | ⟨b, o, rfl, hc⟩
    · exact absurd h3 hn
    · exact .inr ⟨b, o, rfl, fun j u hj => cell_grown hg (hc j u hj) (by have := ho _ _ _ hv hn; exact this)⟩
/-- A block whose cells are none of the slice's is not its block. -/
theorem Rd.off {w : World} {v : Value} {cs : List Value} {b : Nat} {ds : Array Value} {e : TypeId} (h : Rd w v cs) (hb : Blk w b ds e) (hd : ∀ u ∈ ds, u ∉ cs) : Off v cs (some b) := by
  intro a n c hv hn hab
  obtain ⟨a', c', hv', h1, h2, h3⟩ := h
  rcases h3 with h3 | ⟨b', o, ha', hc⟩
  · exact hn h3
  · rw [hv] at hv'
    cases hv'
    cases ha'
    cases hab
    cases cs with
    | nil => exact hn rfl
    | cons u us =>
      have h0 := hc 0 u rfl
      rw [cell_of_row w _ _ ds e (0, 0) hb] at h0
      exact hd u (Array.mem_of_getElem? h0) (by simp)
end Go.Proofs.YtgefphfnicjbiaaDoor

/- What a call leaves alone but for some blocks. Of any program. -/
namespace Go.Proofs.YtgefphfnicjbiaaDoor
open Go Go.RowKit

/-- All blocks of w but those of S are in w' as they were. -/
structure Chg (S : List Nat) (w w' : World) : Prop where
  os : w'.os = w.os
  tape : w'.tape = w.tape
  output : w'.output = w.output
  size : w.heap.size ≤ w'.heap.size
  block : ∀ k, k < w.heap.size → k ∉ S → w'.heap[k]? = w.heap[k]?
section
variable {S T : List Nat} {w w' w'' : World}
theorem Chg.refl (S : List Nat) (w : World) : Chg S w w := ⟨rfl, rfl, rfl, Nat.le_refl _, fun _ _ _ => rfl⟩
theorem Chg.trans' (h : Chg S w w') (k : Chg T w' w'') (hT : ∀ t ∈ T, t ∈ S ∨ w.heap.size ≤ t) : Chg S w w'' :=
  ⟨k.os.trans h.os, k.tape.trans h.tape, k.output.trans h.output, Nat.le_trans h.size k.size, fun i hi hn =>
    (k.block i (Nat.lt_of_lt_of_le hi h.size) fun ht => by rcases hT i ht with h1 | h1; exact hn h1; omega).trans (h.block i hi hn)⟩
theorem Chg.trans (h : Chg S w w') (k : Chg S w' w'') : Chg S w w'' := h.trans' k fun _ ht => .inl ht
theorem Chg.mono (h : Chg T w w') (hT : ∀ t ∈ T, t ∈ S ∨ w.heap.size ≤ t) : Chg S w w' := (Chg.refl S w).trans' h hT
theorem Chg.ext (h : Ext w w') : Chg S w w' := ⟨h.os, h.tape, h.output, h.size, fun k hk _ => h.block k hk⟩
theorem Chg.grown {r : Option Nat} (h : w.grownBy w' r) : Chg r.toList w w' :=
  ⟨h.os, h.tape, h.output, h.size, fun k hk hn => h.block k hk (by intro e; subst e; simp at hn)⟩
theorem Chg.some {b : Nat} (h : w.grownBy w' (some b)) (hb : b ∈ S ∨ w.heap.size ≤ b) : Chg S w w' :=
  (Chg.grown h).mono fun t ht => by simp at ht; subst ht; exact hb
theorem Chg.set (p j : Nat) (v : Value) (hp : p ∈ S) : Chg S w (w.setCell ⟨p, j, none⟩ v) := Chg.some (grown_set w p j v) (.inl hp)
theorem Chg.setNew (h : Chg S w w') (p j : Nat) (v : Value) (hp : p ∈ S ∨ w.heap.size ≤ p) : Chg S w (w'.setCell ⟨p, j, none⟩ v) :=
  h.trans' (Chg.grown (grown_set w' p j v)) fun t ht => by simp at ht; subst ht; exact hp
theorem Chg.drew : Chg S w w.drew := Chg.ext (Ext.drew w)
theorem Chg.toDrew (h : Chg S w w') : Chg S w w'.drew := ⟨h.os, h.tape, h.output, h.size, h.block⟩
theorem Chg.below {B : Nat} {w0 : World} (h : Below B w0 w) (k : Chg S w w') (hB : B ≤ w.heap.size) (hS : ∀ t ∈ S, B ≤ t) : Below B w0 w' :=
  ⟨k.os.trans h.os, k.tape.trans h.tape, k.output.trans h.output, Nat.le_trans h.size k.size, fun i hi => (k.block i (Nat.lt_of_lt_of_le hi hB) fun ht => by have := hS i ht; omega).trans (h.block i hi)⟩
theorem Chg.toExt (h : Chg S w w') (hS : ∀ t ∈ S, w.heap.size ≤ t) : Ext w w' := Chg.below (Below.refl _ _) h (Nat.le_refl _) hS
theorem Blk.chg {b : Nat} {cs : Array Value} {e : TypeId} (h : Blk w b cs e) (hg : Chg S w w') (hb : b ∉ S) : Blk w' b cs e := by
  unfold Blk at *; rw [hg.block b (Blk.lt h) hb]; exact h
theorem cell_chg (hg : Chg S w w') {p : Addr} {v : Value} (h : w.cell? p = some v) (hp : p.block ∉ S) : w'.cell? p = some v := by
  rw [World.cell?_of_block (hg.block p.block (World.block_lt_of_cell? w p h) hp)]; exact h
/-- The block that v lies in, if it has cells, is none of S. -/
def OffL (v : Value) (cs : List Value) (S : List Nat) : Prop := ∀ a n c, v = .slice (some a) n c → cs ≠ [] → a.block ∉ S
theorem Rd.chg {v : Value} {cs : List Value} (h : Rd w v cs) (hg : Chg S w w') (ho : OffL v cs S) : Rd w' v cs := by
  obtain ⟨a, c, hv, h1, h2, h3⟩ := h
  refine ⟨a, c, hv, h1, h2, ?_⟩
  by_cases hn : cs = []
  · exact .inl hn
  · rcases h3 with h3 | ⟨b, o, rfl, hc⟩
    · exact absurd h3 hn
    · exact .inr ⟨b, o, rfl, fun j u hj => cell_chg hg (hc j u hj) (by have := ho _ _ _ hv hn; exact this)⟩
/-- A slice that lies in blocks from B on. -/
def From (B : Nat) (v : Value) : Prop := ∀ a n c, v = .slice (some a) n c → B ≤ a.block
theorem From.nil (B : Nat) : From B (.slice none 0 0) := fun _ _ _ h => by cases h
theorem From.mono {B B' : Nat} {v : Value} (h : From B v) (hb : B' ≤ B) : From B' v := fun a n c hv => Nat.le_trans hb (h a n c hv)
theorem From.off {B : Nat} {v : Value} {cs : List Value} (h : From B v) (hS : ∀ t ∈ S, t < B) : OffL v cs S := fun a n c hv _ hm => by have := h a n c hv; have := hS _ hm; omega
theorem From.own {base : Nat} {e : TypeId} {sz n : Nat} {v : Value} {xs : List Value} (h : w.ownsRow base e sz v n xs) : From base v := fun a m c hv => by
  rcases h.2 with ⟨hn, _⟩ | ⟨g, cap, cur, hv', hg, _⟩
  · rw [hn] at hv; cases hv
  · rw [hv'] at hv; cases hv; exact hg
end
end Go.Proofs.YtgefphfnicjbiaaDoor

/- What a caller may do to what it was handed: cells of their kind, in blocks that no string shares. Of any program. -/
namespace Go.Proofs.YtgefphfnicjbiaaDoor
open Go Go.RowKit

/-- The row k is shared by no string. -/
def UnB (w : World) (k : Nat) : Prop := ∃ cs t, Blk w k cs t
theorem UnB.ext {w w' : World} {k : Nat} (h : UnB w k) (hE : Ext w w') : UnB w' k := by obtain ⟨cs, t, hB⟩ := h; exact ⟨cs, t, hB.ext hE⟩
theorem UnB.free {w : World} {k : Nat} (h : UnB w k) (j : Nat) : w.frozen? ⟨k, j, none⟩ = false := by obtain ⟨cs, t, hB⟩ := h; exact hB.free j
theorem UnB.set {w : World} {k : Nat} (h : UnB w k) (b j : Nat) (v : Value) : UnB (w.setCell ⟨b, j, none⟩ v) k := by
  obtain ⟨cs, t, hB⟩ := h
  by_cases hb : b = k
  · subst hb; exact ⟨_, _, hB.set j v⟩
  · exact ⟨_, _, hB.other ⟨b, j, none⟩ v hb⟩
/-- A cell's value and another of its kind. -/
def kin (u u' : Value) : Prop := u' = u ∨ (∃ x y, u = .int .u8 x ∧ u' = .int .u8 y) ∨ ∃ x y, u = .int .u64 x ∧ u' = .int .u64 y
theorem kin.trans {a b c : Value} (h : kin a b) (k : kin b c) : kin a c := by
  rcases h with rfl | ⟨x, y, rfl, rfl⟩ | ⟨x, y, rfl, rfl⟩
  · exact k
  · rcases k with rfl | ⟨x', y', e, rfl⟩ | ⟨x', y', e, rfl⟩
    · exact .inr (.inl ⟨_, _, rfl, rfl⟩)
    · exact .inr (.inl ⟨_, _, rfl, rfl⟩)
    · cases e
  · rcases k with rfl | ⟨x', y', e, rfl⟩ | ⟨x', y', e, rfl⟩
    · exact .inr (.inr ⟨_, _, rfl, rfl⟩)
    · cases e
    · exact .inr (.inr ⟨_, _, rfl, rfl⟩)
/-- Of w's cells those in blocks of S may have other values of their kind. -/
structure Loose (S : List Nat) (w w' : World) : Prop where
  chg : Chg S w w'
  cell : ∀ b j u, w.cell? ⟨b, j, none⟩ = some u → ∃ u', w'.cell? ⟨b, j, none⟩ = some u' ∧ kin u u'
  un : ∀ k, UnB w k → UnB w' k
section
variable {S : List Nat} {w w' : World}
theorem Loose.refl (S : List Nat) (w : World) : Loose S w w := ⟨Chg.refl S w, fun _ _ u h => ⟨u, h, .inl rfl⟩, fun _ h => h⟩
theorem Loose.set {b j : Nat} {u v : Value} (h : Loose S w w') (hb : b ∈ S) (hu : UnB w b) (hc : w'.cell? ⟨b, j, none⟩ = some u) (hk : kin u v) : Loose S w (w'.setCell ⟨b, j, none⟩ v) := by
  refine ⟨h.chg.setNew b j v (.inl hb), fun b' j' u' hc' => ?_, fun k hk' => (h.un k hk').set b j v⟩
  obtain ⟨u2, h1, h2⟩ := h.cell b' j' u' hc'
  obtain ⟨cs, t, hB⟩ := h.un b hu
  by_cases hbb : b = b'
  · subst hbb
    have hB2 := hB.set j v
    have hj : ∀ i y, w'.cell? ⟨b, i, none⟩ = some y → cs[i]? = some y := fun i y hy => by
      have hB' : w'.heap[b]? = some (.cells cs t (0, 0)) := hB
      simpa [World.cell?, hB'] using hy
    by_cases hjj : j = j'
    · subst hjj
      have hl := (Array.getElem?_eq_some_iff.1 (hj _ _ hc)).1
      rw [hc] at h1
      cases h1
      exact ⟨v, hB2.cell j (by rw [Array.getElem?_setIfInBounds_self_of_lt hl]), h2.trans hk⟩
    · exact ⟨u2, hB2.cell j' (by rw [Array.getElem?_setIfInBounds_ne hjj]; exact hj _ _ h1), h2⟩
  · refine ⟨u2, ?_, h2⟩
    rw [World.cell?_of_block (Below.heap_setCell _ _ _ _ (Ne.symm hbb))]; exact h1
theorem Loose.slice {b j : Nat} {a : Option Addr} {n c : Nat} (h : Loose S w w') (hc : w.cell? ⟨b, j, none⟩ = some (.slice a n c)) : w'.cell? ⟨b, j, none⟩ = some (.slice a n c) := by
  obtain ⟨u', h1, h2⟩ := h.cell b j _ hc
  rcases h2 with rfl | ⟨x, y, e, _⟩ | ⟨x, y, e, _⟩
  · exact h1
  · cases e
  · cases e
theorem Loose.u8 {b j : Nat} (h : Loose S w w') (hc : ∃ x, w.cell? ⟨b, j, none⟩ = some (.int .u8 x)) : ∃ x, w'.cell? ⟨b, j, none⟩ = some (.int .u8 x) := by
  obtain ⟨x, hc⟩ := hc
  obtain ⟨u', h1, h2⟩ := h.cell b j _ hc
  rcases h2 with rfl | ⟨x, y, e, rfl⟩ | ⟨x, y, e, _⟩
  · exact ⟨_, h1⟩
  · exact ⟨_, h1⟩
  · cases e
theorem Loose.u64 {b j : Nat} (h : Loose S w w') (hc : ∃ x, w.cell? ⟨b, j, none⟩ = some (.int .u64 x)) : ∃ x, w'.cell? ⟨b, j, none⟩ = some (.int .u64 x) := by
  obtain ⟨x, hc⟩ := hc
  obtain ⟨u', h1, h2⟩ := h.cell b j _ hc
  rcases h2 with rfl | ⟨x, y, e, _⟩ | ⟨x, y, e, rfl⟩
  · exact ⟨_, h1⟩
  · cases e
  · exact ⟨_, h1⟩
end
/-- A list of n cells of a kind, in a block of S. -/
def SpL (S : List Nat) (w : World) (kd : IntKind) (a : Option Addr) (n : Nat) : Prop := n = 0 ∨ ∃ b o, a = some ⟨b, o, none⟩ ∧ b ∈ S ∧ UnB w b ∧ ∀ j, j < n → ∃ x, w.cell? ⟨b, o + j, none⟩ = some (.int kd x)
theorem Loose.ext {S : List Nat} {w w' : World} (hE : Ext w w') : Loose S w w' := ⟨Chg.ext hE, fun _ _ u h => ⟨u, hE.cell h, .inl rfl⟩, fun _ h => h.ext hE⟩
theorem Loose.spL {S : List Nat} {w w' : World} {a : Option Addr} {n : Nat} (h : Loose S w w') : (SpL S w .u8 a n → SpL S w' .u8 a n) ∧ (SpL S w .u64 a n → SpL S w' .u64 a n) := by
  refine ⟨fun k => k.imp id fun ⟨b, o, e, h1, h2, h3⟩ => ⟨b, o, e, h1, h.un b h2, fun j hj => h.u8 (h3 j hj)⟩, fun k => k.imp id fun ⟨b, o, e, h1, h2, h3⟩ => ⟨b, o, e, h1, h.un b h2, fun j hj => h.u64 (h3 j hj)⟩⟩
theorem Loose.trans {S : List Nat} {w w' w'' : World} (h : Loose S w w') (k : Loose S w' w'') : Loose S w w'' :=
  ⟨h.chg.trans k.chg, fun b j u hc => by
    obtain ⟨u1, h1, h2⟩ := h.cell b j u hc
    obtain ⟨u2, h3, h4⟩ := k.cell b j u1 h1
    exact ⟨u2, h3, h2.trans h4⟩, fun b hb => k.un b (h.un b hb)⟩
end Go.Proofs.YtgefphfnicjbiaaDoor

/- Slices of rows of several cells in memory. Of any program. -/
namespace Go.Proofs.YtgefphfnicjbiaaDoor
open Go Go.RowKit

/-- v is a slice whose elements are the rows, of s cells each. -/
def RowV (w : World) (s : Nat) (v : Value) (rows : List (List Value)) : Prop := ∃ a c, v = .slice a rows.length c ∧ rows.length ≤ c ∧ c ≤ maxLen ∧
  (rows = [] ∨ ∃ b o, a = some ⟨b, o, none⟩ ∧ ∀ (i : Nat) r, rows[i]? = some r → ∀ (j : Nat) u, r[j]? = some u → w.cell? ⟨b, o + i * s + j, none⟩ = some u)
theorem RowV.nil (w : World) (s : Nat) : RowV w s (.slice none 0 0) [] := ⟨none, 0, rfl, Nat.le_refl _, by unfold maxLen; omega, .inl rfl⟩
theorem RowV.chg {w w' : World} {s : Nat} {v : Value} {rows : List (List Value)} {S : List Nat} (h : RowV w s v rows) (hg : Chg S w w') (ho : ∀ a n c, v = .slice (some a) n c → rows ≠ [] → a.block ∉ S) : RowV w' s v rows := by
  obtain ⟨a, c, hv, h1, h2, h3⟩ := h
  refine ⟨a, c, hv, h1, h2, ?_⟩
  by_cases hn : rows = []
  · exact .inl hn
  · rcases h3 with h3 | ⟨b, o, rfl, hc⟩
    · exact absurd h3 hn
    · exact .inr ⟨b, o, rfl, fun i r hr j u hj => cell_chg hg (hc i r hr j u hj) (by have := ho _ _ _ hv hn; exact this)⟩
theorem RowV.ext {w w' : World} {s : Nat} {v : Value} {rows : List (List Value)} (h : RowV w s v rows) (hE : Ext w w') : RowV w' s v rows := h.chg (S := []) (Chg.ext hE) (by simp)
theorem RowV.of_own {w : World} {base s : Nat} {e : TypeId} {v : Value} {rows : List (List Value)} (h : w.ownsRow base e s v rows.length rows.flatten) (hs : ∀ r ∈ rows, r.length = s) : RowV w s v rows := by
  rcases h.2 with ⟨hv, h0⟩ | ⟨g, cap, cur, hv, _, hh, h1, h2, h3, h4⟩
  · have : rows = [] := List.eq_nil_of_length_eq_zero h0
    subst this
    exact ⟨none, 0, hv, Nat.le_refl _, by unfold maxLen; omega, .inl rfl⟩
  · refine ⟨_, cap, hv, h1, h2, .inr ⟨g, 0, rfl, fun i r hr j u hj => ?_⟩⟩
    rw [Nat.zero_add]
    refine (show Blk w g cur e from hh).cell _ ?_
    have key : ∀ (rows : List (List Value)) (i : Nat) (r : List Value), (∀ r ∈ rows, r.length = s) → rows[i]? = some r → r[j]? = some u → rows.flatten[i * s + j]? = some u := by
      intro rows
      induction rows with
      | nil => intro i r _ hi _; simp at hi
      | cons x t ih =>
        intro i r hs hi hj
        have hx := hs x (by simp)
        rw [List.flatten_cons]
        cases i with
        | zero =>
          simp at hi; subst hi
          have hjl := (List.getElem?_eq_some_iff.1 hj).1
          rw [List.getElem?_append_left (by omega)]
          simpa using hj
        | succ i =>
          simp at hi
          rw [List.getElem?_append_right (by rw [hx, Nat.succ_mul]; omega), hx, show (i + 1) * s + j - s = i * s + j by rw [Nat.succ_mul]; omega]
          exact ih i r (fun r hr => hs r (by simp [hr])) hi hj
    have hk := key rows i r hs hr hj
    rw [← h4, List.getElem?_take] at hk
    split at hk
    · simpa using hk
    · cases hk
theorem RowV.lt {w : World} {s : Nat} {v : Value} {rows : List (List Value)} {a : Addr} {n c : Nat} (h : RowV w s v rows) (e : v = .slice (some a) n c) (hne : rows ≠ []) (hr : ∀ r ∈ rows, r ≠ []) : a.block < w.heap.size := by
  obtain ⟨a', c', hv, _, _, h3⟩ := h
  rcases h3 with h3 | ⟨b, o, rfl, hc⟩
  · exact absurd h3 hne
  · rw [e] at hv
    cases hv
    cases rows with
    | nil => exact absurd rfl hne
    | cons r t =>
      cases hr2 : r with
      | nil => exact absurd hr2 (hr r (by simp))
      | cons u x => exact World.block_lt_of_cell? w ⟨b, o + 0 * s + 0, none⟩ (hc 0 r rfl 0 u (by rw [hr2]; rfl))
end Go.Proofs.YtgefphfnicjbiaaDoor

/- Rows that no string shares: whose cells may be written. Of any program. -/
namespace Go.Proofs.YtgefphfnicjbiaaDoor
open Go Go.RowKit

/-- The row that v's elements lie in, if it has any, is shared by no string. -/
def UnT (w : World) (v : Value) : Prop := ∀ a n c, v = .slice (some a) n c → n ≠ 0 → ∃ cs, Blk w a.block cs 5
section
variable {w w' : World} {v : Value}
theorem UnT.nil (w : World) : UnT w (.slice none 0 0) := fun _ _ _ h => by cases h
theorem UnT.zero (w : World) (a : Option Addr) (c : Nat) : UnT w (.slice a 0 c) := fun _ _ _ h hn => by cases h; exact absurd rfl hn
theorem UnT.not (w : World) {v : Value} (h : ∀ a n c, v ≠ .slice a n c) : UnT w v := fun _ _ _ e => absurd e (h _ _ _)
theorem UnT.set (h : UnT w v) (b j : Nat) (u : Value) : UnT (w.setCell ⟨b, j, none⟩ u) v := fun a n c e hn => by
  obtain ⟨cs, hB⟩ := h a n c e hn
  by_cases hb : b = a.block
  · subst hb; exact ⟨_, hB.set j u⟩
  · exact ⟨_, hB.other ⟨b, j, none⟩ u hb⟩
theorem UnT.drew (h : UnT w v) : UnT w.drew v := fun a n c e hn => by
  obtain ⟨cs, hB⟩ := h a n c e hn
  exact ⟨cs, hB.drew⟩
theorem UnT.ext (h : UnT w v) (hE : Ext w w') : UnT w' v := fun a n c e hn => by
  obtain ⟨cs, hB⟩ := h a n c e hn
  exact ⟨cs, hB.ext hE⟩
theorem UnT.grown {r : Option Nat} (h : UnT w v) (hg : w.grownBy w' r) (hr : ∀ a n c, v = .slice (some a) n c → n ≠ 0 → some a.block ≠ r) : UnT w' v := fun a n c e hn => by
  obtain ⟨cs, hB⟩ := h a n c e hn
  exact ⟨cs, hB.grown hg (hr a n c e hn)⟩
theorem UnT.chg {S : List Nat} (h : UnT w v) (hg : Chg S w w') (hS : ∀ a n c, v = .slice (some a) n c → n ≠ 0 → a.block ∉ S) : UnT w' v := fun a n c e hn => by
  obtain ⟨cs, hB⟩ := h a n c e hn
  exact ⟨cs, hB.chg hg (hS a n c e hn)⟩
theorem UnT.own {base : Nat} {sz n : Nat} {xs : List Value} (h : w.ownsRow base 5 sz v n xs) : UnT w v := fun a m c hv _ => by
  rcases h.2 with ⟨hn, _⟩ | ⟨g, cap, cur, hv', hg, hh, _⟩
  · rw [hn] at hv; cases hv
  · rw [hv'] at hv; cases hv; exact ⟨_, hh⟩
end
end Go.Proofs.YtgefphfnicjbiaaDoor

/- Own rows: a copy by append to an empty slice; a cell turned; types tell rows apart. Of any program. -/
namespace Go.Proofs.YtgefphfnicjbiaaDoor
open Go Go.RowKit

theorem flat_row {s : Nat} {u : Value} : ∀ (rows : List (List Value)) (j : Nat), (∀ r ∈ rows, r.length = s) → rows.flatten[j]? = some u → ∃ i r j', rows[i]? = some r ∧ r[j']? = some u ∧ j = i * s + j'
  | [], j, _, h => by simp at h
  | x :: t, j, hs, h => by
    have hx := hs x (by simp)
    rw [List.flatten_cons] at h
    by_cases hj : j < s
    · rw [List.getElem?_append_left (by omega)] at h
      exact ⟨0, x, j, rfl, h, by omega⟩
    · rw [List.getElem?_append_right (by omega), hx] at h
      obtain ⟨i, r, j', h1, h2, h3⟩ := flat_row t (j - s) (fun r hr => hs r (by simp [hr])) h
      exact ⟨i + 1, r, j', by simpa using h1, h2, by rw [Nat.succ_mul]; omega⟩
/-- What an append to an empty slice with no room brings. -/
def Half (w w' : World) (p : Nat) (e : TypeId) (size m : Nat) (news : List Value) (v' : Value) : Prop :=
  (m = 0 ∧ v' = .slice (some ⟨p, 0, none⟩) 0 0) ∨ (0 < m ∧ w'.ownsRow w.heap.size e size v' m news)
section
variable {P : Program} {w : World} {ops : Array Oper} {rest : List Oper} {o : Oper} {a : Act} {Q : Exit → Act → World → Prop}
theorem run_append_zero (t ty e : TypeId) (i : TypeInfo) (ht : P.underlying t = some (.slice e)) (hi : P.info? e = some i) (ad : Addr) (ax : Option Addr) (c : Nat) :
    (Builtin.append_ #[t, t] ty #[.slice (some ad) 0 0, .slice ax 0 c]).run P w = .ok (.slice (some ad) 0 0) w := by
  cases ax with
  | none => simp [Builtin.append_, run_underlying ht, sizeOf, typeInfo, hi, Builtin.lenOf, run_firstCells_none, storeCells]
  | some x =>
    have hf := run_firstCells_some (P := P) w i.size 0 x 0 c [] (by simp) (by simp)
    simp [Builtin.append_, run_underlying ht, sizeOf, typeInfo, hi, Builtin.lenOf, hf, storeCells]
theorem wpList_append_half (hgd : o.guard = none) (s x : Operand) (t : TypeId) (ho : o.op = .call { callee := .builtin .append, args := #[s, x], argTypes := #[t, t] })
    (e : TypeId) (z : Value) (size bytes : Nat) (ht : P.underlying t = some (.slice e)) (hi : (P.info? e).map (fun i => (i.zero, i.size, i.bytes)) = some (some z, size, bytes)) (hzs : z.cells.size = size) (hsz : 0 < size)
    (p : Nat) (hs : a.eval s = .slice (some ⟨p, 0, none⟩) 0 0) (ax : Option Addr) (m c : Nat) (news : List Value) (hx : a.eval x = .slice ax m c) (hl : news.length = m * size)
    (hnews : m = 0 ∨ ∃ ad, ax = some ad ∧ ∀ j u, news[j]? = some u → w.cell? (ad.add j) = some u) (h63 : m ≤ maxLen) (hbytes : m * bytes ≤ 140737488355328)
    (h : ∀ v' w', Half w w' p e size m news v' → Ext w w' → wpList P ops Q rest (a.put o.dst v') w') : wpList P ops Q (o :: rest) a w := by
  obtain ⟨i, hi, hz, hsize, hby⟩ := info_parts hi
  refine wpList_plain hgd fun K hK => ?_
  have key : ∃ v' w', (Builtin.append_ #[t, t] o.type #[.slice (some ⟨p, 0, none⟩) 0 0, .slice ax m c]).run P w = .ok v' w' ∧ Half w w' p e size m news v' ∧ Ext w w' := by
    by_cases hm : m = 0
    · subst hm
      exact ⟨_, w, run_append_zero t o.type e i ht hi ⟨p, 0, none⟩ ax c, .inl ⟨rfl, rfl⟩, Ext.refl _⟩
    · rcases hnews with h0 | ⟨ad, rfl, hc⟩
      · exact absurd h0 hm
      · obtain ⟨v', w', hr, ho', hg⟩ := run_append_arg_grows (P := P) w t o.type e i z size bytes ht hi hz hsize hby hzs hsz ⟨p, 0, none⟩ 0 0 [] (by simp) (by simp) ad m c news hl hc (by omega) (by omega) (by simpa using hbytes)
        simp only [Nat.zero_add, List.nil_append] at ho'
        exact ⟨v', w', hr, .inr ⟨by omega, ho'⟩, ⟨hg.os, hg.tape, hg.output, hg.size, fun k hk => hg.block k hk (by simp)⟩⟩
  obtain ⟨v', w', hr, h1, h2⟩ := key
  unfold Oper.wp execOp
  simp only [ho, resolve, invoke, builtin, Sem.run_bind, Sem.run_pure, Result.andThen_ok, List.map_toArray, List.map_cons, List.map_nil, hs, hx, hr]
  exact hK _ _ (h v' w' h1 h2)
end
theorem own_low {w : World} {B B' s n : Nat} {e : TypeId} {v : Value} {xs : List Value} (h : w.ownsRow B e s v n xs) (hB : B' ≤ B) : w.ownsRow B' e s v n xs := by
  refine ⟨h.1, h.2.imp id ?_⟩
  rintro ⟨g, cap, cur, h1, h2, h3⟩
  exact ⟨g, cap, cur, h1, Nat.le_trans hB h2, h3⟩
theorem own_type {w : World} {B s n : Nat} {e : TypeId} {v : Value} {xs : List Value} (h : w.ownsRow B e s v n xs) : ∀ t ∈ v.ownBlock.toList, B ≤ t ∧ t < w.heap.size ∧ ∃ cur, Blk w t cur e := fun t ht => by
  rcases h.2 with ⟨hv, _⟩ | ⟨g, cap, cur, hv, hg, hh, _⟩
  · rw [hv] at ht; simp [Value.ownBlock] at ht
  · rw [hv] at ht; simp [Value.ownBlock] at ht; subst ht
    exact ⟨hg, (Array.getElem?_eq_some_iff.1 hh).1, cur, hh⟩
theorem blk_type {w : World} {t : Nat} {c c' : Array Value} {e e' : TypeId} (h : Blk w t c e) (h' : Blk w t c' e') : e = e' := by
  unfold Blk at h h'
  rw [h] at h'
  cases h'; rfl
/-- Rows of two element types lie in two blocks. -/
theorem own_apart {w : World} {B B' s s' n n' : Nat} {e e' : TypeId} {v v' : Value} {xs xs' : List Value} (h : w.ownsRow B e s v n xs) (h' : w.ownsRow B' e' s' v' n' xs') (he : e ≠ e') : ∀ t ∈ v.ownBlock.toList, t ∉ v'.ownBlock.toList := fun t ht ht' => by
  obtain ⟨_, _, c, hc⟩ := own_type h t ht
  obtain ⟨_, _, c', hc'⟩ := own_type h' t ht'
  exact he (blk_type hc hc')
theorem own_off {w w' : World} {S : List Nat} {base : Nat} {e : TypeId} {size : Nat} {v : Value} {n : Nat} {xs : List Value} (h : w.ownsRow base e size v n xs) (hg : Chg S w w') (hS : ∀ t ∈ v.ownBlock.toList, t ∉ S) : w'.ownsRow base e size v n xs := by
  obtain ⟨h1, h2⟩ := h
  refine ⟨h1, ?_⟩
  rcases h2 with h2 | ⟨g, cap, cur, hv, hg', hh, r⟩
  · exact .inl h2
  · exact .inr ⟨g, cap, cur, hv, hg', (hg.block g (Array.getElem?_eq_some_iff.1 hh).1 (hS g (by rw [hv]; simp [Value.ownBlock]))).trans hh, r⟩
/-- A cell of an own row is turned. -/
theorem own_set {w : World} {base size g n cap : Nat} {e : TypeId} {xs : List Value} (h : w.ownsRow base e size (.slice (some ⟨g, 0, none⟩) n cap) n xs) (j : Nat) (hj : j < xs.length) (u : Value) :
    (w.setCell ⟨g, j, none⟩ u).ownsRow base e size (.slice (some ⟨g, 0, none⟩) n cap) n (xs.set j u) := by
  obtain ⟨h1, h2⟩ := h
  refine ⟨by rw [List.length_set]; exact h1, ?_⟩
  rcases h2 with ⟨h2, _⟩ | ⟨g', cap', cur, hv, hg', hh, k1, k2, k3, k4⟩
  · cases h2
  · cases hv
    refine .inr ⟨g, cap, _, rfl, hg', (show Blk w g cur e from hh).set j u, k1, k2, by simpa using k3, ?_⟩
    rw [← k4, Array.toList_setIfInBounds, List.take_set]
theorem own_free {w : World} {base size g n cap : Nat} {e : TypeId} {xs : List Value} (h : w.ownsRow base e size (.slice (some ⟨g, 0, none⟩) n cap) n xs) (j : Nat) : w.frozen? ⟨g, j, none⟩ = false := by
  rcases h.2 with ⟨h2, _⟩ | ⟨g', cap', cur, hv, hg', hh, _⟩
  · cases h2
  · cases hv; exact (show Blk w g cur e from hh).free j
theorem own_cell {w : World} {base size g n cap : Nat} {e : TypeId} {xs : List Value} (h : w.ownsRow base e size (.slice (some ⟨g, 0, none⟩) n cap) n xs) (j : Nat) {u : Value} (hj : xs[j]? = some u) : w.cell? ⟨g, j, none⟩ = some u := by
  have := h.cells (g := g) rfl j u hj
  rwa [Addr.add_lit, Nat.zero_add] at this
theorem own_slice {w : World} {base size n : Nat} {e : TypeId} {v : Value} {xs : List Value} (h : w.ownsRow base e size v n xs) : ∃ a c, v = .slice a n c ∧ n ≤ c ∧ c ≤ 9223372036854775807 ∧ (n ≠ 0 → ∃ g, a = some ⟨g, 0, none⟩) := by
  rcases h.2 with ⟨hv, h0⟩ | ⟨g, cap, cur, hv, _, _, k1, k2, _⟩
  · exact ⟨none, 0, by rw [hv, h0], by omega, by omega, fun hn => absurd h0 hn⟩
  · exact ⟨_, cap, hv, k1, by unfold maxLen at k2; omega, fun _ => ⟨g, rfl⟩⟩
/-- An empty slice with no room is an own row of nothing. -/
theorem own_empty {w : World} {base size p : Nat} {e : TypeId} (h : Blk w p #[] e) (hp : base ≤ p) : w.ownsRow base e size (.slice (some ⟨p, 0, none⟩) 0 0) 0 [] :=
  ⟨by simp, .inr ⟨p, 0, #[], rfl, hp, h, Nat.le_refl _, Nat.zero_le _, by simp, by simp⟩⟩
theorem Half.own {w w' : World} {p : Nat} {e : TypeId} {size m : Nat} {news : List Value} {v' : Value} {base : Nat} (h : Half w w' p e size m news v') (hE : Ext w w') (hb : Blk w p #[] e) (hp : base ≤ p) (hw : base ≤ w.heap.size) (hl : news.length = m * size) : w'.ownsRow base e size v' m news := by
  rcases h with ⟨rfl, rfl⟩ | ⟨_, h⟩
  · have : news = [] := List.eq_nil_of_length_eq_zero (by omega)
    subst this
    exact own_empty (hb.ext hE) hp
  · exact own_low h hw
end Go.Proofs.YtgefphfnicjbiaaDoor

/- Layer 25 (seq): books plainly and in memory; cmp.Compare; binary searches. PRINTED BY gen/sqa.py -/
namespace Go.Proofs.YtgefphfnicjbiaaDoor
open Go Go.RowKit

/-- A client: its number, and its slots (number, leaf). -/
structure Cl where
  id : Int
  slots : List (Int × Int)
  deriving DecidableEq
/-- A book. -/
structure Bk where
  leaves : List (List Int)
  clients : List Cl
  deriving DecidableEq
/-- Cells of a slot. -/
def slR (s : Int × Int) : List Value := [.int .u64 s.1, .int .u64 s.2]
/-- A client in memory: what it is, and its slots' value. -/
abbrev CQ := Cl × Value
def clR (q : CQ) : List Value := [.int .u64 q.1.id, q.2]
def ClV (w : World) (q : CQ) : Prop := RowV w 2 q.2 (q.1.slots.map slR)
/-- Leaves in memory. -/
abbrev LQ := List Int × Value
def lfR (q : LQ) : List Value := [q.2]
/-- v is the book b. -/
def BookV (w : World) (v : Value) (b : Bk) : Prop := ∃ (lv cv : Value) (L : List LQ) (C : List CQ), v = .agg #[lv, cv] ∧ L.map (·.1) = b.leaves ∧ C.map (·.1) = b.clients ∧
  RowV w 1 lv (L.map lfR) ∧ RowV w 2 cv (C.map clR) ∧ (∀ q ∈ L, Rd w q.2 (u8s q.1)) ∧ ∀ q ∈ C, ClV w q
theorem ClV.ext {w w' : World} {q : CQ} (h : ClV w q) (hE : Ext w w') : ClV w' q := RowV.ext h hE
theorem BookV.ext {w w' : World} {v : Value} {b : Bk} (h : BookV w v b) (hE : Ext w w') : BookV w' v b := by
  obtain ⟨lv, cv, L, C, e, h1, h2, h3, h4, h5, h6⟩ := h
  exact ⟨lv, cv, L, C, e, h1, h2, h3.ext hE, h4.ext hE, fun q hq => (h5 q hq).ext hE, fun q hq => (h6 q hq).ext hE⟩
theorem RowV.shape {w : World} {s : Nat} {v : Value} {rows : List (List Value)} (h : RowV w s v rows) : ∃ a c, v = .slice a rows.length c ∧ rows.length ≤ c ∧ c ≤ 9223372036854775807 := by
  obtain ⟨a, c, h1, h2, h3, _⟩ := h
  exact ⟨a, c, h1, h2, by unfold maxLen at h3; omega⟩
theorem ClV.shape {w : World} {q : CQ} (h : ClV w q) : ∃ a n c, q.2 = .slice a n c := by
  obtain ⟨a, c, h1, _⟩ := h
  exact ⟨_, _, _, h1⟩
/-- A call that answers v and leaves the world, or all that lay in it. -/
def RetS (v : Value) (w : World) (e : Ending) (w' : World) : Prop := e = .returned v ∧ w' = w
def RetE (v : Value) (w : World) (e : Ending) (w' : World) : Prop := e = .returned v ∧ Ext w w'
/-- What cmp.Compare says of two numbers. -/
def cmpI (a b : Int) : Int := if a < b then -1 else if b < a then 1 else 0
set_option maxHeartbeats 1000000 in
theorem nan_c (a : Int) (w : World) : Calls Tryd.prog 38 #[.int .u64 a] w (RetS (.bool false) w) := by
  go_enter Tryd.func38, Tryd.ntmps38
  go_wp2_with fail
  go_ret
  exact ⟨rfl, rfl⟩
set_option maxHeartbeats 1000000 in
theorem cmp_c (a b : Int) (w : World) : Calls Tryd.prog 22 #[.int .u64 a, .int .u64 b] w (RetS (.int .i64 (cmpI a b)) w) := by
  obtain ⟨r, hr⟩ : ∃ r, r = cmpI a b := ⟨_, rfl⟩
  rw [← hr]
  have HR := Lib.hid hr
  clear hr
  by_cases h1 : a < b
  · go_enter Tryd.func22, Tryd.ntmps22
    go_wp2_with fail
    refine (nan_c a w).mono ?_
    rintro e w1 ⟨rfl, rfl⟩
    go_wp2_with fail
    refine (nan_c b _).mono ?_
    rintro e w1 ⟨rfl, rfl⟩
    go_wp2_with fail
    go_ret
    have : r = -1 := by rw [HR.out]; unfold cmpI; rw [if_pos h1]
    rw [this]
    exact ⟨rfl, rfl⟩
  · have h1' : b ≤ a := by omega
    by_cases h2 : b < a
    · have HH := Lib.hid (show r = 1 from by rw [HR.out]; unfold cmpI; rw [if_neg h1, if_pos h2])
      clear h1
      go_enter Tryd.func22, Tryd.ntmps22
      go_wp2_with fail
      refine (nan_c a w).mono ?_
      rintro e w1 ⟨rfl, rfl⟩
      go_wp2_with fail
      refine (nan_c b _).mono ?_
      rintro e w1 ⟨rfl, rfl⟩
      go_wp2_with fail
      go_ret
      rw [HH.out]
      exact ⟨rfl, rfl⟩
    · have h2' : a ≤ b := by omega
      have HH := Lib.hid (show r = 0 from by rw [HR.out]; unfold cmpI; rw [if_neg h1, if_neg h2])
      clear h1 h2
      go_enter Tryd.func22, Tryd.ntmps22
      go_wp2_with fail
      refine (nan_c a w).mono ?_
      rintro e w1 ⟨rfl, rfl⟩
      go_wp2_with fail
      refine (nan_c b _).mono ?_
      rintro e w1 ⟨rfl, rfl⟩
      go_wp2_with fail
      go_ret
      rw [HH.out]
      exact ⟨rfl, rfl⟩
set_option maxHeartbeats 1000000 in
theorem placeC_c (k x : Int) (a : Option Addr) (n c : Nat) (w : World) : Calls Tryd.prog 33 #[.agg #[.int .u64 k, .slice a n c], .int .u64 x] w (RetE (.int .i64 (cmpI k x)) w) := by
  go_enter Tryd.func33, Tryd.ntmps33
  go_wp2_with fail
  refine (cmp_c k x _).mono ?_
  rintro e w1 ⟨rfl, rfl⟩
  go_wp2_with fail
  go_ret
  exact ⟨rfl, Ext.alloc _ _⟩
set_option maxHeartbeats 1000000 in
theorem findC_c (k x y : Int) (w : World) : Calls Tryd.prog 26 #[.agg #[.int .u64 k, .int .u64 y], .int .u64 x] w (RetE (.int .i64 (cmpI k x)) w) := by
  go_enter Tryd.func26, Tryd.ntmps26
  go_wp2_with fail
  refine (cmp_c k x _).mono ?_
  rintro e w1 ⟨rfl, rfl⟩
  go_wp2_with fail
  go_ret
  exact ⟨rfl, Ext.alloc _ _⟩
/-- The place of x among the keys l: those ahead of it are less, the others not. -/
structure Cut (l : List Int) (x : Int) (P : Nat) : Prop where
  le : P ≤ l.length
  lo : ∀ k y, k < P → l[k]? = some y → y < x
  hi : ∀ k y, P ≤ k → l[k]? = some y → x ≤ y
/-- Does x stand at its place? -/
def hitAt (l : List Int) (x : Int) (P : Nat) : Bool := match l[P]? with
  | some y => decide (y = x)
  | none => false
theorem cmpI_neg (a b : Int) : (cmpI a b < 0) ↔ a < b := by
  unfold cmpI
  split
  · simp; assumption
  · split
    · simp; omega
    · simp; omega
theorem cmpI_zero (a b : Int) : (cmpI a b = 0) ↔ a = b := by
  unfold cmpI
  split
  · simp; omega
  · split
    · simp; omega
    · simp; omega

set_option maxRecDepth 100000 in
set_option maxHeartbeats 4000000 in
theorem bsC_c (v : Value) (rows : List CQ) (x : Int) (P : Nat) (w : World) (h : RowV w 2 v (rows.map clR)) (hs : ∀ q ∈ rows, ∃ a n c, q.2 = .slice a n c) (hl : rows.length ≤ 1000000) (hP : Cut (rows.map (fun q : CQ => q.1.id)) x P) :
    Calls Tryd.prog 32 #[v, .int .u64 x, .func (.func 33) #[] #[]] w (RetE (.tuple #[.int .i64 (P : Int), .bool (hitAt (rows.map (fun q : CQ => q.1.id)) x P)]) w) := by
  obtain ⟨a, c, rfl, hc1, hc2, hrows⟩ := h
  obtain ⟨n, hn⟩ : ∃ n, n = rows.length := ⟨_, rfl⟩
  rw [List.length_map, ← hn] at hc1 ⊢
  rw [← hn] at hl
  replace hc2 : c ≤ 9223372036854775807 := by unfold maxLen at hc2; omega
  have hPn : P ≤ n := by have := hP.le; rw [List.length_map] at this; omega
  obtain ⟨z, hz⟩ : ∃ z, z = hitAt (rows.map (fun q : CQ => q.1.id)) x P := ⟨_, rfl⟩
  rw [← hz]
  have hat : ∀ (wr : World), Ext w wr → ∀ (m : Nat) q, rows[m]? = some q → ∃ sb so, a = some ⟨sb, so, none⟩ ∧ ∀ (j : Nat) u, (clR q)[j]? = some u → wr.cell? ⟨sb, so + m * 2 + j, none⟩ = some u := fun wr hE m q hq => by
    rcases hrows with h3 | ⟨b, o, ha, hc⟩
    · rw [List.map_eq_nil_iff.1 h3] at hq; simp at hq
    · exact ⟨b, o, ha, fun j u hj => hE.cell (hc m _ (by rw [List.getElem?_map, hq]; rfl) j u hj)⟩
  have HAT := Lib.hid hat; have HS := Lib.hid hs; have HP := Lib.hid hP; have HN := Lib.hid hn; have HZ := Lib.hid hz
  clear hrows hs hP hn hz hat
  go_enter Tryd.func32, Tryd.ntmps32
  go_wp2_with fail
  go_loopg [9, 10, 11] n (fun g v9 v10 _v11 wr => ∃ (i j : Nat), v9 = .int .i64 (i : Int) ∧ v10 = .int .i64 (j : Int) ∧ i ≤ P ∧ P ≤ j ∧ j ≤ n ∧ j ≤ i + g ∧ Ext w wr)
  case atStart => exact ⟨0, n, rfl, rfl, by omega, hPn, Nat.le_refl _, by omega, Ext.refl _⟩
  case round =>
    obtain ⟨i, j, rfl, rfl, h1, h2, h3, h4, hE⟩ := hrel
    have HE := Lib.hid hE
    clear hE
    by_cases hlt : i < j
    · have hlt' : (i : Int) < (j : Int) := by omega
      go_upto_region 5 with fail
      obtain ⟨m, hm⟩ : ∃ m, m = (i + j) / 2 := ⟨_, rfl⟩
      have hmi : i ≤ m := by omega
      have hmj : m < j := by omega
      rw [show ((i : Int) + (j : Int)) / 2 = (m : Int) by omega]
      clear hm
      obtain ⟨q, hq⟩ : ∃ q, rows[m]? = some q := ⟨_, List.getElem?_eq_getElem (by have := HN.out; omega)⟩
      have hkey : (rows.map (fun q : CQ => q.1.id))[m]? = some ((fun q : CQ => q.1.id) q) := by rw [List.getElem?_map, hq]; rfl
      have hlo := fun h => HP.out.lo m _ h hkey
      have hhi := fun h => HP.out.hi m _ h hkey
      have hsq := HS.out q (List.mem_of_getElem? hq)
      obtain ⟨sb, so, rfl, hcr⟩ := HAT.out wr HE.out m q hq
      obtain ⟨qa, qn, qc, hqv⟩ := hsq; obtain ⟨⟨qid, qsl⟩, qv⟩ := q; dsimp only at hqv; subst hqv
      have k0 := hcr 0 _ rfl; have k1 := hcr 1 _ rfl
      dsimp only at k0 k1 hlo hhi
      rw [Nat.add_zero] at k0
      have HLO := Lib.hid hlo; have HHI := Lib.hid hhi
      have hmn : (m : Int) < (n : Int) := by omega
      clear hcr hlo hhi hkey hq
      go_wp2_with fail
      refine (placeC_c qid x qa qn qc _).mono ?_
      rintro e w2 ⟨rfl, hE2⟩
      have HE2 := Lib.hid (HE.out.trans hE2)
      clear hE2 k0 k1
      by_cases hcm : qid < x
      · have hneg : cmpI qid x < 0 := (cmpI_neg _ _).2 hcm
        have hmP : m < P := by
          rcases Nat.lt_or_ge m P with h | h
          · exact h
          · have := HHI.out h; omega
        clear hcm
        go_wp2_with fail
        go_roundg (j - (m + 1))
        case measure => omega
        case rel => exact ⟨m + 1, j, by go_num, rfl, by omega, h2, h3, by omega, HE2.out⟩
      · have hneg : 0 ≤ cmpI qid x := by
          have := mt (cmpI_neg qid x).1 hcm
          omega
        have hmP : P ≤ m := by
          rcases Nat.lt_or_ge m P with h | h
          · have := HLO.out h; omega
          · exact h
        clear hcm
        go_wp2_with fail
        go_roundg (m - i)
        case measure => omega
        case rel => exact ⟨i, m, rfl, rfl, h1, hmP, by omega, by omega, HE2.out⟩
    · have hge : (j : Int) ≤ (i : Int) := by omega
      obtain rfl : i = P := by omega
      obtain rfl : i = j := by omega
      clear hlt h4
      by_cases hin : i < n
      · have hin' : (i : Int) < (n : Int) := by omega
        obtain ⟨q, hq⟩ : ∃ q, rows[i]? = some q := ⟨_, List.getElem?_eq_getElem (by have := HN.out; omega)⟩
        have hsq := HS.out q (List.mem_of_getElem? hq)
        have hzq : z = decide ((fun q : CQ => q.1.id) q = x) := by
          rw [HZ.out]; unfold hitAt; rw [List.getElem?_map, hq]; rfl
        obtain ⟨sb, so, rfl, hcr⟩ := HAT.out wr HE.out i q hq
        obtain ⟨qa, qn, qc, hqv⟩ := hsq; obtain ⟨⟨qid, qsl⟩, qv⟩ := q; dsimp only at hqv; subst hqv
        have k0 := hcr 0 _ rfl; have k1 := hcr 1 _ rfl
        dsimp only at k0 k1 hzq
        rw [Nat.add_zero] at k0
        have HZQ := Lib.hid hzq
        clear hcr hq hzq
        go_wp2_with fail
        refine (placeC_c qid x qa qn qc _).mono ?_
        rintro e w2 ⟨rfl, hE2⟩
        have HE2 := Lib.hid (HE.out.trans hE2)
        clear hE2 k0 k1
        by_cases hcm : qid = x
        · have hzero : cmpI qid x = 0 := (cmpI_zero _ _).2 hcm
          have hz1 : z = true := by rw [HZQ.out]; exact decide_eq_true hcm
          clear hcm
          rw [hzero]
          go_wp2_with fail
          go_ret2
          rw [hz1]
          exact ⟨rfl, HE2.out⟩
        · have hzero : ¬ cmpI qid x = 0 := fun h => hcm ((cmpI_zero _ _).1 h)
          have hz1 : z = false := by rw [HZQ.out]; exact decide_eq_false hcm
          have hzb : (cmpI qid x == 0) = false := by simpa using hzero
          clear hcm
          go_wp2_with fail
          go_ret2
          rw [hz1]
          exact ⟨rfl, HE2.out⟩
      · have hin' : (n : Int) ≤ (i : Int) := by omega
        have hzq : z = false := by
          rw [HZ.out]; unfold hitAt; rw [List.getElem?_eq_none (by rw [List.length_map]; have := HN.out; omega)]
        have HZQ := Lib.hid hzq
        clear hin hzq
        go_wp2_with fail
        go_ret2
        rw [HZQ.out]
        exact ⟨rfl, HE.out⟩

set_option maxRecDepth 100000 in
set_option maxHeartbeats 4000000 in
theorem bsS_c (v : Value) (rows : List (Int × Int)) (x : Int) (P : Nat) (w : World) (h : RowV w 2 v (rows.map slR)) (hs : ∀ q ∈ rows, True) (hl : rows.length ≤ 1000000) (hP : Cut (rows.map (fun q : Int × Int => q.1)) x P) :
    Calls Tryd.prog 25 #[v, .int .u64 x, .func (.func 26) #[] #[]] w (RetE (.tuple #[.int .i64 (P : Int), .bool (hitAt (rows.map (fun q : Int × Int => q.1)) x P)]) w) := by
  obtain ⟨a, c, rfl, hc1, hc2, hrows⟩ := h
  obtain ⟨n, hn⟩ : ∃ n, n = rows.length := ⟨_, rfl⟩
  rw [List.length_map, ← hn] at hc1 ⊢
  rw [← hn] at hl
  replace hc2 : c ≤ 9223372036854775807 := by unfold maxLen at hc2; omega
  have hPn : P ≤ n := by have := hP.le; rw [List.length_map] at this; omega
  obtain ⟨z, hz⟩ : ∃ z, z = hitAt (rows.map (fun q : Int × Int => q.1)) x P := ⟨_, rfl⟩
  rw [← hz]
  have hat : ∀ (wr : World), Ext w wr → ∀ (m : Nat) q, rows[m]? = some q → ∃ sb so, a = some ⟨sb, so, none⟩ ∧ ∀ (j : Nat) u, (slR q)[j]? = some u → wr.cell? ⟨sb, so + m * 2 + j, none⟩ = some u := fun wr hE m q hq => by
    rcases hrows with h3 | ⟨b, o, ha, hc⟩
    · rw [List.map_eq_nil_iff.1 h3] at hq; simp at hq
    · exact ⟨b, o, ha, fun j u hj => hE.cell (hc m _ (by rw [List.getElem?_map, hq]; rfl) j u hj)⟩
  have HAT := Lib.hid hat; have HS := Lib.hid hs; have HP := Lib.hid hP; have HN := Lib.hid hn; have HZ := Lib.hid hz
  clear hrows hs hP hn hz hat
  go_enter Tryd.func25, Tryd.ntmps25
  go_wp2_with fail
  go_loopg [9, 10, 11] n (fun g v9 v10 _v11 wr => ∃ (i j : Nat), v9 = .int .i64 (i : Int) ∧ v10 = .int .i64 (j : Int) ∧ i ≤ P ∧ P ≤ j ∧ j ≤ n ∧ j ≤ i + g ∧ Ext w wr)
  case atStart => exact ⟨0, n, rfl, rfl, by omega, hPn, Nat.le_refl _, by omega, Ext.refl _⟩
  case round =>
    obtain ⟨i, j, rfl, rfl, h1, h2, h3, h4, hE⟩ := hrel
    have HE := Lib.hid hE
    clear hE
    by_cases hlt : i < j
    · have hlt' : (i : Int) < (j : Int) := by omega
      go_upto_region 5 with fail
      obtain ⟨m, hm⟩ : ∃ m, m = (i + j) / 2 := ⟨_, rfl⟩
      have hmi : i ≤ m := by omega
      have hmj : m < j := by omega
      rw [show ((i : Int) + (j : Int)) / 2 = (m : Int) by omega]
      clear hm
      obtain ⟨q, hq⟩ : ∃ q, rows[m]? = some q := ⟨_, List.getElem?_eq_getElem (by have := HN.out; omega)⟩
      have hkey : (rows.map (fun q : Int × Int => q.1))[m]? = some ((fun q : Int × Int => q.1) q) := by rw [List.getElem?_map, hq]; rfl
      have hlo := fun h => HP.out.lo m _ h hkey
      have hhi := fun h => HP.out.hi m _ h hkey
      have hsq := HS.out q (List.mem_of_getElem? hq)
      obtain ⟨sb, so, rfl, hcr⟩ := HAT.out wr HE.out m q hq
      obtain ⟨qid, qx⟩ := q
      have k0 := hcr 0 _ rfl; have k1 := hcr 1 _ rfl
      dsimp only at k0 k1 hlo hhi
      rw [Nat.add_zero] at k0
      have HLO := Lib.hid hlo; have HHI := Lib.hid hhi
      have hmn : (m : Int) < (n : Int) := by omega
      clear hcr hlo hhi hkey hq hsq
      go_wp2_with fail
      refine (findC_c qid x qx _).mono ?_
      rintro e w2 ⟨rfl, hE2⟩
      have HE2 := Lib.hid (HE.out.trans hE2)
      clear hE2 k0 k1
      by_cases hcm : qid < x
      · have hneg : cmpI qid x < 0 := (cmpI_neg _ _).2 hcm
        have hmP : m < P := by
          rcases Nat.lt_or_ge m P with h | h
          · exact h
          · have := HHI.out h; omega
        clear hcm
        go_wp2_with fail
        go_roundg (j - (m + 1))
        case measure => omega
        case rel => exact ⟨m + 1, j, by go_num, rfl, by omega, h2, h3, by omega, HE2.out⟩
      · have hneg : 0 ≤ cmpI qid x := by
          have := mt (cmpI_neg qid x).1 hcm
          omega
        have hmP : P ≤ m := by
          rcases Nat.lt_or_ge m P with h | h
          · have := HLO.out h; omega
          · exact h
        clear hcm
        go_wp2_with fail
        go_roundg (m - i)
        case measure => omega
        case rel => exact ⟨i, m, rfl, rfl, h1, hmP, by omega, by omega, HE2.out⟩
    · have hge : (j : Int) ≤ (i : Int) := by omega
      obtain rfl : i = P := by omega
      obtain rfl : i = j := by omega
      clear hlt h4
      by_cases hin : i < n
      · have hin' : (i : Int) < (n : Int) := by omega
        obtain ⟨q, hq⟩ : ∃ q, rows[i]? = some q := ⟨_, List.getElem?_eq_getElem (by have := HN.out; omega)⟩
        have hsq := HS.out q (List.mem_of_getElem? hq)
        have hzq : z = decide ((fun q : Int × Int => q.1) q = x) := by
          rw [HZ.out]; unfold hitAt; rw [List.getElem?_map, hq]; rfl
        obtain ⟨sb, so, rfl, hcr⟩ := HAT.out wr HE.out i q hq
        obtain ⟨qid, qx⟩ := q
        have k0 := hcr 0 _ rfl; have k1 := hcr 1 _ rfl
        dsimp only at k0 k1 hzq
        rw [Nat.add_zero] at k0
        have HZQ := Lib.hid hzq
        clear hcr hq hsq hzq
        go_wp2_with fail
        refine (findC_c qid x qx _).mono ?_
        rintro e w2 ⟨rfl, hE2⟩
        have HE2 := Lib.hid (HE.out.trans hE2)
        clear hE2 k0 k1
        by_cases hcm : qid = x
        · have hzero : cmpI qid x = 0 := (cmpI_zero _ _).2 hcm
          have hz1 : z = true := by rw [HZQ.out]; exact decide_eq_true hcm
          clear hcm
          rw [hzero]
          go_wp2_with fail
          go_ret2
          rw [hz1]
          exact ⟨rfl, HE2.out⟩
        · have hzero : ¬ cmpI qid x = 0 := fun h => hcm ((cmpI_zero _ _).1 h)
          have hz1 : z = false := by rw [HZQ.out]; exact decide_eq_false hcm
          have hzb : (cmpI qid x == 0) = false := by simpa using hzero
          clear hcm
          go_wp2_with fail
          go_ret2
          rw [hz1]
          exact ⟨rfl, HE2.out⟩
      · have hin' : (n : Int) ≤ (i : Int) := by omega
        have hzq : z = false := by
          rw [HZ.out]; unfold hitAt; rw [List.getElem?_eq_none (by rw [List.length_map]; have := HN.out; omega)]
        have HZQ := Lib.hid hzq
        clear hin hzq
        go_wp2_with fail
        go_ret2
        rw [HZQ.out]
        exact ⟨rfl, HE.out⟩

end Go.Proofs.YtgefphfnicjbiaaDoor

/- copy at elements of several cells. Of any program. -/
namespace Go.Proofs.YtgefphfnicjbiaaDoor
open Go Go.RowKit
section
variable {P : Program}
theorem run_copy_rowK (w : World) (dT sT ty elem : TypeId) (k g o dLen dCap : Nat) (a : Addr) (sLen sCap : Nat) (cur : Array Value) (t : TypeId) (cs : List Value)
    (hu : P.underlying dT = some (.slice elem)) (hs : (P.info? elem).map (·.size) = some k)
    (hg : w.heap[g]? = some (.cells cur t (0, 0))) (hn : cs.length = Nat.min sLen dLen * k)
    (hsrc : ∀ j v, cs[j]? = some v → w.cell? (a.add j) = some v) (hfit : o + cs.length ≤ cur.size) (h1 : ∀ v ∈ cs, v.oneCell' = true) :
    (Builtin.copy_ #[dT, sT] ty #[.slice (some ⟨g, o, none⟩) dLen dCap, .slice (some a) sLen sCap]).run P w =
      .ok (goInt (Nat.min sLen dLen)) (w.setRow g (cur.toList.take o ++ cs ++ cur.toList.drop (o + cs.length)).toArray) := by
  have hl := run_loadCells_list (P := P) w a cs hsrc
  have hst := run_storeCells_at P g o t cs 0 cur w hg (by simpa using hfit) h1
  cases hq : P.info? elem with
  | none => simp [hq] at hs
  | some i =>
    have hi : i.size = k := by simpa [hq] using hs
    simp [Builtin.copy_, run_underlying hu, Builtin.lenOf, Builtin.firstCells, sizeOf, typeInfo, hq, hi, ← hn, hl, hst]
theorem wpList_copy_eq (w : World) {ops : Array Oper} {rest : List Oper} {o : Oper} {a : Act} {Q : Exit → Act → World → Prop} (hgd : o.guard = none) (d s : Operand) (t t' : TypeId)
    (ho : o.op = .call { callee := .builtin .copy, args := #[d, s], argTypes := #[t, t'] }) (v u : Value) (hd : a.eval d = v) (hs : a.eval s = u) {v' : Value} {w' : World}
    (hr : (Builtin.copy_ #[t, t'] o.type #[v, u]).run P w = .ok v' w') (h : wpList P ops Q rest (a.put o.dst v') w') : wpList P ops Q (o :: rest) a w := by
  refine wpList_plain hgd fun K hK => ?_
  unfold Oper.wp execOp
  simp only [ho, resolve, invoke, builtin, Sem.run_bind, Sem.run_pure, Result.andThen_ok, List.map_toArray, List.map_cons, List.map_nil, hd, hs, hr]
  exact hK _ _ h
end
end Go.Proofs.YtgefphfnicjbiaaDoor

/- 'append(s, x)' of one element of several cells, which the walk has just laid. Of any program. -/
namespace Go.Proofs.YtgefphfnicjbiaaDoor
open Go Go.RowKit

section
variable {P : Program} {w : World} {ops : Array Oper} {rest : List Oper} {o : Oper} {a : Act} {Q : Exit → Act → World → Prop} {e : TypeId} {z : Value}
/-- 'append(s, x)', x of several cells, which the walk has just laid in a new block. -/
theorem wpList_push_row (hgd : o.guard = none) (s x : Operand) (t' : TypeId) (ho : o.op = .call { callee := .builtin .append, args := #[s, x], argTypes := #[t', t'] })
    (size bytes : Nat) (ht : P.underlying t' = some (.slice e)) (hi : (P.info? e).map (fun i => (i.zero, i.size, i.bytes)) = some (some z, size, bytes)) (hzs : z.cells.size = size) (hsz : 0 < size)
    (base : Nat) (v : Value) (n : Nat) (xs us : List Value) (hs : a.eval s = v) (hown : w.ownsRow base e size v n xs) (hl : us.length = size) (hx : a.eval x = .slice (some ⟨w.heap.size, 0, none⟩) 1 1) (h1 : ∀ u ∈ us, u.oneCell' = true)
    (hb1 : (n + 1) * bytes ≤ 140737488355328) (hb2 : n + 1 ≤ maxLen) (hbase : base ≤ w.heap.size) {W : World} (hW : W = w.alloc (.cells us.toArray e))
    (h : ∀ v' w', w'.ownsRow base e size v' (n + 1) (xs ++ us) → w.grownBy w' v.ownBlock → wpList P ops Q rest (a.put o.dst v') w') : wpList P ops Q (o :: rest) a W := by
  subst hW
  obtain ⟨i, hi, hz, hsz', hby⟩ := info_parts hi
  have hB := Blk.new w us.toArray e
  refine wpList_append_own (w.alloc (.cells us.toArray e)) hgd s x t' ho base e i z size bytes ht hi hz hsz' hby hzs hsz v n xs hs (hown.alloc _) _ 1 1 us hx (by omega) (fun j u hj => by rw [Addr.add_lit, Nat.zero_add]; exact hB.cell j (by simpa using hj)) h1 (by omega) hb1 (by simp; omega) fun v' w' g1 g2 _ => h v' w' g1 ?_
  have ga := World.grownBy_alloc w (.cells us.toArray e) v.ownBlock
  refine ⟨g2.os.trans ga.os, g2.tape.trans ga.tape, g2.output.trans ga.output, Nat.le_trans ga.size g2.size, fun k hk hne => (g2.block k (by have := ga.size; omega) hne).trans (ga.block k hk hne)⟩
end
theorem own_extG {w w' : World} {B : Nat} {v : Value} {e : TypeId} {s n : Nat} {xs : List Value} {w0 : World} (h : w.ownsRow B e s v n xs) (hg : w.grownBy w' v.ownBlock) (hE : Ext w0 w) (hB : w0.heap.size ≤ B) : Ext w0 w' := by
  refine Below.grown (show Below w0.heap.size w0 w from hE) hg hE.size fun k hk => ?_
  rcases h.2 with ⟨h1, _⟩ | ⟨g, cap, cur, h1, h2, _⟩
  · rw [h1] at hk; cases hk
  · rw [h1] at hk; simp [Value.ownBlock] at hk; omega
end Go.Proofs.YtgefphfnicjbiaaDoor

/- Layer 25 (seq): place, Find. -/
namespace Go.Proofs.YtgefphfnicjbiaaDoor
open Go Go.RowKit

def idsB (b : Bk) : List Int := b.clients.map (·.id)
def keysC (c : Cl) : List Int := c.slots.map (·.1)
/-- How many of l are less than x. -/
def posL (l : List Int) (x : Int) : Nat := l.countP (fun y => decide (y < x))
theorem posL_cut : ∀ (l : List Int) (x : Int), l.Pairwise (· < ·) → Cut l x (posL l x)
  | [], x, _ => ⟨by simp [posL], fun k y _ h => by simp at h, fun k y _ h => by simp at h⟩
  | z :: r, x, h => by
    rw [List.pairwise_cons] at h
    have ih := posL_cut r x h.2
    by_cases hz : z < x
    · have e : posL (z :: r) x = posL r x + 1 := by unfold posL; rw [List.countP_cons_of_pos (by simpa using hz)]
      rw [e]
      refine ⟨by have := ih.le; simp; omega, fun k y hk hy => ?_, fun k y hk hy => ?_⟩
      · cases k with
        | zero => simp at hy; subst hy; exact hz
        | succ k => exact ih.lo k y (by omega) (by simpa using hy)
      · cases k with
        | zero => omega
        | succ k => exact ih.hi k y (by omega) (by simpa using hy)
    · have hr : ∀ y ∈ r, ¬ y < x := fun y hy => by have := h.1 y hy; omega
      have e : posL (z :: r) x = 0 := by
        unfold posL
        rw [List.countP_eq_zero]
        intro y hy
        rcases List.mem_cons.1 hy with rfl | hy
        · simpa using hz
        · simpa using hr y hy
      rw [e]
      refine ⟨Nat.zero_le _, fun k y hk _ => by omega, fun k y _ hy => ?_⟩
      rcases List.mem_cons.1 (List.mem_of_getElem? hy) with rfl | hy
      · omega
      · have := hr y hy; omega
/-- What Find answers. -/
def findP (b : Bk) (cl sq : Int) : Int × Int := match b.clients[posL (idsB b) cl]? with
  | none => (0, 8)
  | some c => if c.id = cl then (match c.slots[posL (keysC c) sq]? with
      | some s => if s.1 = sq then (s.2, 0) else if posL (keysC c) sq = 0 ∧ 4 ≤ c.slots.length then (0, 13) else (0, 8)
      | none => if posL (keysC c) sq = 0 ∧ 4 ≤ c.slots.length then (0, 13) else (0, 8))
    else (0, 8)
theorem ids_map {C : List CQ} {b : Bk} (h : C.map (·.1) = b.clients) : C.map (fun q : CQ => q.1.id) = idsB b := by unfold idsB; rw [← h, List.map_map]; rfl
set_option maxHeartbeats 2000000 in
theorem place_c (v : Value) (b : Bk) (x : Int) (P : Nat) (w : World) (h : BookV w v b) (hl : b.clients.length ≤ 1000000) (hP : Cut (idsB b) x P) :
    Calls Tryd.prog 17 #[v, .int .u64 x] w (RetE (.tuple #[.int .i64 (P : Int), .bool (hitAt (idsB b) x P)]) w) := by
  obtain ⟨lv, cv, L, C, rfl, hL, hC, h3, h4, h5, h6⟩ := h
  obtain ⟨la, lc, rfl, -, -⟩ := h3.shape
  rw [← ids_map hC] at hP ⊢
  have hlen : C.length = b.clients.length := by rw [← hC]; simp
  have HP := Lib.hid hP
  have H4 := Lib.hid h4
  have H6 := Lib.hid h6
  have HL := Lib.hid (show C.length ≤ 1000000 by omega)
  obtain ⟨z, hz⟩ : ∃ z, z = hitAt (C.map (fun q : CQ => q.1.id)) x P := ⟨_, rfl⟩
  rw [← hz]
  have HZ := Lib.hid hz
  obtain ⟨ca, cc, rfl, -, -⟩ := h4.shape
  clear h3 h4 h5 h6 hL hC hP hz hl hlen
  generalize (L.map lfR).length = nl
  generalize (C.map clR).length = nc at *
  go_enter Tryd.func17, Tryd.ntmps17
  go_wp2_with fail
  refine (bsC_c _ C x P _ (H4.out.ext (Ext.alloc _ _)) (fun q hq => (H6.out q hq).shape) HL.out HP.out).mono ?_
  rw [← HZ.out]
  rintro e w2 ⟨rfl, hE2⟩
  go_wp2_with fail
  go_ret2
  exact ⟨rfl, (Ext.alloc _ _).trans hE2⟩
/-- The book's keys rise. -/
structure Rise (b : Bk) : Prop where
  ids : (idsB b).Pairwise (· < ·)
  keys : ∀ c ∈ b.clients, (keysC c).Pairwise (· < ·)
  lenC : b.clients.length ≤ 1000000
  lenS : ∀ c ∈ b.clients, c.slots.length ≤ 1000000
theorem hitAt_true {l : List Int} {x : Int} {P : Nat} (h : hitAt l x P = true) : l[P]? = some x := by
  unfold hitAt at h
  split at h
  · rename_i y hy; rw [hy]; simp at h; rw [h]
  · cases h
theorem hitAt_false {l : List Int} {x : Int} {P : Nat} (h : hitAt l x P = false) : ∀ y, l[P]? = some y → y ≠ x := fun y hy e => by
  unfold hitAt at h
  rw [hy] at h
  simp at h
  exact h e
set_option maxRecDepth 100000 in
set_option maxHeartbeats 4000000 in
theorem find_c (v : Value) (b : Bk) (cl sq : Int) (w : World) (h : BookV w v b) (hb : Rise b) :
    Calls Tryd.prog 9 #[v, .int .u64 cl, .int .u64 sq] w (RetE (.tuple #[.int .u64 (findP b cl sq).1, .int .i64 (findP b cl sq).2]) w) := by
  have HB := Lib.hid hb
  have HV := Lib.hid h
  obtain ⟨⟨ri, re⟩, hX⟩ : ∃ X, X = findP b cl sq := ⟨_, rfl⟩
  rw [← hX]
  obtain ⟨P, hP⟩ : ∃ P, P = posL (idsB b) cl := ⟨_, rfl⟩
  have hcut := posL_cut (idsB b) cl hb.ids
  rw [← hP] at hcut
  have hX2 : (ri, re) = match b.clients[P]? with
    | none => (0, 8)
    | some c => if c.id = cl then (match c.slots[posL (keysC c) sq]? with
        | some s => if s.1 = sq then (s.2, 0) else if posL (keysC c) sq = 0 ∧ 4 ≤ c.slots.length then (0, 13) else (0, 8)
        | none => if posL (keysC c) sq = 0 ∧ 4 ≤ c.slots.length then (0, 13) else (0, 8))
      else (0, 8) := by rw [hX, hP]; rfl
  have HX := Lib.hid hX2
  have hpl := fun w h => place_c v b cl P w h hb.lenC hcut
  obtain ⟨z, hz⟩ : ∃ z, z = hitAt (idsB b) cl P := ⟨_, rfl⟩
  rw [← hz] at hpl
  have HPL := Lib.hid hpl
  have HZ := Lib.hid hz.symm
  obtain ⟨lv, cv, L, C, rfl, hL, hC, h3, h4, h5, h6⟩ := h
  obtain ⟨la, lc, rfl, -, -⟩ := h3.shape
  obtain ⟨ca, cc, rfl, hc1, hc2, hrows⟩ := h4
  replace hc2 : cc ≤ 9223372036854775807 := by unfold maxLen at hc2; omega
  have H6 := Lib.hid h6; have HC := Lib.hid hC; have HR := Lib.hid hrows
  have hnc : (C.map clR).length = b.clients.length := by rw [List.length_map, ← hC, List.length_map]
  have HNC := Lib.hid hnc
  clear h3 h5 h6 hL hC hX hX2 hP hz hcut hb hrows hnc hpl
  dsimp only
  generalize (L.map lfR).length = nl at *
  generalize hgn : (C.map clR).length = nc at *
  clear hgn
  go_enter Tryd.func9, Tryd.ntmps9
  go_wp2_with fail
  refine (HPL.out _ (HV.out.ext (Ext.alloc _ _))).mono ?_
  rintro e w2 ⟨rfl, hE2⟩
  have HE2 := Lib.hid ((Ext.alloc w _).trans hE2)
  have c1 := ((Blk.new w #[.slice la nl lc, .slice ca nc cc] 25).ext hE2).cell 1 rfl
  simp only [List.getElem_toArray, List.getElem_cons_succ, List.getElem_cons_zero] at c1
  clear hE2 HPL HV
  cases z with
  | false =>
    have hr : (ri, re) = (0, 8) := by
      rw [HX.out]
      cases hcl : b.clients[P]? with
      | none => rfl
      | some c =>
        have := hitAt_false HZ.out c.id (by unfold idsB; rw [List.getElem?_map, hcl]; rfl)
        simp only [if_neg this]
    cases hr
    clear c1
    go_wp2_with fail
    go_ret2
    exact ⟨rfl, HE2.out⟩
  | true =>
    have hzt := hitAt_true HZ.out
    unfold idsB at hzt
    rw [List.getElem?_map] at hzt
    obtain ⟨c, hcl⟩ : ∃ c, b.clients[P]? = some c := by
      cases hcl : b.clients[P]? with
      | none => rw [hcl] at hzt; cases hzt
      | some c => exact ⟨c, rfl⟩
    rw [hcl] at hzt
    have hid : c.id = cl := Option.some.inj hzt
    obtain ⟨q, hq⟩ : ∃ q, C[P]? = some q := by
      cases hq : C[P]? with
      | none => have := hcl; rw [← HC.out, List.getElem?_map, hq] at this; cases this
      | some q => exact ⟨q, rfl⟩
    have hqc : q.1 = c := by have := hcl; rw [← HC.out, List.getElem?_map, hq] at this; exact Option.some.inj this
    obtain ⟨sb, so, rfl, hcr⟩ : ∃ sb so, ca = some ⟨sb, so, none⟩ ∧ ∀ (j : Nat) u, (clR q)[j]? = some u → w2.cell? ⟨sb, so + P * 2 + j, none⟩ = some u := by
      rcases HR.out with h3 | ⟨b', o, ha, hc⟩
      · rw [List.map_eq_nil_iff.1 h3] at hq; simp at hq
      · exact ⟨b', o, ha, fun j u hj => HE2.out.cell (hc P _ (by rw [List.getElem?_map, hq]; rfl) j u hj)⟩
    have hqv := H6.out q (List.mem_of_getElem? hq)
    have hmem : c ∈ b.clients := List.mem_of_getElem? hcl
    have hX3 : (ri, re) = match c.slots[posL (keysC c) sq]? with
        | some s => if s.1 = sq then (s.2, 0) else if posL (keysC c) sq = 0 ∧ 4 ≤ c.slots.length then (0, 13) else (0, 8)
        | none => if posL (keysC c) sq = 0 ∧ 4 ≤ c.slots.length then (0, 13) else (0, 8) := by
      rw [HX.out, hcl]; simp only [if_pos hid]
    have hPn : P < nc := by rw [HNC.out]; exact (List.getElem?_eq_some_iff.1 hcl).1
    have hcutq := posL_cut (keysC c) sq (HB.out.keys c hmem)
    have hlenq := HB.out.lenS c hmem
    obtain ⟨Q, hQ⟩ : ∃ Q, Q = posL (keysC c) sq := ⟨_, rfl⟩
    rw [← hQ] at hcutq hX3
    obtain ⟨⟨qid, qsl⟩, qv⟩ := q
    dsimp only at hqc
    subst hqc
    have k1 := hcr 1 _ rfl
    dsimp only [clR] at k1
    have hqr : RowV w 2 qv (qsl.map slR) := hqv
    have hqv2 := hqr
    clear hqv
    obtain ⟨qa, qc, rfl, hq1, hq2, hqrows⟩ := hqv2
    replace hq2 : qc ≤ 9223372036854775807 := by unfold maxLen at hq2; omega
    rw [List.length_map] at hq1 k1 hqr
    have HQR := Lib.hid hqr; have HQROWS := Lib.hid hqrows
    obtain ⟨qn, hqn⟩ : ∃ qn, qn = qsl.length := ⟨_, rfl⟩
    dsimp only at hlenq
    rw [← hqn] at k1 HQR hq1
    have hbs := bsS_c (.slice qa qn qc) qsl sq Q
    obtain ⟨y, hy⟩ : ∃ y, y = hitAt (qsl.map fun q : Int × Int => q.1) sq Q := ⟨_, rfl⟩
    rw [← hy] at hbs
    have HBS := Lib.hid hbs; have HY := Lib.hid hy.symm; have HCQ := Lib.hid hcutq; have HLQ := Lib.hid hlenq; have HX3 := Lib.hid hX3; have HQN := Lib.hid hqn
    have hQn : Q ≤ qn := by have h1 := hcutq.le; rw [show (keysC ⟨qid, qsl⟩).length = qsl.length from by unfold keysC; rw [List.length_map]] at h1; omega
    have hPn' : (P : Int) < (nc : Int) := by omega
    clear hzt hcl hid hq hcr hqr hqrows hmem hcutq hlenq hX3 hQ hbs hy hqn HX HR H6 HC HNC
    go_wp2_with fail
    refine (HBS.out _ (HQR.out.ext HE2.out) (fun _ _ => trivial) HLQ.out HCQ.out).mono ?_
    rintro e w3 ⟨rfl, hE3⟩
    have HE3 := Lib.hid (HE2.out.trans hE3)
    clear hE3 HBS k1 c1
    cases y with
    | true =>
      have hyt := hitAt_true HY.out
      rw [List.getElem?_map] at hyt
      obtain ⟨s, hs⟩ : ∃ s, qsl[Q]? = some s := by
        cases hs : qsl[Q]? with
        | none => rw [hs] at hyt; cases hyt
        | some s => exact ⟨s, rfl⟩
      rw [hs] at hyt
      have hsq : s.1 = sq := Option.some.inj hyt
      have hr : (ri, re) = (s.2, 0) := by rw [HX3.out]; simp only [hs, if_pos hsq]
      obtain ⟨tb, tf, rfl, htr⟩ : ∃ sb so, qa = some ⟨sb, so, none⟩ ∧ ∀ (j : Nat) u, (slR s)[j]? = some u → w3.cell? ⟨sb, so + Q * 2 + j, none⟩ = some u := by
        rcases HQROWS.out with h3 | ⟨b', o, ha, hc⟩
        · rw [List.map_eq_nil_iff.1 h3] at hs; simp at hs
        · exact ⟨b', o, ha, fun j u hj => HE3.out.cell (hc Q _ (by rw [List.getElem?_map, hs]; rfl) j u hj)⟩
      have k1 := htr 1 _ rfl
      have hQl : Q < qn := by rw [HQN.out]; exact (List.getElem?_eq_some_iff.1 hs).1
      have hQl' : (Q : Int) < (qn : Int) := by omega
      cases hr
      clear hyt hs htr hsq
      go_wp2_with fail
      go_ret2
      exact ⟨rfl, HE3.out⟩
    | false =>
      have hr : (ri, re) = if Q = 0 ∧ 4 ≤ qn then (0, 13) else (0, 8) := by
        rw [HX3.out, HQN.out]
        cases hs : qsl[Q]? with
        | none => rfl
        | some s =>
          have := hitAt_false HY.out s.1 (by rw [List.getElem?_map, hs]; rfl)
          simp only [if_neg this]
      by_cases hQ0 : Q = 0
      · subst hQ0
        by_cases h4 : 4 ≤ qn
        · rw [if_pos ⟨rfl, h4⟩] at hr
          cases hr
          have h4' : (4 : Int) ≤ (qn : Int) := by omega
          go_wp2_with fail
          go_ret2
          exact ⟨rfl, HE3.out⟩
        · rw [if_neg (fun h => h4 h.2)] at hr
          cases hr
          have h4' : (qn : Int) < 4 := by omega
          clear h4
          go_wp2_with fail
          go_ret2
          exact ⟨rfl, HE3.out⟩
      · rw [if_neg (fun h => hQ0 h.1)] at hr
        cases hr
        have hQ0' : ((Q : Int) == 0) = false := by simpa using hQ0
        have hQp : 0 < Q := by omega
        clear hQ0
        go_wp2_with fail
        go_ret2
        exact ⟨rfl, HE3.out⟩
end Go.Proofs.YtgefphfnicjbiaaDoor

/- Layer 25 (seq): a book's bytes, plainly. No program. -/
namespace Go.Proofs.YtgefphfnicjbiaaDoor
open Go Go.RowKit

/-- A number up to a bound. -/
def rdMany (most : Int) (bs : List Int) : Except Int (Int × List Int) := match rdNum bs with
  | .error e => .error e
  | .ok (n, r) => if most < n then .error 4 else .ok (n, r)
def rdLfs : Nat → List (List Int) → List Int → Except Int (List (List Int) × List Int)
  | 0, acc, r => .ok (acc, r)
  | k + 1, acc, r => match rdRaw 64 r with
    | .error e => .error e
    | .ok (l, r) => rdLfs k (acc ++ [l]) r
/-- x is above the last of acc, if there is one. -/
def upTo (acc : List Int) (x : Int) : Bool := match acc.getLast? with
  | none => true
  | some y => decide (y < x)
def rdSls (n : Int) : Nat → List (Int × Int) → List Int → Except Int (List (Int × Int) × List Int)
  | 0, acc, r => .ok (acc, r)
  | k + 1, acc, r => match rdNum r with
    | .error e => .error e
    | .ok (s, r) => if upTo (acc.map (·.1)) s then (match rdNum r with
      | .error e => .error e
      | .ok (i, r) => if i < n then rdSls n k (acc ++ [(s, i)]) r else .error 3) else .error 3
def rdCls (n : Int) : Nat → List Cl → List Int → Except Int (List Cl × List Int)
  | 0, acc, r => .ok (acc, r)
  | k + 1, acc, r => match rdNum r with
    | .error e => .error e
    | .ok (x, r) => if upTo (acc.map (·.id)) x then (match rdMany 4 r with
      | .error e => .error e
      | .ok (m, r) => if 0 < m then (match rdSls n m.toNat [] r with
        | .error e => .error e
        | .ok (ss, r) => rdCls n k (acc ++ [⟨x, ss⟩]) r) else .error 3) else .error 3
/-- The book that bytes are. -/
def getK (bs : List Int) : Except Int Bk := match rdMany 64 bs with
  | .error e => .error e
  | .ok (n, r) => match rdLfs n.toNat [] r with
    | .error e => .error e
    | .ok (L, r) => match rdMany 8 r with
      | .error e => .error e
      | .ok (m, r) => match rdCls n m.toNat [] r with
        | .error e => .error e
        | .ok (C, r) => if r = [] then .ok ⟨L, C⟩ else .error 5
def rawB (l : List Int) : List Int := numB l.length ++ l
def slotB (s : Int × Int) : List Int := numB s.1.toNat ++ numB s.2.toNat
def clB (c : Cl) : List Int := numB c.id.toNat ++ numB c.slots.length ++ c.slots.flatMap slotB
/-- A book's bytes. -/
def putK (b : Bk) : List Int := numB b.leaves.length ++ b.leaves.flatMap rawB ++ numB b.clients.length ++ b.clients.flatMap clB

/-- Slots behind those of acc that may be read. -/
def okS (n : Int) : List Int → List (Int × Int) → Bool
  | _, [] => true
  | acc, s :: r => upTo acc s.1 && decide (s.2 < n) && okS n (acc ++ [s.1]) r
def okC (n : Int) : List Int → List Cl → Bool
  | _, [] => true
  | acc, c :: r => upTo acc c.id && decide (1 ≤ c.slots.length) && decide (c.slots.length ≤ 4) && okS n [] c.slots && okC n (acc ++ [c.id]) r
/-- A book that entries may make. -/
def formedK (b : Bk) : Bool := decide (b.leaves.length ≤ 64) && b.leaves.all (fun l => decide (l.length ≤ 64)) && decide (b.clients.length ≤ 8) && okC b.leaves.length [] b.clients
/-- Numbers that 64 bits hold, bytes. -/
structure OkK (b : Bk) : Prop where
  leaves : b.leaves.length < 2 ^ 64
  each : ∀ l ∈ b.leaves, l.length < 2 ^ 64 ∧ B8 l
  clients : b.clients.length < 2 ^ 64
  cl : ∀ c ∈ b.clients, U64 c.id ∧ c.slots.length < 2 ^ 64 ∧ ∀ s ∈ c.slots, U64 s.1 ∧ U64 s.2

theorem u64_lt {n : Int} (h : U64 n) : n.toNat < 2 ^ 64 ∧ ((n.toNat : Nat) : Int) = n := by unfold U64 at h; omega
theorem rdNum_u64 {n : Int} (h : U64 n) (r : List Int) : rdNum (numB n.toNat ++ r) = .ok (n, r) := by
  have := rdNum_numB n.toNat (u64_lt h).1 r
  rwa [(u64_lt h).2] at this
theorem rdMany_put (most : Int) (n : Nat) (h : n < 2 ^ 64) (r : List Int) : rdMany most (numB n ++ r) = if most < (n : Int) then .error 4 else .ok ((n : Int), r) := by
  unfold rdMany
  rw [rdNum_numB n h]
theorem rdRaw_any (d r : List Int) (hl : d.length < 2 ^ 64) : rdRaw 64 (rawB d ++ r) = if d.length ≤ 64 then .ok (d, r) else .error 4 := by
  by_cases h : d.length ≤ 64
  · rw [if_pos h]; exact rdRaw_put d r 64 (by omega) hl
  · rw [if_neg h]
    unfold rdRaw rawB
    rw [List.append_assoc, rdNum_numB _ hl]
    simp only []
    rw [if_pos (by omega)]
theorem rdLfs_put : ∀ (L acc : List (List Int)) (r : List Int), (∀ l ∈ L, l.length < 2 ^ 64) → rdLfs L.length acc (L.flatMap rawB ++ r) = if L.all (fun l => decide (l.length ≤ 64)) then .ok (acc ++ L, r) else .error 4
  | [], acc, r, _ => by simp [rdLfs]
  | l :: L, acc, r, h => by
    rw [List.length_cons, List.flatMap_cons, List.append_assoc]
    simp only [rdLfs]
    rw [rdRaw_any l _ (h l (by simp))]
    by_cases hl : l.length ≤ 64
    · rw [if_pos hl]
      simp only []
      rw [rdLfs_put L _ _ (fun x hx => h x (by simp [hx]))]
      simp [hl]
    · rw [if_neg hl]; simp [hl]
theorem rdSls_put (n : Int) : ∀ (S acc : List (Int × Int)) (r : List Int), (∀ s ∈ S, U64 s.1 ∧ U64 s.2) → rdSls n S.length acc (S.flatMap slotB ++ r) = if okS n (acc.map (·.1)) S then .ok (acc ++ S, r) else .error 3
  | [], acc, r, _ => by simp [rdSls, okS]
  | s :: S, acc, r, h => by
    obtain ⟨h1, h2⟩ := h s (by simp)
    rw [List.length_cons, List.flatMap_cons, show slotB s ++ S.flatMap slotB ++ r = numB s.1.toNat ++ (numB s.2.toNat ++ (S.flatMap slotB ++ r)) by simp [slotB]]
    simp only [rdSls, okS]
    rw [rdNum_u64 h1]
    simp only []
    by_cases hu : upTo (acc.map (·.1)) s.1 = true
    · rw [if_pos hu, rdNum_u64 h2]
      simp only []
      by_cases hi : s.2 < n
      · rw [if_pos hi, rdSls_put n S _ _ (fun x hx => h x (by simp [hx]))]
        simp [hu, hi]
      · rw [if_neg hi]; simp [hi]
    · rw [if_neg hu]; simp [hu]
theorem rdCls_put (n : Int) : ∀ (C acc : List Cl) (r : List Int), (∀ c ∈ C, U64 c.id ∧ c.slots.length < 2 ^ 64 ∧ ∀ s ∈ c.slots, U64 s.1 ∧ U64 s.2) → if okC n (acc.map (·.id)) C then rdCls n C.length acc (C.flatMap clB ++ r) = .ok (acc ++ C, r) else ∃ e, e ≠ 0 ∧ rdCls n C.length acc (C.flatMap clB ++ r) = .error e
  | [], acc, r, _ => by simp [rdCls, okC]
  | c :: C, acc, r, h => by
    obtain ⟨h1, h2, h3⟩ := h c (by simp)
    rw [List.length_cons, List.flatMap_cons, show clB c ++ C.flatMap clB ++ r = numB c.id.toNat ++ (numB c.slots.length ++ (c.slots.flatMap slotB ++ (C.flatMap clB ++ r))) by simp [clB]]
    simp only [rdCls, okC]
    rw [rdNum_u64 h1]
    simp only []
    by_cases hu : upTo (acc.map (·.id)) c.id = true
    · rw [if_pos hu, rdMany_put 4 _ h2]
      by_cases h4 : c.slots.length ≤ 4
      · rw [if_neg (by omega)]
        simp only []
        by_cases h0 : 1 ≤ c.slots.length
        · rw [if_pos (by omega), Int.toNat_natCast, rdSls_put n c.slots [] _ h3]
          by_cases hs : okS n [] c.slots = true
          · rw [if_pos (by simpa using hs)]
            have ih := rdCls_put n C (acc ++ [c]) r (fun x hx => h x (by simp [hx]))
            rw [List.map_append, List.map_singleton] at ih
            have e : (⟨c.id, [] ++ c.slots⟩ : Cl) = c := rfl
            simp only [e, hu, h0, h4, hs, decide_true, Bool.true_and]
            simpa using ih
          · rw [if_neg (by simpa using hs)]
            simp only [hs]
            simp
        · rw [if_neg (by omega)]
          simp only [h0]
          simp
      · rw [if_pos (by omega)]
        simp only [h4]
        simp
    · rw [if_neg hu]
      simp only [hu]
      simp
/-- There. -/
theorem getK_put {b : Bk} (hb : OkK b) : if formedK b then getK (putK b) = .ok b else ∃ e, e ≠ 0 ∧ getK (putK b) = .error e := by
  have e1 : putK b = numB b.leaves.length ++ (b.leaves.flatMap rawB ++ (numB b.clients.length ++ (b.clients.flatMap clB ++ []))) := by simp [putK]
  unfold getK formedK
  rw [e1, rdMany_put 64 _ hb.leaves]
  by_cases h1 : b.leaves.length ≤ 64
  · rw [if_neg (show ¬ (64 : Int) < _ by omega)]
    simp only []
    rw [Int.toNat_natCast, rdLfs_put b.leaves [] _ (fun l hl => (hb.each l hl).1)]
    by_cases h2 : b.leaves.all (fun l => decide (l.length ≤ 64)) = true
    · rw [if_pos h2]
      simp only []
      rw [rdMany_put 8 _ hb.clients]
      by_cases h3 : b.clients.length ≤ 8
      · rw [if_neg (show ¬ (8 : Int) < _ by omega)]
        simp only []
        rw [Int.toNat_natCast]
        have h4 := rdCls_put b.leaves.length b.clients [] [] hb.cl
        simp only [List.map_nil] at h4
        by_cases h5 : okC b.leaves.length [] b.clients = true
        · rw [if_pos h5] at h4
          rw [h4]
          simp [h1, h2, h3, h5]
        · rw [if_neg h5] at h4
          obtain ⟨e, he, h4⟩ := h4
          rw [h4]
          simp only [h5]
          simpa using he
      · rw [if_pos (show (8 : Int) < _ by omega)]
        simp [h3]
    · rw [if_neg h2]
      simp only [h2]
      simp
  · rw [if_pos (show (64 : Int) < _ by omega)]
    simp [h1]
/-! ### Back -/
theorem b8_right {xs ys : List Int} (h : B8 (xs ++ ys)) : B8 ys := fun x hx => h x (List.mem_append.2 (.inr hx))
theorem rdMany_inv {most n : Int} {bs r : List Int} (hb : B8 bs) (h : rdMany most bs = .ok (n, r)) : bs = numB n.toNat ++ r ∧ 0 ≤ n ∧ n ≤ most ∧ B8 r := by
  unfold rdMany at h
  split at h
  · cases h
  · rename_i m r' heq
    split at h
    · cases h
    · rename_i hc
      cases h
      obtain ⟨e, h1, h2⟩ := rdNum_inv bs _ _ hb heq
      exact ⟨e, h1, by omega, by rw [e] at hb; exact b8_right hb⟩
theorem rdRaw_back {bs d r : List Int} (hb : B8 bs) (h : rdRaw 64 bs = .ok (d, r)) : bs = rawB d ++ r ∧ d.length ≤ 64 ∧ B8 d ∧ B8 r := by
  simp only [rdRaw] at h
  split at h
  · cases h
  · rename_i n r' heq
    obtain ⟨e, h2, h3⟩ := rdNum_inv bs _ _ hb heq
    split at h
    · cases h
    · rename_i hc
      split at h
      · cases h
      · rename_i hd
        cases h
        have hl : (r'.take n.toNat).length = n.toNat := by rw [List.length_take]; omega
        have hr : B8 r' := by rw [e] at hb; exact b8_right hb
        refine ⟨?_, by rw [hl]; omega, fun x hx => hr x (List.mem_of_mem_take hx), fun x hx => hr x (List.mem_of_mem_drop hx)⟩
        unfold rawB
        rw [hl, e, List.append_assoc, List.take_append_drop]
theorem rdLfs_inv : ∀ (k : Nat) (acc L : List (List Int)) (bs r : List Int), B8 bs → rdLfs k acc bs = .ok (L, r) → ∃ M, L = acc ++ M ∧ M.length = k ∧ bs = M.flatMap rawB ++ r ∧ B8 r ∧ ∀ l ∈ M, l.length ≤ 64 ∧ B8 l
  | 0, acc, L, bs, r, hb, h => by
    simp only [rdLfs] at h; cases h
    exact ⟨[], by simp, rfl, by simp, hb, by simp⟩
  | k + 1, acc, L, bs, r, hb, h => by
    simp only [rdLfs] at h
    split at h
    · cases h
    · rename_i l r' heq
      obtain ⟨e, h1, h2, h3⟩ := rdRaw_back hb heq
      obtain ⟨M, e1, e2, e3, e4, e5⟩ := rdLfs_inv k _ _ _ _ h3 h
      refine ⟨l :: M, by rw [e1]; simp, by simp [e2], by rw [e, e3]; simp, e4, fun x hx => ?_⟩
      rcases List.mem_cons.1 hx with rfl | hx
      · exact ⟨h1, h2⟩
      · exact e5 x hx
theorem rdSls_inv (n : Int) : ∀ (k : Nat) (acc S : List (Int × Int)) (bs r : List Int), B8 bs → rdSls n k acc bs = .ok (S, r) → ∃ M, S = acc ++ M ∧ M.length = k ∧ bs = M.flatMap slotB ++ r ∧ B8 r ∧ okS n (acc.map (·.1)) M = true ∧ ∀ s ∈ M, U64 s.1 ∧ U64 s.2
  | 0, acc, S, bs, r, hb, h => by
    simp only [rdSls] at h; cases h
    exact ⟨[], by simp, rfl, by simp, hb, rfl, by simp⟩
  | k + 1, acc, S, bs, r, hb, h => by
    simp only [rdSls] at h
    split at h
    · cases h
    · rename_i s r1 heq
      obtain ⟨e, a1, a2⟩ := rdNum_inv bs _ _ hb heq
      have hb1 : B8 r1 := by rw [e] at hb; exact b8_right hb
      split at h
      · rename_i hu
        split at h
        · cases h
        · rename_i i r2 heq2
          obtain ⟨e', b1, b2⟩ := rdNum_inv r1 _ _ hb1 heq2
          have hb2 : B8 r2 := by rw [e'] at hb1; exact b8_right hb1
          split at h
          · rename_i hi
            obtain ⟨M, e1, e2, e3, e4, e5, e6⟩ := rdSls_inv n k _ _ _ _ hb2 h
            refine ⟨(s, i) :: M, by rw [e1]; simp, by simp [e2], by rw [e, e', e3]; simp [slotB], e4, ?_, fun x hx => ?_⟩
            · rw [List.map_append, List.map_singleton] at e5
              simp only [okS, hu, hi, e5, decide_true, Bool.true_and]
            · rcases List.mem_cons.1 hx with rfl | hx
              · exact ⟨by unfold U64; dsimp only; omega, by unfold U64; dsimp only; omega⟩
              · exact e6 x hx
          · cases h
      · cases h
theorem rdCls_inv (n : Int) : ∀ (k : Nat) (acc C : List Cl) (bs r : List Int), B8 bs → rdCls n k acc bs = .ok (C, r) → ∃ M, C = acc ++ M ∧ M.length = k ∧ bs = M.flatMap clB ++ r ∧ B8 r ∧ okC n (acc.map (·.id)) M = true ∧ ∀ c ∈ M, U64 c.id ∧ c.slots.length < 2 ^ 64 ∧ ∀ s ∈ c.slots, U64 s.1 ∧ U64 s.2
  | 0, acc, C, bs, r, hb, h => by
    simp only [rdCls] at h; cases h
    exact ⟨[], by simp, rfl, by simp, hb, rfl, by simp⟩
  | k + 1, acc, C, bs, r, hb, h => by
    simp only [rdCls] at h
    split at h
    · cases h
    · rename_i x r1 heq
      obtain ⟨e, a1, a2⟩ := rdNum_inv bs _ _ hb heq
      have hb1 : B8 r1 := by rw [e] at hb; exact b8_right hb
      split at h
      · rename_i hu
        split at h
        · cases h
        · rename_i m r2 heq2
          obtain ⟨e', b1, b2, hb2⟩ := rdMany_inv hb1 heq2
          split at h
          · rename_i hm
            split at h
            · cases h
            · rename_i ss r3 heq3
              obtain ⟨S, f1, f2, f3, f4, f5, f6⟩ := rdSls_inv n _ _ _ _ _ hb2 heq3
              simp only [List.nil_append] at f1
              subst f1
              obtain ⟨M, e1, e2, e3, e4, e5, e6⟩ := rdCls_inv n k _ _ _ _ f4 h
              have hm2 : m = (ss.length : Int) := by omega
              refine ⟨⟨x, ss⟩ :: M, by rw [e1]; simp, by simp [e2], by rw [e, e', f3, e3, hm2]; simp [clB], e4, ?_, fun c hc => ?_⟩
              · rw [List.map_append, List.map_singleton] at e5
                simp only [List.map_nil] at f5
                simp only [okC, hu, f5, e5, Bool.true_and, Bool.and_true, Bool.and_eq_true, decide_eq_true_eq]
                omega
              · rcases List.mem_cons.1 hc with rfl | hc
                · exact ⟨by unfold U64; dsimp only; omega, by dsimp only; omega, f6⟩
                · exact e6 c hc
          · cases h
      · cases h
/-- Back. -/
theorem getK_inv {bs : List Int} {b : Bk} (hb : B8 bs) (h : getK bs = .ok b) : bs = putK b ∧ formedK b = true ∧ OkK b := by
  unfold getK at h
  split at h
  · cases h
  · rename_i n r1 heq1
    obtain ⟨e1, n1, n2, hb1⟩ := rdMany_inv hb heq1
    split at h
    · cases h
    · rename_i L r2 heq2
      obtain ⟨L', f1, f2, f3, hb2, f5⟩ := rdLfs_inv _ _ _ _ _ hb1 heq2
      simp only [List.nil_append] at f1
      subst f1
      split at h
      · cases h
      · rename_i m r3 heq3
        obtain ⟨e3, m1, m2, hb3⟩ := rdMany_inv hb2 heq3
        split at h
        · cases h
        · rename_i C r4 heq4
          obtain ⟨C', g1, g2, g3, -, g5, g6⟩ := rdCls_inv n _ _ _ _ _ hb3 heq4
          simp only [List.nil_append] at g1
          subst g1
          split at h
          · rename_i hr
            cases h
            subst hr
            have hn : n = (L.length : Int) := by omega
            have hm : m = (C.length : Int) := by omega
            refine ⟨?_, ?_, ⟨by dsimp only; omega, fun l hl => ⟨by have := (f5 l hl).1; omega, (f5 l hl).2⟩, by dsimp only; omega, g6⟩⟩
            · rw [e1, f3, e3, g3, hn, hm]; simp [putK]
            · simp only [List.map_nil] at g5
              rw [hn] at g5
              simp only [formedK, Bool.and_eq_true, decide_eq_true_eq, List.all_eq_true]
              exact ⟨⟨⟨by omega, fun l hl => (f5 l hl).1⟩, by omega⟩, g5⟩
          · cases h
/-! ### What is read is an error's number or none -/
theorem upTo_snoc (acc : List Int) (x : Int) : (acc ++ [x]).Pairwise (· < ·) ↔ acc.Pairwise (· < ·) ∧ upTo acc x = true := by
  rw [List.pairwise_append]
  constructor
  · rintro ⟨h1, -, h3⟩
    refine ⟨h1, ?_⟩
    unfold upTo
    cases hl : acc.getLast? with
    | none => rfl
    | some y => simpa using h3 y (List.mem_of_getLast? hl) x (by simp)
  · rintro ⟨h1, h2⟩
    refine ⟨h1, by simp, fun a ha b hb => ?_⟩
    rw [List.mem_singleton.1 hb]
    unfold upTo at h2
    rcases List.eq_nil_or_concat acc with hn | ⟨l, y, hy⟩
    · subst hn; cases ha
    · rw [List.concat_eq_append] at hy
      subst hy
      rw [List.getLast?_concat] at h2
      have hyx : y < x := by simpa using h2
      rw [List.pairwise_append] at h1
      rcases List.mem_append.1 ha with h | h
      · have := h1.2.2 a h y (by simp); omega
      · rw [List.mem_singleton.1 h]; exact hyx
theorem okS_iff (n : Int) : ∀ (S : List (Int × Int)) (acc : List Int), acc.Pairwise (· < ·) → (okS n acc S = true ↔ (acc ++ S.map (·.1)).Pairwise (· < ·) ∧ ∀ s ∈ S, s.2 < n)
  | [], acc, h => by simp [okS, h]
  | s :: S, acc, h => by
    simp only [okS, Bool.and_eq_true, decide_eq_true_eq]
    by_cases hu : upTo acc s.1 = true
    · have h' := (upTo_snoc acc s.1).2 ⟨h, hu⟩
      rw [okS_iff n S _ h', List.map_cons, List.append_assoc]
      simp only [hu, true_and, List.singleton_append, List.mem_cons, forall_eq_or_imp]
      exact ⟨fun ⟨a, b, c⟩ => ⟨b, a, c⟩, fun ⟨a, b, c⟩ => ⟨b, a, c⟩⟩
    · constructor
      · rintro ⟨⟨a, _⟩, _⟩; exact absurd a hu
      · rintro ⟨a, _⟩
        rw [List.map_cons, show acc ++ s.1 :: S.map (·.1) = (acc ++ [s.1]) ++ S.map (·.1) by simp] at a
        exact absurd ((upTo_snoc acc s.1).1 (List.pairwise_append.1 a).1).2 hu
theorem okC_iff (n : Int) : ∀ (C : List Cl) (acc : List Int), acc.Pairwise (· < ·) → (okC n acc C = true ↔ (acc ++ C.map (·.id)).Pairwise (· < ·) ∧ ∀ c ∈ C, 1 ≤ c.slots.length ∧ c.slots.length ≤ 4 ∧ (c.slots.map (·.1)).Pairwise (· < ·) ∧ ∀ s ∈ c.slots, s.2 < n)
  | [], acc, h => by simp [okC, h]
  | c :: C, acc, h => by
    simp only [okC, Bool.and_eq_true, decide_eq_true_eq]
    rw [okS_iff n c.slots [] List.Pairwise.nil, List.nil_append]
    by_cases hu : upTo acc c.id = true
    · have h' := (upTo_snoc acc c.id).2 ⟨h, hu⟩
      rw [okC_iff n C _ h', List.map_cons, List.append_assoc]
      simp only [hu, true_and, List.singleton_append, List.mem_cons, forall_eq_or_imp]
      exact ⟨fun ⟨⟨⟨a, b⟩, c, d⟩, e, f⟩ => ⟨e, ⟨a, b, c, d⟩, f⟩, fun ⟨e, ⟨a, b, c, d⟩, f⟩ => ⟨⟨⟨a, b⟩, c, d⟩, e, f⟩⟩
    · constructor
      · rintro ⟨⟨⟨⟨a, _⟩, _⟩, _⟩, _⟩; exact absurd a hu
      · rintro ⟨a, _⟩
        rw [List.map_cons, show acc ++ c.id :: C.map (·.id) = (acc ++ [c.id]) ++ C.map (·.id) by simp] at a
        exact absurd ((upTo_snoc acc c.id).1 (List.pairwise_append.1 a).1).2 hu
end Go.Proofs.YtgefphfnicjbiaaDoor

/- Layer 25 (seq): slices.Clone at leaves, clients, slots. PRINTED BY gen/sqc.py -/
namespace Go.Proofs.YtgefphfnicjbiaaDoor
open Go Go.RowKit

theorem infoLf : (Tryd.prog.info? 27).map (fun i => (i.zero, i.size, i.bytes)) = some (some (.slice none 0 0), 1, 24) := by kernel_rfl
theorem infoCl : (Tryd.prog.info? 47).map (fun i => (i.zero, i.size, i.bytes)) = some (some (.agg #[.int .u64 0, .slice none 0 0]), 2, 32) := by kernel_rfl
theorem infoSl : (Tryd.prog.info? 49).map (fun i => (i.zero, i.size, i.bytes)) = some (some (.agg #[.int .u64 0, .int .u64 0]), 2, 16) := by kernel_rfl
theorem flat_len {s : Nat} : ∀ {rows : List (List Value)}, (∀ r ∈ rows, r.length = s) → rows.flatten.length = rows.length * s
  | [], _ => by simp
  | r :: t, h => by rw [List.flatten_cons, List.length_append, h r (by simp), flat_len (fun x hx => h x (by simp [hx])), List.length_cons, Nat.succ_mul]; omega
theorem RowV.news {w : World} {s : Nat} {a : Option Addr} {n c : Nat} {rows : List (List Value)} (h : RowV w s (.slice a n c) rows) (hs : ∀ r ∈ rows, r.length = s) : n = 0 ∨ ∃ ad, a = some ad ∧ ∀ j u, rows.flatten[j]? = some u → w.cell? (ad.add j) = some u := by
  obtain ⟨a', c', hv, h1, h2, h3⟩ := h
  cases hv
  rcases h3 with h3 | ⟨b, o, rfl, hc⟩
  · left; rw [h3]; rfl
  · refine .inr ⟨_, rfl, fun j u hj => ?_⟩
    obtain ⟨i, r, j', h4, h5, rfl⟩ := flat_row rows j hs hj
    rw [Addr.add_lit, ← Nat.add_assoc]
    exact hc i r h4 j' u h5

set_option maxHeartbeats 2000000 in
theorem cloneL_c (v : Value) (rows : List (List Value)) (w : World) (h : RowV w 1 v rows) (hs : ∀ r ∈ rows, r.length = 1) (hl : rows.length ≤ 1000000) :
    Calls Tryd.prog 29 #[v] w fun e w' => ∃ v', e = .returned v' ∧ w'.ownsRow w.heap.size 27 1 v' rows.length rows.flatten ∧ Ext w w' := by
  have HV := Lib.hid h; have HS := Lib.hid hs
  obtain ⟨n, hn⟩ : ∃ n, n = rows.length := ⟨_, rfl⟩
  obtain ⟨a, c, rfl, hc1, hc2⟩ := h.shape
  rw [← hn] at hl hc1 HV ⊢
  have HN := Lib.hid hn
  have HF := Lib.hid (show rows.flatten.length = n * 1 from by rw [flat_len hs, ← hn])
  have q := fun (w : World) (a : Option Addr) (n c n' c' : Nat) => Lib.run_eql_slice_nil (P := Tryd.prog) w 22 _ a n c n' c' Tryd.underlying22
  clear h hs hn
  cases a with
  | none =>
    have h0 : n = 0 ∧ rows.flatten = [] := by
      rcases HV.out.news HS.out with h | ⟨ad, h, _⟩
      · exact ⟨h, List.eq_nil_of_length_eq_zero (by rw [HF.out, h, Nat.zero_mul])⟩
      · cases h
    have H0 := Lib.hid h0
    clear h0
    go_enter Tryd.func29, Tryd.ntmps29
    go_wp2_with fail
    go_ret
    rw [H0.out.1, H0.out.2]
    exact ⟨_, rfl, World.ownsRow_nil _ _ _ _, Ext.refl _⟩
  | some ad =>
    have HE := Lib.hid (Ext.alloc w (.cells #[] 27))
    have HB := Lib.hid (Blk.new w #[] 27)
    go_enter Tryd.func29, Tryd.ntmps29
    go_wp2_with (at_builtin; refine wpList_append_half rfl (.tmp 5) (.tmp 6) _ rfl 27 _ 1 24 Tryd.underlying22 infoLf rfl (by omega) w.heap.size rfl (some ad) n c rows.flatten rfl HF.out ((HV.out.ext HE.out).news HS.out) (by unfold maxLen; omega) (by omega) ?_; intro v2 w2 hh hE2; have HH := Lib.hid (hh.own (base := w.heap.size) hE2 HB.out (Nat.le_refl _) HE.out.size HF.out); have HE2 := Lib.hid (HE.out.trans hE2); clear hh hE2)
    go_wp2_with fail
    go_ret
    exact ⟨_, rfl, HH.out, HE2.out⟩

set_option maxHeartbeats 2000000 in
theorem cloneC_c (v : Value) (rows : List (List Value)) (w : World) (h : RowV w 2 v rows) (hs : ∀ r ∈ rows, r.length = 2) (hl : rows.length ≤ 1000000) :
    Calls Tryd.prog 30 #[v] w fun e w' => ∃ v', e = .returned v' ∧ w'.ownsRow w.heap.size 47 2 v' rows.length rows.flatten ∧ Ext w w' := by
  have HV := Lib.hid h; have HS := Lib.hid hs
  obtain ⟨n, hn⟩ : ∃ n, n = rows.length := ⟨_, rfl⟩
  obtain ⟨a, c, rfl, hc1, hc2⟩ := h.shape
  rw [← hn] at hl hc1 HV ⊢
  have HN := Lib.hid hn
  have HF := Lib.hid (show rows.flatten.length = n * 2 from by rw [flat_len hs, ← hn])
  have q := fun (w : World) (a : Option Addr) (n c n' c' : Nat) => Lib.run_eql_slice_nil (P := Tryd.prog) w 23 _ a n c n' c' Tryd.underlying23
  clear h hs hn
  cases a with
  | none =>
    have h0 : n = 0 ∧ rows.flatten = [] := by
      rcases HV.out.news HS.out with h | ⟨ad, h, _⟩
      · exact ⟨h, List.eq_nil_of_length_eq_zero (by rw [HF.out, h, Nat.zero_mul])⟩
      · cases h
    have H0 := Lib.hid h0
    clear h0
    go_enter Tryd.func30, Tryd.ntmps30
    go_wp2_with fail
    go_ret
    rw [H0.out.1, H0.out.2]
    exact ⟨_, rfl, World.ownsRow_nil _ _ _ _, Ext.refl _⟩
  | some ad =>
    have HE := Lib.hid (Ext.alloc w (.cells #[] 47))
    have HB := Lib.hid (Blk.new w #[] 47)
    go_enter Tryd.func30, Tryd.ntmps30
    go_wp2_with (at_builtin; refine wpList_append_half rfl (.tmp 5) (.tmp 6) _ rfl 47 _ 2 32 Tryd.underlying23 infoCl rfl (by omega) w.heap.size rfl (some ad) n c rows.flatten rfl HF.out ((HV.out.ext HE.out).news HS.out) (by unfold maxLen; omega) (by omega) ?_; intro v2 w2 hh hE2; have HH := Lib.hid (hh.own (base := w.heap.size) hE2 HB.out (Nat.le_refl _) HE.out.size HF.out); have HE2 := Lib.hid (HE.out.trans hE2); clear hh hE2)
    go_wp2_with fail
    go_ret
    exact ⟨_, rfl, HH.out, HE2.out⟩

set_option maxHeartbeats 2000000 in
theorem cloneS_c (v : Value) (rows : List (List Value)) (w : World) (h : RowV w 2 v rows) (hs : ∀ r ∈ rows, r.length = 2) (hl : rows.length ≤ 1000000) :
    Calls Tryd.prog 31 #[v] w fun e w' => ∃ v', e = .returned v' ∧ w'.ownsRow w.heap.size 49 2 v' rows.length rows.flatten ∧ Ext w w' := by
  have HV := Lib.hid h; have HS := Lib.hid hs
  obtain ⟨n, hn⟩ : ∃ n, n = rows.length := ⟨_, rfl⟩
  obtain ⟨a, c, rfl, hc1, hc2⟩ := h.shape
  rw [← hn] at hl hc1 HV ⊢
  have HN := Lib.hid hn
  have HF := Lib.hid (show rows.flatten.length = n * 2 from by rw [flat_len hs, ← hn])
  have q := fun (w : World) (a : Option Addr) (n c n' c' : Nat) => Lib.run_eql_slice_nil (P := Tryd.prog) w 45 _ a n c n' c' Tryd.underlying45
  clear h hs hn
  cases a with
  | none =>
    have h0 : n = 0 ∧ rows.flatten = [] := by
      rcases HV.out.news HS.out with h | ⟨ad, h, _⟩
      · exact ⟨h, List.eq_nil_of_length_eq_zero (by rw [HF.out, h, Nat.zero_mul])⟩
      · cases h
    have H0 := Lib.hid h0
    clear h0
    go_enter Tryd.func31, Tryd.ntmps31
    go_wp2_with fail
    go_ret
    rw [H0.out.1, H0.out.2]
    exact ⟨_, rfl, World.ownsRow_nil _ _ _ _, Ext.refl _⟩
  | some ad =>
    have HE := Lib.hid (Ext.alloc w (.cells #[] 49))
    have HB := Lib.hid (Blk.new w #[] 49)
    go_enter Tryd.func31, Tryd.ntmps31
    go_wp2_with (at_builtin; refine wpList_append_half rfl (.tmp 5) (.tmp 6) _ rfl 49 _ 2 16 Tryd.underlying45 infoSl rfl (by omega) w.heap.size rfl (some ad) n c rows.flatten rfl HF.out ((HV.out.ext HE.out).news HS.out) (by unfold maxLen; omega) (by omega) ?_; intro v2 w2 hh hE2; have HH := Lib.hid (hh.own (base := w.heap.size) hE2 HB.out (Nat.le_refl _) HE.out.size HF.out); have HE2 := Lib.hid (HE.out.trans hE2); clear hh hE2)
    go_wp2_with fail
    go_ret
    exact ⟨_, rfl, HH.out, HE2.out⟩

end Go.Proofs.YtgefphfnicjbiaaDoor
