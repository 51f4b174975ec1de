/- What a call leaves alone but for some blocks. Of any program. -/
import Derived.Test.YtafjjladnghjbaaGreatDoorDraw
namespace Go.Proofs.YtafjjladnghjbaaGreatDoor
open Go Go.RowKit

/-- All blocks of w but those of S are in w' as they were. -/
structure Chg (S : List Nat) (w w' : World) : Prop where
  os : w'.os = w.os
  tape : w'.tape = w.tape
  output : w'.output = w.output
  size : w.heap.size ≤ w'.heap.size
  block : ∀ k, k < w.heap.size → k ∉ S → w'.heap[k]? = w.heap[k]?
section
variable {S T : List Nat} {w w' w'' : World}
theorem Chg.refl (S : List Nat) (w : World) : Chg S w w := ⟨rfl, rfl, rfl, Nat.le_refl _, fun _ _ _ => rfl⟩
theorem Chg.trans' (h : Chg S w w') (k : Chg T w' w'') (hT : ∀ t ∈ T, t ∈ S ∨ w.heap.size ≤ t) : Chg S w w'' :=
  ⟨k.os.trans h.os, k.tape.trans h.tape, k.output.trans h.output, Nat.le_trans h.size k.size, fun i hi hn =>
    (k.block i (Nat.lt_of_lt_of_le hi h.size) fun ht => by rcases hT i ht with h1 | h1; exact hn h1; omega).trans (h.block i hi hn)⟩
theorem Chg.trans (h : Chg S w w') (k : Chg S w' w'') : Chg S w w'' := h.trans' k fun _ ht => .inl ht
theorem Chg.mono (h : Chg T w w') (hT : ∀ t ∈ T, t ∈ S ∨ w.heap.size ≤ t) : Chg S w w' := (Chg.refl S w).trans' h hT
theorem Chg.ext (h : Ext w w') : Chg S w w' := ⟨h.os, h.tape, h.output, h.size, fun k hk _ => h.block k hk⟩
theorem Chg.grown {r : Option Nat} (h : w.grownBy w' r) : Chg r.toList w w' :=
  ⟨h.os, h.tape, h.output, h.size, fun k hk hn => h.block k hk (by intro e; subst e; simp at hn)⟩
theorem Chg.some {b : Nat} (h : w.grownBy w' (some b)) (hb : b ∈ S ∨ w.heap.size ≤ b) : Chg S w w' :=
  (Chg.grown h).mono fun t ht => by simp at ht; subst ht; exact hb
theorem Chg.set (p j : Nat) (v : Value) (hp : p ∈ S) : Chg S w (w.setCell ⟨p, j, none⟩ v) := Chg.some (grown_set w p j v) (.inl hp)
theorem Chg.setNew (h : Chg S w w') (p j : Nat) (v : Value) (hp : p ∈ S ∨ w.heap.size ≤ p) : Chg S w (w'.setCell ⟨p, j, none⟩ v) :=
  h.trans' (Chg.grown (grown_set w' p j v)) fun t ht => by simp at ht; subst ht; exact hp
theorem Chg.drew : Chg S w w.drew := Chg.ext (Ext.drew w)
theorem Chg.toDrew (h : Chg S w w') : Chg S w w'.drew := ⟨h.os, h.tape, h.output, h.size, h.block⟩
theorem Chg.below {B : Nat} {w0 : World} (h : Below B w0 w) (k : Chg S w w') (hB : B ≤ w.heap.size) (hS : ∀ t ∈ S, B ≤ t) : Below B w0 w' :=
  ⟨k.os.trans h.os, k.tape.trans h.tape, k.output.trans h.output, Nat.le_trans h.size k.size, fun i hi => (k.block i (Nat.lt_of_lt_of_le hi hB) fun ht => by have := hS i ht; omega).trans (h.block i hi)⟩
theorem Chg.toExt (h : Chg S w w') (hS : ∀ t ∈ S, w.heap.size ≤ t) : Ext w w' := Chg.below (Below.refl _ _) h (Nat.le_refl _) hS
theorem Blk.chg {b : Nat} {cs : Array Value} {e : TypeId} (h : Blk w b cs e) (hg : Chg S w w') (hb : b ∉ S) : Blk w' b cs e := by
  unfold Blk at *; rw [hg.block b (Blk.lt h) hb]; exact h
theorem cell_chg (hg : Chg S w w') {p : Addr} {v : Value} (h : w.cell? p = some v) (hp : p.block ∉ S) : w'.cell? p = some v := by
  rw [World.cell?_of_block (hg.block p.block (World.block_lt_of_cell? w p h) hp)]; exact h
/-- The block that v lies in, if it has cells, is none of S. -/
def OffL (v : Value) (cs : List Value) (S : List Nat) : Prop := ∀ a n c, v = .slice (some a) n c → cs ≠ [] → a.block ∉ S
theorem Rd.chg {v : Value} {cs : List Value} (h : Rd w v cs) (hg : Chg S w w') (ho : OffL v cs S) : Rd w' v cs := by
  obtain ⟨a, c, hv, h1, h2, h3⟩ := h
  refine ⟨a, c, hv, h1, h2, ?_⟩
  by_cases hn : cs = []
  · exact .inl hn
  · rcases h3 with h3 | ⟨b, o, rfl, hc⟩
    · exact absurd h3 hn
    · exact .inr ⟨b, o, rfl, fun j u hj => cell_chg hg (hc j u hj) (by have := ho _ _ _ hv hn; exact this)⟩
/-- A slice that lies in blocks from B on. -/
def From (B : Nat) (v : Value) : Prop := ∀ a n c, v = .slice (some a) n c → B ≤ a.block
theorem From.nil (B : Nat) : From B (.slice none 0 0) := fun _ _ _ h => by cases h
theorem From.mono {B B' : Nat} {v : Value} (h : From B v) (hb : B' ≤ B) : From B' v := fun a n c hv => Nat.le_trans hb (h a n c hv)
theorem From.off {B : Nat} {v : Value} {cs : List Value} (h : From B v) (hS : ∀ t ∈ S, t < B) : OffL v cs S := fun a n c hv _ hm => by have := h a n c hv; have := hS _ hm; omega
theorem From.own {base : Nat} {e : TypeId} {sz n : Nat} {v : Value} {xs : List Value} (h : w.ownsRow base e sz v n xs) : From base v := fun a m c hv => by
  rcases h.2 with ⟨hn, _⟩ | ⟨g, cap, cur, hv', hg, _⟩
  · rw [hn] at hv; cases hv
  · rw [hv'] at hv; cases hv; exact hg
end
end Go.Proofs.YtafjjladnghjbaaGreatDoor
