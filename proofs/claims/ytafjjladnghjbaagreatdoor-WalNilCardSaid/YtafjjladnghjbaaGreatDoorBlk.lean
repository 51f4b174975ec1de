/- A block of the call's own, known whole. Of any program. -/
import Derived.Test.YtafjjladnghjbaaGreatDoorBase
import Derived.Deep.DeepCutAuto
namespace Go.Proofs.YtafjjladnghjbaaGreatDoor
open Go Go.RowKit

/-- Block b holds cs. -/
def Blk (w : World) (b : Nat) (cs : Array Value) (e : TypeId) : Prop := w.heap[b]? = some (.cells cs e (0, 0))

section
variable {w w' : World} {b : Nat} {cs : Array Value} {e : TypeId}
theorem Blk.lt (h : Blk w b cs e) : b < w.heap.size := (Array.getElem?_eq_some_iff.1 h).1
theorem Blk.cell (h : Blk w b cs e) (j : Nat) {u : Value} (hj : cs[j]? = some u) : w.cell? ⟨b, j, none⟩ = some u := by
  rw [cell_of_row w b j cs e (0, 0) h]; exact hj
theorem Blk.free (h : Blk w b cs e) (j : Nat) : w.frozen? ⟨b, j, none⟩ = false := by
  have h' : w.heap[b]? = some (.cells cs e (0, 0)) := h
  simp [World.frozen?, h']
theorem Blk.ext (h : Blk w b cs e) (hE : Ext w w') : Blk w' b cs e := hE.heap h
theorem Blk.below {B : Nat} (h : Blk w b cs e) (hE : Below B w w') (hb : b < B) : Blk w' b cs e := (hE.block b hb).trans h
theorem Blk.alloc (h : Blk w b cs e) (o : Obj) : Blk (w.alloc o) b cs e := h.ext (Ext.alloc _ _)
theorem Blk.new (w : World) (cs : Array Value) (e : TypeId) : Blk (w.alloc (.cells cs e)) w.heap.size cs e := heap_alloc_new w _
theorem Blk.set (h : Blk w b cs e) (j : Nat) (v : Value) : Blk (w.setCell ⟨b, j, none⟩ v) b (cs.setIfInBounds j v) e := by
  have h' : w.heap[b]? = some (.cells cs e (0, 0)) := h
  simp [Blk, World.setCell, Array.getElem?_modify, h']
theorem Blk.other (h : Blk w b cs e) (a : Addr) (v : Value) (ha : a.block ≠ b) : Blk (w.setCell a v) b cs e := by
  unfold Blk; rw [Below.heap_setCell _ _ _ _ (Ne.symm ha)]; exact h
theorem Blk.drew (h : Blk w b cs e) : Blk w.drew b cs e := h

theorem Blk.six {c0 c1 c2 c3 c4 c5 : Value} (h : Blk w b #[c0, c1, c2, c3, c4, c5] e) :
    w.cell? ⟨b, 0, none⟩ = some c0 ∧ w.cell? ⟨b, 1, none⟩ = some c1 ∧ w.cell? ⟨b, 2, none⟩ = some c2 ∧ w.cell? ⟨b, 3, none⟩ = some c3 ∧ w.cell? ⟨b, 4, none⟩ = some c4 ∧ w.cell? ⟨b, 5, none⟩ = some c5 :=
  ⟨h.cell 0 rfl, h.cell 1 rfl, h.cell 2 rfl, h.cell 3 rfl, h.cell 4 rfl, h.cell 5 rfl⟩
theorem Blk.six_free (h : Blk w b cs e) : w.frozen? ⟨b, 0, none⟩ = false ∧ w.frozen? ⟨b, 1, none⟩ = false ∧ w.frozen? ⟨b, 2, none⟩ = false ∧ w.frozen? ⟨b, 3, none⟩ = false ∧ w.frozen? ⟨b, 4, none⟩ = false ∧ w.frozen? ⟨b, 5, none⟩ = false :=
  ⟨h.free 0, h.free 1, h.free 2, h.free 3, h.free 4, h.free 5⟩
end
end Go.Proofs.YtafjjladnghjbaaGreatDoor
