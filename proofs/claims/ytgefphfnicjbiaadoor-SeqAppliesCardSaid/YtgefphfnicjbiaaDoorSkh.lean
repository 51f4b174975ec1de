/- Layer 25 (seq): what is known within Get. -/
import Derived.Test.YtgefphfnicjbiaaDoorSkg
import Derived.Test.YtgefphfnicjbiaaDoorBun2
set_option linter.unusedSimpArgs false
set_option linter.unusedVariables false
namespace Go.Proofs.YtgefphfnicjbiaaDoor
open Go Go.RowKit
theorem KD.chg {w W W' : World} {S : List Nat} (h : KD w W) (hC : Chg S W W') (hS : ∀ t ∈ S, w.heap.size + 1 < t) : KD w W' := by
  obtain ⟨h1, ⟨c0, c1, h2⟩, ⟨v, h3⟩⟩ := h
  exact ⟨((Chg.ext h1 : Chg S w W).trans hC).toExt (fun t ht => by have := hS t ht; omega), ⟨c0, c1, h2.chg hC (fun hm => by have := hS _ hm; omega)⟩, ⟨v, h3.chg hC (fun hm => by have := hS _ hm; omega)⟩⟩
theorem KD.ext' {w W W' : World} (h : KD w W) (hE : Ext W W') : KD w W' := h.chg (S := []) (Chg.ext hE) (by simp)
section
variable {w W W' : World} {t4 rb : Nat} {lv0 cv0 lv cv : Value} {L : List LQ} {C : List CQ} {bs bs' : List Int} {S : List Nat}
/-- Blocks that changes leave all of this alone in. -/
structure Away (w W : World) (t4 : Nat) (lv cv : Value) (C : List CQ) (S : List Nat) : Prop where
  lt : ∀ t ∈ S, w.heap.size + 1 < t
  n4 : t4 ∉ S
  lo : ∀ t ∈ lv.ownBlock.toList, t ∉ S
  co : ∀ t ∈ cv.ownBlock.toList, t ∉ S
  u8 : ∀ t ∈ S, ∀ cs, ¬ Blk W t cs 5
  cs : ∀ q ∈ C, ∀ a n c, q.2 = .slice (some a) n c → a.block ∉ S
/-- All of this lies ahead of block T. -/
structure Elder (w : World) (t4 rb : Nat) (lv cv : Value) (C : List CQ) (T : Nat) : Prop where
  hw : w.heap.size + 1 < T
  h4 : t4 < T
  hrb : rb < T
  lo : ∀ t ∈ lv.ownBlock.toList, t < T
  co : ∀ t ∈ cv.ownBlock.toList, t < T
  cs : ∀ q ∈ C, ∀ a n c, q.2 = .slice (some a) n c → a.block < T
end
end Go.Proofs.YtgefphfnicjbiaaDoor
