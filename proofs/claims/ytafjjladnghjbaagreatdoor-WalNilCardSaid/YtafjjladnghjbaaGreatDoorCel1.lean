/- cell: file, lay. -/
import Derived.Test.YtafjjladnghjbaaGreatDoorCelP
import Derived.Test.YtafjjladnghjbaaGreatDoorDskN
import Derived.Laws.Bits64b
namespace Go.Proofs.YtafjjladnghjbaaGreatDoor
open Go Go.RowKit Go.Maps

/-- A row of bytes of one's own, at a place. -/
theorem own_at8 {w : World} {B : Nat} {xa : Option Addr} {L c : Nat} {xs : List Int} (h : w.ownsRow B 5 1 (.slice xa L c) L (u8s xs)) (hl : xs.length = L) {k : Nat} (hk : k < L) :
    ∃ g, xa = some ⟨g, 0, none⟩ ∧ B ≤ g ∧ w.frozen? ⟨g, k, none⟩ = false ∧ w.cell? ⟨g, k, none⟩ = some (.int .u8 (xs.getD k 0)) := by
  rcases h.2 with ⟨hv, h0⟩ | ⟨g, cap, cur, hv, hg, hh, h1, h2, h3, h4⟩
  · omega
  · injection hv with e1 e2 e3
    subst e1
    refine ⟨g, rfl, hg, (show Blk w g cur 5 from hh).free k, ?_⟩
    have := h.cells (g := g) rfl k (.int .u8 (xs.getD k 0)) (by simp [u8s, List.getD, List.getElem?_eq_getElem (show k < xs.length by omega)])
    rwa [Addr.add_lit, Nat.zero_add] at this
theorem own_cap8 {w : World} {B : Nat} {xa : Option Addr} {L c k : Nat} {cs : List Value} (h : w.ownsRow B 5 1 (.slice xa L c) L cs) (hk : k < L) : k < c := by
  rcases h.2 with ⟨hv, h0⟩ | ⟨g, cap, cur, hv, hg, hh, h1, h2, h3, h4⟩
  · omega
  · injection hv with e1 e2 e3; omega
theorem own_set8 {w : World} {B g L c : Nat} {xs : List Int} (h : w.ownsRow B 5 1 (.slice (some ⟨g, 0, none⟩) L c) L (u8s xs)) (k : Nat) (z : Int) : (w.setCell ⟨g, k, none⟩ (.int .u8 z)).ownsRow B 5 1 (.slice (some ⟨g, 0, none⟩) L c) L (u8s (xs.set k z)) := by
  have := own_set (j := k) h (.int .u8 z)
  rwa [show (u8s xs).set k (.int .u8 z) = u8s (xs.set k z) by simp [u8s, List.map_set]] at this
/-- One byte just laid. -/
def New1 (B : Nat) (a : Value) (v : Value) (w : World) : Prop := ∃ g, v = .slice (some ⟨g, 0, none⟩) 1 1 ∧ B ≤ g ∧ w.cell? ⟨g, 0, none⟩ = some a
theorem New1.ext {B : Nat} {a v : Value} {w w' : World} (h : New1 B a v w) (hE : Ext w w') : New1 B a v w' := by
  obtain ⟨g, h1, h2, h3⟩ := h
  exact ⟨g, h1, h2, hE.cell h3⟩
theorem New1.new {w : World} {B : Nat} (a : Value) (t : TypeId) (hB : B ≤ w.heap.size) : New1 B a (.slice (some ⟨w.heap.size, 0, none⟩) 1 1) (w.alloc (.cells #[a] t)) :=
  ⟨_, rfl, hB, (Blk.new w #[a] t).cell 0 rfl⟩
theorem New1.rd {B : Nat} {z : Int} {v : Value} {w : World} (h : New1 B (.int .u8 z) v w) : Rd w v (u8s [z]) := by
  obtain ⟨g, rfl, _, hc⟩ := h
  refine ⟨_, 1, rfl, Nat.le_refl _, by unfold maxLen; omega, .inr ⟨g, 0, rfl, fun j u hj => ?_⟩⟩
  match j, hj with
  | 0, hj => cases hj; exact hc
theorem and1 (k : Nat) (hk : k < 18446744073709551616) : bits BinOp.and IntKind.u64 (k : Int) 1 = ((k % 2 : Nat) : Int) := by
  have := bits_and_u64_nat k 1 hk (by decide)
  rw [Nat.and_one_is_mod] at this
  exact this
theorem cfile_eq (name : ByteArray) (k : Nat) : name ++ ⟨#[46]⟩ ++ strOfNums [48 + (k : Int) % 2] = cfile name k := by
  rcases Nat.mod_two_eq_zero_or_one k with h | h
  · rw [show (48 : Int) + (k : Int) % 2 = 48 by omega]
    apply ByteArray.ext
    simp only [ByteArray.data_append, cfile, h, if_pos]
    rw [Array.append_assoc]; rfl
  · rw [show (48 : Int) + (k : Int) % 2 = 49 by omega]
    apply ByteArray.ext
    simp only [ByteArray.data_append, cfile, h, if_neg (show ¬ ((1 : Nat) = 0) by decide)]
    rw [Array.append_assoc]; rfl
end Go.Proofs.YtafjjladnghjbaaGreatDoor
