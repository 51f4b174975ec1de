/- Deeds to files, and all that a disk is: plain. Of any program. -/
import Derived.Test.YtafjjladnghjbaaGreatDoorFilL
import Derived.Test.YtafjjladnghjbaaGreatDoorBase
import Derived.Laws.CopyOwn
namespace Go.Proofs.YtafjjladnghjbaaGreatDoor
open Go Go.RowKit Go.Maps

abbrev nmOf (s : ByteArray) : Nm := s.data.toList
abbrev FL := List (Nm × List Int)
/-- An operation that waits. -/
structure Dd where
  kind : Int
  name : ByteArray
  to : ByteArray
  n : Int
  b : List Int
/-- Bytes written over old ones, from a place on. -/
def over (old : List Int) (n : Nat) (b : List Int) : List Int := splice (splice (List.replicate (max old.length (n + b.length)) 0) 0 old) n b
def doF (o : Dd) (L : FL) : FL :=
  if o.kind = 119 then (if o.b = [] then putG (nmOf o.name) ((getG (nmOf o.name) L).getD []) L else putG (nmOf o.name) (over ((getG (nmOf o.name) L).getD []) o.n.toNat o.b) L)
  else match getG (nmOf o.name) L with
    | none => L
    | some x => if o.kind = 99 then putG (nmOf o.name) (x.take o.n.toNat) L else if o.kind = 114 then delG (nmOf o.name) L else putG (nmOf o.to) x (delG (nmOf o.name) L)
/-- A deed that may be done: its place and bytes within M. -/
structure DdOk (M : Nat) (o : Dd) : Prop where
  name : o.name.size ≤ maxLen
  to : o.to.size ≤ maxLen
  n0 : 0 ≤ o.n
  n1 : o.kind = 119 → o.n + o.b.length ≤ M
  n2 : o.n ≤ 9223372036854775807
  b8 : B8 o.b
def LenLe (M : Nat) (L : FL) : Prop := ∀ p ∈ L, p.2.length ≤ M

theorem length_over (old : List Int) (n : Nat) (b : List Int) : (over old n b).length = max old.length (n + b.length) := by
  unfold over
  rw [length_splice, length_splice]
  · simp
  · simp; omega
  · rw [length_splice]
    · simp; omega
    · simp; omega
theorem mem_splice {α : Type} {L cs : List α} {n : Nat} {x : α} (h : x ∈ splice L n cs) : x ∈ L ∨ x ∈ cs := by
  unfold splice at h
  simp only [List.mem_append] at h
  rcases h with h | h | h
  · exact .inl (List.mem_of_mem_take h)
  · exact .inr h
  · exact .inl (List.mem_of_mem_drop h)
theorem over_b8 {old b : List Int} {n : Nat} (h1 : B8 old) (h2 : B8 b) : B8 (over old n b) := by
  intro x hx
  rcases mem_splice hx with hx | hx
  · rcases mem_splice hx with hx | hx
    · rw [List.eq_of_mem_replicate hx]; omega
    · exact h1 x hx
  · exact h2 x hx
theorem u8s_splice (L cs : List Int) (n : Nat) : splice (u8s L) n (u8s cs) = u8s (splice L n cs) := by
  simp [splice, u8s]
theorem u8s_over (old : List Int) (n : Nat) (b : List Int) : splice (splice (u8s (List.replicate (max old.length (n + b.length)) 0)) 0 (u8s old)) n (u8s b) = u8s (over old n b) := by
  rw [u8s_splice, u8s_splice]; rfl
theorem LenLe.get {M : Nat} {L : FL} (h : LenLe M L) (k : Nm) : ((getG k L).getD []).length ≤ M := by
  cases hg : getG k L with
  | none => simp
  | some x => exact h _ (getG_mem hg)
theorem LenLe.put {M : Nat} {L : FL} (h : LenLe M L) {k : Nm} {x : List Int} (hx : x.length ≤ M) : LenLe M (putG k x L) := by
  intro p hp
  rcases mem_putG.1 hp with rfl | ⟨hp, _⟩
  · exact hx
  · exact h p hp
theorem LenLe.del {M : Nat} {L : FL} (h : LenLe M L) (k : Nm) : LenLe M (delG k L) := fun p hp => h p (mem_delG.1 hp).1
theorem LenLe.do {M : Nat} {L : FL} {o : Dd} (h : LenLe M L) (ho : DdOk M o) : LenLe M (doF o L) := by
  unfold doF
  split
  · rename_i hk
    have h1 := ho.n1 hk
    have h0 := ho.n0
    have h2 := h.get (nmOf o.name)
    split
    · exact h.put h2
    · exact h.put (by rw [length_over]; omega)
  · cases hg : getG (nmOf o.name) L with
    | none => exact h
    | some x =>
      have hx : x.length ≤ M := h _ (getG_mem hg)
      simp only []
      split
      · exact h.put (by rw [List.length_take]; omega)
      · split
        · exact h.del _
        · exact (h.del _).put hx
end Go.Proofs.YtafjjladnghjbaaGreatDoor
