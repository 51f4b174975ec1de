/- Numbers of 64 bits in a row of the call's own: the state that the library's sort turns. -/
import Derived.Test.YtgnkhpcnlffjnaaDraw
import Derived.Sort.AssemblyPlain
import Derived.Deep.QuietTactic
import Derived.BigQuiet
import Derived.RegionTactic
import Derived.ChangeAlike
import Derived.BigRegion
namespace Go.Proofs.Ytgnkhpcnlffjnaa
open Go Go.RowKit Go.Sort

/-- Block g holds, from its head on, the n numbers d. -/
def Arr (w : World) (g : Nat) (d : Array Int) (n : Nat) : Prop :=
  d.size = n ∧ ∃ cur : Array Value, Blk w g cur 26 ∧ n ≤ cur.size ∧ ∀ j, j < n → cur[j]? = some (.int .u64 d[j]!)
section
variable {w w' : World} {g n : Nat} {d : Array Int}
theorem Arr.size (h : Arr w g d n) : d.size = n := h.1
theorem Arr.lt (h : Arr w g d n) : g < w.heap.size := by obtain ⟨_, cur, hb, _⟩ := h; exact hb.lt
theorem Arr.cell (h : Arr w g d n) {t : Nat} (ht : t < n) : w.cell? ⟨g, t, none⟩ = some (.int .u64 d[t]!) := by
  obtain ⟨_, cur, hb, _, hc⟩ := h
  exact hb.cell t (hc t ht)
theorem Arr.free (h : Arr w g d n) (t : Nat) : w.frozen? ⟨g, t, none⟩ = false := by
  obtain ⟨_, cur, hb, _⟩ := h
  exact hb.free t
theorem Arr.drew (h : Arr w g d n) : Arr w.drew g d n := h
theorem Arr.drewN (h : Arr w g d n) (m : Nat) : Arr (w.drewN m) g d n := h
theorem Arr.grown {r : Option Nat} (h : Arr w g d n) (hg : w.grownBy w' r) (hr : some g ≠ r) : Arr w' g d n := by
  obtain ⟨h1, cur, hb, h2⟩ := h
  exact ⟨h1, cur, hb.grown hg hr, h2⟩
theorem Arr.set (h : Arr w g d n) {i : Nat} (x : Int) (hi : i < n) : Arr (w.setCell ⟨g, i, none⟩ (.int .u64 x)) g (d.setIfInBounds i x) n := by
  obtain ⟨h1, cur, hb, h2, h3⟩ := h
  refine ⟨by simpa using h1, _, hb.set i _, by simpa using h2, fun j hj => ?_⟩
  by_cases hij : i = j
  · subst hij
    rw [Array.getElem?_setIfInBounds_self_of_lt (by omega)]
    simp [getElem!_pos, h1, hj]
  · rw [Array.getElem?_setIfInBounds_ne hij, h3 j hj]
    have : (d.setIfInBounds i x)[j]! = d[j]! := by
      rw [getElem!_pos _ j (by simp; omega), getElem!_pos d j (by omega), Array.getElem_setIfInBounds_ne (by omega) hij]
    rw [this]
theorem Arr.swp (h : Arr w g d n) {i j : Nat} (hi : i < n) (hj : j < n) : Arr ((w.setCell ⟨g, i, none⟩ (.int .u64 d[j]!)).setCell ⟨g, j, none⟩ (.int .u64 d[i]!)) g (Sort.swp d i j) n :=
  (h.set d[j]! hi).set d[i]! hj
end
theorem grown_drewN {w w' : World} {r : Option Nat} (h : w.grownBy w' r) (m : Nat) : w.grownBy (w'.drewN m) r := ⟨h.os, h.tape, h.output, h.size, h.block⟩
/-- What a walk of the sort leaves. -/
structure At (w : World) (g n : Nat) (d : Array Int) (w' : World) : Prop where
  ex : w.grownBy w' (some g)
  arr : Arr w' g d n
section
variable {w w' w'' : World} {g n : Nat} {d d' : Array Int}
theorem At.refl (h : Arr w g d n) : At w g n d w := ⟨grown_refl _ _, h⟩
theorem At.drew (h : At w g n d w') : At w g n d w'.drew := ⟨grown_drew h.ex, h.arr.drew⟩
theorem At.drewN (h : At w g n d w') (m : Nat) : At w g n d (w'.drewN m) := ⟨grown_drewN h.ex m, h.arr.drewN m⟩
theorem At.trans (h : At w g n d w') (k : At w' g n d' w'') : At w g n d' w'' := ⟨grown_trans1 h.ex k.ex, k.arr⟩
theorem At.swp (h : At w g n d w') {i j : Nat} (hi : i < n) (hj : j < n) : At w g n (Sort.swp d i j) ((w'.setCell ⟨g, i, none⟩ (.int .u64 d[j]!)).setCell ⟨g, j, none⟩ (.int .u64 d[i]!)) :=
  ⟨grown_trans1 (grown_trans1 h.ex (grown_set _ _ _ _)) (grown_set _ _ _ _), h.arr.swp hi hj⟩
/-- The swap, as a walk leaves it: the two stores behind a draw, the values under names. -/
theorem At.swap (h : At w g n d w') {i j : Nat} {x y : Int} (hx : x = d[i]!) (hy : y = d[j]!) (hi : i < n) (hj : j < n) : At w g n (Sort.swp d i j) ((w'.drew.setCell ⟨g, i, none⟩ (.int .u64 y)).setCell ⟨g, j, none⟩ (.int .u64 x)) := by
  subst hx hy; exact h.drew.swp hi hj
theorem At.swapN (h : At w g n d w') {i j : Nat} {x y : Int} (hx : x = d[i]!) (hy : y = d[j]!) (hi : i < n) (hj : j < n) (m : Nat) : At w g n (Sort.swp d i j) (((w'.drewN m).setCell ⟨g, i, none⟩ (.int .u64 y)).setCell ⟨g, j, none⟩ (.int .u64 x)) := by
  subst hx hy; exact (h.drewN m).swp hi hj
end
/-- How a function of the sort ends that returns nothing. -/
def SortP (g n : Nat) (d : Array Int) (w : World) (en : Ending) (w' : World) : Prop := en = .returned (.tuple #[]) ∧ At w g n d w'
/-- A Go slice's length and capacity. -/
structure Cap (n cap : Nat) : Prop where
  le : n ≤ cap
  most : cap ≤ 4611686018427387903
end Go.Proofs.Ytgnkhpcnlffjnaa
