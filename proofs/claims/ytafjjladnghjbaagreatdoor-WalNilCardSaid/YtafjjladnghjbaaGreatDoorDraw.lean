/- 'recover' in a region that draws its order. Of any program. -/
import Derived.Test.YtafjjladnghjbaaGreatDoorBlk
import Derived.Defers
import Derived.Recover
import Derived.WalkLawsBesides
namespace Go.Proofs.YtafjjladnghjbaaGreatDoor
open Go Go.RowKit

/-- All orders that a region may take. -/
def orders (md : Region.Mode) (ops : Array Oper) : Nat → Array Bool → List (List Nat)
  | 0, _ => [[]]
  | fuel + 1, listed => match Region.ready md ops listed with
    | [] => [[]]
    | rs => rs.flatMap fun i => (orders md ops fuel (listed.setIfInBounds i true)).map (i :: ·)

theorem go_mem_orders (md : Region.Mode) (ops : Array Oper) : ∀ (fuel t : Nat) (listed : Array Bool), Region.linearise.go md ops fuel t listed [] ∈ orders md ops fuel listed := by
  intro fuel
  induction fuel with
  | zero => intro t listed; simp [Region.linearise.go, orders]
  | succ fuel ih =>
    intro t listed
    simp only [Region.linearise.go]
    change (match (Region.ready md ops listed)[t % (Region.ready md ops listed).length]? with
      | some i => Region.linearise.go md ops fuel (t / (Region.ready md ops listed).length) (listed.setIfInBounds i true) [i]
      | none => [].reverse) ∈ _
    simp only [orders]
    cases hr : Region.ready md ops listed with
    | nil => simp
    | cons x xs =>
      have hlt : t % (x :: xs).length < (x :: xs).length := Nat.mod_lt _ (by simp)
      rw [List.getElem?_eq_getElem hlt]
      simp only []
      rw [linearise_go_acc, List.reverse_singleton, List.singleton_append]
      exact List.mem_flatMap.2 ⟨_, List.getElem_mem hlt, List.mem_map.2 ⟨_, ih _ _, rfl⟩⟩

theorem wpS_region_draw {P : Program} {ops : Array Oper} {Q : Exit → Act → List Frame → World → Prop} {a : Act} {cs : List Frame} {w : World} {id : Nat} (L : List (List Nat)) (hm : P.follows .mixedOrders = true) (hL : orders .any ops ops.size (Array.replicate ops.size false) = L)
    (h : ∀ l ∈ L, wpOpsS P ops Q l a cs w.drew) : (Code.region id ops true).wpS P Q a cs w := by
  subst hL
  intro b k hb hr
  have hl : Region.schedule (P.follows .mixedOrders) ops (w.tape w.drawn (.order b.fn id)) ∈ orders .any ops ops.size (Array.replicate ops.size false) := by
    simp only [Region.schedule, hm, Bool.true_or, if_true]
    exact go_mem_orders .any ops _ _ _
  obtain ⟨e, a', cs', w', q, r⟩ := wp_opsS _ a cs w.drew (h _ hl) b k hb hr
  exact ⟨e, a', cs', w', q, .of_steps (.one step_region_draw) r⟩

/-! ### What a call leaves alone but for one block -/
theorem Ext.grownBy {w w' : World} (h : Ext w w') (r : Option Nat) : w.grownBy w' r := ⟨h.os, h.tape, h.output, h.size, fun k hk _ => h.block k hk⟩
theorem grown_refl (w : World) (r : Option Nat) : w.grownBy w r := ⟨rfl, rfl, rfl, Nat.le_refl _, fun _ _ _ => rfl⟩
theorem grown_set (w : World) (b j : Nat) (v : Value) (s : Option Nat := none) : w.grownBy (w.setCell ⟨b, j, none⟩ v) (some b) :=
  ⟨rfl, rfl, rfl, by simp [World.setCell], fun k _ hne => by rw [Below.heap_setCell _ _ _ _ (by intro e; exact hne (by rw [e]))]⟩
theorem grown_trans1 {a b c : World} {r : Option Nat} (h : a.grownBy b r) (k : b.grownBy c r) : a.grownBy c r := grown_trans h k (.inl rfl)
theorem grown_drew {w w' : World} {r : Option Nat} (h : w.grownBy w' r) : w.grownBy w'.drew r := ⟨h.os, h.tape, h.output, h.size, h.block⟩
theorem Blk.grown {w w' : World} {b : Nat} {cs : Array Value} {e : TypeId} {r : Option Nat} (h : Blk w b cs e) (hg : w.grownBy w' r) (hr : some b ≠ r) : Blk w' b cs e := by
  unfold Blk at *; rw [hg.block b (Blk.lt h) hr]; exact h
theorem cell_grown {w w' : World} {r : Option Nat} (hg : w.grownBy w' r) {p : Addr} {v : Value} (h : w.cell? p = some v) (hr : some p.block ≠ r) : w'.cell? p = some v := by
  rw [World.cell?_of_block (hg.block p.block (World.block_lt_of_cell? w p h) hr)]; exact h
/-- The block that v lies in, if it has cells, is none of r. -/
def Off (v : Value) (cs : List Value) (r : Option Nat) : Prop := ∀ a n c, v = .slice (some a) n c → cs ≠ [] → some a.block ≠ r
theorem Rd.grown {w w' : World} {v : Value} {cs : List Value} {r : Option Nat} (h : Rd w v cs) (hg : w.grownBy w' r) (ho : Off v cs r) : Rd w' v cs := by
  obtain ⟨a, c, hv, h1, h2, h3⟩ := h
  refine ⟨a, c, hv, h1, h2, ?_⟩
  by_cases hn : cs = []
  · exact .inl hn
  · rcases h3 with h3 | ⟨b, o, rfl, hc⟩
    · exact absurd h3 hn
    · exact .inr ⟨b, o, rfl, fun j u hj => cell_grown hg (hc j u hj) (by have := ho _ _ _ hv hn; exact this)⟩
/-- A block whose cells are none of the slice's is not its block. -/
theorem Rd.off {w : World} {v : Value} {cs : List Value} {b : Nat} {ds : Array Value} {e : TypeId} (h : Rd w v cs) (hb : Blk w b ds e) (hd : ∀ u ∈ ds, u ∉ cs) : Off v cs (some b) := by
  intro a n c hv hn hab
  obtain ⟨a', c', hv', h1, h2, h3⟩ := h
  rcases h3 with h3 | ⟨b', o, ha', hc⟩
  · exact hn h3
  · rw [hv] at hv'
    cases hv'
    cases ha'
    cases hab
    cases cs with
    | nil => exact hn rfl
    | cons u us =>
      have h0 := hc 0 u rfl
      rw [cell_of_row w _ _ ds e (0, 0) hb] at h0
      exact hd u (Array.mem_of_getElem? h0) (by simp)
end Go.Proofs.YtafjjladnghjbaaGreatDoor
