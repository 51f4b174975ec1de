/- disk: what calls leave, names and sizes (for programs without tabellionlaw08). -/
import Derived.Test.YtafjjladnghjbaaGreatDoorDsk10
import Derived.Sort.KeysCollected
namespace Go.Proofs.YtafjjladnghjbaaGreatDoor
open Go Go.RowKit Go.Maps Go.Sort

theorem DkTo.toExt {O O' : List Nat} {w0 w w' : World} (h : DkTo O w w' O') (hE : Ext w0 w) (hO : ∀ t ∈ O, w0.heap.size ≤ t) : Ext w0 w' := Chg.below hE h.1 hE.size hO
theorem DkTo.new {O O' : List Nat} {w w' : World} {B : Nat} (h : DkTo O w w' O') (hO : ∀ t ∈ O, B ≤ t) (hB : B ≤ w.heap.size) : ∀ t ∈ O', B ≤ t := fun t ht => by
  rcases h.2.1 t ht with h1 | h1
  · exact hO t h1
  · omega
theorem DkS.names {w : World} {d n M : Nat} {A Od : List Nat} {S : Dk} (h : DkS w d n M Od A S) : S.now.length ≤ n ∧ ∀ p ∈ S.now, p.1.length ≤ maxLen := by
  obtain ⟨⟨bn, bs, wv, cs, h1, h2, -⟩, -⟩ := h
  refine ⟨h2.len, fun p hp => ?_⟩
  obtain ⟨E, ho, _, hL⟩ := h2
  refine strKeys_le ho Tryz.underlying9 p.1 ?_
  rw [toD_keys]
  rw [hL] at hp
  simp only [mapG, List.mem_map] at hp ⊢
  obtain ⟨q, hq, rfl⟩ := hp
  exact ⟨q, hq, rfl⟩
theorem DkS.usedN {w : World} {d n M : Nat} {A Od : List Nat} {S : Dk} (h : DkS w d n M Od A S) : usedF S.now ≤ n * M := usedF_le h.names.1 h.now
end Go.Proofs.YtafjjladnghjbaaGreatDoor
