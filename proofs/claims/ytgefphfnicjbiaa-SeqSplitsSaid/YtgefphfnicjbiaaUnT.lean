/- Rows that no string shares: whose cells may be written. Of any program. -/
import Derived.Test.YtgefphfnicjbiaaChg
namespace Go.Proofs.Ytgefphfnicjbiaa
open Go Go.RowKit

/-- The row that v's elements lie in, if it has any, is shared by no string. -/
def UnT (w : World) (v : Value) : Prop := ∀ a n c, v = .slice (some a) n c → n ≠ 0 → ∃ cs, Blk w a.block cs 5
section
variable {w w' : World} {v : Value}
theorem UnT.nil (w : World) : UnT w (.slice none 0 0) := fun _ _ _ h => by cases h
theorem UnT.zero (w : World) (a : Option Addr) (c : Nat) : UnT w (.slice a 0 c) := fun _ _ _ h hn => by cases h; exact absurd rfl hn
theorem UnT.not (w : World) {v : Value} (h : ∀ a n c, v ≠ .slice a n c) : UnT w v := fun _ _ _ e => absurd e (h _ _ _)
theorem UnT.set (h : UnT w v) (b j : Nat) (u : Value) : UnT (w.setCell ⟨b, j, none⟩ u) v := fun a n c e hn => by
  obtain ⟨cs, hB⟩ := h a n c e hn
  by_cases hb : b = a.block
  · subst hb; exact ⟨_, hB.set j u⟩
  · exact ⟨_, hB.other ⟨b, j, none⟩ u hb⟩
theorem UnT.drew (h : UnT w v) : UnT w.drew v := fun a n c e hn => by
  obtain ⟨cs, hB⟩ := h a n c e hn
  exact ⟨cs, hB.drew⟩
theorem UnT.ext (h : UnT w v) (hE : Ext w w') : UnT w' v := fun a n c e hn => by
  obtain ⟨cs, hB⟩ := h a n c e hn
  exact ⟨cs, hB.ext hE⟩
theorem UnT.grown {r : Option Nat} (h : UnT w v) (hg : w.grownBy w' r) (hr : ∀ a n c, v = .slice (some a) n c → n ≠ 0 → some a.block ≠ r) : UnT w' v := fun a n c e hn => by
  obtain ⟨cs, hB⟩ := h a n c e hn
  exact ⟨cs, hB.grown hg (hr a n c e hn)⟩
theorem UnT.chg {S : List Nat} (h : UnT w v) (hg : Chg S w w') (hS : ∀ a n c, v = .slice (some a) n c → n ≠ 0 → a.block ∉ S) : UnT w' v := fun a n c e hn => by
  obtain ⟨cs, hB⟩ := h a n c e hn
  exact ⟨cs, hB.chg hg (hS a n c e hn)⟩
theorem UnT.own {base : Nat} {sz n : Nat} {xs : List Value} (h : w.ownsRow base 5 sz v n xs) : UnT w v := fun a m c hv _ => by
  rcases h.2 with ⟨hn, _⟩ | ⟨g, cap, cur, hv', hg, hh, _⟩
  · rw [hn] at hv; cases hv
  · rw [hv'] at hv; cases hv; exact ⟨_, hh⟩
end
end Go.Proofs.Ytgefphfnicjbiaa
