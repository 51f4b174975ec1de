/- tabellionlaw18: copied. -/
import Derived.Test.YtjodgbabfhcilaaBun8
import Derived.Test.YtjodgbabfhcilaaFresh
import Derived.Test.YtjodgbabfhcilaaRowM
set_option linter.unusedSimpArgs false
set_option linter.unusedVariables false
namespace Go.Proofs.Ytjodgbabfhcilaa
open Go Go.RowKit

theorem frozen_ext {w w' : World} (hE : Ext w w') {p : Addr} {u : Value} (hc : w.cell? p = some u) (hf : w.frozen? p = false) : w'.frozen? p = false := by
  have hl := World.block_lt_of_cell? w p hc
  have hb := hE.block p.block hl
  unfold World.frozen? at *
  rw [hb]; exact hf
/-- The row g holds the entries l, and may be written. -/
def Row6 (w : World) (g : Nat) (l : List EVs) : Prop := ∃ cur E, Blk w g cur E ∧ ∀ i q, l[i]? = some q → ∀ k u, (eC q)[k]? = some u → cur[i * 6 + k]? = some u
theorem Row6.ext {w w' : World} {g : Nat} {l : List EVs} (h : Row6 w g l) (hE : Ext w w') : Row6 w' g l := by
  obtain ⟨cur, E, hb, hc⟩ := h
  exact ⟨cur, E, hb.ext hE, hc⟩
theorem Row6.chg {S : List Nat} {w w' : World} {g : Nat} {l : List EVs} (h : Row6 w g l) (hC : Chg S w w') (hg : g ∉ S) : Row6 w' g l := by
  obtain ⟨cur, E, hb, hc⟩ := h
  exact ⟨cur, E, hb.chg hC hg, hc⟩
theorem Row6.get {w : World} {g : Nat} {l : List EVs} (h : Row6 w g l) {i : Nat} {q : EVs} (hi : l[i]? = some q) {k : Nat} {u : Value} (hk : (eC q)[k]? = some u) : w.cell? ⟨g, i * 6 + k, none⟩ = some u ∧ w.frozen? ⟨g, i * 6 + k, none⟩ = false := by
  obtain ⟨cur, E, hb, hc⟩ := h
  exact ⟨hb.cell _ (hc i q hi k u hk), hb.free _⟩
theorem Row6.lt {w : World} {g : Nat} {l : List EVs} (h : Row6 w g l) : g < w.heap.size := by obtain ⟨cur, E, hb, _⟩ := h; exact hb.lt
theorem Row6.set {w : World} {g k j : Nat} {l : List EVs} {q q' : EVs} {u : Value} (h : Row6 w g l) (hk : l[k]? = some q) (hj : j < 6) (hq : eC q' = (eC q).set j u) : Row6 (w.setCell ⟨g, k * 6 + j, none⟩ u) g (l.set k q') := by
  obtain ⟨cur, E, hb, hc⟩ := h
  refine ⟨_, E, hb.set _ u, fun i p hi r y hr => ?_⟩
  have hr6 : r < 6 := by have := (List.getElem?_eq_some_iff.1 hr).1; simpa [eC, eCells] using this
  by_cases hik : i = k
  · subst hik
    have hil := (List.getElem?_eq_some_iff.1 hk).1
    rw [List.getElem?_set_self hil] at hi
    cases hi
    rw [hq] at hr
    by_cases hrj : r = j
    · subst hrj
      rw [List.getElem?_set_self (by simpa [eC, eCells] using hr6)] at hr
      cases hr
      have h6 : (eC q)[r]? = some ((eC q)[r]'(by simpa [eC, eCells] using hr6)) := List.getElem?_eq_getElem _
      have := (Array.getElem?_eq_some_iff.1 (hc i q hk r _ h6)).1
      rw [Array.getElem?_setIfInBounds_self_of_lt this]
    · rw [List.getElem?_set_ne (Ne.symm hrj)] at hr
      rw [Array.getElem?_setIfInBounds_ne (by omega)]
      exact hc i q hk r y hr
  · rw [List.getElem?_set_ne (Ne.symm hik)] at hi
    rw [Array.getElem?_setIfInBounds_ne (by omega)]
    exact hc i p hi r y hr
/-- A list's values, each off some blocks. -/
def LVq (w : World) (S : List Nat) (q : EVs) : Prop := (Rd w q.2.1 (u8s q.1.data) ∧ OffL q.2.1 (u8s q.1.data) S) ∧ (Rd w q.2.2 (u64s q.1.members) ∧ OffL q.2.2 (u64s q.1.members) S)
theorem LVq.ext {w w' : World} {S : List Nat} {q : EVs} (h : LVq w S q) (hE : Ext w w') : LVq w' S q := ⟨⟨h.1.1.ext hE, h.1.2⟩, h.2.1.ext hE, h.2.2⟩
theorem LVq.chg {w w' : World} {S T : List Nat} {q : EVs} (h : LVq w S q) (hg : Chg T w w') (hT : ∀ t ∈ T, t ∈ S) : LVq w' S q :=
  ⟨⟨h.1.1.chg hg (fun a n c hv hne hm => h.1.2 a n c hv hne (hT _ hm)), h.1.2⟩, h.2.1.chg hg (fun a n c hv hne hm => h.2.2 a n c hv hne (hT _ hm)), h.2.2⟩
end Go.Proofs.Ytjodgbabfhcilaa
