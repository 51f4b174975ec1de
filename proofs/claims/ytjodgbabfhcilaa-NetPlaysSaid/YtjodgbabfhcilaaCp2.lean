/- tabellionlaw18: copied's walk. PRINTED BY gen/cp.py -/
import Derived.Test.YtjodgbabfhcilaaCp
set_option linter.unusedSimpArgs false
set_option linter.unusedVariables false
namespace Go.Proofs.Ytjodgbabfhcilaa
open Go Go.RowKit

theorem flatLen : ∀ (l : List EVs), (l.flatMap eC).length = l.length * 6
  | [] => rfl
  | q :: r => by
    have h6 : (eC q).length = 6 := rfl
    rw [List.flatMap_cons, List.length_append, flatLen r, h6, List.length_cons]; omega
theorem flat_at : ∀ (l : List EVs) (i : Nat) (q : EVs) (k : Nat) (u : Value), l[i]? = some q → (eC q)[k]? = some u → (l.flatMap eC)[i * 6 + k]? = some u
  | [], i, q, k, u, h, _ => by simp at h
  | p :: r, 0, q, k, u, h, hk => by
    simp at h; subst h
    rw [List.flatMap_cons, List.getElem?_append_left (by have := (List.getElem?_eq_some_iff.1 hk).1; omega), Nat.zero_mul, Nat.zero_add]; exact hk
  | p :: r, i + 1, q, k, u, h, hk => by
    have h6 : (eC p).length = 6 := rfl
    rw [List.flatMap_cons, List.getElem?_append_right (by omega), show (i + 1) * 6 + k - (eC p).length = i * 6 + k by omega]
    exact flat_at r i q k u (by simpa using h) hk
def RetMsg (M : Msg) (w : World) (e : Ending) (w' : World) : Prop := ∃ v', e = .returned v' ∧ MsgV w' 0 v' M ∧ Ext w w'
theorem ECs.list {w : World} {B : Nat} {o : Option Nat} : ∀ {xs : List Ent} {cs : List Value}, ECs w B o xs cs → ∃ l : List EVs, l.map (·.1) = xs ∧ cs = l.flatMap eC ∧ ∀ q ∈ l, Rd w q.2.1 (u8s q.1.data) ∧ Rd w q.2.2 (u64s q.1.members)
  | [], _, h => ⟨[], rfl, h, fun q hq => by cases hq⟩
  | x :: r, _, ⟨dv, mv, rest, e, h1, h2, h3⟩ => by
    obtain ⟨l, e1, e2, e3⟩ := h3.list
    refine ⟨(x, dv, mv) :: l, by simp [e1], by rw [e, e2]; rfl, fun q hq => ?_⟩
    rcases List.mem_cons.1 hq with rfl | hq
    · exact ⟨h1.1, h2.1⟩
    · exact e3 q hq
theorem Rd.offL {w : World} {v : Value} {cs : List Value} (h : Rd w v cs) {S : List Nat} (hS : ∀ t ∈ S, w.heap.size ≤ t) : OffL v cs S := fun a n c hv hne hm => by
  have := Rd.lt h hv hne
  have := hS _ hm
  omega
end Go.Proofs.Ytjodgbabfhcilaa
