/- append to a new empty slice, of any program's elements. -/
import Derived.Test.YtjodgbabfhcilaaBun4
import Derived.Test.YtjodgbabfhcilaaBun2
import Derived.ArgAppend
set_option linter.unusedSimpArgs false
set_option linter.unusedVariables false
namespace Go.Proofs.Ytjodgbabfhcilaa
open Go Go.RowKit

/-- v holds cs, in blocks from B on. -/
def NewL (B : Nat) (cs : List Value) (v : Value) (w : World) : Prop := Rd w v cs ∧ ∀ a n c, v = .slice (some a) n c → cs ≠ [] → B ≤ a.block
theorem NewL.ext {B : Nat} {cs : List Value} {v : Value} {w w' : World} (h : NewL B cs v w) (hE : Ext w w') : NewL B cs v w' := ⟨h.1.ext hE, h.2⟩
/-- An empty slice with no room. -/
def Emp (v : Value) (_ : World) : Prop := ∃ p, v = .slice (some ⟨p, 0, none⟩) 0 0

section
variable {P : Program} {w : World} {ops : Array Oper} {rest : List Oper} {o : Oper} {a : Act} {Q : Exit → Act → World → Prop}
theorem run_append_zero (t ty e : TypeId) (i : TypeInfo) (ht : P.underlying t = some (.slice e)) (hi : P.info? e = some i) (ad : Addr) (ax : Option Addr) (c : Nat) :
    (Builtin.append_ #[t, t] ty #[.slice (some ad) 0 0, .slice ax 0 c]).run P w = .ok (.slice (some ad) 0 0) w := by
  cases ax with
  | none => simp [Builtin.append_, run_underlying ht, sizeOf, typeInfo, hi, Builtin.lenOf, run_firstCells_none, storeCells]
  | some x =>
    have hf := run_firstCells_some (P := P) w i.size 0 x 0 c [] (by simp) (by simp)
    simp [Builtin.append_, run_underlying ht, sizeOf, typeInfo, hi, Builtin.lenOf, hf, storeCells]
/-- What an append to an empty slice with no room brings: news in a new row, or nothing. -/
def Lies (w w' : World) (e : TypeId) (m : Nat) (news : List Value) (v' : Value) : Prop :=
  ∃ ad c, v' = .slice ad m c ∧ m ≤ c ∧ c ≤ maxLen ∧ (m = 0 ∨ ∃ g, ad = some ⟨g, 0, none⟩ ∧ w.heap.size ≤ g ∧ g < w'.heap.size ∧ ∃ cur : Array Value, Blk w' g cur e ∧ ∀ (j : Nat) (u : Value), news[j]? = some u → (cur : Array Value)[j]? = some u)
theorem wpList_append_fresh (hgd : o.guard = none) (s x : Operand) (t : TypeId) (ho : o.op = .call { callee := .builtin .append, args := #[s, x], argTypes := #[t, t] })
    (e : TypeId) (i : TypeInfo) (z : Value) (size bytes : Nat) (ht : P.underlying t = some (.slice e)) (hi : P.info? e = some i) (hz : i.zero = some z) (hsize : i.size = size) (hby : i.bytes = bytes) (hzs : z.cells.size = size) (hsz : 0 < size)
    (p : Nat) (hs : a.eval s = .slice (some ⟨p, 0, none⟩) 0 0) (ax : Option Addr) (m c : Nat) (news : List Value) (hx : a.eval x = .slice ax m c) (hl : news.length = m * size)
    (hnews : m = 0 ∨ ∃ ad, ax = some ad ∧ ∀ j u, news[j]? = some u → w.cell? (ad.add j) = some u) (h63 : m ≤ maxLen) (hbytes : m * bytes ≤ 140737488355328)
    (h : ∀ v' w', Lies w w' e m news v' → Ext w w' → wpList P ops Q rest (a.put o.dst v') w') : wpList P ops Q (o :: rest) a w := by
  refine wpList_plain hgd fun K hK => ?_
  have key : ∃ v' w', (Builtin.append_ #[t, t] o.type #[.slice (some ⟨p, 0, none⟩) 0 0, .slice ax m c]).run P w = .ok v' w' ∧ Lies w w' e m news v' ∧ Ext w w' := by
    by_cases hm : m = 0
    · subst hm
      exact ⟨_, w, run_append_zero t o.type e i ht hi ⟨p, 0, none⟩ ax c, ⟨_, 0, rfl, Nat.le_refl _, Nat.zero_le _, .inl rfl⟩, Ext.refl _⟩
    · rcases hnews with h0 | ⟨ad, rfl, hc⟩
      · exact absurd h0 hm
      · obtain ⟨v', w', hr, ho', hg⟩ := run_append_arg_grows (P := P) w t o.type e i z size bytes ht hi hz hsize hby hzs hsz ⟨p, 0, none⟩ 0 0 [] (by simp) (by simp) ad m c news hl hc (by omega) (by omega) (by simpa using hbytes)
        refine ⟨v', w', hr, ?_, ⟨hg.os, hg.tape, hg.output, hg.size, fun k hk => hg.block k hk (by simp)⟩⟩
        simp only [Nat.zero_add, List.nil_append] at ho'
        rcases ho'.2 with ⟨_, h0⟩ | ⟨g, cap, cur, hv, hge, hh, h1, h2, h3, h4⟩
        · exact absurd h0 hm
        · refine ⟨_, cap, hv, h1, h2, .inr ⟨g, rfl, hge, (Array.getElem?_eq_some_iff.1 hh).1, cur, hh, fun j u hj => ?_⟩⟩
          rw [← h4] at hj
          rw [List.getElem?_take] at hj
          split at hj
          · simpa using hj
          · cases hj
  obtain ⟨v', w', hr, h1, h2⟩ := key
  unfold Oper.wp execOp
  simp only [ho, resolve, invoke, builtin, Sem.run_bind, Sem.run_pure, Result.andThen_ok, List.map_toArray, List.map_cons, List.map_nil, hs, hx, hr]
  exact hK _ _ (h v' w' h1 h2)
theorem Lies.new {w w' : World} {e : TypeId} {m : Nat} {cs : List Value} {v' : Value} (h : Lies w w' e m cs v') (hl : cs.length = m) : NewL w.heap.size cs v' w' := by
  obtain ⟨ad, c, rfl, h1, h2, h3⟩ := h
  rcases h3 with rfl | ⟨g, rfl, hg, _, cur, hb, hc⟩
  · have : cs = [] := List.eq_nil_of_length_eq_zero hl
    subst this
    exact ⟨⟨ad, c, rfl, Nat.zero_le _, h2, .inl rfl⟩, fun a n c _ hne => absurd rfl hne⟩
  · refine ⟨⟨some ⟨g, 0, none⟩, c, by rw [hl], by rw [hl]; exact h1, h2, .inr ⟨g, 0, rfl, fun j u hj => by rw [Nat.zero_add]; exact hb.cell j (hc j u hj)⟩⟩, fun a n c' hv _ => ?_⟩
    cases hv; exact hg
theorem wpList_append_fresh1 {t e : TypeId} {z : Value} {bytes : Nat} (hgd : o.guard = none) (s x : Operand) (ho : o.op = .call { callee := .builtin .append, args := #[s, x], argTypes := #[t, t] })
    (hT : ElT P t e z bytes) (p : Nat) (hs : a.eval s = .slice (some ⟨p, 0, none⟩) 0 0) (vx : Value) (cs : List Value) (hx : a.eval x = vx) (hrd : Rd w vx cs) (hbytes : cs.length * bytes ≤ 140737488355328) (h63 : cs.length ≤ maxLen)
    (h : ∀ v' w', NewL w.heap.size cs v' w' → Ext w w' → wpList P ops Q rest (a.put o.dst v') w') : wpList P ops Q (o :: rest) a w := by
  obtain ⟨i, hi, hz, hsz, hby⟩ := hT.info
  obtain ⟨ad, c, rfl, hlc, hcm, hcs⟩ := hrd
  refine wpList_append_fresh hgd s x t ho e i z 1 bytes hT.ty hi hz hsz hby hT.one (by decide) p hs ad cs.length c cs hx (by simp) ?_ h63 hbytes fun v' w' h1 h2 => h v' w' (h1.new rfl) h2
  rcases hcs with h0 | ⟨b, o', rfl, hc⟩
  · left; rw [h0]; rfl
  · exact .inr ⟨_, rfl, fun j u hj => by rw [Addr.add_lit]; exact hc j u hj⟩
end
end Go.Proofs.Ytjodgbabfhcilaa
