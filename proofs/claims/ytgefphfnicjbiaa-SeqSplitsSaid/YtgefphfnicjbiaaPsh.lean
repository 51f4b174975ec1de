/- 'append(s, x)' of one element of several cells, which the walk has just laid. Of any program. -/
import Derived.Test.YtgefphfnicjbiaaClo
namespace Go.Proofs.Ytgefphfnicjbiaa
open Go Go.RowKit

section
variable {P : Program} {w : World} {ops : Array Oper} {rest : List Oper} {o : Oper} {a : Act} {Q : Exit → Act → World → Prop} {e : TypeId} {z : Value}
/-- 'append(s, x)', x of several cells, which the walk has just laid in a new block. -/
theorem wpList_push_row (hgd : o.guard = none) (s x : Operand) (t' : TypeId) (ho : o.op = .call { callee := .builtin .append, args := #[s, x], argTypes := #[t', t'] })
    (size bytes : Nat) (ht : P.underlying t' = some (.slice e)) (hi : (P.info? e).map (fun i => (i.zero, i.size, i.bytes)) = some (some z, size, bytes)) (hzs : z.cells.size = size) (hsz : 0 < size)
    (base : Nat) (v : Value) (n : Nat) (xs us : List Value) (hs : a.eval s = v) (hown : w.ownsRow base e size v n xs) (hl : us.length = size) (hx : a.eval x = .slice (some ⟨w.heap.size, 0, none⟩) 1 1) (h1 : ∀ u ∈ us, u.oneCell' = true)
    (hb1 : (n + 1) * bytes ≤ 140737488355328) (hb2 : n + 1 ≤ maxLen) (hbase : base ≤ w.heap.size) {W : World} (hW : W = w.alloc (.cells us.toArray e))
    (h : ∀ v' w', w'.ownsRow base e size v' (n + 1) (xs ++ us) → w.grownBy w' v.ownBlock → wpList P ops Q rest (a.put o.dst v') w') : wpList P ops Q (o :: rest) a W := by
  subst hW
  obtain ⟨i, hi, hz, hsz', hby⟩ := info_parts hi
  have hB := Blk.new w us.toArray e
  refine wpList_append_own (w.alloc (.cells us.toArray e)) hgd s x t' ho base e i z size bytes ht hi hz hsz' hby hzs hsz v n xs hs (hown.alloc _) _ 1 1 us hx (by omega) (fun j u hj => by rw [Addr.add_lit, Nat.zero_add]; exact hB.cell j (by simpa using hj)) h1 (by omega) hb1 (by simp; omega) fun v' w' g1 g2 _ => h v' w' g1 ?_
  have ga := World.grownBy_alloc w (.cells us.toArray e) v.ownBlock
  refine ⟨g2.os.trans ga.os, g2.tape.trans ga.tape, g2.output.trans ga.output, Nat.le_trans ga.size g2.size, fun k hk hne => (g2.block k (by have := ga.size; omega) hne).trans (ga.block k hk hne)⟩
end
theorem own_extG {w w' : World} {B : Nat} {v : Value} {e : TypeId} {s n : Nat} {xs : List Value} {w0 : World} (h : w.ownsRow B e s v n xs) (hg : w.grownBy w' v.ownBlock) (hE : Ext w0 w) (hB : w0.heap.size ≤ B) : Ext w0 w' := by
  refine Below.grown (show Below w0.heap.size w0 w from hE) hg hE.size fun k hk => ?_
  rcases h.2 with ⟨h1, _⟩ | ⟨g, cap, cur, h1, h2, _⟩
  · rw [h1] at hk; cases hk
  · rw [h1] at hk; simp [Value.ownBlock] at hk; omega
end Go.Proofs.Ytgefphfnicjbiaa
