/- Own rows: a copy by append to an empty slice; a cell turned; types tell rows apart. Of any program. -/
import Derived.Test.YtgefphfnicjbiaaRv
import Derived.ArgAppend
namespace Go.Proofs.Ytgefphfnicjbiaa
open Go Go.RowKit

theorem flat_row {s : Nat} {u : Value} : ∀ (rows : List (List Value)) (j : Nat), (∀ r ∈ rows, r.length = s) → rows.flatten[j]? = some u → ∃ i r j', rows[i]? = some r ∧ r[j']? = some u ∧ j = i * s + j'
  | [], j, _, h => by simp at h
  | x :: t, j, hs, h => by
    have hx := hs x (by simp)
    rw [List.flatten_cons] at h
    by_cases hj : j < s
    · rw [List.getElem?_append_left (by omega)] at h
      exact ⟨0, x, j, rfl, h, by omega⟩
    · rw [List.getElem?_append_right (by omega), hx] at h
      obtain ⟨i, r, j', h1, h2, h3⟩ := flat_row t (j - s) (fun r hr => hs r (by simp [hr])) h
      exact ⟨i + 1, r, j', by simpa using h1, h2, by rw [Nat.succ_mul]; omega⟩
/-- What an append to an empty slice with no room brings. -/
def Half (w w' : World) (p : Nat) (e : TypeId) (size m : Nat) (news : List Value) (v' : Value) : Prop :=
  (m = 0 ∧ v' = .slice (some ⟨p, 0, none⟩) 0 0) ∨ (0 < m ∧ w'.ownsRow w.heap.size e size v' m news)
section
variable {P : Program} {w : World} {ops : Array Oper} {rest : List Oper} {o : Oper} {a : Act} {Q : Exit → Act → World → Prop}
theorem run_append_zero (t ty e : TypeId) (i : TypeInfo) (ht : P.underlying t = some (.slice e)) (hi : P.info? e = some i) (ad : Addr) (ax : Option Addr) (c : Nat) :
    (Builtin.append_ #[t, t] ty #[.slice (some ad) 0 0, .slice ax 0 c]).run P w = .ok (.slice (some ad) 0 0) w := by
  cases ax with
  | none => simp [Builtin.append_, run_underlying ht, sizeOf, typeInfo, hi, Builtin.lenOf, run_firstCells_none, storeCells]
  | some x =>
    have hf := run_firstCells_some (P := P) w i.size 0 x 0 c [] (by simp) (by simp)
    simp [Builtin.append_, run_underlying ht, sizeOf, typeInfo, hi, Builtin.lenOf, hf, storeCells]
theorem wpList_append_half (hgd : o.guard = none) (s x : Operand) (t : TypeId) (ho : o.op = .call { callee := .builtin .append, args := #[s, x], argTypes := #[t, t] })
    (e : TypeId) (z : Value) (size bytes : Nat) (ht : P.underlying t = some (.slice e)) (hi : (P.info? e).map (fun i => (i.zero, i.size, i.bytes)) = some (some z, size, bytes)) (hzs : z.cells.size = size) (hsz : 0 < size)
    (p : Nat) (hs : a.eval s = .slice (some ⟨p, 0, none⟩) 0 0) (ax : Option Addr) (m c : Nat) (news : List Value) (hx : a.eval x = .slice ax m c) (hl : news.length = m * size)
    (hnews : m = 0 ∨ ∃ ad, ax = some ad ∧ ∀ j u, news[j]? = some u → w.cell? (ad.add j) = some u) (h63 : m ≤ maxLen) (hbytes : m * bytes ≤ 140737488355328)
    (h : ∀ v' w', Half w w' p e size m news v' → Ext w w' → wpList P ops Q rest (a.put o.dst v') w') : wpList P ops Q (o :: rest) a w := by
  obtain ⟨i, hi, hz, hsize, hby⟩ := info_parts hi
  refine wpList_plain hgd fun K hK => ?_
  have key : ∃ v' w', (Builtin.append_ #[t, t] o.type #[.slice (some ⟨p, 0, none⟩) 0 0, .slice ax m c]).run P w = .ok v' w' ∧ Half w w' p e size m news v' ∧ Ext w w' := by
    by_cases hm : m = 0
    · subst hm
      exact ⟨_, w, run_append_zero t o.type e i ht hi ⟨p, 0, none⟩ ax c, .inl ⟨rfl, rfl⟩, Ext.refl _⟩
    · rcases hnews with h0 | ⟨ad, rfl, hc⟩
      · exact absurd h0 hm
      · obtain ⟨v', w', hr, ho', hg⟩ := run_append_arg_grows (P := P) w t o.type e i z size bytes ht hi hz hsize hby hzs hsz ⟨p, 0, none⟩ 0 0 [] (by simp) (by simp) ad m c news hl hc (by omega) (by omega) (by simpa using hbytes)
        simp only [Nat.zero_add, List.nil_append] at ho'
        exact ⟨v', w', hr, .inr ⟨by omega, ho'⟩, ⟨hg.os, hg.tape, hg.output, hg.size, fun k hk => hg.block k hk (by simp)⟩⟩
  obtain ⟨v', w', hr, h1, h2⟩ := key
  unfold Oper.wp execOp
  simp only [ho, resolve, invoke, builtin, Sem.run_bind, Sem.run_pure, Result.andThen_ok, List.map_toArray, List.map_cons, List.map_nil, hs, hx, hr]
  exact hK _ _ (h v' w' h1 h2)
end
theorem own_low {w : World} {B B' s n : Nat} {e : TypeId} {v : Value} {xs : List Value} (h : w.ownsRow B e s v n xs) (hB : B' ≤ B) : w.ownsRow B' e s v n xs := by
  refine ⟨h.1, h.2.imp id ?_⟩
  rintro ⟨g, cap, cur, h1, h2, h3⟩
  exact ⟨g, cap, cur, h1, Nat.le_trans hB h2, h3⟩
theorem own_type {w : World} {B s n : Nat} {e : TypeId} {v : Value} {xs : List Value} (h : w.ownsRow B e s v n xs) : ∀ t ∈ v.ownBlock.toList, B ≤ t ∧ t < w.heap.size ∧ ∃ cur, Blk w t cur e := fun t ht => by
  rcases h.2 with ⟨hv, _⟩ | ⟨g, cap, cur, hv, hg, hh, _⟩
  · rw [hv] at ht; simp [Value.ownBlock] at ht
  · rw [hv] at ht; simp [Value.ownBlock] at ht; subst ht
    exact ⟨hg, (Array.getElem?_eq_some_iff.1 hh).1, cur, hh⟩
theorem blk_type {w : World} {t : Nat} {c c' : Array Value} {e e' : TypeId} (h : Blk w t c e) (h' : Blk w t c' e') : e = e' := by
  unfold Blk at h h'
  rw [h] at h'
  cases h'; rfl
/-- Rows of two element types lie in two blocks. -/
theorem own_apart {w : World} {B B' s s' n n' : Nat} {e e' : TypeId} {v v' : Value} {xs xs' : List Value} (h : w.ownsRow B e s v n xs) (h' : w.ownsRow B' e' s' v' n' xs') (he : e ≠ e') : ∀ t ∈ v.ownBlock.toList, t ∉ v'.ownBlock.toList := fun t ht ht' => by
  obtain ⟨_, _, c, hc⟩ := own_type h t ht
  obtain ⟨_, _, c', hc'⟩ := own_type h' t ht'
  exact he (blk_type hc hc')
theorem own_off {w w' : World} {S : List Nat} {base : Nat} {e : TypeId} {size : Nat} {v : Value} {n : Nat} {xs : List Value} (h : w.ownsRow base e size v n xs) (hg : Chg S w w') (hS : ∀ t ∈ v.ownBlock.toList, t ∉ S) : w'.ownsRow base e size v n xs := by
  obtain ⟨h1, h2⟩ := h
  refine ⟨h1, ?_⟩
  rcases h2 with h2 | ⟨g, cap, cur, hv, hg', hh, r⟩
  · exact .inl h2
  · exact .inr ⟨g, cap, cur, hv, hg', (hg.block g (Array.getElem?_eq_some_iff.1 hh).1 (hS g (by rw [hv]; simp [Value.ownBlock]))).trans hh, r⟩
/-- A cell of an own row is turned. -/
theorem own_set {w : World} {base size g n cap : Nat} {e : TypeId} {xs : List Value} (h : w.ownsRow base e size (.slice (some ⟨g, 0, none⟩) n cap) n xs) (j : Nat) (hj : j < xs.length) (u : Value) :
    (w.setCell ⟨g, j, none⟩ u).ownsRow base e size (.slice (some ⟨g, 0, none⟩) n cap) n (xs.set j u) := by
  obtain ⟨h1, h2⟩ := h
  refine ⟨by rw [List.length_set]; exact h1, ?_⟩
  rcases h2 with ⟨h2, _⟩ | ⟨g', cap', cur, hv, hg', hh, k1, k2, k3, k4⟩
  · cases h2
  · cases hv
    refine .inr ⟨g, cap, _, rfl, hg', (show Blk w g cur e from hh).set j u, k1, k2, by simpa using k3, ?_⟩
    rw [← k4, Array.toList_setIfInBounds, List.take_set]
theorem own_free {w : World} {base size g n cap : Nat} {e : TypeId} {xs : List Value} (h : w.ownsRow base e size (.slice (some ⟨g, 0, none⟩) n cap) n xs) (j : Nat) : w.frozen? ⟨g, j, none⟩ = false := by
  rcases h.2 with ⟨h2, _⟩ | ⟨g', cap', cur, hv, hg', hh, _⟩
  · cases h2
  · cases hv; exact (show Blk w g cur e from hh).free j
theorem own_cell {w : World} {base size g n cap : Nat} {e : TypeId} {xs : List Value} (h : w.ownsRow base e size (.slice (some ⟨g, 0, none⟩) n cap) n xs) (j : Nat) {u : Value} (hj : xs[j]? = some u) : w.cell? ⟨g, j, none⟩ = some u := by
  have := h.cells (g := g) rfl j u hj
  rwa [Addr.add_lit, Nat.zero_add] at this
theorem own_slice {w : World} {base size n : Nat} {e : TypeId} {v : Value} {xs : List Value} (h : w.ownsRow base e size v n xs) : ∃ a c, v = .slice a n c ∧ n ≤ c ∧ c ≤ 9223372036854775807 ∧ (n ≠ 0 → ∃ g, a = some ⟨g, 0, none⟩) := by
  rcases h.2 with ⟨hv, h0⟩ | ⟨g, cap, cur, hv, _, _, k1, k2, _⟩
  · exact ⟨none, 0, by rw [hv, h0], by omega, by omega, fun hn => absurd h0 hn⟩
  · exact ⟨_, cap, hv, k1, by unfold maxLen at k2; omega, fun _ => ⟨g, rfl⟩⟩
/-- An empty slice with no room is an own row of nothing. -/
theorem own_empty {w : World} {base size p : Nat} {e : TypeId} (h : Blk w p #[] e) (hp : base ≤ p) : w.ownsRow base e size (.slice (some ⟨p, 0, none⟩) 0 0) 0 [] :=
  ⟨by simp, .inr ⟨p, 0, #[], rfl, hp, h, Nat.le_refl _, Nat.zero_le _, by simp, by simp⟩⟩
theorem Half.own {w w' : World} {p : Nat} {e : TypeId} {size m : Nat} {news : List Value} {v' : Value} {base : Nat} (h : Half w w' p e size m news v') (hE : Ext w w') (hb : Blk w p #[] e) (hp : base ≤ p) (hw : base ≤ w.heap.size) (hl : news.length = m * size) : w'.ownsRow base e size v' m news := by
  rcases h with ⟨rfl, rfl⟩ | ⟨_, h⟩
  · have : news = [] := List.eq_nil_of_length_eq_zero (by omega)
    subst this
    exact own_empty (hb.ext hE) hp
  · exact own_low h hw
end Go.Proofs.Ytgefphfnicjbiaa
