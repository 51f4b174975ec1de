/- append to a row of the call's own: the row holds no byte if it held none. Of any program. -/
import Derived.Test.YtmffknllnjagoaaDoorDsk0
import Derived.Maps.AppendAt
set_option linter.unusedSimpArgs false
set_option linter.unusedVariables false
namespace Go.Proofs.YtmffknllnjagoaaDoor
open Go Go.RowKit Go.Maps

theorem noB_row {w : World} {g : Nat} {l : List Value} {e : TypeId} {f : Nat × Nat} (h : w.heap[g]? = some (.cells l.toArray e f)) (hl : ∀ u ∈ l, ∀ y, u ≠ .int .u8 y) : NoB w g := by
  intro j x hc
  have : w.cell? ⟨g, j, none⟩ = l.toArray[j]? := by simp [World.cell?, h]
  rw [this] at hc
  exact hl _ (List.mem_of_getElem? (by simpa using hc)) x rfl
theorem noB_arr {w : World} {g : Nat} {cur : Array Value} {e : TypeId} {f : Nat × Nat} (h : w.heap[g]? = some (.cells cur e f)) (hl : ∀ u ∈ cur.toList, ∀ y, u ≠ .int .u8 y) : NoB w g :=
  noB_row (l := cur.toList) (e := e) (f := f) (by simpa using h) hl
theorem noB_cells {w : World} {g : Nat} {cur : Array Value} {e : TypeId} (h : w.heap[g]? = some (.cells cur e (0, 0))) (hb : NoB w g) : ∀ u ∈ cur.toList, ∀ y, u ≠ .int .u8 y := by
  intro u hu y he
  obtain ⟨j, hj, rfl⟩ := List.getElem_of_mem hu
  refine hb j y ?_
  rw [cell_of_row w g j cur e (0, 0) h, ← he]
  simp at hj ⊢
section
variable {P : Program} {w : World}
theorem append_noB (base : Nat) (t ty e : TypeId) (i : TypeInfo) (z : Value) (size bytes : Nat) (ht : P.underlying t = some (.slice e)) (hi : P.info? e = some i) (hz : i.zero = some z)
    (hsize : i.size = size) (hby : i.bytes = bytes) (v : Value) (n : Nat) (xs : List Value) (hown : w.ownsRow base e size v n xs)
    (a : Addr) (m c : Nat) (news : List Value) (hl : news.length = m * size) (hnews : ∀ j u, news[j]? = some u → w.cell? (a.add j) = some u) (h1 : ∀ u ∈ news, u.oneCell' = true)
    (h63 : n + m ≤ maxLen) (hbytes : (n + m) * bytes ≤ 140737488355328) (hz8 : ∀ u ∈ z.cells.toList, ∀ y, u ≠ .int .u8 y) (hn8 : ∀ u ∈ news, ∀ y, u ≠ .int .u8 y) (hx8 : ∀ u ∈ xs, ∀ y, u ≠ .int .u8 y) (hb : ∀ g ∈ v.ownBlock.toList, NoB w g)
    {v' : Value} {w' : World} (hr : (Builtin.append_ #[t, t] ty #[v, .slice (some a) m c]).run P w = .ok v' w') : ∀ g ∈ v'.ownBlock.toList, NoB w' g := by
  subst hsize
  subst hby
  have hsmall : n + m ≤ 9223372036854775807 := by simp only [maxLen] at h63; omega
  have hzc : ∀ k, ∀ u ∈ (Builtin.zeroCells z.cells k).toList, ∀ y, u ≠ .int .u8 y := by
    intro k u hu
    unfold Builtin.zeroCells at hu
    simp at hu
    obtain ⟨a', ha, rfl⟩ := hu
    have hpos : 0 < z.cells.size := by
      rcases Nat.eq_zero_or_pos z.cells.size with h0 | h0
      · rw [h0, Nat.mul_zero] at ha; omega
      · exact h0
    have hlt := Nat.mod_lt a' hpos
    rw [getElem!_pos z.cells _ hlt]
    exact hz8 _ (by simp)
  rcases hown.2 with ⟨rfl, rfl⟩ | ⟨g, cap, cur, rfl, hbg, hg, hnc, hcm, hcs, htake⟩
  · have hx : xs = [] := List.eq_nil_of_length_eq_zero (by simpa using hown.1)
    subst hx
    by_cases hm : m = 0
    · subst hm
      have hn : news = [] := List.eq_nil_of_length_eq_zero (by simpa using hl)
      subst hn
      have hr2 : (Builtin.append_ #[t, t] ty #[.slice none 0 0, .slice (some a) 0 c]).run P w = .ok (.slice none 0 0) w := by
        simp [Builtin.append_, run_underlying ht, sizeOf, typeInfo, hi, Builtin.lenOf, Builtin.firstCells, loadCells, loadCellsFrom]
      rw [hr2] at hr
      cases hr
      intro g hg; simp [Value.ownBlock] at hg
    · have hr2 := run_append_nil (P := P) w t ty e i z ht hi hz a m c news hl hnews (by omega) (by omega) (by have hb := hbytes; simp only [Nat.zero_add] at hb; omega)
      rw [hr2] at hr
      cases hr
      intro g hg
      simp [Value.ownBlock] at hg; subst hg
      have hh := heap_alloc_new w.drew (.cells (news.toArray ++ Builtin.zeroCells z.cells (grownCap w m 0 e - m)) e)
      refine noB_arr hh fun u hu => ?_
      rw [Array.toList_append] at hu
      rcases List.mem_append.1 hu with hu | hu
      · exact hn8 u hu
      · exact hzc _ u hu
  · have hb0 : NoB w g := hb g (by simp [Value.ownBlock])
    have hc8 := noB_cells hg hb0
    by_cases hroom : n + m ≤ cap
    · have hfit : n * i.size + news.length ≤ cur.size := by rw [hl, hcs, ← Nat.add_mul]; exact Nat.mul_le_mul_right _ hroom
      have hr2 := run_append_room (P := P) w t ty e i ht hi g n cap cur hg a m c news hl hnews h1 hroom hfit
      rw [hr2] at hr
      cases hr
      intro k hk
      simp [Value.ownBlock] at hk; subst hk
      refine noB_row (setRow_heap w _ cur _ e _ hg) fun u hu => ?_
      rcases List.mem_append.1 hu with hu | hu
      · rcases List.mem_append.1 hu with hu | hu
        · exact hc8 u (List.mem_of_mem_take hu)
        · exact hn8 u hu
      · exact hc8 u (List.mem_of_mem_drop hu)
    · have holds : ∀ j u, xs[j]? = some u → w.cell? ((⟨g, 0, none⟩ : Addr).add j) = some u := hown.cells (g := g) rfl
      have hr2 := run_append_grow (P := P) w t ty e i z ht hi hz ⟨g, 0, none⟩ n cap xs hown.1 holds a m c news hl hnews (by omega) (by omega) (growslice_fits (by omega) hbytes)
      rw [hr2] at hr
      cases hr
      intro k hk
      simp [Value.ownBlock] at hk; subst hk
      have hh := heap_alloc_new w.drew (.cells (xs.toArray ++ news.toArray ++ Builtin.zeroCells z.cells (grownCap w (n + m) cap e - (n + m))) e)
      refine noB_arr hh fun u hu => ?_
      rw [Array.toList_append, Array.toList_append] at hu
      rcases List.mem_append.1 hu with hu | hu
      · rcases List.mem_append.1 hu with hu | hu
        · exact hx8 u hu
        · exact hn8 u hu
      · exact hzc _ u hu
/-- append, and the row holds no byte. -/
theorem wpList_append_noB {ops : Array Oper} {rest : List Oper} {o : Oper} {a : Act} {Q : Exit → Act → World → Prop} (hgd : o.guard = none) (s x : Operand) (t : TypeId)
    (ho : o.op = .call { callee := .builtin .append, args := #[s, x], argTypes := #[t, t] })
    (base : Nat) (e : TypeId) (i : TypeInfo) (z : Value) (size bytes : Nat) (ht : P.underlying t = some (.slice e)) (hi : P.info? e = some i) (hz : i.zero = some z)
    (hsize : i.size = size) (hby : i.bytes = bytes) (hzs : z.cells.size = size) (hsz : 0 < size)
    (v : Value) (n : Nat) (xs : List Value) (hs : a.eval s = v) (hown : w.ownsRow base e size v n xs)
    (ad : Addr) (m c : Nat) (news : List Value) (hx : a.eval x = .slice (some ad) m c) (hl : news.length = m * size) (hnews : ∀ j u, news[j]? = some u → w.cell? (ad.add j) = some u) (h1 : ∀ u ∈ news, u.oneCell' = true)
    (h63 : n + m ≤ maxLen) (hbytes : (n + m) * bytes ≤ 140737488355328) (hbase : base ≤ w.heap.size)
    (hz8 : ∀ u ∈ z.cells.toList, ∀ y, u ≠ .int .u8 y) (hn8 : ∀ u ∈ news, ∀ y, u ≠ .int .u8 y) (hx8 : ∀ u ∈ xs, ∀ y, u ≠ .int .u8 y) (hb : ∀ g ∈ v.ownBlock.toList, NoB w g)
    (h : ∀ v' w', w'.ownsRow base e size v' (n + m) (xs ++ news) → w.grownBy w' v.ownBlock → (∀ g ∈ v'.ownBlock.toList, NoB w' g) → (v'.ownBlock = v.ownBlock ∨ v'.ownBlock = some w.heap.size) → wpList P ops Q rest (a.put o.dst v') w') :
    wpList P ops Q (o :: rest) a w := by
  refine wpList_plain hgd fun K hK => ?_
  obtain ⟨v', w', hr, h2, h3, _, h5⟩ := run_append_own_at (P := P) w base t o.type e i z size bytes ht hi hz hsize hby hzs hsz v n xs hown ad m c news hl hnews h1 h63 hbytes hbase
  have hnb := append_noB base t o.type e i z size bytes ht hi hz hsize hby v n xs hown ad m c news hl hnews h1 h63 hbytes hz8 hn8 hx8 hb hr
  unfold Oper.wp execOp
  simp only [ho, resolve, invoke, builtin, Sem.run_bind, Sem.run_pure, Result.andThen_ok, List.map_toArray, List.map_cons, List.map_nil, hs, hx, hr]
  exact hK _ _ (h v' w' h2 h3 hnb h5)
end
end Go.Proofs.YtmffknllnjagoaaDoor
