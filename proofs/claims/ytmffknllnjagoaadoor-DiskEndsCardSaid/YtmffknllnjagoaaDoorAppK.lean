/- append to a row of the call's own: what older rows keep. Of any program. -/
import Derived.Test.YtmffknllnjagoaaDoorAppB
set_option linter.unusedSimpArgs false
set_option linter.unusedVariables false
namespace Go.Proofs.YtmffknllnjagoaaDoor
open Go Go.RowKit Go.Maps

/-- Older blocks below B stay, and rows of at most N elements from B on. -/
structure Kp (B : Nat) (e : TypeId) (N : Nat) (a b : World) : Prop where
  os : b.os = a.os
  tape : b.tape = a.tape
  output : b.output = a.output
  size : a.heap.size ≤ b.heap.size
  block : ∀ k, k < a.heap.size → k < B → b.heap[k]? = a.heap[k]?
  keep : ∀ v n xs, n ≤ N → a.ownsRow B e 1 v n xs → b.ownsRow B e 1 v n xs
theorem Kp.ext {B : Nat} {e : TypeId} {N : Nat} {a b : World} (h : Ext a b) : Kp B e N a b :=
  ⟨h.os, h.tape, h.output, h.size, fun k hk _ => h.block k hk, fun _ _ _ _ ho => own_ext ho h⟩
theorem Kp.trans {B : Nat} {e : TypeId} {N : Nat} {a b c : World} (h : Kp B e N a b) (k : Kp B e N b c) : Kp B e N a c :=
  ⟨k.os.trans h.os, k.tape.trans h.tape, k.output.trans h.output, Nat.le_trans h.size k.size, fun i hi hb => (k.block i (Nat.lt_of_lt_of_le hi h.size) hb).trans (h.block i hi hb), fun v n xs hn ho => k.keep v n xs hn (h.keep v n xs hn ho)⟩
theorem Kp.toExt {B : Nat} {e : TypeId} {N : Nat} {a b : World} (h : Kp B e N a b) (hB : a.heap.size ≤ B) : Ext a b :=
  ⟨h.os, h.tape, h.output, h.size, fun k hk => h.block k hk (Nat.lt_of_lt_of_le hk hB)⟩
theorem Kp.toBelow {B : Nat} {e : TypeId} {N : Nat} {w a b : World} (h : Kp B e N a b) (k : Below B w a) (hB : B ≤ a.heap.size) : Below B w b :=
  ⟨h.os.trans k.os, h.tape.trans k.tape, h.output.trans k.output, Nat.le_trans k.size h.size, fun i hi => (h.block i (Nat.lt_of_lt_of_le hi hB) hi).trans (k.block i hi)⟩
theorem Kp.pre (B : Nat) (e : TypeId) (N : Nat) : Mono.Pre Ext (Kp B e N) := ⟨fun _ _ h => Kp.ext h, fun _ _ _ => Ext.trans, fun _ _ _ => Kp.trans⟩
section
variable {P : Program} {w : World}
theorem setRow_other {g k : Nat} {c : Array Value} (h : k ≠ g) : (w.setRow g c).heap[k]? = w.heap[k]? := by
  unfold World.setRow
  simp only []
  rw [Array.getElem?_modify, if_neg (fun e => h e.symm)]
theorem setRow_size {g : Nat} {c : Array Value} : (w.setRow g c).heap.size = w.heap.size := by
  unfold World.setRow; simp
theorem kp_setRow {B g n cap : Nat} {e : TypeId} {cur : Array Value} {news : List Value} (hg : w.heap[g]? = some (.cells cur e (0, 0))) (hB : B ≤ g) (hs : cur.size = cap) (hn : n + news.length ≤ cap) :
    Kp B e n w (w.setRow g (cur.toList.take n ++ news ++ cur.toList.drop (n + news.length)).toArray) := by
  refine ⟨rfl, rfl, rfl, Nat.le_of_eq setRow_size.symm, fun k _ hk => setRow_other (by omega), fun v n0 xs hn0 ho => ?_⟩
  obtain ⟨e1, e2⟩ := ho
  refine ⟨e1, ?_⟩
  rcases e2 with e2 | ⟨g', cap', cur', rfl, hg', hh, h1, h2, h3, h4⟩
  · exact .inl e2
  · by_cases he : g' = g
    · subst he
      rw [hg] at hh
      cases hh
      refine .inr ⟨g', cap', _, rfl, hg', setRow_heap w _ cur _ e _ hg, h1, h2, ?_, ?_⟩
      · simp [← h3]
        omega
      · simp only [Nat.mul_one] at h4 ⊢
        rw [← h4, List.append_assoc, List.take_append_of_le_length (by rw [List.length_take, Array.length_toList]; omega), List.take_take, Nat.min_eq_left (by omega)]
    · exact .inr ⟨g', cap', cur', rfl, hg', (setRow_other he).trans hh, h1, h2, h3, h4⟩
theorem append_kp (base : Nat) (t ty e : TypeId) (z : Value) (bytes : Nat) (hT : ElT P t e z bytes) (v : Value) (n : Nat) (xs : List Value) (hown : w.ownsRow base e 1 v n xs)
    (a : Addr) (m c : Nat) (news : List Value) (hl : news.length = m) (hnews : ∀ j u, news[j]? = some u → w.cell? (a.add j) = some u) (h1 : ∀ u ∈ news, u.oneCell' = true)
    (h63 : n + m ≤ maxLen) (hbytes : (n + m) * bytes ≤ 140737488355328)
    {v' : Value} {w' : World} (hr : (Builtin.append_ #[t, t] ty #[v, .slice (some a) m c]).run P w = .ok v' w') : Kp base e n w w' ∧ ((m = 0 ∨ ∀ a' c', v = .slice a' n c' → c' < n + m) → Ext w w') := by
  obtain ⟨i, hi, hz, hsz, hby⟩ := hT.info
  have ht := hT.ty
  subst hby
  have hsmall : n + m ≤ 9223372036854775807 := by simp only [maxLen] at h63; omega
  have hl2 : news.length = m * i.size := by rw [hsz, Nat.mul_one]; exact hl
  have ofExt : Ext w w' → Kp base e n w w' ∧ ((m = 0 ∨ ∀ a' c', v = .slice a' n c' → c' < n + m) → Ext w w') := fun h => ⟨Kp.ext h, fun _ => h⟩
  have hdr : ∀ o, Ext w (w.drew.alloc o) := fun o => (Ext.drew w).trans (Ext.alloc _ _)
  rcases hown.2 with ⟨rfl, rfl⟩ | ⟨g, cap, cur, rfl, hbg, hg, hnc, hcm, hcs, htake⟩
  · have hx : xs = [] := List.eq_nil_of_length_eq_zero (by simpa using hown.1)
    subst hx
    by_cases hm : m = 0
    · subst hm
      have hn : news = [] := List.eq_nil_of_length_eq_zero (by simpa using hl)
      subst hn
      have hr2 : (Builtin.append_ #[t, t] ty #[.slice none 0 0, .slice (some a) 0 c]).run P w = .ok (.slice none 0 0) w := by
        simp [Builtin.append_, run_underlying ht, sizeOf, typeInfo, hi, Builtin.lenOf, Builtin.firstCells, loadCells, loadCellsFrom]
      rw [hr2] at hr
      cases hr
      exact ofExt (Ext.refl _)
    · have hr2 := run_append_nil (P := P) w t ty e i z ht hi hz a m c news hl2 hnews (by omega) (by omega) (by have hb := hbytes; simp only [Nat.zero_add] at hb; omega)
      rw [hr2] at hr
      cases hr
      exact ofExt (hdr _)
  · by_cases hroom : n + m ≤ cap
    · have hcs1 : cur.size = cap := by rw [hcs, Nat.mul_one]
      have hfit : n * i.size + news.length ≤ cur.size := by rw [hsz, Nat.mul_one, hl, hcs1]; exact hroom
      have hr2 := run_append_room (P := P) w t ty e i ht hi g n cap cur hg a m c news hl2 hnews h1 hroom hfit
      rw [hr2] at hr
      cases hr
      rw [hsz, Nat.mul_one]
      refine ⟨kp_setRow hg hbg hcs1 (by omega), fun hh => ?_⟩
      rcases hh with hh | hh
      · have hn0 : news = [] := List.eq_nil_of_length_eq_zero (by omega)
        subst hn0
        have : (cur.toList.take n ++ [] ++ cur.toList.drop (n + ([] : List Value).length)).toArray = cur := by simp
        rw [this, setRow_self w g cur e (0, 0) hg]
        exact Ext.refl _
      · exact absurd (hh _ _ rfl) (by omega)
    · have holds : ∀ j u, xs[j]? = some u → w.cell? ((⟨g, 0, none⟩ : Addr).add j) = some u := hown.cells (g := g) rfl
      have hr2 := run_append_grow (P := P) w t ty e i z ht hi hz ⟨g, 0, none⟩ n cap xs (by rw [hown.1, hsz]) holds a m c news hl2 hnews (by omega) (by omega) (growslice_fits (by omega) hbytes)
      rw [hr2] at hr
      cases hr
      exact ofExt (hdr _)
/-- append, and what is kept. -/
theorem wpList_append_kp {ops : Array Oper} {rest : List Oper} {o : Oper} {a : Act} {Q : Exit → Act → World → Prop} (hgd : o.guard = none) (s x : Operand) (t : TypeId)
    (ho : o.op = .call { callee := .builtin .append, args := #[s, x], argTypes := #[t, t] })
    (base : Nat) (e : TypeId) (z : Value) (bytes : Nat) (hT : ElT P t e z bytes)
    (v : Value) (n : Nat) (xs : List Value) (hs : a.eval s = v) (hown : w.ownsRow base e 1 v n xs)
    (vx : Value) (news : List Value) (hx : a.eval x = vx) (hrd : Rd w vx news) (h1 : ∀ u ∈ news, u.oneCell' = true)
    (h63 : n + news.length ≤ maxLen) (hbytes : (n + news.length) * bytes ≤ 140737488355328) (hbase : base ≤ w.heap.size)
    (h : ∀ v' w', w'.ownsRow base e 1 v' (n + news.length) (xs ++ news) → Kp base e n w w' → ((news = [] ∨ ∀ a' c', v = .slice a' n c' → c' < n + news.length) → Ext w w') → wpList P ops Q rest (a.put o.dst v') w') :
    wpList P ops Q (o :: rest) a w := by
  obtain ⟨i, hi, hz, hsz, hby⟩ := hT.info
  obtain ⟨ad, c, rfl, hlc, hcm, hcs⟩ := hrd
  have key : ∃ v' w', (Builtin.append_ #[t, t] o.type #[v, .slice ad news.length c]).run P w = .ok v' w' ∧ w'.ownsRow base e 1 v' (n + news.length) (xs ++ news) ∧ Kp base e n w w' ∧ ((news = [] ∨ ∀ a' c', v = .slice a' n c' → c' < n + news.length) → Ext w w') := by
    cases ad with
    | none =>
      have hnil : news = [] := by rcases hcs with h0 | ⟨b, o', h0, _⟩; exact h0; cases h0
      subst hnil
      refine ⟨v, w, ?_, by simpa using hown, Kp.ext (Ext.refl _), fun _ => Ext.refl _⟩
      rcases hown.2 with ⟨rfl, rfl⟩ | ⟨g, cap, cur, rfl, _, hg, h2, h3, h4, h5⟩
      · simp [Builtin.append_, run_underlying hT.ty, sizeOf, typeInfo, hi, Builtin.lenOf, Builtin.firstCells]
      · simp [Builtin.append_, run_underlying hT.ty, sizeOf, typeInfo, hi, Builtin.lenOf, Builtin.firstCells, h2, storeCells]
    | some ad =>
      have hnews : ∀ j u, news[j]? = some u → w.cell? (ad.add j) = some u := by
        rcases hcs with h0 | ⟨b, o', ha, hc⟩
        · subst h0; simp
        · cases ha; intro j u hj; rw [Addr.add_lit]; exact hc j u hj
      obtain ⟨v', w', hr, h2, h3, _, h5⟩ := run_append_own_at (P := P) w base t o.type e i z 1 bytes hT.ty hi hz hsz hby hT.one (by decide) v n xs hown ad news.length c news (by simp) hnews h1 h63 hbytes hbase
      obtain ⟨g1, g2⟩ := append_kp base t o.type e z bytes hT v n xs hown ad news.length c news rfl hnews h1 h63 hbytes hr
      refine ⟨v', w', hr, h2, g1, fun hh => g2 ?_⟩
      rcases hh with hh | hh
      · left; rw [hh]; rfl
      · exact .inr hh
  obtain ⟨v', w', hr, h2, h3, h4⟩ := key
  refine wpList_plain hgd fun K hK => ?_
  unfold Oper.wp execOp
  simp only [ho, resolve, invoke, builtin, Sem.run_bind, Sem.run_pure, Result.andThen_ok, List.map_toArray, List.map_cons, List.map_nil, hs, hx, hr]
  exact hK _ _ (h v' w' h2 h3 h4)
end
end Go.Proofs.YtmffknllnjagoaaDoor
