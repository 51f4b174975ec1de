/- Parts of the proof, in plain words at the head of each: AppS, Netb, Netc, Spl. -/
import Derived.Test.YtjodgbabfhcilaaNeta
import Derived.Test.YtjodgbabfhcilaaBun1
set_option linter.unusedSimpArgs false
set_option linter.unusedVariables false
/- append to a row of the call's own, of elements of several cells: what older rows keep. Of any program. -/
namespace Go.Proofs.Ytjodgbabfhcilaa
open Go Go.RowKit Go.Maps

/-- Older blocks below B stay, and rows of at most N elements from B on. -/
structure Kps (B : Nat) (e : TypeId) (s : Nat) (N : Nat) (a b : World) : Prop where
  os : b.os = a.os
  tape : b.tape = a.tape
  output : b.output = a.output
  size : a.heap.size ≤ b.heap.size
  block : ∀ k, k < a.heap.size → k < B → b.heap[k]? = a.heap[k]?
  keep : ∀ v n xs, n ≤ N → a.ownsRow B e s v n xs → b.ownsRow B e s v n xs
theorem Kps.ext {B : Nat} {e : TypeId} {s N : Nat} {a b : World} (h : Ext a b) : Kps B e s N a b :=
  ⟨h.os, h.tape, h.output, h.size, fun k hk _ => h.block k hk, fun _ _ _ _ ho => own_ext ho h⟩
theorem Kps.trans {B : Nat} {e : TypeId} {s N : Nat} {a b c : World} (h : Kps B e s N a b) (k : Kps B e s N b c) : Kps B e s N a c :=
  ⟨k.os.trans h.os, k.tape.trans h.tape, k.output.trans h.output, Nat.le_trans h.size k.size, fun i hi hb => (k.block i (Nat.lt_of_lt_of_le hi h.size) hb).trans (h.block i hi hb), fun v n xs hn ho => k.keep v n xs hn (h.keep v n xs hn ho)⟩
theorem Kps.toExt {B : Nat} {e : TypeId} {s N : Nat} {a b : World} (h : Kps B e s N a b) (hB : a.heap.size ≤ B) : Ext a b :=
  ⟨h.os, h.tape, h.output, h.size, fun k hk => h.block k hk (Nat.lt_of_lt_of_le hk hB)⟩
theorem Kps.toBelow {B : Nat} {e : TypeId} {s N : Nat} {w a b : World} (h : Kps B e s N a b) (k : Below B w a) (hB : B ≤ a.heap.size) : Below B w b :=
  ⟨h.os.trans k.os, h.tape.trans k.tape, h.output.trans k.output, Nat.le_trans k.size h.size, fun i hi => (h.block i (Nat.lt_of_lt_of_le hi hB) hi).trans (k.block i hi)⟩
theorem Kps.pre (B : Nat) (e : TypeId) (s N : Nat) : Mono3.Pre Ext (Kps B e s N) := ⟨fun _ _ h => Kps.ext h, fun _ _ _ => Ext.trans, fun _ _ _ => Kps.trans⟩
section
variable {P : Program} {w : World}
theorem setRowS_size {g : Nat} {c : Array Value} : (w.setRow g c).heap.size = w.heap.size := by
  unfold World.setRow; simp
theorem kps_setRow {B g n cap s : Nat} {e : TypeId} {cur : Array Value} {news : List Value} (hg : w.heap[g]? = some (.cells cur e (0, 0))) (hB : B ≤ g) (hs : cur.size = cap * s) (hn : n * s + news.length ≤ cap * s) :
    Kps B e s n w (w.setRow g (cur.toList.take (n * s) ++ news ++ cur.toList.drop (n * s + news.length)).toArray) := by
  refine ⟨rfl, rfl, rfl, Nat.le_of_eq setRowS_size.symm, fun k _ hk => setRow_other w g k _ (by omega), fun v n0 xs hn0 ho => ?_⟩
  obtain ⟨e1, e2⟩ := ho
  refine ⟨e1, ?_⟩
  rcases e2 with e2 | ⟨g', cap', cur', rfl, hg', hh, h1, h2, h3, h4⟩
  · exact .inl e2
  · by_cases he : g' = g
    · subst he
      rw [hg] at hh
      cases hh
      have hle : n0 * s ≤ n * s := Nat.mul_le_mul_right s hn0
      refine .inr ⟨g', cap', _, rfl, hg', setRow_heap w _ cur _ e _ hg, h1, h2, ?_, ?_⟩
      · simp [← h3]
        omega
      · rw [← h4, List.append_assoc, List.take_append_of_le_length (by rw [List.length_take, Array.length_toList]; omega), List.take_take, Nat.min_eq_left hle]
    · exact .inr ⟨g', cap', cur', rfl, hg', (setRow_other w g g' _ he).trans hh, h1, h2, h3, h4⟩
theorem append_kps (base : Nat) (t ty e : TypeId) (i : TypeInfo) (z : Value) (ht : P.underlying t = some (.slice e)) (hi : P.info? e = some i) (hz : i.zero = some z) (v : Value) (n : Nat) (xs : List Value) (hown : w.ownsRow base e i.size v n xs)
    (a : Addr) (m c : Nat) (news : List Value) (hl : news.length = m * i.size) (hnews : ∀ j u, news[j]? = some u → w.cell? (a.add j) = some u) (h1 : ∀ u ∈ news, u.oneCell' = true)
    (h63 : n + m ≤ maxLen) (hbytes : (n + m) * i.bytes ≤ 140737488355328)
    {v' : Value} {w' : World} (hr : (Builtin.append_ #[t, t] ty #[v, .slice (some a) m c]).run P w = .ok v' w') : Kps base e i.size n w w' := by
  have hsmall : n + m ≤ 9223372036854775807 := by simp only [maxLen] at h63; omega
  have hdr : ∀ o, Ext w (w.drew.alloc o) := fun o => (Ext.drew w).trans (Ext.alloc _ _)
  rcases hown.2 with ⟨rfl, rfl⟩ | ⟨g, cap, cur, rfl, hbg, hg, hnc, hcm, hcs, htake⟩
  · have hx : xs = [] := List.eq_nil_of_length_eq_zero (by simpa using hown.1)
    subst hx
    by_cases hm : m = 0
    · subst hm
      have hn : news = [] := List.eq_nil_of_length_eq_zero (by simpa using hl)
      subst hn
      have hr2 : (Builtin.append_ #[t, t] ty #[.slice none 0 0, .slice (some a) 0 c]).run P w = .ok (.slice none 0 0) w := by
        simp [Builtin.append_, run_underlying ht, sizeOf, typeInfo, hi, Builtin.lenOf, Builtin.firstCells, loadCells, loadCellsFrom]
      rw [hr2] at hr
      cases hr
      exact Kps.ext (Ext.refl _)
    · have hr2 := run_append_nil (P := P) w t ty e i z ht hi hz a m c news hl hnews (by omega) (by omega) (by have hb := hbytes; simp only [Nat.zero_add] at hb; omega)
      rw [hr2] at hr
      cases hr
      exact Kps.ext (hdr _)
  · by_cases hroom : n + m ≤ cap
    · have hfit : n * i.size + news.length ≤ cur.size := by rw [hl, hcs, ← Nat.add_mul]; exact Nat.mul_le_mul_right _ hroom
      have hr2 := run_append_room (P := P) w t ty e i ht hi g n cap cur hg a m c news hl hnews h1 hroom hfit
      rw [hr2] at hr
      cases hr
      exact kps_setRow hg hbg hcs (by rw [← hcs]; exact hfit)
    · have holds : ∀ j u, xs[j]? = some u → w.cell? ((⟨g, 0, none⟩ : Addr).add j) = some u := hown.cells (g := g) rfl
      have hr2 := run_append_grow (P := P) w t ty e i z ht hi hz ⟨g, 0, none⟩ n cap xs hown.1 holds a m c news hl hnews (by omega) (by omega) (growslice_fits (by omega) hbytes)
      rw [hr2] at hr
      cases hr
      exact Kps.ext (hdr _)
theorem wpList_append_kps {ops : Array Oper} {rest : List Oper} {o : Oper} {a : Act} {Q : Exit → Act → World → Prop} (hgd : o.guard = none) (s x : Operand) (t : TypeId)
    (ho : o.op = .call { callee := .builtin .append, args := #[s, x], argTypes := #[t, t] })
    (base : Nat) (e : TypeId) (z : Value) (size bytes : Nat) (ht : P.underlying t = some (.slice e)) (hi : (P.info? e).map (fun i => (i.zero, i.size, i.bytes)) = some (some z, size, bytes)) (hzs : z.cells.size = size) (hsz : 0 < size)
    (v : Value) (n : Nat) (xs : List Value) (hs : a.eval s = v) (hown : w.ownsRow base e size v n xs)
    (ad : Addr) (m c : Nat) (news : List Value) (hx : a.eval x = .slice (some ad) m c) (hl : news.length = m * size) (hnews : ∀ j u, news[j]? = some u → w.cell? (ad.add j) = some u) (h1 : ∀ u ∈ news, u.oneCell' = true)
    (h63 : n + m ≤ maxLen) (hbytes : (n + m) * bytes ≤ 140737488355328) (hbase : base ≤ w.heap.size)
    (h : ∀ v' w', w'.ownsRow base e size v' (n + m) (xs ++ news) → Kps base e size n w w' → wpList P ops Q rest (a.put o.dst v') w') :
    wpList P ops Q (o :: rest) a w := by
  obtain ⟨i, hi2, hz, hsz1, hby1⟩ := info_parts hi
  subst hsz1; subst hby1
  obtain ⟨v', w', hr, h2, _⟩ := run_append_own_at (P := P) w base t o.type e i z i.size i.bytes ht hi2 hz rfl rfl hzs hsz v n xs hown ad m c news hl hnews h1 h63 hbytes hbase
  have h3 := append_kps base t o.type e i z ht hi2 hz v n xs hown ad m c news hl hnews h1 h63 hbytes hr
  refine wpList_plain hgd fun K hK => ?_
  unfold Oper.wp execOp
  simp only [ho, resolve, invoke, builtin, Sem.run_bind, Sem.run_pure, Result.andThen_ok, List.map_toArray, List.map_cons, List.map_nil, hs, hx, hr]
  exact hK _ _ (h v' w' h2 h3)
end
end Go.Proofs.Ytjodgbabfhcilaa

/- Messages all of whose blocks satisfy R. -/
namespace Go.Proofs.Ytjodgbabfhcilaa
open Go Go.RowKit Go.Maps

/-- v reads as cs, and its block satisfies R. -/
def RdR (R : Nat → Prop) (w : World) (v : Value) (cs : List Value) : Prop := Rd w v cs ∧ ∀ a n c, v = .slice (some a) n c → cs ≠ [] → R a.block
theorem RdR.chg {R : Nat → Prop} {w w' : World} {v : Value} {cs : List Value} {S : List Nat} (h : RdR R w v cs) (hg : Chg S w w') (hS : ∀ t ∈ S, ¬ R t) : RdR R w' v cs :=
  ⟨h.1.chg hg (fun a n c e hne hm => hS _ hm (h.2 a n c e hne)), h.2⟩
theorem RdR.mono {R R' : Nat → Prop} {w : World} {v : Value} {cs : List Value} (h : RdR R w v cs) (hR : ∀ k, k < w.heap.size → R k → R' k) : RdR R' w v cs :=
  ⟨h.1, fun a n c e hne => hR _ (h.1.ltB e hne) (h.2 a n c e hne)⟩
def EntsR (R : Nat → Prop) (w : World) (v : Value) (xs : List Ent) : Prop :=
  ∃ l : List EVs, l.map (·.1) = xs ∧ (∀ q ∈ l, RdR R w q.2.1 (u8s q.1.data) ∧ RdR R w q.2.2 (u64s q.1.members)) ∧ RowV w 6 v (l.map eC) ∧ ∀ a n c, v = .slice (some a) n c → xs ≠ [] → R a.block
/-- v is the message M, all of its lists' blocks satisfy R. -/
def MsgR (R : Nat → Prop) (w : World) (v : Value) (M : Msg) : Prop :=
  ∃ ev mv iv, v = .agg (mCells M ev mv iv) ∧ EntsR R w ev M.entries ∧ RdR R w mv (u64s M.members) ∧ RdR R w iv (u8s M.image)
section
variable {R R' : Nat → Prop} {w w' : World} {v : Value} {S : List Nat}
theorem EntsR.chg {xs : List Ent} (h : EntsR R w v xs) (hg : Chg S w w') (hS : ∀ t ∈ S, ¬ R t) : EntsR R w' v xs := by
  obtain ⟨l, h1, h2, h3, h4⟩ := h
  refine ⟨l, h1, fun q hq => ⟨(h2 q hq).1.chg hg hS, (h2 q hq).2.chg hg hS⟩, h3.chg hg (fun a n c e hne hm => ?_), h4⟩
  refine hS _ hm (h4 a n c e fun e2 => hne ?_)
  rw [← h1] at e2
  rw [List.map_eq_nil_iff.1 e2]; rfl
theorem MsgR.chg {M : Msg} (h : MsgR R w v M) (hg : Chg S w w') (hS : ∀ t ∈ S, ¬ R t) : MsgR R w' v M := by
  obtain ⟨ev, mv, iv, e, h1, h2, h3⟩ := h
  exact ⟨ev, mv, iv, e, h1.chg hg hS, h2.chg hg hS, h3.chg hg hS⟩
theorem MsgR.ext {M : Msg} (h : MsgR R w v M) (hE : Ext w w') : MsgR R w' v M := h.chg (Chg.ext hE : Chg [] w w') (by simp)
theorem RowV.lt {s : Nat} {rows : List (List Value)} {a : Addr} {n c : Nat} (h : RowV w s v rows) (e : v = .slice (some a) n c) (hne : rows ≠ []) (hr : ∀ r ∈ rows, r ≠ []) : a.block < w.heap.size := by
  obtain ⟨a', c', hv, _, _, h3⟩ := h
  rcases h3 with h3 | ⟨b, o, rfl, hc⟩
  · exact absurd h3 hne
  · rw [e] at hv
    cases hv
    cases rows with
    | nil => exact absurd rfl hne
    | cons r t =>
      cases hr2 : r with
      | nil => exact absurd hr2 (hr r (by simp))
      | cons u x => exact World.block_lt_of_cell? w ⟨b, o + 0 * s + 0, none⟩ (hc 0 r rfl 0 u (by rw [hr2]; rfl))
theorem EntsR.mono {xs : List Ent} (h : EntsR R w v xs) (hR : ∀ k, k < w.heap.size → R k → R' k) : EntsR R' w v xs := by
  obtain ⟨l, h1, h2, h3, h4⟩ := h
  refine ⟨l, h1, fun q hq => ⟨(h2 q hq).1.mono hR, (h2 q hq).2.mono hR⟩, h3, fun a n c e hne => hR _ (h3.lt e ?_ ?_) (h4 a n c e hne)⟩
  · intro e2
    rw [← h1, List.map_eq_nil_iff.1 e2] at hne
    exact hne rfl
  · intro r hr
    obtain ⟨q, _, rfl⟩ := List.mem_map.1 hr
    simp [eC, eCells]
theorem MsgR.mono {M : Msg} (h : MsgR R w v M) (hR : ∀ k, k < w.heap.size → R k → R' k) : MsgR R' w v M := by
  obtain ⟨ev, mv, iv, e, h1, h2, h3⟩ := h
  exact ⟨ev, mv, iv, e, h1.mono hR, h2.mono hR, h3.mono hR⟩
theorem EntsR.toV {xs : List Ent} (h : EntsR R w v xs) : EntsV w 0 v xs := by
  obtain ⟨l, rfl, h2, ⟨a, c, hv, hc1, hc2, h3⟩, _⟩ := h
  rw [List.length_map] at hv hc1
  refine ⟨fun _ _ _ _ => Nat.zero_le _, l.flatMap eC, none, a, c, by rw [List.length_map]; exact hv, by rw [List.length_map]; exact hc1, hc2, ecs_mk l (fun q hq => ⟨(h2 q hq).1.1, (h2 q hq).2.1⟩), ?_⟩
  rcases h3 with h3 | ⟨b, f, ha, hc⟩
  · left; rw [List.map_eq_nil_iff.1 h3]; rfl
  · refine .inr ⟨b, f, ha, fun j u hj => ?_⟩
    obtain ⟨i, q, k, h1, h4, rfl⟩ := flat6 _ _ _ hj
    have := hc i (eC q) (by rw [List.getElem?_map, h1]; rfl) k u h4
    rwa [Nat.add_assoc] at this
theorem MsgR.toV {M : Msg} (h : MsgR R w v M) : MsgV w 0 v M := by
  obtain ⟨ev, mv, iv, e, h1, h2, h3⟩ := h
  exact ⟨ev, mv, iv, e, h1.toV, ⟨h2.1, fun _ _ _ _ => Nat.zero_le _⟩, h3.1, fun _ _ _ _ => Nat.zero_le _⟩
theorem ECs.listB {B : Nat} {o : Option Nat} : ∀ {xs : List Ent} {cs : List Value}, ECs w B o xs cs → ∃ l : List EVs, l.map (·.1) = xs ∧ cs = l.flatMap eC ∧ ∀ q ∈ l, (Rd w q.2.1 (u8s q.1.data) ∧ From B q.2.1) ∧ (Rd w q.2.2 (u64s q.1.members) ∧ From B q.2.2)
  | [], cs, h => ⟨[], rfl, h, fun _ hq => by cases hq⟩
  | x :: xs, cs, ⟨dv, mv, rest, e, h1, h2, h3⟩ => by
    obtain ⟨l, k1, k2, k3⟩ := h3.listB
    refine ⟨(x, dv, mv) :: l, by simp [k1], by rw [e, k2]; rfl, fun q hq => ?_⟩
    rcases List.mem_cons.1 hq with rfl | hq
    · exact ⟨⟨h1.1, h1.2.1⟩, h2.1, h2.2.1⟩
    · exact k3 q hq
theorem EntsV.toR {B : Nat} {xs : List Ent} (h : EntsV w B v xs) : EntsR (fun k => B ≤ k) w v xs := by
  obtain ⟨hf, cs, o, a, c, hv, h1, h2, h3, h4⟩ := h
  obtain ⟨l, k1, rfl, k3⟩ := h3.listB
  have hl : l.length = xs.length := by rw [← k1]; simp
  refine ⟨l, k1, fun q hq => ⟨⟨(k3 q hq).1.1, fun a n c e _ => (k3 q hq).1.2 a n c e⟩, (k3 q hq).2.1, fun a n c e _ => (k3 q hq).2.2 a n c e⟩, ⟨a, c, by rw [List.length_map, hl]; exact hv, by rw [List.length_map, hl]; exact h1, h2, ?_⟩, fun a n c e _ => hf a n c e⟩
  rcases h4 with h4 | ⟨b, f, ha, hc⟩
  · left
    rw [h4] at k1
    rw [List.map_eq_nil_iff.1 k1]; rfl
  · refine .inr ⟨b, f, ha, fun i r hr j u hj => ?_⟩
    rw [List.getElem?_map] at hr
    cases hq : l[i]? with
    | none => rw [hq] at hr; cases hr
    | some q =>
      rw [hq] at hr
      cases hr
      rw [Nat.add_assoc]
      exact hc _ u (flat_at l i q j u hq hj)
theorem MsgV.toR {B : Nat} {M : Msg} (h : MsgV w B v M) : MsgR (fun k => B ≤ k) w v M := by
  obtain ⟨ev, mv, iv, e, h1, h2, h3⟩ := h
  exact ⟨ev, mv, iv, e, h1.toR, ⟨h2.1, fun a n c e _ => h2.2 a n c e⟩, h3.1, fun a n c e _ => h3.2 a n c e⟩
end
end Go.Proofs.Ytjodgbabfhcilaa

/- tabellionref19: the document's net in memory; At (printed by wip/gen/nref.py). -/
namespace Go.Proofs.Ytjodgbabfhcilaa
open Go Go.RowKit Go.Maps

/-- r is the document's net: its ways are ws, its messages S; none of its blocks is in A. -/
structure RefN (w : World) (r : Nat) (ls wv : Value) (S : List MQ) (ws : List (Int × Int)) (A : List Nat) : Prop where
  rw : RefW w r ls wv ws A
  list : RowV w 12 ls (S.map mC)
  la : ∀ a n c, ls = .slice (some a) n c → a.block ∉ A ∧ a.block ≠ r ∧ a.block < w.heap.size
  ms : ∀ q ∈ S, MsgR (fun k => k ∉ r :: A) w (mV q) q.1 ∧ MsgOk q.1
theorem RefN.chg {w w' : World} {r : Nat} {ls wv : Value} {S : List MQ} {ws : List (Int × Int)} {A T : List Nat} (h : RefN w r ls wv S ws A) (hg : Chg T w w') (hT : ∀ t ∈ T, t ∈ A) : RefN w' r ls wv S ws A :=
  ⟨h.rw.chg hg hT, h.list.chg hg (fun a n c e _ hm => (h.la a n c e).1 (hT _ hm)), fun a n c e => ⟨(h.la a n c e).1, (h.la a n c e).2.1, Nat.lt_of_lt_of_le (h.la a n c e).2.2 hg.size⟩,
    fun q hq => ⟨(h.ms q hq).1.chg hg (fun t ht hr => hr (List.mem_cons_of_mem _ (hT t ht))), (h.ms q hq).2⟩⟩
theorem RefN.ext {w w' : World} {r : Nat} {ls wv : Value} {S : List MQ} {ws : List (Int × Int)} {A : List Nat} (h : RefN w r ls wv S ws A) (hE : Ext w w') : RefN w' r ls wv S ws A := h.chg (Chg.ext hE : Chg [] w w') (by simp)
theorem RefN.more {w : World} {r : Nat} {ls wv : Value} {S : List MQ} {ws : List (Int × Int)} {A A' : List Nat} (h : RefN w r ls wv S ws A) (hA : ∀ t ∈ A', t ∈ A ∨ w.heap.size ≤ t) : RefN w r ls wv S ws A' :=
  ⟨h.rw.more hA, h.list, fun a n c e => ⟨fun hm => (hA _ hm).elim (h.la a n c e).1 (fun e2 => by have := (h.la a n c e).2.2; omega), (h.la a n c e).2⟩,
    fun q hq => ⟨(h.ms q hq).1.mono (fun k hk hr hm => by
      rcases List.mem_cons.1 hm with e | e
      · exact hr (by simp [e])
      · rcases hA k e with h1 | h1
        · exact hr (List.mem_cons_of_mem _ h1)
        · omega), (h.ms q hq).2⟩⟩
/-- What the document's At answers. -/
def AtR (S : List MQ) (i : Int) (w : World) (e : Ending) (w' : World) : Prop := Ext w w' ∧ ∃ v c, e = .returned (.tuple #[v, .int .i64 c]) ∧ ((¬ (0 ≤ i ∧ i < (S.length : Int)) ∧ v = .agg (zc 0) ∧ c = 9) ∨ (0 ≤ i ∧ c = 0 ∧ ∃ q, S[i.toNat]? = some q ∧ v = mV q))
set_option maxHeartbeats 1000000 in
theorem rat_fin (p : Nat) (c : Int) (c0 c1 c2 c3 c4 c5 c6 c7 c8 c9 c10 c11 : Value) (F : World) (tmps : Array Value) (R : Ending → World → Prop) (hB : Blk F p #[c0, c1, c2, c3, c4, c5, c6, c7, c8, c9, c10, c11] 34)
    (h4 : tmps[4]? = some (ptr p)) (h5 : tmps[5]? = some (.int .i64 c)) (hR : R (.returned (.tuple #[.agg #[c0, c1, c2, c3, c4, c5, c6, c7, c8, c9, c10, c11], .int .i64 c])) F) :
    bodyPost Try.prog Try.f18 R .ret { tmps := tmps, defers := [] } F := by
  obtain ⟨x0, x1, x2, x3, x4, x5, x6, x7, x8, x9, x10, x11⟩ := hB.twelve
  refine bodyPost_ret (v := .tuple #[.agg #[c0, c1, c2, c3, c4, c5, c6, c7, c8, c9, c10, c11], .int .i64 c]) ?_ rfl hR
  simp [results, Try.results18, go_sem, h4, h5, x0, x1, x2, x3, x4, x5, x6, x7, x8, x9, x10, x11]
set_option maxRecDepth 100000 in
set_option maxHeartbeats 4000000 in
theorem rat_c {w : World} {r : Nat} {ls wv : Value} {S : List MQ} {ws : List (Int × Int)} {A : List Nat} (h : RefN w r ls wv S ws A) (hl : S.length ≤ 1000) (i : Int) (hi : -9223372036854775808 ≤ i ∧ i ≤ 9223372036854775807) :
    Calls Try.prog 18 #[ptr r, .int .i64 i] w (AtR S i w) := by
  obtain ⟨w1, hw1⟩ : ∃ w1, w1 = w.alloc (.cells (zc 0) 34) := ⟨_, rfl⟩
  have HE1 := Lib.hid (show Ext w w1 from by rw [hw1]; exact Ext.alloc _ _)
  have HB1 := Lib.hid (show Blk w1 w.heap.size (zc 0) 34 from by rw [hw1]; exact Blk.new _ _ _)
  have HW := Lib.hid hw1
  have HN := Lib.hid (h.ext HE1.out)
  clear hw1 h
  obtain ⟨hi0, hi1⟩ := hi
  obtain ⟨L, hL⟩ : ∃ L, L = S.length := ⟨_, rfl⟩
  obtain ⟨sa, sc, rfl, hsc1, hsc2, hrows⟩ := HN.out.list
  rw [List.length_map, ← hL] at hsc1
  rw [← hL] at hl
  replace hsc2 : sc ≤ 9223372036854775807 := by unfold maxLen at hsc2; omega
  have c0 := HN.out.rw.rb.cell 0 rfl
  simp only [List.getElem_toArray, List.getElem_cons_zero, List.length_map] at c0
  rw [← hL] at c0
  have HL := Lib.hid hL; have HROWS := Lib.hid hrows
  clear hL hrows
  by_cases h0 : i < 0
  · go_enter Try.func18, Try.ntmps18
    go_upto_region 1 with fail
    rw [← HW.out]
    go_wp2_with (refine wpList_store_row rfl 34 (.tmp 4) (.tmp 17) rfl w.heap.size (zc 0) rfl rfl 34 _ HB1.out zc_size rfl zc_one ?_)
    exact rat_fin w.heap.size 9 _ _ _ _ _ _ _ _ _ _ _ _ _ _ _ (HB1.out.row _) rfl rfl ⟨setRow_ext HE1.out (Nat.le_refl _) _, _, 9, rfl, .inl ⟨by omega, rfl, rfl⟩⟩
  obtain ⟨n, rfl⟩ := Int.eq_ofNat_of_zero_le (show 0 ≤ i by omega)
  have h1 : (0 : Int) ≤ (n : Int) := by omega
  clear h0
  by_cases h2 : L ≤ n
  · have h3 : (L : Int) ≤ (n : Int) := by omega
    go_enter Try.func18, Try.ntmps18
    go_upto_region 1 with fail
    rw [← HW.out]
    go_wp2_with (refine wpList_store_row rfl 34 (.tmp 4) (.tmp 17) rfl w.heap.size (zc 0) rfl rfl 34 _ HB1.out zc_size rfl zc_one ?_)
    exact rat_fin w.heap.size 9 _ _ _ _ _ _ _ _ _ _ _ _ _ _ _ (HB1.out.row _) rfl rfl ⟨setRow_ext HE1.out (Nat.le_refl _) _, _, 9, rfl, .inl ⟨by have := HL.out; omega, rfl, rfl⟩⟩
  · have h3 : n < L := by omega
    have h4 : (n : Int) < (L : Int) := by omega
    clear h2
    obtain ⟨q, hq⟩ : ∃ q, S[n]? = some q := ⟨_, List.getElem?_eq_getElem (by have := HL.out; omega)⟩
    have hqm := HN.out.ms q (List.mem_of_getElem? hq)
    have HSQ := Lib.hid hq
    obtain ⟨M, ev, mv, iv⟩ := q
    obtain ⟨a9, m9, c9, a10, m10, c10, a11, m11, c11, e⟩ := hqm.1.toV.shape
    simp only [mV, mCells, Value.agg.injEq, Array.mk.injEq, List.cons.injEq, and_true, true_and] at e
    obtain ⟨rfl, rfl, rfl⟩ := e
    obtain ⟨sb, so, rfl, hcr⟩ : ∃ sb so, sa = some ⟨sb, so, none⟩ ∧ ∀ (j : Nat) u, (mC (M, .slice a9 m9 c9, .slice a10 m10 c10, .slice a11 m11 c11))[j]? = some u → w1.cell? ⟨sb, so + n * 12 + j, none⟩ = some u := by
      rcases HROWS.out with h3 | ⟨b, o, ha, hc⟩
      · have h5 : (S.map mC).length = 0 := by rw [h3]; rfl
        rw [List.length_map] at h5
        have := HL.out
        omega
      · exact ⟨b, o, ha, hc n _ (by rw [List.getElem?_map, hq]; rfl)⟩
    have k0 := hcr 0 _ rfl; have k1 := hcr 1 _ rfl; have k2 := hcr 2 _ rfl; have k3 := hcr 3 _ rfl; have k4 := hcr 4 _ rfl; have k5 := hcr 5 _ rfl; have k6 := hcr 6 _ rfl; have k7 := hcr 7 _ rfl; have k8 := hcr 8 _ rfl; have k9 := hcr 9 _ rfl; have k10 := hcr 10 _ rfl; have k11 := hcr 11 _ rfl; dsimp only at k0 k1 k2 k3 k4 k5 k6 k7 k8 k9 k10 k11; rw [Nat.add_zero] at k0
    clear hcr hq hqm
    go_enter Try.func18, Try.ntmps18
    go_upto_region 1 with fail
    rw [← HW.out]
    go_wp2_with (refine wpList_store_row rfl 34 (.tmp 4) (.tmp 24) rfl w.heap.size (mCells M (.slice a9 m9 c9) (.slice a10 m10 c10) (.slice a11 m11 c11)) rfl rfl 34 _ HB1.out (mCells_size _ _ _ _) rfl (mCells_one _ _ _ _ _ _ _ _ _ _) ?_)
    have hbk := HB1.out.row (mCells M (.slice a9 m9 c9) (.slice a10 m10 c10) (.slice a11 m11 c11))
    exact rat_fin w.heap.size 0 _ _ _ _ _ _ _ _ _ _ _ _ _ _ _ hbk rfl rfl ⟨setRow_ext HE1.out (Nat.le_refl _) _, _, 0, rfl, .inr ⟨by omega, rfl, _, by simpa using HSQ.out, rfl⟩⟩
end Go.Proofs.Ytjodgbabfhcilaa

/- What a caller may do to a message's lists: cells of their kind, in blocks that no string shares. -/
namespace Go.Proofs.Ytjodgbabfhcilaa
open Go Go.RowKit Go.Maps

/-- The row k is shared by no string. -/
def UnB (w : World) (k : Nat) : Prop := ∃ cs t, Blk w k cs t
theorem UnB.ext {w w' : World} {k : Nat} (h : UnB w k) (hE : Ext w w') : UnB w' k := by obtain ⟨cs, t, hB⟩ := h; exact ⟨cs, t, hB.ext hE⟩
theorem UnB.free {w : World} {k : Nat} (h : UnB w k) (j : Nat) : w.frozen? ⟨k, j, none⟩ = false := by obtain ⟨cs, t, hB⟩ := h; exact hB.free j
theorem UnB.set {w : World} {k : Nat} (h : UnB w k) (b j : Nat) (v : Value) : UnB (w.setCell ⟨b, j, none⟩ v) k := by
  obtain ⟨cs, t, hB⟩ := h
  by_cases hb : b = k
  · subst hb; exact ⟨_, _, hB.set j v⟩
  · exact ⟨_, _, hB.other ⟨b, j, none⟩ v hb⟩
/-- A cell's value and another of its kind. -/
def kin (u u' : Value) : Prop := u' = u ∨ (∃ x y, u = .int .u8 x ∧ u' = .int .u8 y) ∨ ∃ x y, u = .int .u64 x ∧ u' = .int .u64 y
theorem kin.trans {a b c : Value} (h : kin a b) (k : kin b c) : kin a c := by
  rcases h with rfl | ⟨x, y, rfl, rfl⟩ | ⟨x, y, rfl, rfl⟩
  · exact k
  · rcases k with rfl | ⟨x', y', e, rfl⟩ | ⟨x', y', e, rfl⟩
    · exact .inr (.inl ⟨_, _, rfl, rfl⟩)
    · exact .inr (.inl ⟨_, _, rfl, rfl⟩)
    · cases e
  · rcases k with rfl | ⟨x', y', e, rfl⟩ | ⟨x', y', e, rfl⟩
    · exact .inr (.inr ⟨_, _, rfl, rfl⟩)
    · cases e
    · exact .inr (.inr ⟨_, _, rfl, rfl⟩)
/-- Of w's cells those in blocks of S may have other values of their kind. -/
structure Loose (S : List Nat) (w w' : World) : Prop where
  chg : Chg S w w'
  cell : ∀ b j u, w.cell? ⟨b, j, none⟩ = some u → ∃ u', w'.cell? ⟨b, j, none⟩ = some u' ∧ kin u u'
  un : ∀ k, UnB w k → UnB w' k
section
variable {S : List Nat} {w w' : World}
theorem Loose.refl (S : List Nat) (w : World) : Loose S w w := ⟨Chg.refl S w, fun _ _ u h => ⟨u, h, .inl rfl⟩, fun _ h => h⟩
theorem Loose.set {b j : Nat} {u v : Value} (h : Loose S w w') (hb : b ∈ S) (hu : UnB w b) (hc : w'.cell? ⟨b, j, none⟩ = some u) (hk : kin u v) : Loose S w (w'.setCell ⟨b, j, none⟩ v) := by
  refine ⟨h.chg.setNew b j v (.inl hb), fun b' j' u' hc' => ?_, fun k hk' => (h.un k hk').set b j v⟩
  obtain ⟨u2, h1, h2⟩ := h.cell b' j' u' hc'
  obtain ⟨cs, t, hB⟩ := h.un b hu
  by_cases hbb : b = b'
  · subst hbb
    have hB2 := hB.set j v
    have hj : ∀ i y, w'.cell? ⟨b, i, none⟩ = some y → cs[i]? = some y := fun i y hy => by
      have hB' : w'.heap[b]? = some (.cells cs t (0, 0)) := hB
      simpa [World.cell?, hB'] using hy
    by_cases hjj : j = j'
    · subst hjj
      have hl := (Array.getElem?_eq_some_iff.1 (hj _ _ hc)).1
      rw [hc] at h1
      cases h1
      exact ⟨v, hB2.cell j (by rw [Array.getElem?_setIfInBounds_self_of_lt hl]), h2.trans hk⟩
    · exact ⟨u2, hB2.cell j' (by rw [Array.getElem?_setIfInBounds_ne hjj]; exact hj _ _ h1), h2⟩
  · refine ⟨u2, ?_, h2⟩
    rw [World.cell?_of_block (Below.heap_setCell _ _ _ _ (Ne.symm hbb))]; exact h1
theorem Loose.slice {b j : Nat} {a : Option Addr} {n c : Nat} (h : Loose S w w') (hc : w.cell? ⟨b, j, none⟩ = some (.slice a n c)) : w'.cell? ⟨b, j, none⟩ = some (.slice a n c) := by
  obtain ⟨u', h1, h2⟩ := h.cell b j _ hc
  rcases h2 with rfl | ⟨x, y, e, _⟩ | ⟨x, y, e, _⟩
  · exact h1
  · cases e
  · cases e
theorem Loose.u8 {b j : Nat} (h : Loose S w w') (hc : ∃ x, w.cell? ⟨b, j, none⟩ = some (.int .u8 x)) : ∃ x, w'.cell? ⟨b, j, none⟩ = some (.int .u8 x) := by
  obtain ⟨x, hc⟩ := hc
  obtain ⟨u', h1, h2⟩ := h.cell b j _ hc
  rcases h2 with rfl | ⟨x, y, e, rfl⟩ | ⟨x, y, e, _⟩
  · exact ⟨_, h1⟩
  · exact ⟨_, h1⟩
  · cases e
theorem Loose.u64 {b j : Nat} (h : Loose S w w') (hc : ∃ x, w.cell? ⟨b, j, none⟩ = some (.int .u64 x)) : ∃ x, w'.cell? ⟨b, j, none⟩ = some (.int .u64 x) := by
  obtain ⟨x, hc⟩ := hc
  obtain ⟨u', h1, h2⟩ := h.cell b j _ hc
  rcases h2 with rfl | ⟨x, y, e, _⟩ | ⟨x, y, e, rfl⟩
  · exact ⟨_, h1⟩
  · cases e
  · exact ⟨_, h1⟩
end
/-- A list of n cells of a kind, in a block of S. -/
def SpL (S : List Nat) (w : World) (kd : IntKind) (a : Option Addr) (n : Nat) : Prop := n = 0 ∨ ∃ b o, a = some ⟨b, o, none⟩ ∧ b ∈ S ∧ UnB w b ∧ ∀ j, j < n → ∃ x, w.cell? ⟨b, o + j, none⟩ = some (.int kd x)
/-- A list of n entries, in a block of S. -/
def SpE (S : List Nat) (w : World) (a : Option Addr) (n : Nat) : Prop := n = 0 ∨ ∃ b o, a = some ⟨b, o, none⟩ ∧ b ∈ S ∧ UnB w b ∧ ∀ i, i < n → (∃ x, w.cell? ⟨b, o + i * 6, none⟩ = some (.int .u64 x)) ∧
  (∃ da dn dc, w.cell? ⟨b, o + i * 6 + 4, none⟩ = some (.slice da dn dc) ∧ dc ≤ maxLen ∧ dn ≤ dc ∧ SpL S w .u8 da dn) ∧ ∃ da dn dc, w.cell? ⟨b, o + i * 6 + 5, none⟩ = some (.slice da dn dc) ∧ dc ≤ maxLen ∧ dn ≤ dc ∧ SpL S w .u64 da dn
theorem RdR.spl {S : List Nat} {w : World} {v : Value} {cs : List Value} {kd : IntKind} (h : RdR (· ∈ S) w v cs) (hu : UnA w v) (hk : ∀ u ∈ cs, ∃ x, u = .int kd x) : ∃ a n c, v = .slice a n c ∧ c ≤ maxLen ∧ n ≤ c ∧ SpL S w kd a n := by
  obtain ⟨⟨a, c, hv, h1, h2, h3⟩, h4⟩ := h
  refine ⟨a, cs.length, c, hv, h2, h1, ?_⟩
  rcases h3 with h3 | ⟨b, o, rfl, hc⟩
  · left; rw [h3]; rfl
  · by_cases hn : cs = []
    · left; rw [hn]; rfl
    · have hl : cs.length ≠ 0 := fun e => hn (List.eq_nil_of_length_eq_zero e)
      refine .inr ⟨b, o, rfl, h4 _ _ _ hv hn, hu _ _ _ hv hl, fun j hj => ?_⟩
      obtain ⟨x, hx⟩ := hk _ (List.getElem_mem hj)
      exact ⟨x, by rw [hc j _ (List.getElem?_eq_getElem hj), hx]⟩
theorem MsgR.sp {S : List Nat} {w : World} {v : Value} {M : Msg} (h : MsgR (· ∈ S) w v M) (hu : MsgU w v) : ∃ ea N ec ma n c ia m d, v = .agg (mCells M (.slice ea N ec) (.slice ma n c) (.slice ia m d)) ∧
    (ec ≤ maxLen ∧ N ≤ ec ∧ SpE S w ea N) ∧ (c ≤ maxLen ∧ n ≤ c ∧ SpL S w .u64 ma n) ∧ (d ≤ maxLen ∧ m ≤ d ∧ SpL S w .u8 ia m) := by
  obtain ⟨ev, mv, iv, rfl, ⟨l, hl, hq, ⟨a, c, hv, hc1, hc2, hrow⟩, hR⟩, hm, hi⟩ := h
  obtain ⟨m', ev', mv', iv', e, u1, u2, u3⟩ := hu
  have e3 : ev = ev' ∧ mv = mv' ∧ iv = iv' := by simp [mCells] at e; exact ⟨e.2.2.2.2.2.2.2.2.2.1, e.2.2.2.2.2.2.2.2.2.2.1, e.2.2.2.2.2.2.2.2.2.2.2⟩
  obtain ⟨rfl, rfl, rfl⟩ := e3
  obtain ⟨ma, n, mc, rfl, k1, k2, k3⟩ := hm.spl u2 (kd := .u64) (by intro u hu; obtain ⟨x, _, rfl⟩ := List.mem_map.1 hu; exact ⟨x, rfl⟩)
  obtain ⟨ia, m, ic, rfl, j1, j2, j3⟩ := hi.spl u3 (kd := .u8) (by intro u hu; obtain ⟨x, _, rfl⟩ := List.mem_map.1 hu; exact ⟨x, rfl⟩)
  rw [List.length_map] at hv hc1
  subst hv
  refine ⟨a, l.length, c, ma, n, mc, ia, m, ic, rfl, ⟨hc2, hc1, ?_⟩, ⟨k1, k2, k3⟩, j1, j2, j3⟩
  by_cases h0 : l.length = 0
  · exact .inl h0
  rcases hrow with hn | ⟨b, o, rfl, hc⟩
  · left; rw [List.map_eq_nil_iff.1 hn]; rfl
  · have hne : M.entries ≠ [] := by intro e2; rw [e2] at hl; rw [List.map_eq_nil_iff.1 hl] at h0; exact h0 rfl
    refine .inr ⟨b, o, rfl, hR _ _ _ rfl hne, u1.1 _ _ _ rfl h0, fun i hi => ?_⟩
    obtain ⟨q, hqi⟩ : ∃ q, l[i]? = some q := ⟨_, List.getElem?_eq_getElem hi⟩
    have hcc := hc i (eC q) (by rw [List.getElem?_map, hqi]; rfl)
    have q0 := hcc 0 _ rfl; have q4 := hcc 4 _ rfl; have q5 := hcc 5 _ rfl
    have w4 := u1.2 b o _ _ rfl (i * 6 + 4) (by omega) _ (by rw [← Nat.add_assoc]; exact q4)
    have w5 := u1.2 b o _ _ rfl (i * 6 + 5) (by omega) _ (by rw [← Nat.add_assoc]; exact q5)
    obtain ⟨r1, r2⟩ := hq q (List.mem_of_getElem? hqi)
    obtain ⟨da, dn, dc, e1, s1, s2, s3⟩ := r1.spl w4 (kd := .u8) (by intro u hu; obtain ⟨x, _, rfl⟩ := List.mem_map.1 hu; exact ⟨x, rfl⟩)
    obtain ⟨ma', mn, mc', e2, t1, t2, t3⟩ := r2.spl w5 (kd := .u64) (by intro u hu; obtain ⟨x, _, rfl⟩ := List.mem_map.1 hu; exact ⟨x, rfl⟩)
    exact ⟨⟨_, q0⟩, ⟨da, dn, dc, by rw [← e1]; exact q4, s1, s2, s3⟩, ma', mn, mc', by rw [← e2]; exact q5, t1, t2, t3⟩
theorem Loose.ext {S : List Nat} {w w' : World} (hE : Ext w w') : Loose S w w' := ⟨Chg.ext hE, fun _ _ u h => ⟨u, hE.cell h, .inl rfl⟩, fun _ h => h.ext hE⟩
theorem Loose.spL {S : List Nat} {w w' : World} {a : Option Addr} {n : Nat} (h : Loose S w w') : (SpL S w .u8 a n → SpL S w' .u8 a n) ∧ (SpL S w .u64 a n → SpL S w' .u64 a n) := by
  refine ⟨fun k => k.imp id fun ⟨b, o, e, h1, h2, h3⟩ => ⟨b, o, e, h1, h.un b h2, fun j hj => h.u8 (h3 j hj)⟩, fun k => k.imp id fun ⟨b, o, e, h1, h2, h3⟩ => ⟨b, o, e, h1, h.un b h2, fun j hj => h.u64 (h3 j hj)⟩⟩
theorem Loose.spE {S : List Nat} {w w' : World} {a : Option Addr} {n : Nat} (h : Loose S w w') (k : SpE S w a n) : SpE S w' a n :=
  k.imp id fun ⟨b, o, e, h1, h2, h3⟩ => ⟨b, o, e, h1, h.un b h2, fun i hi => by
    obtain ⟨k0, ⟨da, dn, dc, k4, k5, k6, k7⟩, ea, en, ec, j4, j5, j6, j7⟩ := h3 i hi
    exact ⟨h.u64 k0, ⟨da, dn, dc, h.slice k4, k5, k6, h.spL.1 k7⟩, ea, en, ec, h.slice j4, j5, j6, h.spL.2 j7⟩⟩
theorem Loose.trans {S : List Nat} {w w' w'' : World} (h : Loose S w w') (k : Loose S w' w'') : Loose S w w'' :=
  ⟨h.chg.trans k.chg, fun b j u hc => by
    obtain ⟨u1, h1, h2⟩ := h.cell b j u hc
    obtain ⟨u2, h3, h4⟩ := k.cell b j u1 h1
    exact ⟨u2, h3, h2.trans h4⟩, fun b hb => k.un b (h.un b hb)⟩
end Go.Proofs.Ytjodgbabfhcilaa
