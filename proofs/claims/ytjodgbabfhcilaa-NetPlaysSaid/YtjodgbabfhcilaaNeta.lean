/- tabellionlaw19: lists of messages in memory; the law NetKeeps (printed by wip/gen/nkeeps.py). -/
import Derived.Test.YtjodgbabfhcilaaNet9
set_option linter.unusedSimpArgs false
set_option linter.unusedVariables false
namespace Go.Proofs.Ytjodgbabfhcilaa
open Go Go.RowKit Go.Maps

/-- A message with its three lists' values. -/
abbrev MQ := Msg × Value × Value × Value
def mC (q : MQ) : List Value := [.int .i64 q.1.kind, .int .u64 q.1.src, .int .u64 q.1.dst, .int .u64 q.1.term, .int .u64 q.1.index, .int .u64 q.1.logTerm, .int .u64 q.1.commit, .int .u64 q.1.stamp, .bool q.1.yes, q.2.1, q.2.2.1, q.2.2.2]
abbrev mV (q : MQ) : Value := .agg (mCells q.1 q.2.1 q.2.2.1 q.2.2.2)
structure MQok (w : World) (q : MQ) : Prop where
  v : MsgV w 0 (mV q) q.1
  ok : MsgOk q.1
theorem MQok.ext {w w' : World} {q : MQ} (h : MQok w q) (hE : Ext w w') : MQok w' q := ⟨h.v.ext hE, h.ok⟩
theorem mC_len (q : MQ) : (mC q).length = 12 := rfl
theorem infoMsg : (Try.prog.info? 34).map (fun i => (i.zero, i.size, i.bytes)) = some (some (.agg (zc 0)), 12, 144) := by kernel_rfl
/-- The items' bytes lie off the blocks T. -/
def OffI (l : List Item) (T : List Nat) : Prop := ∀ q ∈ l, ∀ bs, wrM q.2 = some bs → OffL q.1 (u8s bs) T
section
variable {P : Program} {w : World} {ops : Array Oper} {rest : List Oper} {o : Oper} {a : Act} {Q : Exit → Act → World → Prop} {e : TypeId} {z : Value}
/-- 'append(s, x)', x of several cells just laid, and where the new slice lies. -/
theorem wpList_push_rowAt (hgd : o.guard = none) (s x : Operand) (t' : TypeId) (ho : o.op = .call { callee := .builtin .append, args := #[s, x], argTypes := #[t', t'] })
    (size bytes : Nat) (ht : P.underlying t' = some (.slice e)) (hi : (P.info? e).map (fun i => (i.zero, i.size, i.bytes)) = some (some z, size, bytes)) (hzs : z.cells.size = size) (hsz : 0 < size)
    (base : Nat) (v : Value) (n : Nat) (xs us : List Value) (hs : a.eval s = v) (hown : w.ownsRow base e size v n xs) (hl : us.length = size) (hx : a.eval x = .slice (some ⟨w.heap.size, 0, none⟩) 1 1) (h1 : ∀ u ∈ us, u.oneCell' = true)
    (hb1 : (n + 1) * bytes ≤ 140737488355328) (hb2 : n + 1 ≤ maxLen) (hbase : base ≤ w.heap.size) {W : World} (hW : W = w.alloc (.cells us.toArray e))
    (h : ∀ v' w', w'.ownsRow base e size v' (n + 1) (xs ++ us) → w.grownBy w' v.ownBlock → (v'.ownBlock = v.ownBlock ∨ v'.ownBlock = some (w.heap.size + 1)) → wpList P ops Q rest (a.put o.dst v') w') : wpList P ops Q (o :: rest) a W := by
  subst hW
  obtain ⟨i, hi, hz, hsz', hby⟩ := info_parts hi
  have hB := Blk.new w us.toArray e
  refine wpList_append_own_at (w.alloc (.cells us.toArray e)) hgd s x t' ho base e i z size bytes ht hi hz hsz' hby hzs hsz v n xs hs (hown.alloc _) _ 1 1 us hx (by omega) (fun j u hj => by rw [Addr.add_lit, Nat.zero_add]; exact hB.cell j (by simpa using hj)) h1 (by omega) hb1 (by simp; omega) fun v' w' g1 g2 _ g4 => h v' w' g1 ?_ (by simpa using g4)
  have ga := World.grownBy_alloc w (.cells us.toArray e) v.ownBlock
  refine ⟨g2.os.trans ga.os, g2.tape.trans ga.tape, g2.output.trans ga.output, Nat.le_trans ga.size g2.size, fun k hk hne => (g2.block k (by have := ga.size; omega) hne).trans (ga.block k hk hne)⟩
end
/-- What was sent: its messages and the net's. -/
structure SentS (w w1 wr : World) (p m : Nat) (lv : Value) (l : List Item) (sv : Value) (S : List MQ) : Prop where
  net : NetS w1 wr p m lv l 0 []
  same : l.map (·.2) = S.map (·.1)
  ok : ∀ q ∈ S, MQok w q
/-- .. while it is gathered. -/
structure SentG (w w1 wr : World) (p m : Nat) (lv : Value) (l : List Item) (sv : Value) (S : List MQ) : Prop extends SentS w w1 wr p m lv l sv S where
  own : wr.ownsRow w1.heap.size 34 12 sv S.length (S.map mC).flatten
  off : OffI l sv.ownBlock.toList
  apart : ∀ t ∈ sv.ownBlock.toList, t ∉ NMut p m lv
theorem own_ltB {w : World} {B s n : Nat} {e : TypeId} {v : Value} {xs : List Value} (h : w.ownsRow B e s v n xs) : ∀ t ∈ v.ownBlock.toList, t < w.heap.size ∧ B ≤ t := fun t ht => by
  rcases h.2 with ⟨h1, _⟩ | ⟨g, cap, cur, h1, h2, h3, _⟩
  · rw [h1] at ht; simp [Value.ownBlock] at ht
  · rw [h1] at ht; simp [Value.ownBlock] at ht; subst ht
    exact ⟨(Array.getElem?_eq_some_iff.1 h3).1, h2⟩
theorem SentG.ext {w w1 wr wr' : World} {p m : Nat} {lv : Value} {l : List Item} {sv : Value} {S : List MQ} (h : SentG w w1 wr p m lv l sv S) (hE : Ext wr wr') : SentG w w1 wr' p m lv l sv S :=
  ⟨⟨h.net.ext hE, h.same, h.ok⟩, own_ext h.own hE, h.off, h.apart⟩
/-- One more was sent and is noted. -/
theorem SentG.push {w w1 wr w3 w4 : World} {p m : Nat} {lv lv' sv sv' : Value} {l : List Item} {S : List MQ} {q : MQ} {bv : Value} (h : SentG w w1 wr p m lv l sv S) (hq : MQok w q)
    (hN : NetS w1 w3 p m lv' (l ++ [(bv, q.1)]) 0 []) (hC : Chg (NMut p m lv) wr w3) (hb : ∀ t ∈ lv'.ownBlock.toList, t ∈ lv.ownBlock.toList ∨ wr.heap.size ≤ t) (hbv : From wr.heap.size bv)
    (ho : w4.ownsRow w1.heap.size 34 12 sv' (S.length + 1) ((S.map mC).flatten ++ mC q)) (hg : w3.grownBy w4 sv.ownBlock) (hl : sv'.ownBlock = sv.ownBlock ∨ sv'.ownBlock = some (w3.heap.size + 1)) :
    SentG w w1 w4 p m lv' (l ++ [(bv, q.1)]) sv' (S ++ [q]) := by
  have hlt := own_ltB h.own
  have hap : ∀ t ∈ sv.ownBlock.toList, t ∉ NMut p m lv' := fun t ht hm => by
    simp only [NMut, List.mem_cons] at hm
    rcases hm with h1 | h1 | h1
    · exact h.apart t ht (by simp [NMut, h1])
    · exact h.apart t ht (by simp [NMut, h1])
    · rcases hb t h1 with h2 | h2
      · exact h.apart t ht (by simp only [NMut, List.mem_cons]; exact .inr (.inr h2))
      · have := (hlt t ht).1; omega
  have hoff : OffI (l ++ [(bv, q.1)]) sv.ownBlock.toList := fun x hx bs hbs => by
    rcases List.mem_append.1 hx with h1 | h1
    · exact h.off x h1 bs hbs
    · rw [List.mem_singleton.1 h1] at hbs ⊢
      exact hbv.off fun t ht => (hlt t ht).1
  refine ⟨⟨hN.aside (Chg.grown hg) (fun t ht => ⟨hap t ht, (hlt t ht).2⟩) hoff, by simp [h.same], fun x hx => ?_⟩, ?_, ?_, ?_⟩
  · rcases List.mem_append.1 hx with h1 | h1
    · exact h.ok x h1
    · rw [List.mem_singleton.1 h1]; exact hq
  · simpa using ho
  · rcases hl with hl | hl
    · rw [hl]; exact hoff
    · rw [hl]; exact hN.offNew (fun t ht => by simp at ht; omega)
  · intro t ht
    rcases hl with hl | hl
    · rw [hl] at ht; exact hap t ht
    · rw [hl] at ht; simp at ht
      intro hm
      have := (hN.mut_lt t hm).1
      omega
theorem flat_row {s : Nat} {u : Value} : ∀ (rows : List (List Value)) (j : Nat), (∀ r ∈ rows, r.length = s) → rows.flatten[j]? = some u → ∃ i r j', rows[i]? = some r ∧ r[j']? = some u ∧ j = i * s + j'
  | [], j, _, h => by simp at h
  | x :: t, j, hs, h => by
    have hx := hs x (by simp)
    rw [List.flatten_cons] at h
    by_cases hj : j < s
    · rw [List.getElem?_append_left (by omega)] at h
      exact ⟨0, x, j, rfl, h, by omega⟩
    · rw [List.getElem?_append_right (by omega), hx] at h
      obtain ⟨i, r, j', h1, h2, h3⟩ := flat_row t (j - s) (fun r hr => hs r (by simp [hr])) h
      exact ⟨i + 1, r, j', by simpa using h1, h2, by rw [Nat.succ_mul]; omega⟩
theorem mC_lens (S : List MQ) : ∀ r ∈ S.map mC, r.length = 12 := fun r hr => by obtain ⟨q, _, rfl⟩ := List.mem_map.1 hr; rfl
theorem mC_flat (S : List MQ) : (S.map mC).flatten.length = S.length * 12 := by
  induction S with
  | nil => rfl
  | cons q r ih => simp only [List.map_cons, List.flatten_cons, List.length_append, ih, mC_len, List.length_cons]; omega
/-- What an append to an empty slice with no room brings. -/
def Half (w w' : World) (p : Nat) (e : TypeId) (size m : Nat) (news : List Value) (v' : Value) : Prop :=
  (m = 0 ∧ v' = .slice (some ⟨p, 0, none⟩) 0 0) ∨ (0 < m ∧ w'.ownsRow w.heap.size e size v' m news)
section
variable {P : Program} {w : World} {ops : Array Oper} {rest : List Oper} {o : Oper} {a : Act} {Q : Exit → Act → World → Prop}
theorem wpList_append_half (hgd : o.guard = none) (s x : Operand) (t : TypeId) (ho : o.op = .call { callee := .builtin .append, args := #[s, x], argTypes := #[t, t] })
    (e : TypeId) (z : Value) (size bytes : Nat) (ht : P.underlying t = some (.slice e)) (hi : (P.info? e).map (fun i => (i.zero, i.size, i.bytes)) = some (some z, size, bytes)) (hzs : z.cells.size = size) (hsz : 0 < size)
    (p : Nat) (hs : a.eval s = .slice (some ⟨p, 0, none⟩) 0 0) (ax : Option Addr) (m c : Nat) (news : List Value) (hx : a.eval x = .slice ax m c) (hl : news.length = m * size)
    (hnews : m = 0 ∨ ∃ ad, ax = some ad ∧ ∀ j u, news[j]? = some u → w.cell? (ad.add j) = some u) (h63 : m ≤ maxLen) (hbytes : m * bytes ≤ 140737488355328)
    (h : ∀ v' w', Half w w' p e size m news v' → Ext w w' → wpList P ops Q rest (a.put o.dst v') w') : wpList P ops Q (o :: rest) a w := by
  obtain ⟨i, hi, hz, hsize, hby⟩ := info_parts hi
  refine wpList_plain hgd fun K hK => ?_
  have key : ∃ v' w', (Builtin.append_ #[t, t] o.type #[.slice (some ⟨p, 0, none⟩) 0 0, .slice ax m c]).run P w = .ok v' w' ∧ Half w w' p e size m news v' ∧ Ext w w' := by
    by_cases hm : m = 0
    · subst hm
      exact ⟨_, w, run_append_zero t o.type e i ht hi ⟨p, 0, none⟩ ax c, .inl ⟨rfl, rfl⟩, Ext.refl _⟩
    · rcases hnews with h0 | ⟨ad, rfl, hc⟩
      · exact absurd h0 hm
      · obtain ⟨v', w', hr, ho', hg⟩ := run_append_arg_grows (P := P) w t o.type e i z size bytes ht hi hz hsize hby hzs hsz ⟨p, 0, none⟩ 0 0 [] (by simp) (by simp) ad m c news hl hc (by omega) (by omega) (by simpa using hbytes)
        simp only [Nat.zero_add, List.nil_append] at ho'
        exact ⟨v', w', hr, .inr ⟨by omega, ho'⟩, ⟨hg.os, hg.tape, hg.output, hg.size, fun k hk => hg.block k hk (by simp)⟩⟩
  obtain ⟨v', w', hr, h1, h2⟩ := key
  unfold Oper.wp execOp
  simp only [ho, resolve, invoke, builtin, Sem.run_bind, Sem.run_pure, Result.andThen_ok, List.map_toArray, List.map_cons, List.map_nil, hs, hx, hr]
  exact hK _ _ (h v' w' h1 h2)
end
/-- .. while it is taken. -/
structure SentR (w w1 wr : World) (p m : Nat) (lv : Value) (l : List Item) (sv : Value) (S : List MQ) : Prop extends SentS w w1 wr p m lv l sv S where
  row : RowV wr 12 sv (S.map mC)
  loc : ∀ a n c, sv = .slice (some a) n c → a.block ∉ NMut p m lv ∧ a.block < wr.heap.size
theorem SentG.row {w w1 wr : World} {p m : Nat} {lv sv : Value} {l : List Item} {S : List MQ} (h : SentG w w1 wr p m lv l sv S) : SentR w w1 wr p m lv l sv S := by
  refine ⟨h.toSentS, RowV.of_own (by rw [List.length_map]; exact h.own) (mC_lens S), fun a n c e => ?_⟩
  have hb : a.block ∈ sv.ownBlock.toList := by
    rw [e]; simp [Value.ownBlock]
  exact ⟨h.apart _ hb, (own_ltB h.own _ hb).1⟩
/-- An empty slice with no room, newer than B. -/
def EmpB (B : Nat) (v : Value) (w : World) : Prop := ∃ g, v = .slice (some ⟨g, 0, none⟩) 0 0 ∧ B ≤ g ∧ g < w.heap.size
/-- The first half. -/
def HalfB (B k : Nat) (news : List Value) (v : Value) (w : World) : Prop := (k = 0 ∧ EmpB B v w) ∨ (0 < k ∧ w.ownsRow B 34 12 v k news)
theorem EmpB.ext {B : Nat} {v : Value} {w w' : World} (h : EmpB B v w) (hE : Ext w w') : EmpB B v w' := by
  obtain ⟨g, h1, h2, h3⟩ := h
  exact ⟨g, h1, h2, Nat.lt_of_lt_of_le h3 hE.size⟩
theorem HalfB.ext {B k : Nat} {news : List Value} {v : Value} {w w' : World} (h : HalfB B k news v w) (hE : Ext w w') : HalfB B k news v w' := h.imp (fun h => ⟨h.1, h.2.ext hE⟩) (fun h => ⟨h.1, own_ext h.2 hE⟩)
theorem own_low {w : World} {B B' s n : Nat} {e : TypeId} {v : Value} {xs : List Value} (h : w.ownsRow B e s v n xs) (hB : B' ≤ B) : w.ownsRow B' e s v n xs := by
  refine ⟨h.1, h.2.imp id ?_⟩
  rintro ⟨g, cap, cur, h1, h2, h3⟩
  exact ⟨g, cap, cur, h1, Nat.le_trans hB h2, h3⟩
theorem rows_news {W : World} {sb so d : Nat} {S : List MQ} (h : ∀ (i : Nat) r, (S.map mC)[i]? = some r → ∀ (j : Nat) u, r[j]? = some u → W.cell? ⟨sb, so + (i + d) * 12 + j, none⟩ = some u) :
    ∀ j u, (S.map mC).flatten[j]? = some u → W.cell? ((⟨sb, so + d * 12, none⟩ : Addr).add j) = some u := fun j u hj => by
  obtain ⟨i, r, j', h1, h2, rfl⟩ := flat_row _ j (mC_lens S) hj
  have := h i r h1 j' u h2
  rw [Addr.add_lit]
  rw [show so + d * 12 + (i * 12 + j') = so + (i + d) * 12 + j' by omega]
  exact this
/-- One is taken from what was sent. -/
theorem SentS.taken {w w1 wr w7 wx : World} {p m k L : Nat} {lv lv4 sv v' : Value} {l : List Item} {S : List MQ} (h : SentS w w1 wr p m lv l sv S) (hN : NetS w1 w7 p m lv4 (l.eraseIdx k) 0 []) (hE : Ext w7 wx) (hL : L = S.length) (hk : k < L)
    (ho : wx.ownsRow w7.heap.size 34 12 v' (L - 1) ((S.eraseIdx k).map mC).flatten ∨ (L = 1 ∧ EmpB w7.heap.size v' wx)) : SentR w w1 wx p m lv4 (l.eraseIdx k) v' (S.eraseIdx k) := by
  have hlen : (S.eraseIdx k).length = L - 1 := by rw [List.length_eraseIdx, if_pos (by omega), hL]
  have hs : SentS w w1 wx p m lv4 (l.eraseIdx k) v' (S.eraseIdx k) := ⟨hN.ext hE, by rw [← eraseMap, ← eraseMap, h.same], fun q hq => h.ok q (List.mem_of_mem_eraseIdx hq)⟩
  rcases ho with ho | ⟨hL1, g, rfl, hg1, hg2⟩
  · refine ⟨hs, RowV.of_own (by rw [List.length_map, hlen]; exact ho) (mC_lens _), fun a n c e => ?_⟩
    have := own_ltB ho a.block (by rw [e]; simp [Value.ownBlock])
    exact ⟨fun hm => by have := (hN.mut_lt _ hm).1; omega, this.1⟩
  · have he : S.eraseIdx k = [] := List.eq_nil_of_length_eq_zero (by omega)
    refine ⟨hs, by rw [he]; exact ⟨_, 0, rfl, Nat.le_refl _, by unfold maxLen; omega, .inl rfl⟩, fun a n c e => ?_⟩
    cases e
    exact ⟨fun hm => by have := (hN.mut_lt _ hm).1; simp at this; omega, by simpa using hg2⟩
theorem MQok.one {w : World} {q : MQ} (h : MQok w q) : ∀ u ∈ mC q, u.oneCell' = true := by
  obtain ⟨M, ev, mv, iv⟩ := q
  obtain ⟨a9, m9, c9, a10, m10, c10, a11, m11, c11, e⟩ := h.v.shape
  simp only [mV, mCells, Value.agg.injEq, Array.mk.injEq, List.cons.injEq, and_true, true_and] at e
  obtain ⟨rfl, rfl, rfl⟩ := e
  simp [mC, Value.oneCell']
theorem ones {w : World} {S : List MQ} (h : ∀ q ∈ S, MQok w q) : ∀ u ∈ (S.map mC).flatten, u.oneCell' = true := fun u hu => by
  obtain ⟨r, hr, hur⟩ := List.mem_flatten.1 hu
  obtain ⟨q, hq, rfl⟩ := List.mem_map.1 hr
  exact (h q hq).one u hur
theorem rem_n (a : Int) (n : Nat) (h : 1 ≤ n ∧ n ≤ 1000) : ∃ m : Nat, wrap64 ((IntKind.u64.wrap a).tmod (n : Int)) = (m : Int) ∧ m < n := by
  have h0 : 0 ≤ IntKind.u64.wrap a ∧ IntKind.u64.wrap a < 18446744073709551616 := by
    rw [IntKind.wrap_u64]; omega
  generalize IntKind.u64.wrap a = u at *
  rw [Int.tmod_eq_emod_of_nonneg h0.1]
  have h1 := Int.emod_nonneg u (show (n : Int) ≠ 0 by omega)
  have h2 := Int.emod_lt_of_pos u (show (0 : Int) < n by omega)
  obtain ⟨m, hm⟩ := Int.eq_ofNat_of_zero_le h1
  refine ⟨m, ?_, by omega⟩
  rw [hm]
  exact IntWalk.wrap64_in _ ⟨by omega, by omega⟩
set_option maxRecDepth 100000 in
set_option maxHeartbeats 8000000 in
/-- NetKeeps is true. -/
theorem netkeeps_c (v pv : Value) (qs : List MQ) (ps : List Int) (w : World) (h : RowV w 12 v (qs.map mC)) (hok : ∀ q ∈ qs, MQok w q) (hp : Rd w pv (ps.map (Value.int .i64))) (hpb : ∀ x ∈ ps, -9223372036854775808 ≤ x ∧ x ≤ 9223372036854775807) :
    Calls Try.prog 3 #[v, pv] w (RetIs (.bool true) w) := by
  obtain ⟨va, vc, rfl, hc1, hc2, hc3⟩ := h
  rw [List.length_map] at hc1 ⊢
  replace hc2 : vc ≤ 9223372036854775807 := by unfold maxLen at hc2; omega
  obtain ⟨N, hN⟩ : ∃ N, N = qs.length := ⟨_, rfl⟩
  rw [← hN] at hc1 ⊢
  have HC := Lib.hid hc3; have HN := Lib.hid hN; have HOK := Lib.hid hok; have HP := Lib.hid hp; have HPB := Lib.hid hpb
  obtain ⟨pa, pc, rfl, hpc1, hpc2, -⟩ := hp
  rw [List.length_map] at hpc1 HP ⊢
  obtain ⟨pn, hpn⟩ : ∃ pn, pn = ps.length := ⟨_, rfl⟩
  rw [← hpn] at hpc1 HP ⊢
  have HPN := Lib.hid hpn
  replace hpc2 : pc ≤ 9223372036854775807 := by unfold maxLen at hpc2; omega
  clear hc3 hN hok hpb hpn
  go_enter Try.func3, Try.ntmps3
  go_wp2_with fail
  refine (awake19_c w).mono ?_
  rintro e w0 ⟨rfl, hE1⟩
  have HE1 := Lib.hid hE1
  clear hE1
  go_upto_if 18 with fail
  go_cut [0] (fun v0 wc => ∃ n : Nat, v0 = .slice va n vc ∧ n ≤ N ∧ n ≤ 60 ∧ wc = w0)
  case first =>
    by_cases h60 : 60 < N
    · have h60' : (60 : Int) < (N : Int) := by omega
      have h60c : 60 ≤ vc := by omega
      clear h60
      go_wp2_with fail
      go_meet
      exact ⟨60, rfl, by omega, by omega, rfl⟩
    · have h60' : (N : Int) ≤ 60 := by omega
      go_wp2_with fail
      go_meet
      exact ⟨N, rfl, by omega, by omega, rfl⟩
  case rest =>
  obtain ⟨n, rfl, hnN, hn60, hwb⟩ := hcut
  subst hwb
  generalize hwb : wc = wb at *
  clear hwb
  go_wp2_with fail
  refine (nnew_c wb).mono ?_
  rintro e w2 ⟨p, m, rfl, hN2⟩
  have HN2 := Lib.hid hN2
  clear hN2
  go_upto_block 0 with fail
  go_cut [6] (fun v6 wr => ∃ (lv : Value) (l : List Item) (S : List MQ), S.length ≤ 60 ∧ SentG w wb wr p m lv l v6 S)
  case first =>
    go_wp2_with fail
    go_loopg [6, 7] n (fun g v6 v7 wr => ∃ (i : Nat) (lv : Value) (l : List Item) (S : List MQ), v7 = .int .i64 (i : Int) ∧ i + g = n ∧ S.length ≤ i ∧ SentG w wb wr p m lv l v6 S)
    case atStart => exact ⟨0, _, [], [], rfl, by omega, by simp, ⟨⟨HN2.out, rfl, fun q hq => by cases hq⟩, ⟨rfl, .inl ⟨rfl, rfl⟩⟩, (fun q hq => by cases hq), by simp [Value.ownBlock]⟩⟩
    case round =>
      obtain ⟨i, lv, l, S, rfl, hi, hSi, hG⟩ := hrel
      have HG := Lib.hid hG
      have hsl : l.length = S.length := by have := congrArg List.length hG.same; simpa using this
      have HSL := Lib.hid hsl
      clear hG hsl
      by_cases hlt : i < n
      · have hlt' : (i : Int) < (n : Int) := by omega
        obtain ⟨q, hq⟩ : ∃ q, qs[i]? = some q := ⟨_, List.getElem?_eq_getElem (by have := HN.out; omega)⟩
        have hqok := HOK.out q (List.mem_of_getElem? hq)
        have HQ := Lib.hid hqok
        obtain ⟨M, ev, mv, iv⟩ := q
        obtain ⟨a9, m9, c9, a10, m10, c10, a11, m11, c11, e⟩ := hqok.v.shape
        simp only [mV, mCells, Value.agg.injEq, Array.mk.injEq, List.cons.injEq, and_true, true_and] at e
        obtain ⟨rfl, rfl, rfl⟩ := e
        obtain ⟨bb, f, rfl, hcell⟩ : ∃ bb f, va = some ⟨bb, f, none⟩ ∧ ∀ (j : Nat) u, (mC (M, .slice a9 m9 c9, .slice a10 m10 c10, .slice a11 m11 c11))[j]? = some u → w.cell? ⟨bb, f + i * 12 + j, none⟩ = some u := by
          rcases HC.out with h0 | ⟨bb, f, ha, hc⟩
          · have := List.map_eq_nil_iff.1 h0; rw [this] at hq; simp at hq
          · exact ⟨bb, f, ha, hc i _ (by rw [List.getElem?_map, hq]; rfl)⟩
        have HCELL := Lib.hid hcell
        have HEr := Lib.hid (HE1.out.trans HG.out.net.old)
        have hcr : ∀ (j : Nat) u, (mC (M, .slice a9 m9 c9, .slice a10 m10 c10, .slice a11 m11 c11))[j]? = some u → wr.cell? ⟨bb, f + i * 12 + j, none⟩ = some u := fun j u hj => HEr.out.cell (hcell j u hj)
        have k0 := hcr 0 _ rfl; have k1 := hcr 1 _ rfl; have k2 := hcr 2 _ rfl; have k3 := hcr 3 _ rfl; have k4 := hcr 4 _ rfl; have k5 := hcr 5 _ rfl; have k6 := hcr 6 _ rfl; have k7 := hcr 7 _ rfl; have k8 := hcr 8 _ rfl; have k9 := hcr 9 _ rfl; have k10 := hcr 10 _ rfl; have k11 := hcr 11 _ rfl; dsimp only at k0 k1 k2 k3 k4 k5 k6 k7 k8 k9 k10 k11; rw [Nat.add_zero] at k0
        clear hq hqok hcell hcr
        go_wp2_with fail
        refine (nsend_c HG.out.net (by have := HSL.out; omega) _ M (HQ.out.v.ext HEr.out) HQ.out.ok).mono ?_
        rintro e w3 ⟨rfl, lv', l', hN3, hC3, hb3, h3⟩
        obtain ⟨E, hE⟩ : ∃ E, E = sendE (wrM M) (wall [] M.src M.dst) l.length := ⟨_, rfl⟩
        rw [← hE] at h3 ⊢
        have hEc : E = 1 ∨ E = 0 := by
          rw [hE]
          unfold sendE
          cases wrM M with
          | none => exact .inl rfl
          | some bs => right; simp [wall, getG]; have := HSL.out; omega
        clear hE k0 k1 k2 k3 k4 k5 k6 k7 k8 k9 k10 k11
        rcases hEc with rfl | rfl
        · obtain ⟨-, rfl, rfl, hE3⟩ | ⟨h0, -⟩ := h3
          rotate_left
          · exact absurd h0 (by decide)
          have HG3 := Lib.hid (HG.out.ext hE3)
          clear hN3 hC3 hb3 hE3
          go_wp2_with fail
          go_roundg (n - (i + 1))
          case measure => omega
          case rel => exact ⟨i + 1, _, _, S, by go_num, by omega, by omega, HG3.out⟩
        · obtain ⟨h0, -⟩ | ⟨-, bv, hbv, rfl⟩ := h3
          · exact absurd rfl h0
          have HN3 := Lib.hid hN3; have HC3 := Lib.hid hC3; have HB3 := Lib.hid hb3; have HBV := Lib.hid hbv
          have HE3 := Lib.hid (HE1.out.trans hN3.old)
          have HOW := Lib.hid (own_off HG.out.own hC3 HG.out.apart)
          have hcr : ∀ (j : Nat) u, (mC (M, .slice a9 m9 c9, .slice a10 m10 c10, .slice a11 m11 c11))[j]? = some u → w3.cell? ⟨bb, f + i * 12 + j, none⟩ = some u := fun j u hj => HE3.out.cell (HCELL.out j u hj)
          have k0 := hcr 0 _ rfl; have k1 := hcr 1 _ rfl; have k2 := hcr 2 _ rfl; have k3 := hcr 3 _ rfl; have k4 := hcr 4 _ rfl; have k5 := hcr 5 _ rfl; have k6 := hcr 6 _ rfl; have k7 := hcr 7 _ rfl; have k8 := hcr 8 _ rfl; have k9 := hcr 9 _ rfl; have k10 := hcr 10 _ rfl; have k11 := hcr 11 _ rfl; dsimp only at k0 k1 k2 k3 k4 k5 k6 k7 k8 k9 k10 k11; rw [Nat.add_zero] at k0
          clear hN3 hC3 hb3 hbv hcr
          go_wp2_with (at_builtin; refine wpList_push_rowAt rfl (.tmp 35) (.tmp 40) _ rfl 12 144 Try.underlying22 infoMsg rfl (by omega) wb.heap.size _ S.length (S.map mC).flatten (mC (M, .slice a9 m9 c9, .slice a10 m10 c10, .slice a11 m11 c11)) rfl HOW.out rfl rfl (by simp [mC, Value.oneCell']) (by omega) (by unfold maxLen; omega) HN3.out.old.size rfl ?_; intro v' w4 ho4 hg4 hl4; have HG4 := Lib.hid (HG.out.push HQ.out HN3.out HC3.out HB3.out HBV.out ho4 hg4 hl4); clear ho4 hg4 hl4)
          go_roundg (n - (i + 1))
          case measure => omega
          case rel => exact ⟨i + 1, _, _, S ++ [_], by go_num, by omega, by simp; omega, HG4.out⟩
      · have hge : (n : Int) ≤ (i : Int) := by omega
        clear hlt
        go_wp2_with fail
        go_meet
        exact ⟨lv, l, S, by omega, HG.out⟩
  case rest =>
  obtain ⟨lv, l, S, hSl, hG⟩ := hcut
  have HR0 := Lib.hid hG.row
  clear hG HN2
  go_wp2_with fail
  obtain ⟨L0, hL0⟩ : ∃ L0, L0 = S.length := ⟨_, rfl⟩
  have hL60 : L0 ≤ 60 := by omega
  go_loopg [6, 8, 9, 10, 11] L0 (fun g v6 v8 v9 v10 v11 wr => ∃ (i : Nat) (lv : Value) (l : List Item) (S : List MQ), v8 = .int .i64 (i : Int) ∧ i + S.length = L0 ∧ S.length = g ∧ SentR w wb wr p m lv l v6 S)
  case atStart => exact ⟨0, lv, l, S, rfl, by omega, hL0.symm, HR0.out⟩
  case round =>
    obtain ⟨i, lv, l, S, rfl, hiS, hSg, hR⟩ := hrel
    have HR := Lib.hid hR
    obtain ⟨sa, sc, rfl, hsc1, hsc2, hrows⟩ := hR.row
    rw [List.length_map] at hsc1 HR ⊢
    replace hsc2 : sc ≤ 9223372036854775807 := by unfold maxLen at hsc2; omega
    obtain ⟨L, hL⟩ : ∃ L, L = S.length := ⟨_, rfl⟩
    rw [← hL] at hiS hSg hsc1 HR ⊢
    have HL := Lib.hid hL; have HROWS := Lib.hid hrows
    have hll : l.length = L := by have := congrArg List.length hR.same; rw [hL]; simpa using this
    have HLL := Lib.hid hll
    subst hSg
    clear hR hL hrows hll hL0
    by_cases h0 : L = 0
    · have HNZ := Lib.hid HR.out.net
      have hl0 : l = [] := List.eq_nil_of_length_eq_zero (by rw [HLL.out, h0])
      subst hl0
      subst h0
      have hle : ((0 : Nat) : Int) ≤ 0 := by omega
      clear HROWS HLL HL
      go_wp2_with fail
      refine (ntake_c HNZ.out (by simp) 0 (by omega)).mono ?_
      rintro e w4 ⟨lv4, l4, v4, rfl, hv4, hN4, -, -, h4⟩
      rw [show atN (([] : List Item).map (·.2)) 0 = (Msg.zero, 9) from rfl] at hv4 h4 ⊢
      dsimp only at hv4 h4 ⊢
      obtain ⟨-, rfl, rfl, -⟩ | ⟨h0, -⟩ := h4
      rotate_left
      · exact absurd h0 (by decide)
      obtain ⟨d9, x9, z9, d10, x10, z10, d11, x11, z11, rfl⟩ := hv4.shape
      have HZ4 := Lib.hid (Blk.new w4 (zc 0) 34)
      have HD4 := Lib.hid (Ext.alloc w4 (.cells (zc 0) 34))
      have HN4 := Lib.hid hN4
      clear hv4 hN4 HNZ
      go_upto_region 23 with (refine wpList_store_row rfl 34 (.tmp 12) (.tmp 91) rfl w4.heap.size (mCells Msg.zero (.slice d9 x9 z9) (.slice d10 x10 z10) (.slice d11 x11 z11)) rfl rfl 34 _ HZ4.out (mCells_size _ _ _ _) rfl (mCells_one _ _ _ _ _ _ _ _ _ _) ?_)
      have hE5 := setRow_ext HD4.out (Nat.le_refl _) (mCells Msg.zero (.slice d9 x9 z9) (.slice d10 x10 z10) (.slice d11 x11 z11))
      generalize (w4.alloc (.cells (zc 0) 34)).setRow w4.heap.size (mCells Msg.zero (.slice d9 x9 z9) (.slice d10 x10 z10) (.slice d11 x11 z11)) = w5 at *
      have HN5 := Lib.hid (HN4.out.ext hE5)
      clear hE5 HZ4 HD4 HN4
      go_wp2_with fail
      refine (nlen_c HN5.out).mono ?_
      rintro e w6 ⟨rfl, rfl⟩
      rw [show ((([] : List Item).length : Nat) : Int) = 0 from rfl]
      go_wp2_with fail
      go_ret
      exact ⟨rfl, HE1.out.trans HN5.out.old⟩
    · have hLpos : 0 < L := by omega
      have hLp : (0 : Int) < (L : Int) := by omega
      have hwl : IntKind.u64.wrap (L : Int) = (L : Int) := by rw [IntKind.wrap_u64]; omega
      have HWL := Lib.hid hwl
      clear h0 hwl
      go_upto_if 50 with fail
      go_cut [9] (fun v9 wd => ∃ k : Nat, v9 = .int .i64 (k : Int) ∧ k < L ∧ wd = wr)
      case first =>
        by_cases hip : i < pn
        · have hip' : (i : Int) < (pn : Int) := by omega
          obtain ⟨x, hx⟩ : ∃ x, ps[i]? = some x := ⟨_, List.getElem?_eq_getElem (by have := HPN.out; omega)⟩
          obtain ⟨kk, hkk, hkL⟩ := rem_n x L ⟨by omega, by omega⟩
          obtain ⟨pb, po, rfl, k0⟩ : ∃ pb po, pa = some ⟨pb, po, none⟩ ∧ wr.cell? ⟨pb, po + i, none⟩ = some (.int .i64 x) := by
            obtain ⟨pa', pc', e, _, _, h3⟩ := HP.out
            cases e
            rcases h3 with h3 | ⟨pb, po, ha, hc⟩
            · have := List.map_eq_nil_iff.1 h3; rw [this] at hx; simp at hx
            · exact ⟨pb, po, ha, (HE1.out.trans HR.out.net.old).cell (hc i _ (by rw [List.getElem?_map, hx]; rfl))⟩
          have hwl := HWL.out
          clear hx
          go_wp2_with fail
          go_meet
          exact ⟨kk, by rw [hkk], hkL, rfl⟩
        · have hip' : (pn : Int) ≤ (i : Int) := by omega
          clear hip
          go_wp2_with fail
          go_meet
          exact ⟨0, rfl, hLpos, rfl⟩
      case rest =>
      obtain ⟨k, rfl, hkL, rfl⟩ := hcut
      obtain ⟨q, hq⟩ : ∃ q, S[k]? = some q := ⟨_, List.getElem?_eq_getElem (by have := HL.out; omega)⟩
      have hqok := HR.out.ok q (List.mem_of_getElem? hq)
      obtain ⟨M, ev, mv, iv⟩ := q
      obtain ⟨a9, m9, c9, a10, m10, c10, a11, m11, c11, e⟩ := hqok.v.shape
      simp only [mV, mCells, Value.agg.injEq, Array.mk.injEq, List.cons.injEq, and_true, true_and] at e
      obtain ⟨rfl, rfl, rfl⟩ := e
      have HQ := Lib.hid hqok; have HSK := Lib.hid hq
      have hat : atN (l.map (·.2)) (k : Int) = (M, 0) := by
        unfold atN
        rw [HR.out.same, List.length_map, if_pos ⟨by omega, by have := HL.out; omega⟩]
        simp [hq]
      have HAT := Lib.hid hat
      clear hq hqok hat
      go_wp2_with fail
      refine (ntake_c HR.out.net (by have := HLL.out; omega) (k : Int) (by omega)).mono ?_
      rintro e w4 ⟨lv4, l4, v4, rfl, hv4, hN4, hC4, hb4, h4⟩
      rw [HAT.out] at hv4 h4 ⊢
      dsimp only at hv4 h4 ⊢
      obtain ⟨h0, -⟩ | ⟨-, rfl⟩ := h4
      · exact absurd rfl h0
      have HS4 := Lib.hid (show wc.heap.size ≤ w4.heap.size from hC4.size)
      obtain ⟨d9, x9, z9, d10, x10, z10, d11, x11, z11, rfl⟩ := hv4.shape
      have HN4 := Lib.hid hN4; have HC4 := Lib.hid hC4; have HB4 := Lib.hid hb4
      have HZ4 := Lib.hid (Blk.new w4 (zc 0) 34)
      have HD4 := Lib.hid (Ext.alloc w4 (.cells (zc 0) 34))
      have HV4 := Lib.hid hv4
      clear hN4 hC4 hb4 hv4
      go_upto_region 19 with (refine wpList_store_row rfl 34 (.tmp 10) (.tmp 65) rfl w4.heap.size (mCells M (.slice d9 x9 z9) (.slice d10 x10 z10) (.slice d11 x11 z11)) rfl rfl 34 _ HZ4.out (mCells_size _ _ _ _) rfl (mCells_one _ _ _ _ _ _ _ _ _ _) ?_)
      have hb5 := HZ4.out.row (mCells M (.slice d9 x9 z9) (.slice d10 x10 z10) (.slice d11 x11 z11))
      have hE5 := setRow_ext HD4.out (Nat.le_refl _) (mCells M (.slice d9 x9 z9) (.slice d10 x10 z10) (.slice d11 x11 z11))
      generalize (w4.alloc (.cells (zc 0) 34)).setRow w4.heap.size (mCells M (.slice d9 x9 z9) (.slice d10 x10 z10) (.slice d11 x11 z11)) = w5 at *
      have HE5 := Lib.hid hE5
      have HN5 := Lib.hid (HN4.out.ext hE5)
      have HV5 := Lib.hid ((HV4.out.ext hE5).to (Nat.zero_le _))
      have hrow5 : RowV w5 12 (.slice sa L sc) (S.map mC) := (HR.out.row.chg HC4.out (fun a n c e _ hm => (HR.out.loc a n c e).1 hm)).ext hE5
      obtain ⟨sb, so, rfl, hcell⟩ : ∃ sb so, sa = some ⟨sb, so, none⟩ ∧ ∀ (i : Nat) r, (S.map mC)[i]? = some r → ∀ (j : Nat) u, r[j]? = some u → w5.cell? ⟨sb, so + i * 12 + j, none⟩ = some u := by
        obtain ⟨a, c, e, _, _, h3⟩ := hrow5
        cases e
        rcases h3 with h3 | ⟨b, o, ha, hc⟩
        · have h5 : (S.map mC).length = 0 := by rw [h3]; rfl
          rw [List.length_map] at h5
          have := HL.out
          omega
        · exact ⟨b, o, ha, hc⟩
      have HCELL := Lib.hid hcell
      have hcr := hcell k (mC (M, .slice a9 m9 c9, .slice a10 m10 c10, .slice a11 m11 c11)) (by rw [List.getElem?_map, HSK.out]; rfl)
      have k0 := hcr 0 _ rfl; have k1 := hcr 1 _ rfl; have k2 := hcr 2 _ rfl; have k3 := hcr 3 _ rfl; have k4 := hcr 4 _ rfl; have k5 := hcr 5 _ rfl; have k6 := hcr 6 _ rfl; have k7 := hcr 7 _ rfl; have k8 := hcr 8 _ rfl; have k9 := hcr 9 _ rfl; have k10 := hcr 10 _ rfl; have k11 := hcr 11 _ rfl; dsimp only at k0 k1 k2 k3 k4 k5 k6 k7 k8 k9 k10 k11; rw [Nat.add_zero] at k0
      have SAME : Hid (∀ (W : World) (u1 u2 : Value), MsgV W 0 u1 M → MsgV W 0 u2 M → Calls Try.prog 11 #[u1, u2] W (RetIs (.bool true) W)) := Lib.hid fun W u1 u2 h1 h2 => by rw [← decide_eq_true (rfl : M = M)]; exact rmsame_ret u1 u2 M M 0 0 W h1 h2 HQ.out.ok HQ.out.ok
      have HQ5 := Lib.hid (HQ.out.v.ext (HE1.out.trans HN5.out.old))
      obtain ⟨j0, j1, j2, j3, j4, j5, j6, j7, j8, j9, j10, j11⟩ := Blk.twelve hb5
      clear hb5 hE5 hrow5 hcell hcr HZ4 HD4
      apply Mono.region1 11 Ext [.is _, .is _, .is _, .is _, .is _, .is _, .is _, .is _, .is _, .is _, .is _] (by kernel_rfl) Ext.refl (fun _ _ _ => Ext.trans) (by kernel_rfl) rfl rfl trivial
      focus
        iterate 3 (apply Mono.step_is; (· refine Mono.obl_mk fun w7 hE7 _ K hK => ?_; clear hE7; go_wp2_with fail; simp only [Act.put, List.setIfInBounds_toArray, List.set_cons_succ, List.set_cons_zero] at hK; exact hK _ _ (Ext.refl _) (Mono.is_rfl _ _)); simp only [Act.put, List.setIfInBounds_toArray, List.set_cons_succ, List.set_cons_zero])
        apply Mono.step_is
        · refine Mono.obl_mk fun w7 hE7 _ K hK => ?_
          have g0 := hE7.cell (show w5.drew.cell? _ = _ from j0); have g1 := hE7.cell (show w5.drew.cell? _ = _ from j1); have g2 := hE7.cell (show w5.drew.cell? _ = _ from j2); have g3 := hE7.cell (show w5.drew.cell? _ = _ from j3); have g4 := hE7.cell (show w5.drew.cell? _ = _ from j4); have g5 := hE7.cell (show w5.drew.cell? _ = _ from j5); have g6 := hE7.cell (show w5.drew.cell? _ = _ from j6); have g7 := hE7.cell (show w5.drew.cell? _ = _ from j7); have g8 := hE7.cell (show w5.drew.cell? _ = _ from j8); have g9 := hE7.cell (show w5.drew.cell? _ = _ from j9); have g10 := hE7.cell (show w5.drew.cell? _ = _ from j10); have g11 := hE7.cell (show w5.drew.cell? _ = _ from j11); have r0 := hE7.cell (show w5.drew.cell? _ = _ from k0); have r1 := hE7.cell (show w5.drew.cell? _ = _ from k1); have r2 := hE7.cell (show w5.drew.cell? _ = _ from k2); have r3 := hE7.cell (show w5.drew.cell? _ = _ from k3); have r4 := hE7.cell (show w5.drew.cell? _ = _ from k4); have r5 := hE7.cell (show w5.drew.cell? _ = _ from k5); have r6 := hE7.cell (show w5.drew.cell? _ = _ from k6); have r7 := hE7.cell (show w5.drew.cell? _ = _ from k7); have r8 := hE7.cell (show w5.drew.cell? _ = _ from k8); have r9 := hE7.cell (show w5.drew.cell? _ = _ from k9); have r10 := hE7.cell (show w5.drew.cell? _ = _ from k10); have r11 := hE7.cell (show w5.drew.cell? _ = _ from k11)
          clear hE7
          go_wp2_with fail
          simp only [Act.put, List.setIfInBounds_toArray, List.set_cons_succ, List.set_cons_zero] at hK
          exact hK _ _ (Ext.refl _) (Mono.is_rfl _ _)
        simp only [Act.put, List.setIfInBounds_toArray, List.set_cons_succ, List.set_cons_zero]
        iterate 3 (apply Mono.step_is; (· refine Mono.obl_mk fun w7 hE7 _ K hK => ?_; clear hE7; go_wp2_with fail; simp only [Act.put, List.setIfInBounds_toArray, List.set_cons_succ, List.set_cons_zero] at hK; exact hK _ _ (Ext.refl _) (Mono.is_rfl _ _)); simp only [Act.put, List.setIfInBounds_toArray, List.set_cons_succ, List.set_cons_zero])
        apply Mono.step_is
        · refine Mono.obl_mk fun w7 hE7 _ K hK => ?_
          have g0 := hE7.cell (show w5.drew.cell? _ = _ from j0); have g1 := hE7.cell (show w5.drew.cell? _ = _ from j1); have g2 := hE7.cell (show w5.drew.cell? _ = _ from j2); have g3 := hE7.cell (show w5.drew.cell? _ = _ from j3); have g4 := hE7.cell (show w5.drew.cell? _ = _ from j4); have g5 := hE7.cell (show w5.drew.cell? _ = _ from j5); have g6 := hE7.cell (show w5.drew.cell? _ = _ from j6); have g7 := hE7.cell (show w5.drew.cell? _ = _ from j7); have g8 := hE7.cell (show w5.drew.cell? _ = _ from j8); have g9 := hE7.cell (show w5.drew.cell? _ = _ from j9); have g10 := hE7.cell (show w5.drew.cell? _ = _ from j10); have g11 := hE7.cell (show w5.drew.cell? _ = _ from j11); have r0 := hE7.cell (show w5.drew.cell? _ = _ from k0); have r1 := hE7.cell (show w5.drew.cell? _ = _ from k1); have r2 := hE7.cell (show w5.drew.cell? _ = _ from k2); have r3 := hE7.cell (show w5.drew.cell? _ = _ from k3); have r4 := hE7.cell (show w5.drew.cell? _ = _ from k4); have r5 := hE7.cell (show w5.drew.cell? _ = _ from k5); have r6 := hE7.cell (show w5.drew.cell? _ = _ from k6); have r7 := hE7.cell (show w5.drew.cell? _ = _ from k7); have r8 := hE7.cell (show w5.drew.cell? _ = _ from k8); have r9 := hE7.cell (show w5.drew.cell? _ = _ from k9); have r10 := hE7.cell (show w5.drew.cell? _ = _ from k10); have r11 := hE7.cell (show w5.drew.cell? _ = _ from k11)
          clear hE7
          go_wp2_with fail
          simp only [Act.put, List.setIfInBounds_toArray, List.set_cons_succ, List.set_cons_zero] at hK
          exact hK _ _ (Ext.refl _) (Mono.is_rfl _ _)
        simp only [Act.put, List.setIfInBounds_toArray, List.set_cons_succ, List.set_cons_zero]
        apply Mono.step_is
        · refine Mono.obl_mk fun w7 hE7 _ K hK => ?_
          have HE7 := Lib.hid ((Ext.drew w5).trans hE7)
          clear hE7
          go_wp2_with fail
          refine (SAME.out w7 _ _ (HV5.out.ext HE7.out) (HQ5.out.ext HE7.out)).mono ?_
          rintro e w8 ⟨rfl, hE8⟩
          go_wp2_with fail
          simp only [Act.put, List.setIfInBounds_toArray, List.set_cons_succ, List.set_cons_zero] at hK
          exact hK _ _ hE8 (Mono.is_rfl _ _)
        simp only [Act.put, List.setIfInBounds_toArray, List.set_cons_succ, List.set_cons_zero]
        iterate 2 (apply Mono.step_is; (· refine Mono.obl_mk fun w7 hE7 _ K hK => ?_; clear hE7; go_wp2_with fail; simp only [Act.put, List.setIfInBounds_toArray, List.set_cons_succ, List.set_cons_zero] at hK; exact hK _ _ (Ext.refl _) (Mono.is_rfl _ _)); simp only [Act.put, List.setIfInBounds_toArray, List.set_cons_succ, List.set_cons_zero])
        refine Mono.step_end fun w7 hE7 hkn => ?_
        simp only [List.drop_succ_cons, List.drop_zero]
        clear hkn j0 j1 j2 j3 j4 j5 j6 j7 j8 j9 j10 j11 k0 k1 k2 k3 k4 k5 k6 k7 k8 k9 k10 k11
        have HE7 := Lib.hid ((Ext.drew w5).trans hE7)
        clear hE7
        have HN7 := Lib.hid (show NetS wb w7 p m lv4 (l.eraseIdx k) 0 [] from by have := HN5.out.ext HE7.out; rw [show ((k : Int)).toNat = k from by simp] at this; exact this)
        obtain ⟨j, hj⟩ : ∃ j, j = k + 1 := ⟨_, rfl⟩
        have hj1 : (k : Int) + 1 = (j : Int) := by omega
        have hjL : j ≤ L := by omega
        have hjLi : (j : Int) ≤ (L : Int) := by omega
        have hjs : j ≤ sc := by omega
        have hks : k ≤ sc := by omega
        have hkc : (k : Int) ≤ (sc : Int) := by omega
        have HJ := Lib.hid hj
        obtain ⟨A, hA⟩ : ∃ A : Addr, (if sc = j then some (⟨sb, so, none⟩ : Addr) else some ⟨sb, so + j * 12, none⟩) = some A := by split <;> exact ⟨_, rfl⟩
        have HLEN1 := Lib.hid (show ((S.take k).map mC).flatten.length = k * 12 from by rw [mC_flat, List.length_take, Nat.min_eq_left (by have := HL.out; omega)])
        have HLEN2 := Lib.hid (show ((S.drop j).map mC).flatten.length = (L - j) * 12 from by rw [mC_flat, List.length_drop, ← HL.out])
        have HNEW1 := Lib.hid (show ∀ W : World, Ext w7 W → ∀ j u, ((S.take k).map mC).flatten[j]? = some u → W.cell? ((⟨sb, so, none⟩ : Addr).add j) = some u from fun W hE => by
          have := rows_news (W := W) (sb := sb) (so := so) (d := 0) (S := S.take k) (fun i r hr j u hu => by
            rw [Nat.add_zero]
            refine (HE7.out.trans hE).cell (HCELL.out i r ?_ j u hu)
            rw [List.map_take, List.getElem?_take] at hr
            split at hr
            · exact hr
            · cases hr)
          simpa using this)
        have HNEW2 := Lib.hid (show ∀ W : World, Ext w7 W → ∀ i u, ((S.drop j).map mC).flatten[i]? = some u → W.cell? (A.add i) = some u from fun W hE => by
          by_cases hs : sc = j
          · intro i u hi
            have h0 := HLEN2.out
            rw [show L - j = 0 by omega, Nat.zero_mul] at h0
            rw [List.length_eq_zero_iff.1 h0] at hi
            simp at hi
          · rw [if_neg hs] at hA
            cases hA
            exact rows_news (W := W) (sb := sb) (so := so) (d := j) (S := S.drop j) (fun i r hr j' u hu => by
              refine (HE7.out.trans hE).cell (HCELL.out (i + j) r ?_ j' u hu)
              rw [List.map_drop, List.getElem?_drop, Nat.add_comm] at hr
              exact hr))
        have HROW := Lib.hid (show ((S.take k).map mC).flatten ++ ((S.drop j).map mC).flatten = ((S.eraseIdx k).map mC).flatten from by rw [List.eraseIdx_eq_take_drop_succ, List.map_append, List.flatten_append, hj])
        have HHALF := Lib.hid (show ∀ (wa wc' : World) (g1 : Nat) (v' : Value), Ext w7 wa → (w7.heap.size ≤ g1 ∧ g1 < wa.heap.size) → Ext wa wc' → Half wa wc' g1 34 12 k ((S.take k).map mC).flatten v' → HalfB w7.heap.size k ((S.take k).map mC).flatten v' wc' from fun wa wc' g1 v' h1 h2 h3 h4 => by
          rcases h4 with ⟨h4, h5⟩ | ⟨h4, h5⟩
          · exact .inl ⟨h4, g1, h5, h2.1, Nat.lt_of_lt_of_le h2.2 h3.size⟩
          · exact .inr ⟨h4, own_low h5 h1.size⟩)
        have HFIN := Lib.hid (fun (wx : World) (v' : Value) (hE : Ext w7 wx) (ho : wx.ownsRow w7.heap.size 34 12 v' (L - 1) ((S.eraseIdx k).map mC).flatten ∨ (L = 1 ∧ EmpB w7.heap.size v' wx)) => HR.out.toSentS.taken HN7.out hE HL.out hkL ho)
        have HLE := Lib.hid (show (S.eraseIdx k).length = L - 1 from by rw [List.length_eraseIdx, if_pos (by have := HL.out; omega), ← HL.out])
        clear hj
        go_upto_region 21 with fail
        apply Mono.region1 9 Ext [.rel (EmpB w7.heap.size), .is _, .is _, .is _, .rel (HalfB w7.heap.size k ((S.take k).map mC).flatten), .is _, .is _, .is _, .is _] (by kernel_rfl) Ext.refl (fun _ _ _ => Ext.trans) (by kernel_rfl) rfl rfl ⟨fun _ _ _ h hE => h.ext hE, fun _ _ _ h hE => h.ext hE, trivial⟩
        focus
          refine Mono.step_rel (Mono.obl_mk fun w12 hE12 _ K hK => ?_) fun v78 => ?_
          · have HS12 := Lib.hid (show w7.heap.size ≤ w12.heap.size from hE12.size)
            clear hE12
            go_wp2_with fail
            simp only [Act.put, List.setIfInBounds_toArray, List.set_cons_succ, List.set_cons_zero] at hK
            exact hK _ _ (Ext.alloc _ _) (Mono.rel_mk ⟨w12.heap.size, rfl, HS12.out, by simp⟩)
          simp only [Act.put, List.setIfInBounds_toArray, List.set_cons_succ, List.set_cons_zero]
          iterate 3 (apply Mono.step_is; (· refine Mono.obl_mk fun w13 hE13 _ K hK => ?_; clear hE13; go_wp2_with fail; simp only [Act.put, List.setIfInBounds_toArray, List.set_cons_succ, List.set_cons_zero] at hK; exact hK _ _ (Ext.refl _) (Mono.is_rfl _ _)); simp only [Act.put, List.setIfInBounds_toArray, List.set_cons_succ, List.set_cons_zero])
          refine Mono.step_rel (Mono.obl_mk fun w12 hE12 hkk K hK => ?_) fun v82 => ?_
          · obtain ⟨g1, rfl, hg1, hg2⟩ := hkk.1 (by kernel_rfl)
            have HG := Lib.hid (show w7.heap.size ≤ g1 ∧ g1 < w12.heap.size from ⟨hg1, hg2⟩)
            have HE12 := Lib.hid (show Ext w7 w12 from (Ext.drew w7).trans hE12)
            have HE12b := HE12
            clear hkk hE12 hg1 hg2
            go_wp2_with (at_builtin; refine wpList_append_half rfl (.tmp 78) (.tmp 81) _ rfl 34 _ 12 144 Try.underlying22 infoMsg rfl (by omega) g1 rfl (some ⟨sb, so, none⟩) k sc ((S.take k).map mC).flatten rfl HLEN1.out (.inr ⟨_, rfl, HNEW1.out w12 HE12.out⟩) (by unfold maxLen; omega) (by omega) ?_; intro v' w8 hh hE8; have HH8 := Lib.hid (HHALF.out w12 w8 g1 v' HE12b.out HG.out hE8 hh); have HE8 := Lib.hid hE8; clear hh hE8)
            simp only [Act.put, List.setIfInBounds_toArray, List.set_cons_succ, List.set_cons_zero] at hK
            exact hK _ _ HE8.out (Mono.rel_mk HH8.out)
          simp only [Act.put, List.setIfInBounds_toArray, List.set_cons_succ, List.set_cons_zero]
          iterate 4 (apply Mono.step_is; (· refine Mono.obl_mk fun w13 hE13 _ K hK => ?_; clear hE13; go_wp2_with fail; simp only [Act.put, List.setIfInBounds_toArray, List.set_cons_succ, List.set_cons_zero] at hK; exact hK _ _ (Ext.refl _) (Mono.is_rfl _ _)); simp only [Act.put, List.setIfInBounds_toArray, List.set_cons_succ, List.set_cons_zero])
          refine Mono.step_end fun w12 hE12 hkk => ?_
          simp only [List.drop_succ_cons, List.drop_zero]
          have HE12 := Lib.hid (show Ext w7 w12 from (Ext.drew w7).trans hE12)
          obtain ⟨hk0, g1, rfl, hg1, hg2⟩ | ⟨hkp, ho82⟩ := hkk.2.1
          · have HG1 := Lib.hid (show w7.heap.size ≤ g1 ∧ g1 < w12.heap.size from ⟨hg1, hg2⟩); have HK0 := Lib.hid hk0
            clear hkk hE12 hk0 hg1 hg2
            go_wp2_with (at_builtin; refine wpList_append_half rfl (.tmp 82) (.tmp 86) _ rfl 34 _ 12 144 Try.underlying22 infoMsg rfl (by omega) g1 rfl (some A) (L - j) (sc - j) ((S.drop j).map mC).flatten rfl HLEN2.out (.inr ⟨A, rfl, HNEW2.out w12 HE12.out⟩) (by unfold maxLen; omega) (by omega) ?_; intro v' w8 hh hE8; have HF8 := Lib.hid (HFIN.out w8 v' (HE12.out.trans hE8) (by
              rcases hh with ⟨h4, h5⟩ | ⟨h4, h5⟩
              · exact .inr ⟨by have := HJ.out; have := HK0.out; omega, g1, h5, HG1.out.1, Nat.lt_of_lt_of_le HG1.out.2 hE8.size⟩
              · refine .inl ?_
                have h6 := own_low h5 HE12.out.size
                rw [show L - j = L - 1 by have := HJ.out; have := HK0.out; omega, show ((S.drop j).map mC).flatten = ((S.eraseIdx k).map mC).flatten from by rw [← HROW.out, HK0.out]; simp] at h6
                exact h6)); clear hh hE8)
            go_roundg (L - 1)
            case measure => omega
            case rel => exact ⟨i + 1, lv4, l.eraseIdx k, S.eraseIdx k, by go_num, by rw [HLE.out]; omega, HLE.out, HF8.out⟩
          · have HO82 := Lib.hid ho82
            obtain ⟨ta, tn, tc, rfl⟩ := own_shape ho82
            obtain ⟨i0, hi0, hz0, hz1, hz2⟩ := info_parts infoMsg
            have HONE := Lib.hid (ones (S := S.drop j) (w := w) (fun q hq => HR.out.ok q (List.mem_of_mem_drop hq)))
            clear hkk hE12 ho82 hkp
            go_wp2_with (at_builtin; refine wpList_append_own w12 rfl (.tmp 82) (.tmp 86) _ rfl w7.heap.size 34 i0 _ 12 144 Try.underlying22 hi0 hz0 hz1 hz2 rfl (by omega) (.slice ta tn tc) k ((S.take k).map mC).flatten rfl HO82.out A (L - j) (sc - j) ((S.drop j).map mC).flatten rfl HLEN2.out (HNEW2.out w12 HE12.out) HONE.out (by unfold maxLen; omega) (by omega) HE12.out.size ?_; intro v' w8 ho8 hg8 _; have HF8 := Lib.hid (HFIN.out w8 v' (own_extG HO82.out hg8 HE12.out (Nat.le_refl _)) (.inl (by rw [← HROW.out, show L - 1 = k + (L - j) by have := HJ.out; omega]; exact ho8))); clear ho8 hg8)
            go_roundg (L - 1)
            case measure => omega
            case rel => exact ⟨i + 1, lv4, l.eraseIdx k, S.eraseIdx k, by go_num, by rw [HLE.out]; omega, HLE.out, HF8.out⟩
end Go.Proofs.Ytjodgbabfhcilaa
