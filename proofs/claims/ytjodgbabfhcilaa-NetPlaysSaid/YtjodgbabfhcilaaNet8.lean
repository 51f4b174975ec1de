/- tabellionref19: the ways of the document's net. -/
import Derived.Test.YtjodgbabfhcilaaBun9
set_option linter.unusedSimpArgs false
set_option linter.unusedVariables false
namespace Go.Proofs.Ytjodgbabfhcilaa
open Go Go.RowKit Go.Maps

/-- v is a slice whose elements are the rows, of s cells each. -/
def RowV (w : World) (s : Nat) (v : Value) (rows : List (List Value)) : Prop := ∃ a c, v = .slice a rows.length c ∧ rows.length ≤ c ∧ c ≤ maxLen ∧
  (rows = [] ∨ ∃ b o, a = some ⟨b, o, none⟩ ∧ ∀ (i : Nat) r, rows[i]? = some r → ∀ (j : Nat) u, r[j]? = some u → w.cell? ⟨b, o + i * s + j, none⟩ = some u)
theorem RowV.nil (w : World) (s : Nat) : RowV w s (.slice none 0 0) [] := ⟨none, 0, rfl, Nat.le_refl _, by unfold maxLen; omega, .inl rfl⟩
theorem RowV.chg {w w' : World} {s : Nat} {v : Value} {rows : List (List Value)} {S : List Nat} (h : RowV w s v rows) (hg : Chg S w w') (ho : ∀ a n c, v = .slice (some a) n c → rows ≠ [] → a.block ∉ S) : RowV w' s v rows := by
  obtain ⟨a, c, hv, h1, h2, h3⟩ := h
  refine ⟨a, c, hv, h1, h2, ?_⟩
  by_cases hn : rows = []
  · exact .inl hn
  · rcases h3 with h3 | ⟨b, o, rfl, hc⟩
    · exact absurd h3 hn
    · exact .inr ⟨b, o, rfl, fun i r hr j u hj => cell_chg hg (hc i r hr j u hj) (by have := ho _ _ _ hv hn; exact this)⟩
theorem RowV.ext {w w' : World} {s : Nat} {v : Value} {rows : List (List Value)} (h : RowV w s v rows) (hE : Ext w w') : RowV w' s v rows := h.chg (S := []) (Chg.ext hE) (by simp)
theorem RowV.of_own {w : World} {base s : Nat} {e : TypeId} {v : Value} {rows : List (List Value)} (h : w.ownsRow base e s v rows.length rows.flatten) (hs : ∀ r ∈ rows, r.length = s) : RowV w s v rows := by
  rcases h.2 with ⟨hv, h0⟩ | ⟨g, cap, cur, hv, _, hh, h1, h2, h3, h4⟩
  · have : rows = [] := List.eq_nil_of_length_eq_zero h0
    subst this
    exact ⟨none, 0, hv, Nat.le_refl _, by unfold maxLen; omega, .inl rfl⟩
  · refine ⟨_, cap, hv, h1, h2, .inr ⟨g, 0, rfl, fun i r hr j u hj => ?_⟩⟩
    rw [Nat.zero_add]
    refine (show Blk w g cur e from hh).cell _ ?_
    have key : ∀ (rows : List (List Value)) (i : Nat) (r : List Value), (∀ r ∈ rows, r.length = s) → rows[i]? = some r → r[j]? = some u → rows.flatten[i * s + j]? = some u := by
      intro rows
      induction rows with
      | nil => intro i r _ hi _; simp at hi
      | cons x t ih =>
        intro i r hs hi hj
        have hx := hs x (by simp)
        rw [List.flatten_cons]
        cases i with
        | zero =>
          simp at hi; subst hi
          have hjl := (List.getElem?_eq_some_iff.1 hj).1
          rw [List.getElem?_append_left (by omega)]
          simpa using hj
        | succ i =>
          simp at hi
          rw [List.getElem?_append_right (by rw [hx, Nat.succ_mul]; omega), hx, show (i + 1) * s + j - s = i * s + j by rw [Nat.succ_mul]; omega]
          exact ih i r (fun r hr => hs r (by simp [hr])) hi hj
    have hk := key rows i r hs hr hj
    rw [← h4, List.getElem?_take] at hk
    split at hk
    · simpa using hk
    · cases hk
/-- A way's cells. -/
def wayR (q : Int × Int) : List Value := [.int .u64 q.1, .int .u64 q.2]
/-- r is the document's net: its ways are ws; none of its blocks is in A. -/
structure RefW (w : World) (r : Nat) (ls wv : Value) (ws : List (Int × Int)) (A : List Nat) : Prop where
  rb : Blk w r #[ls, wv] 45
  ways : RowV w 2 wv (ws.map wayR)
  rA : r ∉ A
  wA : ∀ a n c, wv = .slice (some a) n c → a.block ∉ A ∧ a.block ≠ r
  wlt : ∀ a n c, wv = .slice (some a) n c → a.block < w.heap.size
theorem RefW.chg {w w' : World} {r : Nat} {ls wv : Value} {ws : List (Int × Int)} {A S : List Nat} (h : RefW w r ls wv ws A) (hg : Chg S w w') (hS : ∀ t ∈ S, t ∈ A) : RefW w' r ls wv ws A :=
  ⟨h.rb.chg hg (fun hm => h.rA (hS r hm)), h.ways.chg hg (fun a n c e _ hm => (h.wA a n c e).1 (hS _ hm)), h.rA, h.wA, fun a n c e => Nat.lt_of_lt_of_le (h.wlt a n c e) hg.size⟩
theorem RefW.more {w : World} {r : Nat} {ls wv : Value} {ws : List (Int × Int)} {A A' : List Nat} (h : RefW w r ls wv ws A) (hA : ∀ t ∈ A', t ∈ A ∨ w.heap.size ≤ t) : RefW w r ls wv ws A' :=
  ⟨h.rb, h.ways, fun hm => (hA r hm).elim h.rA (fun e => by have := h.rb.lt; omega), fun a n c e => ⟨fun hm => (hA _ hm).elim (h.wA a n c e).1 (fun e2 => by have := h.wlt a n c e; omega), (h.wA a n c e).2⟩, h.wlt⟩
theorem RefW.ext {w w' : World} {r : Nat} {ls wv : Value} {ws : List (Int × Int)} {A : List Nat} (h : RefW w r ls wv ws A) (hE : Ext w w') : RefW w' r ls wv ws A := h.chg (Chg.ext hE : Chg [] w w') (by simp)
theorem RefW.shape {w : World} {r : Nat} {ls wv : Value} {ws : List (Int × Int)} {A : List Nat} (h : RefW w r ls wv ws A) : ∃ a c, wv = .slice a ws.length c ∧ ws.length ≤ c ∧ c ≤ maxLen ∧ ∀ (k : Nat) q, ws[k]? = some q → ∃ b o, a = some ⟨b, o, none⟩ ∧ w.cell? ⟨b, o + k * 2, none⟩ = some (.int .u64 q.1) ∧ w.cell? ⟨b, o + k * 2 + 1, none⟩ = some (.int .u64 q.2) := by
  obtain ⟨a, c, hv, h1, h2, h3⟩ := h.ways
  rw [List.length_map] at hv h1
  refine ⟨a, c, hv, h1, h2, fun k q hq => ?_⟩
  rcases h3 with h3 | ⟨b, o, ha, hc⟩
  · have := List.map_eq_nil_iff.1 h3; rw [this] at hq; simp at hq
  · have hr := hc k (wayR q) (by rw [List.getElem?_map, hq]; rfl)
    exact ⟨b, o, ha, hr 0 _ rfl, hr 1 _ rfl⟩
set_option maxRecDepth 100000 in
set_option maxHeartbeats 4000000 in
theorem rblocked_c {w : World} {r : Nat} {ls wv : Value} {ws : List (Int × Int)} {A : List Nat} (h : RefW w r ls wv ws A) (a b : Int) :
    Calls Try.prog 25 #[ptr r, .int .u64 a, .int .u64 b] w fun e w' => e = .returned (.bool (decide ((a, b) ∈ ws))) ∧ w' = w := by
  obtain ⟨wa, wc, rfl, hc1, hc2, hat⟩ := h.shape
  obtain ⟨L, hL⟩ : ∃ L, L = ws.length := ⟨_, rfl⟩
  have c1 := h.rb.cell 1 rfl
  simp only [List.getElem_toArray, List.getElem_cons_zero, List.getElem_cons_succ] at c1
  rw [← hL] at c1 hc1
  replace hc2 : L ≤ 9223372036854775807 := by unfold maxLen at hc2; omega
  have HAT := Lib.hid hat; have HL := Lib.hid hL
  obtain ⟨z, hz⟩ : ∃ z, z = decide ((a, b) ∈ ws) := ⟨_, rfl⟩
  rw [← hz]
  have HZ := Lib.hid hz
  clear h hat hL hz
  go_enter Try.func25, Try.ntmps25
  go_wp2_with fail
  go_loopg [7] L (fun g v7 wr => ∃ k : Nat, v7 = .int .i64 (k : Int) ∧ k + g = L ∧ wr = w ∧ ∀ (j : Nat) q, j < k → ws[j]? = some q → q ≠ (a, b))
  case atStart => exact ⟨0, rfl, by omega, rfl, fun j q hj => by omega⟩
  case round =>
    obtain ⟨k, rfl, hk, rfl, hno⟩ := hrel
    have HNO := Lib.hid hno
    clear hno
    by_cases hlt : k < L
    · have hlt' : (k : Int) < (L : Int) := by omega
      obtain ⟨q, hq⟩ : ∃ q, ws[k]? = some q := ⟨_, List.getElem?_eq_getElem (by have := HL.out; omega)⟩
      obtain ⟨bb, o, rfl, k0, k1⟩ := HAT.out k q hq
      have HQ := Lib.hid hq
      obtain ⟨x, y⟩ := q
      dsimp only at k0 k1
      clear hq
      by_cases hx : x = a
      · subst hx
        by_cases hy : y = b
        · subst hy
          obtain rfl : z = true := HZ.out.trans (decide_eq_true (List.mem_of_getElem? HQ.out))
          go_wp2_with fail
          go_ret
          exact ⟨rfl, rfl⟩
        · have hy1 : (y == b) = false := beq_eq_false_iff_ne.2 hy
          have HY := Lib.hid (show (x, y) ≠ (x, b) from fun e => hy (Prod.mk.inj e).2)
          clear hy
          go_wp2_with fail
          go_roundg (L - (k + 1))
          case measure => omega
          case rel =>
            refine ⟨k + 1, by go_num, by omega, rfl, fun j q hj hjq => ?_⟩
            rcases Nat.lt_succ_iff_lt_or_eq.1 hj with h1 | rfl
            · exact HNO.out j q h1 hjq
            · rw [HQ.out] at hjq; cases hjq; exact HY.out
      · have hx1 : (x == a) = false := beq_eq_false_iff_ne.2 hx
        have HY := Lib.hid (show (x, y) ≠ (a, b) from fun e => hx (Prod.mk.inj e).1)
        clear hx
        go_wp2_with fail
        go_roundg (L - (k + 1))
        case measure => omega
        case rel =>
          refine ⟨k + 1, by go_num, by omega, rfl, fun j q hj hjq => ?_⟩
          rcases Nat.lt_succ_iff_lt_or_eq.1 hj with h1 | rfl
          · exact HNO.out j q h1 hjq
          · rw [HQ.out] at hjq; cases hjq; exact HY.out
    · have hge : (L : Int) ≤ (k : Int) := by omega
      clear hlt
      obtain rfl : z = false := HZ.out.trans (decide_eq_false (fun hm => by
        obtain ⟨j, hj⟩ := List.getElem?_of_mem hm
        exact HNO.out j _ (by have := (List.getElem?_eq_some_iff.1 hj).1; have := HL.out; omega) hj rfl))
      go_wp2_with fail
      go_ret
      exact ⟨rfl, rfl⟩
section
variable {P : Program} {w : World} {ops : Array Oper} {rest : List Oper} {o : Oper} {a : Act} {Q : Exit → Act → World → Prop} {e : TypeId} {z : Value}
/-- 'append(s, x)', x of several cells, which the walk has just laid in a new block. -/
theorem wpList_push_row (hgd : o.guard = none) (s x : Operand) (t' : TypeId) (ho : o.op = .call { callee := .builtin .append, args := #[s, x], argTypes := #[t', t'] })
    (size bytes : Nat) (ht : P.underlying t' = some (.slice e)) (hi : (P.info? e).map (fun i => (i.zero, i.size, i.bytes)) = some (some z, size, bytes)) (hzs : z.cells.size = size) (hsz : 0 < size)
    (base : Nat) (v : Value) (n : Nat) (xs us : List Value) (hs : a.eval s = v) (hown : w.ownsRow base e size v n xs) (hl : us.length = size) (hx : a.eval x = .slice (some ⟨w.heap.size, 0, none⟩) 1 1) (h1 : ∀ u ∈ us, u.oneCell' = true)
    (hb1 : (n + 1) * bytes ≤ 140737488355328) (hb2 : n + 1 ≤ maxLen) (hbase : base ≤ w.heap.size) {W : World} (hW : W = w.alloc (.cells us.toArray e))
    (h : ∀ v' w', w'.ownsRow base e size v' (n + 1) (xs ++ us) → w.grownBy w' v.ownBlock → wpList P ops Q rest (a.put o.dst v') w') : wpList P ops Q (o :: rest) a W := by
  subst hW
  obtain ⟨i, hi, hz, hsz', hby⟩ := info_parts hi
  have hB := Blk.new w us.toArray e
  refine wpList_append_own (w.alloc (.cells us.toArray e)) hgd s x t' ho base e i z size bytes ht hi hz hsz' hby hzs hsz v n xs hs (hown.alloc _) _ 1 1 us hx (by omega) (fun j u hj => by rw [Addr.add_lit, Nat.zero_add]; exact hB.cell j (by simpa using hj)) h1 (by omega) hb1 (by simp; omega) fun v' w' g1 g2 _ => h v' w' g1 ?_
  have ga := World.grownBy_alloc w (.cells us.toArray e) v.ownBlock
  refine ⟨g2.os.trans ga.os, g2.tape.trans ga.tape, g2.output.trans ga.output, Nat.le_trans ga.size g2.size, fun k hk hne => (g2.block k (by have := ga.size; omega) hne).trans (ga.block k hk hne)⟩
end
/-- The document's ways behind a Block. -/
def blockW (ws : List (Int × Int)) (a b : Int) (y : Bool) : List (Int × Int) := ws.filter (fun q => !decide (q = (a, b))) ++ (if y then [(a, b)] else [])
theorem infoWay : (Try.prog.info? 74).map (fun i => (i.zero, i.size, i.bytes)) = some (some (.agg #[.int .u64 0, .int .u64 0]), 2, 16) := by kernel_rfl
theorem own_extG {w w' : World} {B : Nat} {v : Value} {e : TypeId} {s n : Nat} {xs : List Value} {w0 : World} (h : w.ownsRow B e s v n xs) (hg : w.grownBy w' v.ownBlock) (hE : Ext w0 w) (hB : w0.heap.size ≤ B) : Ext w0 w' := by
  refine Below.grown (show Below w0.heap.size w0 w from hE) hg hE.size fun k hk => ?_
  rcases h.2 with ⟨h1, _⟩ | ⟨g, cap, cur, h1, h2, _⟩
  · rw [h1] at hk; cases hk
  · rw [h1] at hk; simp [Value.ownBlock] at hk; omega
set_option maxRecDepth 100000 in
set_option maxHeartbeats 4000000 in
theorem rblock_c {w : World} {r : Nat} {ls wv : Value} {ws : List (Int × Int)} {A : List Nat} (h : RefW w r ls wv ws A) (hA : ∀ t ∈ A, t < w.heap.size) (hl : ws.length ≤ 1000) (a b : Int) (y : Bool) :
    Calls Try.prog 22 #[ptr r, .int .u64 a, .int .u64 b, .bool y] w fun e w' => e = .returned (.tuple #[]) ∧ ∃ wv', RefW w' r ls wv' (blockW ws a b y) A ∧ Chg [r] w w' := by
  obtain ⟨wa, wc, rfl, hc1, hc2, hat⟩ := h.shape
  obtain ⟨L, hL⟩ : ∃ L, L = ws.length := ⟨_, rfl⟩
  have c1 := h.rb.cell 1 rfl
  simp only [List.getElem_toArray, List.getElem_cons_zero, List.getElem_cons_succ] at c1
  rw [← hL] at c1 hc1 hl
  replace hc2 : L ≤ 9223372036854775807 := by unfold maxLen at hc2; omega
  have HH := Lib.hid h; have HA := Lib.hid hA
  have HAT := Lib.hid hat; have HL := Lib.hid hL; have HC1 := Lib.hid c1
  clear h hat hL hA c1
  go_enter Try.func22, Try.ntmps22
  go_wp2_with fail
  go_loopg [8, 9] L (fun g v8 v9 wr => ∃ (k : Nat) (R : List (Int × Int)), v9 = .int .i64 (k : Int) ∧ k + g = L ∧ R = (ws.take k).filter (fun q => !decide (q = (a, b))) ∧ R.length ≤ k ∧ wr.ownsRow w.heap.size 74 2 v8 R.length (R.map wayR).flatten ∧ Ext w wr)
  case atStart => exact ⟨0, [], rfl, by omega, by simp, by simp, ⟨rfl, .inl ⟨rfl, rfl⟩⟩, Ext.refl _⟩
  case round =>
    obtain ⟨k, R, rfl, hk, hR, hRk, hown, hE⟩ := hrel
    have HO := Lib.hid hown; have HE := Lib.hid hE; have HR := Lib.hid hR
    have c1 := hE.cell HC1.out
    clear hown hE hR
    by_cases hlt : k < L
    · have hlt' : (k : Int) < (L : Int) := by omega
      obtain ⟨q, hq⟩ : ∃ q, ws[k]? = some q := ⟨_, List.getElem?_eq_getElem (by have := HL.out; omega)⟩
      obtain ⟨bb, o, rfl, k0, k1⟩ := HAT.out k q hq
      have HQ := Lib.hid hq
      have HTK := Lib.hid (show ws.take (k + 1) = ws.take k ++ [q] from by rw [List.take_add_one, hq]; rfl)
      obtain ⟨x, z⟩ := q
      dsimp only at k0 k1
      replace k0 := HE.out.cell k0; replace k1 := HE.out.cell k1
      clear hq
      by_cases hxz : (x, z) = (a, b)
      · obtain ⟨rfl, rfl⟩ := Prod.mk.inj hxz
        clear hxz
        go_wp2_with fail
        go_roundg (L - (k + 1))
        case measure => omega
        case rel =>
          refine ⟨k + 1, R, by go_num, by omega, ?_, by omega, HO.out, HE.out⟩
          rw [HTK.out, List.filter_append, ← HR.out]; simp
      · have HNE := Lib.hid hxz
        have hR1 : ((ws.take (k + 1)).filter (fun q => !decide (q = (a, b)))) = R ++ [(x, z)] := by
          rw [HTK.out, List.filter_append, ← HR.out]; simp [hxz]
        have HR1 := Lib.hid hR1
        have hor : ((x == a) = false) ∨ (x = a ∧ (z == b) = false) := by
          by_cases e1 : x = a
          · exact .inr ⟨e1, beq_eq_false_iff_ne.2 fun e2 => hxz (by rw [e1, e2])⟩
          · exact .inl (beq_eq_false_iff_ne.2 e1)
        clear hxz hR1
        rcases hor with h1 | ⟨rfl, h1⟩
        · go_wp2_with (at_builtin; refine wpList_push_row rfl (.tmp 41) (.tmp 49) _ rfl 2 16 Try.underlying43 infoWay rfl (by omega) w.heap.size _ R.length (R.map wayR).flatten [.int .u64 x, .int .u64 z] rfl HO.out rfl rfl (by simp [Value.oneCell']) (by omega) (by unfold maxLen; omega) HE.out.size rfl ?_; intro v' w' ho' hg'; have HO' := Lib.hid ho'; have HE' := Lib.hid (own_extG HO.out hg' HE.out (Nat.le_refl _)); clear ho' hg')
          go_roundg (L - (k + 1))
          case measure => omega
          case rel =>
            exact ⟨k + 1, R ++ [(x, z)], by go_num, by omega, HR1.out.symm, by simp; omega, by simpa [wayR] using HO'.out, HE'.out⟩
        · go_wp2_with (at_builtin; refine wpList_push_row rfl (.tmp 41) (.tmp 49) _ rfl 2 16 Try.underlying43 infoWay rfl (by omega) w.heap.size _ R.length (R.map wayR).flatten [.int .u64 x, .int .u64 z] rfl HO.out rfl rfl (by simp [Value.oneCell']) (by omega) (by unfold maxLen; omega) HE.out.size rfl ?_; intro v' w' ho' hg'; have HO' := Lib.hid ho'; have HE' := Lib.hid (own_extG HO.out hg' HE.out (Nat.le_refl _)); clear ho' hg')
          go_roundg (L - (k + 1))
          case measure => omega
          case rel =>
            exact ⟨k + 1, R ++ [(x, z)], by go_num, by omega, HR1.out.symm, by simp; omega, by simpa [wayR] using HO'.out, HE'.out⟩
    · have hge : (L : Int) ≤ (k : Int) := by omega
      clear hlt
      have hRf : R = ws.filter (fun q => !decide (q = (a, b))) := by rw [HR.out, List.take_of_length_le (by have := HL.out; omega)]
      have HRF := Lib.hid hRf
      have HRB := Lib.hid (HH.out.rb.ext HE.out)
      have hfz := HRB.out.free 1
      have hrl := HH.out.rb.lt
      have HRL := Lib.hid hrl
      obtain ⟨sa, sn, sc, rfl⟩ := own_shape HO.out
      have fin : ∀ (wx : World) (v' : Value) (R' : List (Int × Int)), wx.ownsRow w.heap.size 74 2 v' R'.length (R'.map wayR).flatten → Ext w wx → RefW (wx.setCell ⟨r, 1, none⟩ v') r ls v' R' A ∧ Chg [r] w (wx.setCell ⟨r, 1, none⟩ v') := fun wx v' R' ho hE => by
        have hfr := From.ownS ho
        refine ⟨⟨by simpa using (HH.out.rb.ext hE).set 1 v', ?_, HH.out.rA, fun a n c e => ?_, fun a n c e => ?_⟩, (Chg.ext hE : Chg [r] w wx).trans (Chg.set r 1 v' (by simp))⟩
        · refine RowV.chg (S := [r]) (RowV.of_own (by rw [List.length_map]; exact ho) (fun x hx => by obtain ⟨q, _, rfl⟩ := List.mem_map.1 hx; rfl)) (Chg.set r 1 v' (by simp)) (fun a n c e _ hm => ?_)
          have := hfr a n c e
          simp at hm
          omega
        · have := hfr a n c e
          exact ⟨fun hm => by have := HA.out _ hm; omega, by omega⟩
        · rcases ho.2 with ⟨h1, _⟩ | ⟨g, cap, cur, h1, _, h3, _⟩
          · rw [h1] at e; cases e
          · rw [h1] at e
            cases e
            have := (Array.getElem?_eq_some_iff.1 h3).1
            simpa using this
      have FIN := Lib.hid fin
      clear hRf hrl fin
      cases y with
      | false =>
        go_wp2_with fail
        have hf := FIN.out wr _ R HO.out HE.out
        exact bodyPost_end (results_none Try.results22 _ _ _) rfl ⟨rfl, _, by rw [show blockW ws a b false = R from by rw [HRF.out]; simp [blockW]]; exact hf.1, hf.2⟩
      | true =>
        go_wp2_with (at_builtin; refine wpList_push_row rfl (.tmp 52) (.tmp 56) _ rfl 2 16 Try.underlying43 infoWay rfl (by omega) w.heap.size _ R.length (R.map wayR).flatten [.int .u64 a, .int .u64 b] rfl HO.out rfl rfl (by simp [Value.oneCell']) (by omega) (by unfold maxLen; omega) HE.out.size rfl ?_; intro v' w' ho' hg'; obtain ⟨ta, tn, tc, rfl⟩ := own_shape ho'; have HO' := Lib.hid ho'; have HE' := Lib.hid (own_extG HO.out hg' HE.out (Nat.le_refl _)); have hb' := HH.out.rb.ext HE'.out; have d1 := hb'.cell 1 rfl; have dfz := hb'.free 1; simp only [List.getElem_toArray, List.getElem_cons_zero, List.getElem_cons_succ] at d1; clear ho' hg' hb' c1 hfz)
        have hf := FIN.out _ _ (R ++ [(a, b)]) (by simpa [wayR] using HO'.out) HE'.out
        exact bodyPost_end (results_none Try.results22 _ _ _) rfl ⟨rfl, _, by rw [show blockW ws a b true = R ++ [(a, b)] from by rw [HRF.out]; simp [blockW]]; exact hf.1, hf.2⟩
end Go.Proofs.Ytjodgbabfhcilaa
