/- Words for what slices read as, and for what a call leaves alone; append and its kin said in those words. Of any program. -/
import Derived.WalkKit
import Derived.WalkSpells
import Derived.WalkLawsBesides
import Derived.Lib.Hide
import Derived.Laws.BytesArg
import Derived.Lib.Strings
import Derived.Laws.AppendOwnNone
import Derived.Deep.LoopGhost
import Derived.Deep.Draws
import Derived.Test.YtafjjladnghjbaaGreatDoorMono
namespace Go.Proofs.YtafjjladnghjbaaGreatDoor
open Go Go.RowKit

/-! ### What a call leaves alone -/
/-- All blocks of w are in w' as they were. -/
def Ext (w w' : World) : Prop := Below w.heap.size w w'

theorem Ext.refl (w : World) : Ext w w := Below.refl _ _
theorem Ext.trans {a b c : World} (h : Ext a b) (k : Ext b c) : Ext a c := Below.trans h (Below.mono k h.size)
theorem Ext.of {w w' : World} (h : Below w.heap.size w w') : Ext w w' := h
theorem Ext.below {w w' : World} (h : Ext w w') : Below w.heap.size w w' := h
theorem Ext.belowN {w w' : World} {n : Nat} (h : Ext w w') (hn : n ≤ w.heap.size) : Below n w w' := Below.mono h hn
theorem Ext.alloc (w : World) (o : Obj) : Ext w (w.alloc o) := (Below.refl _ w).alloc (Nat.le_refl _) o
theorem Ext.drew (w : World) : Ext w w.drew := (Below.refl _ w).drew
theorem Ext.drewN (w : World) (n : Nat) : Ext w (w.drewN n) := ⟨rfl, rfl, rfl, Nat.le_refl _, fun _ _ => rfl⟩
theorem Ext.size {w w' : World} (h : Ext w w') : w.heap.size ≤ w'.heap.size := Below.size h
theorem Ext.cell {w w' : World} (h : Ext w w') {p : Addr} {v : Value} (hc : w.cell? p = some v) : w'.cell? p = some v :=
  (Below.cell h (World.block_lt_of_cell? w p hc)).trans hc
theorem Ext.frozen {w w' : World} (h : Ext w w') {p : Addr} (hp : p.block < w.heap.size) {b : Bool} (hf : w.frozen? p = b) : w'.frozen? p = b := (Below.frozen h hp).trans hf
theorem Ext.heap {w w' : World} (h : Ext w w') {k : Nat} {o : Obj} (hk : w.heap[k]? = some o) : w'.heap[k]? = some o :=
  (Below.block h k (Array.getElem?_eq_some_iff.1 hk).1).trans hk
theorem Ext.grown {w w' : World} {row : Option Nat} (hg : w.grownBy w' row) (hr : ∀ k, row = some k → w.heap.size ≤ k) : Ext w w' := (Below.refl _ w).grown hg (Nat.le_refl _) hr
theorem Ext.pre : Mono.Pre Ext Ext := ⟨fun _ _ h => h, fun _ _ _ => Ext.trans, fun _ _ _ => Ext.trans⟩

/-! ### Slices whose elements are one cell each -/
/-- v is a slice whose elements are, one cell each, cs. -/
def Rd (w : World) (v : Value) (cs : List Value) : Prop :=
  ∃ a c, v = .slice a cs.length c ∧ cs.length ≤ c ∧ c ≤ maxLen ∧ (cs = [] ∨ ∃ b o, a = some ⟨b, o, none⟩ ∧ ∀ j u, cs[j]? = some u → w.cell? ⟨b, o + j, none⟩ = some u)

theorem Rd.ext {w w' : World} {v : Value} {cs : List Value} (h : Rd w v cs) (hE : Ext w w') : Rd w' v cs := by
  obtain ⟨a, c, hv, h1, h2, h3⟩ := h
  refine ⟨a, c, hv, h1, h2, h3.imp id ?_⟩
  rintro ⟨b, o, ha, hc⟩
  exact ⟨b, o, ha, fun j u hj => hE.cell (hc j u hj)⟩

theorem Rd.nil (w : World) : Rd w (.slice none 0 0) [] := ⟨none, 0, rfl, Nat.zero_le _, Nat.zero_le _, .inl rfl⟩

theorem Rd.len {w : World} {v : Value} {cs : List Value} (h : Rd w v cs) : cs.length ≤ maxLen := by obtain ⟨_, _, _, h1, h2, _⟩ := h; omega

theorem Rd.shape {w : World} {v : Value} {cs : List Value} (h : Rd w v cs) : ∃ a n c, v = .slice a n c := by obtain ⟨a, c, hv, _⟩ := h; exact ⟨a, _, c, hv⟩

theorem Rd.of_own {w : World} {base : Nat} {e : TypeId} {v : Value} {n : Nat} {xs : List Value} (h : w.ownsRow base e 1 v n xs) : Rd w v xs := by
  obtain ⟨hl, h⟩ := h
  simp only [Nat.mul_one] at hl
  rcases h with ⟨rfl, rfl⟩ | ⟨g, cap, cur, rfl, _, hg, h1, h2, h3, h4⟩
  · rw [List.eq_nil_of_length_eq_zero hl]; exact Rd.nil w
  · refine ⟨_, cap, by rw [hl], by omega, h2, .inr ⟨g, 0, rfl, fun j u hj => ?_⟩⟩
    rw [Nat.zero_add, cell_of_row w g j cur e (0, 0) hg]
    rw [← h4, List.getElem?_take] at hj
    split at hj
    · simpa using hj
    · cases hj

/-- The element type of a slice type: its row of the table. -/
structure ElT (P : Program) (t e : TypeId) (z : Value) (bytes : Nat) : Prop where
  ty : P.underlying t = some (.slice e)
  info : ∃ i, P.info? e = some i ∧ i.zero = some z ∧ i.size = 1 ∧ i.bytes = bytes
  one : z.cells.size = 1

theorem ElT.mk' {P : Program} {t e : TypeId} {z : Value} {bytes : Nat} (ht : P.underlying t = some (.slice e)) (h : (P.info? e).map (fun i => (i.zero, i.size, i.bytes)) = some (some z, 1, bytes)) (ho : z.cells.size = 1) : ElT P t e z bytes :=
  ⟨ht, info_parts h, ho⟩

section
variable {P : Program} {w : World} {ops : Array Oper} {rest : List Oper} {o : Oper} {a : Act} {Q : Exit → Act → World → Prop} {t e : TypeId} {z : Value} {bytes base : Nat} {v : Value} {xs : List Value}

theorem own_len {n : Nat} (h : w.ownsRow base e 1 v n xs) : xs.length = n := by have := h.1; omega

/-- 'append(s, x...)', s the call's own, x whatever reads as cs. -/
theorem wpList_append_rd (hgd : o.guard = none) (s x : Operand) (t' : TypeId) (ho : o.op = .call { callee := .builtin .append, args := #[s, x], argTypes := #[t', t'] })
    (hT : ElT P t' e z bytes) (base : Nat) (v : Value) (n : Nat) (xs cs : List Value) (hs : a.eval s = v) (hown : w.ownsRow base e 1 v n xs) (vx : Value) (hx : a.eval x = vx) (hrd : Rd w vx cs) (h1 : ∀ u ∈ cs, u.oneCell' = true)
    (hb1 : (n + cs.length) * bytes ≤ 140737488355328) (hb2 : n + cs.length ≤ maxLen) (hbase : base ≤ w.heap.size)
    (h : ∀ v' w', w'.ownsRow base e 1 v' (n + cs.length) (xs ++ cs) → w.grownBy w' v.ownBlock → wpList P ops Q rest (a.put o.dst v') w') : wpList P ops Q (o :: rest) a w := by
  obtain ⟨i, hi, hz, hsz, hby⟩ := hT.info
  obtain ⟨ad, c, rfl, hlc, hcm, hcs⟩ := hrd
  cases ad with
  | none =>
    have hnil : cs = [] := by rcases hcs with h0 | ⟨b, o', h0, _⟩; exact h0; cases h0
    subst hnil
    refine wpList_plain hgd fun K hK => ?_
    have hcell : ∃ w'', (Builtin.append_ #[t', t'] o.type #[v, .slice none 0 c]).run P w = .ok v w'' ∧ w'' = w := by
      refine ⟨w, ?_, rfl⟩
      have hr := run_append_owned_none (P := P) (w := w) base t' o.type e i 1 hT.ty hi v n xs (by simpa [hsz] using hown)
      rcases hown.2 with ⟨rfl, rfl⟩ | ⟨g, cap, cur, rfl, _, hg, h2, h3, h4, h5⟩
      · simp [Builtin.append_, run_underlying hT.ty, sizeOf, typeInfo, hi, Builtin.lenOf, Builtin.firstCells]
      · simp [Builtin.append_, run_underlying hT.ty, sizeOf, typeInfo, hi, Builtin.lenOf, Builtin.firstCells, h2, storeCells]
    obtain ⟨w'', hrun, rfl⟩ := hcell
    unfold Oper.wp
    simp [execOp, ho, resolve, invoke, builtin, hs, hx, hrun, Result.andThen]
    exact hK _ _ (h v w'' (by simpa using hown) (World.grownBy.refl _ _))
  | some ad =>
    refine wpList_append_own w hgd s x t' ho base e i z 1 bytes hT.ty hi hz hsz hby hT.one (by decide) v n xs hs hown ad cs.length c cs hx (by simp) ?_ h1 (by omega) hb1 hbase fun v' w' g1 g2 _ => h v' w' g1 g2
    intro j u hj
    rcases hcs with h0 | ⟨b, o', h0, hc⟩
    · rw [h0] at hj; simp at hj
    · cases h0
      rw [Addr.add_lit]; exact hc j u hj

/-- 'append(s, u)': one element, which the walk has just laid in a new block of one cell. -/
theorem wpList_push (hgd : o.guard = none) (s x : Operand) (t' : TypeId) (ho : o.op = .call { callee := .builtin .append, args := #[s, x], argTypes := #[t', t'] })
    (hT : ElT P t' e z bytes) (base : Nat) (v : Value) (n : Nat) (xs : List Value) (u : Value) (hs : a.eval s = v) (hown : w.ownsRow base e 1 v n xs) (e' : TypeId) (hx : a.eval x = .slice (some ⟨w.heap.size, 0, none⟩) 1 1) (h1 : u.oneCell' = true)
    (hb1 : (n + 1) * bytes ≤ 140737488355328) (hb2 : n + 1 ≤ maxLen) (hbase : base ≤ w.heap.size)
    (h : ∀ v' w', w'.ownsRow base e 1 v' (n + 1) (xs ++ [u]) → w.grownBy w' v.ownBlock → wpList P ops Q rest (a.put o.dst v') w') : wpList P ops Q (o :: rest) a (w.alloc (.cells #[u] e')) := by
  obtain ⟨i, hi, hz, hsz, hby⟩ := hT.info
  refine wpList_append_own (w.alloc (.cells #[u] e')) hgd s x t' ho base e i z 1 bytes hT.ty hi hz hsz hby hT.one (by decide) v n xs hs (hown.alloc _) _ 1 1 [u] hx rfl (cell_one_new _ _ _) (by simpa using h1) (by omega) hb1 (by simp; omega) fun v' w' g1 g2 _ => h v' w' g1 ?_
  have ga := World.grownBy_alloc w (.cells #[u] e') v.ownBlock
  refine ⟨g2.os.trans ga.os, g2.tape.trans ga.tape, g2.output.trans ga.output, Nat.le_trans ga.size g2.size, fun k hk hne => (g2.block k (by have := ga.size; omega) hne).trans (ga.block k hk hne)⟩
end

section
variable {P : Program} {w : World} {ops : Array Oper} {rest : List Oper} {o : Oper} {a : Act} {Q : Exit → Act → World → Prop} {t e : TypeId} {z : Value} {bytes : Nat}
/-- 'make([]T, 0, n)'. -/
theorem wpList_make0 (hg : o.guard = none) (l c : Operand) (t : TypeId) (hop : o.op = Op.makeSlice t l c) (hT : ElT P t e z bytes) (base : Nat) (kl kc : IntKind) (C : Int) (n : Nat) (hl : a.eval l = .int kl 0) (hc : a.eval c = .int kc C) (hC : C = (n : Int))
    (b2 : bytes * n ≤ 281474976710656) (b3 : n ≤ maxLen) (b4 : base ≤ w.heap.size)
    (hK : ∀ w', w'.ownsRow base e 1 (.slice (some ⟨w.heap.size, 0, none⟩) 0 n) 0 [] → w.grownBy w' none → wpList P ops Q rest (a.put o.dst (.slice (some ⟨w.heap.size, 0, none⟩) 0 n)) w') : wpList P ops Q (o :: rest) a w := by
  obtain ⟨i, hi, hz, hsz, hby⟩ := hT.info
  exact wpList_make_own w hg l c t hop base e i z 1 hT.ty hi hz hsz kl kc C n hl hc hC (by rw [hby]; exact b2) b3 b4 hK
/-- 'make([]T, n)'. -/
theorem wpList_makeN (hg : o.guard = none) (l c : Operand) (t : TypeId) (hop : o.op = Op.makeSlice t l c) (hT : ElT P t e z bytes) (base : Nat) (kl kc : IntKind) (L C : Int) (n : Nat) (hl : a.eval l = .int kl L) (hc : a.eval c = .int kc C) (hL : L = (n : Int)) (hC : C = (n : Int))
    (b2 : bytes * n ≤ 281474976710656) (b3 : n ≤ maxLen) (b4 : base ≤ w.heap.size)
    (hK : ∀ w', w'.ownsRow base e 1 (.slice (some ⟨w.heap.size, 0, none⟩) n n) n (madeCells z.cells n).toList → w.grownBy w' none → wpList P ops Q rest (a.put o.dst (.slice (some ⟨w.heap.size, 0, none⟩) n n)) w') : wpList P ops Q (o :: rest) a w := by
  obtain ⟨i, hi, hz, hsz, hby⟩ := hT.info
  exact wpList_make_full w hg l c t hop base e i z 1 hT.ty hi hz hsz kl kc L C n hl hc hL hC (by rw [hby]; exact b2) b3 b4 (by simpa using hK)
end

theorem own_n {w : World} {base : Nat} {e : TypeId} {v : Value} {n : Nat} {xs : List Value} (h : w.ownsRow base e 1 v n xs) : w.ownsRow base e 1 v xs.length xs := by
  have := own_len h; rw [this]; exact h
/-- A slice that the walk has just laid. -/
theorem own_lit (w : World) (l : List Value) (e : TypeId) (he : l.length ≤ maxLen) : (w.alloc (.cells l.toArray e)).ownsRow w.heap.size e 1 (.slice (some ⟨w.heap.size, 0, none⟩) l.length l.length) l.length l :=
  ⟨by simp, .inr ⟨w.heap.size, l.length, l.toArray, rfl, Nat.le_refl _, heap_alloc_new w _, Nat.le_refl _, he, by simp, by simp⟩⟩

/-- The ending of a call that hands back a new slice. -/
def RetOwn (E : TypeId) (w : World) (cs : List Value) (e : Ending) (w' : World) : Prop := ∃ v', e = .returned v' ∧ w'.ownsRow w.heap.size E 1 v' cs.length cs ∧ Ext w w'

/-- What the call owns stays while all that was there stays. -/
theorem own_ext {w w' : World} {base : Nat} {e : TypeId} {size : Nat} {v : Value} {n : Nat} {xs : List Value} (h : w.ownsRow base e size v n xs) (hE : Ext w w') : w'.ownsRow base e size v n xs := by
  obtain ⟨h1, h2⟩ := h
  refine ⟨h1, ?_⟩
  rcases h2 with h2 | ⟨g, cap, cur, hv, hg, hh, r⟩
  · exact .inl h2
  · exact .inr ⟨g, cap, cur, hv, hg, hE.heap hh, r⟩

theorem own_base {w : World} {base base' : Nat} {e : TypeId} {size : Nat} {v : Value} {n : Nat} {xs : List Value} (h : w.ownsRow base e size v n xs) (hb : base' ≤ base) : w.ownsRow base' e size v n xs := by
  obtain ⟨h1, h2⟩ := h
  refine ⟨h1, ?_⟩
  rcases h2 with h2 | ⟨g, cap, cur, hv, hg, r⟩
  · exact .inl h2
  · exact .inr ⟨g, cap, cur, hv, by omega, r⟩

theorem grown_trans {a b c : World} {r r' : Option Nat} (h : a.grownBy b r) (k : b.grownBy c r') (hr : r' = r ∨ ∀ i, r' = some i → a.heap.size ≤ i) : a.grownBy c r :=
  ⟨k.os.trans h.os, k.tape.trans h.tape, k.output.trans h.output, Nat.le_trans h.size k.size, fun i hi hne => by
    refine (k.block i (Nat.lt_of_lt_of_le hi h.size) fun e => ?_).trans (h.block i hi hne)
    rcases hr with hr | hr
    · exact hne (e.trans hr)
    · have := hr i e.symm; omega⟩

/-! ### Bytes, numbers -/
def u8s (xs : List Int) : List Value := xs.map (Value.int .u8)
def u64s (xs : List Int) : List Value := xs.map (Value.int .u64)
theorem u8s_one (xs : List Int) : ∀ u ∈ u8s xs, u.oneCell' = true := ints_oneCell _ _
theorem u64s_one (xs : List Int) : ∀ u ∈ u64s xs, u.oneCell' = true := ints_oneCell _ _
theorem one1 (k : IntKind) (n : Int) : ∀ u ∈ [Value.int k n], u.oneCell' = true := by intro u hu; simp at hu; subst hu; rfl
theorem u8s_len (xs : List Int) : (u8s xs).length = xs.length := by simp [u8s]
theorem u64s_len (xs : List Int) : (u64s xs).length = xs.length := by simp [u64s]
theorem u8s_append (xs ys : List Int) : u8s (xs ++ ys) = u8s xs ++ u8s ys := by simp [u8s]
theorem u8s_one' (x : Int) : u8s [x] = [.int .u8 x] := rfl
theorem u64s_append (xs ys : List Int) : u64s (xs ++ ys) = u64s xs ++ u64s ys := by simp [u64s]

/-- A slice of numbers, opened. -/
theorem Rd.open {w : World} {v : Value} {k : IntKind} {xs : List Int} (h : Rd w v (xs.map (Value.int k))) :
    ∃ a c, v = .slice a xs.length c ∧ xs.length ≤ c ∧ c ≤ maxLen ∧ (xs = [] ∨ ∃ b o, a = some ⟨b, o, none⟩ ∧ ∀ j, j < xs.length → w.cell? ⟨b, o + j, none⟩ = some (.int k (xs.getD j 0))) := by
  obtain ⟨a, c, hv, h1, h2, h3⟩ := h
  rw [List.length_map] at hv h1
  refine ⟨a, c, hv, h1, h2, h3.imp (by simp) ?_⟩
  rintro ⟨b, o, ha, hc⟩
  exact ⟨b, o, ha, fun j hj => hc j _ (by simp [List.getD, List.getElem?_eq_getElem hj])⟩

/-- 'string(b)'. -/
theorem Rd.convert {P : Program} {w : World} {v : Value} {xs : List Int} (h : Rd w v (u8s xs)) {src e dst : TypeId} (hs : P.underlying src = some (.slice e)) (he : P.underlying e = some (.int .u8)) (hd : P.underlying dst = some .string) :
    (Go.convert src dst v).run P w = .ok (.string (strOfNums xs)) w := by
  obtain ⟨a, c, rfl, _, _, h3⟩ := h
  rw [u8s_len]
  rcases h3 with h0 | ⟨b, o, rfl, hc⟩
  · have hx : xs = [] := by simpa [u8s] using h0
    subst hx
    cases a with
    | none => exact run_convert_bytes_nil w src e hs he 0 c dst hd
    | some ad =>
      obtain ⟨b, o, s⟩ := ad
      rw [run_convert_bytes_string w src dst e _ _ c hs he hd, run_bytesToString w _ _ c [] (by simp [loadCells, loadCellsFrom])]
      rfl
  · exact run_convert_bytes_arg w src e hs he b o xs.length c xs rfl (fun i hi => hc i _ (by simp [u8s, List.getD, List.getElem?_eq_getElem hi])) dst hd

/-- bytes -/
def B8 (xs : List Int) : Prop := ∀ x ∈ xs, 0 ≤ x ∧ x ≤ 255
def U64 (n : Int) : Prop := 0 ≤ n ∧ n ≤ 18446744073709551615
def B64 (xs : List Int) : Prop := ∀ x ∈ xs, U64 x

theorem strOfNums_inj {xs ys : List Int} (hx : B8 xs) (hy : B8 ys) (h : strOfNums xs = strOfNums ys) : xs = ys := by
  have h1 := congrArg (fun s : ByteArray => s.data.toList) h
  simp only [strOfNums_data] at h1
  have h2 : xs.map (fun n => UInt8.ofNat n.toNat) = ys.map (fun n => UInt8.ofNat n.toNat) := h1
  clear h h1
  induction xs generalizing ys with
  | nil => cases ys with
    | nil => rfl
    | cons y ys => simp at h2
  | cons x xs ih => cases ys with
    | nil => simp at h2
    | cons y ys =>
      simp only [List.map_cons, List.cons.injEq] at h2
      have e1 := hx x (by simp)
      have e2 := hy y (by simp)
      have e3 := congrArg UInt8.toNat h2.1
      simp only [UInt8.toNat_ofNat'] at e3
      have : x = y := by omega
      rw [this, ih (fun z hz => hx z (by simp [hz])) (fun z hz => hy z (by simp [hz])) h2.2]

/-- '==' on strings, as the walk spells it. -/
theorem str_beq (xs ys : List Int) (hx : B8 xs) (hy : B8 ys) : ((strOfNums xs).toList == (strOfNums ys).toList) = decide (xs = ys) := by
  by_cases h : xs = ys
  · subst h; simp
  · rw [decide_eq_false h]
    rw [beq_eq_false_iff_ne]
    intro e
    apply h
    apply strOfNums_inj hx hy
    have e' : (strOfNums xs).data.toList = (strOfNums ys).data.toList := by
      have k : ∀ s : ByteArray, s.toList = s.data.toList := fun s => Lib.toList_data s
      rwa [k, k] at e
    have := congrArg List.toArray e'
    simp at this
    exact ByteArray.ext this

theorem or_zero (a b : Int) (ha : U64 a) (hb : U64 b) : bits BinOp.or IntKind.u64 a b = 0 ↔ a = 0 ∧ b = 0 := by
  obtain ⟨a0, a1⟩ := ha
  obtain ⟨b0, b1⟩ := hb
  rw [u64_or a b a0 (by omega) b0 (by omega)]
  obtain ⟨m, rfl⟩ := Int.eq_ofNat_of_zero_le a0
  obtain ⟨n, rfl⟩ := Int.eq_ofNat_of_zero_le b0
  simp only [Int.toNat_natCast]
  constructor
  · intro h
    have h' : m ||| n = 0 := by omega
    exact ⟨by have := @Nat.left_le_or m n; omega, by have := @Nat.right_le_or m n; omega⟩
  · rintro ⟨h1, h2⟩
    have : m = 0 := by omega
    have : n = 0 := by omega
    subst_vars; rfl
theorem ret_eq {a b : Value} (h : a = b) : Ending.returned a = Ending.returned b := by rw [h]
end Go.Proofs.YtafjjladnghjbaaGreatDoor
