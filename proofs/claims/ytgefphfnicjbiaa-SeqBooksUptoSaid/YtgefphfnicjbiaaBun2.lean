/- Parts of the proof, in plain words at the head of each: Base, Bin, Blk, Concat, Draw, Chg, Rv, UnT, Clo, Cpy, Psh. -/
import Derived.WalkKit
import Derived.WalkSpells
import Derived.WalkLawsBesides
import Derived.Lib.Hide
import Derived.Laws.BytesArg
import Derived.Lib.Strings
import Derived.Laws.AppendOwnNone
import Derived.Deep.LoopGhost
import Derived.Deep.Draws
import Derived.Test.YtgefphfnicjbiaaMono
import Derived.Test.YtgefphfnicjbiaaBun1
import Derived.Deep.DeepCutAuto
import Derived.Lib.AppendZeros
import Derived.Defers
import Derived.Recover
import Derived.ArgAppend
import Derived.Laws.CopyRow
import Derived.Lib.AppendZerosOnto
import Derived.Lib.Overlaps
set_option linter.unusedSimpArgs false
set_option linter.unusedVariables false
/- Words for what slices read as, and for what a call leaves alone; append and its kin said in those words. Of any program. -/
namespace Go.Proofs.Ytgefphfnicjbiaa
open Go Go.RowKit

/-! ### What a call leaves alone -/
/-- All blocks of w are in w' as they were. -/
def Ext (w w' : World) : Prop := Below w.heap.size w w'

theorem Ext.refl (w : World) : Ext w w := Below.refl _ _
theorem Ext.trans {a b c : World} (h : Ext a b) (k : Ext b c) : Ext a c := Below.trans h (Below.mono k h.size)
theorem Ext.of {w w' : World} (h : Below w.heap.size w w') : Ext w w' := h
theorem Ext.below {w w' : World} (h : Ext w w') : Below w.heap.size w w' := h
theorem Ext.belowN {w w' : World} {n : Nat} (h : Ext w w') (hn : n ≤ w.heap.size) : Below n w w' := Below.mono h hn
theorem Ext.alloc (w : World) (o : Obj) : Ext w (w.alloc o) := (Below.refl _ w).alloc (Nat.le_refl _) o
theorem Ext.drew (w : World) : Ext w w.drew := (Below.refl _ w).drew
theorem Ext.drewN (w : World) (n : Nat) : Ext w (w.drewN n) := ⟨rfl, rfl, rfl, Nat.le_refl _, fun _ _ => rfl⟩
theorem Ext.size {w w' : World} (h : Ext w w') : w.heap.size ≤ w'.heap.size := Below.size h
theorem Ext.cell {w w' : World} (h : Ext w w') {p : Addr} {v : Value} (hc : w.cell? p = some v) : w'.cell? p = some v :=
  (Below.cell h (World.block_lt_of_cell? w p hc)).trans hc
theorem Ext.frozen {w w' : World} (h : Ext w w') {p : Addr} (hp : p.block < w.heap.size) {b : Bool} (hf : w.frozen? p = b) : w'.frozen? p = b := (Below.frozen h hp).trans hf
theorem Ext.heap {w w' : World} (h : Ext w w') {k : Nat} {o : Obj} (hk : w.heap[k]? = some o) : w'.heap[k]? = some o :=
  (Below.block h k (Array.getElem?_eq_some_iff.1 hk).1).trans hk
theorem Ext.grown {w w' : World} {row : Option Nat} (hg : w.grownBy w' row) (hr : ∀ k, row = some k → w.heap.size ≤ k) : Ext w w' := (Below.refl _ w).grown hg (Nat.le_refl _) hr
theorem Ext.pre : Mono.Pre Ext Ext := ⟨fun _ _ h => h, fun _ _ _ => Ext.trans, fun _ _ _ => Ext.trans⟩

/-! ### Slices whose elements are one cell each -/
/-- v is a slice whose elements are, one cell each, cs. -/
def Rd (w : World) (v : Value) (cs : List Value) : Prop :=
  ∃ a c, v = .slice a cs.length c ∧ cs.length ≤ c ∧ c ≤ maxLen ∧ (cs = [] ∨ ∃ b o, a = some ⟨b, o, none⟩ ∧ ∀ j u, cs[j]? = some u → w.cell? ⟨b, o + j, none⟩ = some u)

theorem Rd.ext {w w' : World} {v : Value} {cs : List Value} (h : Rd w v cs) (hE : Ext w w') : Rd w' v cs := by
  obtain ⟨a, c, hv, h1, h2, h3⟩ := h
  refine ⟨a, c, hv, h1, h2, h3.imp id ?_⟩
  rintro ⟨b, o, ha, hc⟩
  exact ⟨b, o, ha, fun j u hj => hE.cell (hc j u hj)⟩

theorem Rd.nil (w : World) : Rd w (.slice none 0 0) [] := ⟨none, 0, rfl, Nat.zero_le _, Nat.zero_le _, .inl rfl⟩

theorem Rd.len {w : World} {v : Value} {cs : List Value} (h : Rd w v cs) : cs.length ≤ maxLen := by obtain ⟨_, _, _, h1, h2, _⟩ := h; omega

theorem Rd.shape {w : World} {v : Value} {cs : List Value} (h : Rd w v cs) : ∃ a n c, v = .slice a n c := by obtain ⟨a, c, hv, _⟩ := h; exact ⟨a, _, c, hv⟩

theorem Rd.of_own {w : World} {base : Nat} {e : TypeId} {v : Value} {n : Nat} {xs : List Value} (h : w.ownsRow base e 1 v n xs) : Rd w v xs := by
  obtain ⟨hl, h⟩ := h
  simp only [Nat.mul_one] at hl
  rcases h with ⟨rfl, rfl⟩ | ⟨g, cap, cur, rfl, _, hg, h1, h2, h3, h4⟩
  · rw [List.eq_nil_of_length_eq_zero hl]; exact Rd.nil w
  · refine ⟨_, cap, by rw [hl], by omega, h2, .inr ⟨g, 0, rfl, fun j u hj => ?_⟩⟩
    rw [Nat.zero_add, cell_of_row w g j cur e (0, 0) hg]
    rw [← h4, List.getElem?_take] at hj
    split at hj
    · simpa using hj
    · cases hj

/-- The element type of a slice type: its row of the table. -/
structure ElT (P : Program) (t e : TypeId) (z : Value) (bytes : Nat) : Prop where
  ty : P.underlying t = some (.slice e)
  info : ∃ i, P.info? e = some i ∧ i.zero = some z ∧ i.size = 1 ∧ i.bytes = bytes
  one : z.cells.size = 1

theorem ElT.mk' {P : Program} {t e : TypeId} {z : Value} {bytes : Nat} (ht : P.underlying t = some (.slice e)) (h : (P.info? e).map (fun i => (i.zero, i.size, i.bytes)) = some (some z, 1, bytes)) (ho : z.cells.size = 1) : ElT P t e z bytes :=
  ⟨ht, info_parts h, ho⟩

section
variable {P : Program} {w : World} {ops : Array Oper} {rest : List Oper} {o : Oper} {a : Act} {Q : Exit → Act → World → Prop} {t e : TypeId} {z : Value} {bytes base : Nat} {v : Value} {xs : List Value}

theorem own_len {n : Nat} (h : w.ownsRow base e 1 v n xs) : xs.length = n := by have := h.1; omega

/-- 'append(s, x...)', s the call's own, x whatever reads as cs. -/
theorem wpList_append_rd (hgd : o.guard = none) (s x : Operand) (t' : TypeId) (ho : o.op = .call { callee := .builtin .append, args := #[s, x], argTypes := #[t', t'] })
    (hT : ElT P t' e z bytes) (base : Nat) (v : Value) (n : Nat) (xs cs : List Value) (hs : a.eval s = v) (hown : w.ownsRow base e 1 v n xs) (vx : Value) (hx : a.eval x = vx) (hrd : Rd w vx cs) (h1 : ∀ u ∈ cs, u.oneCell' = true)
    (hb1 : (n + cs.length) * bytes ≤ 140737488355328) (hb2 : n + cs.length ≤ maxLen) (hbase : base ≤ w.heap.size)
    (h : ∀ v' w', w'.ownsRow base e 1 v' (n + cs.length) (xs ++ cs) → w.grownBy w' v.ownBlock → wpList P ops Q rest (a.put o.dst v') w') : wpList P ops Q (o :: rest) a w := by
  obtain ⟨i, hi, hz, hsz, hby⟩ := hT.info
  obtain ⟨ad, c, rfl, hlc, hcm, hcs⟩ := hrd
  cases ad with
  | none =>
    have hnil : cs = [] := by rcases hcs with h0 | ⟨b, o', h0, _⟩; exact h0; cases h0
    subst hnil
    refine wpList_plain hgd fun K hK => ?_
    have hcell : ∃ w'', (Builtin.append_ #[t', t'] o.type #[v, .slice none 0 c]).run P w = .ok v w'' ∧ w'' = w := by
      refine ⟨w, ?_, rfl⟩
      have hr := run_append_owned_none (P := P) (w := w) base t' o.type e i 1 hT.ty hi v n xs (by simpa [hsz] using hown)
      rcases hown.2 with ⟨rfl, rfl⟩ | ⟨g, cap, cur, rfl, _, hg, h2, h3, h4, h5⟩
      · simp [Builtin.append_, run_underlying hT.ty, sizeOf, typeInfo, hi, Builtin.lenOf, Builtin.firstCells]
      · simp [Builtin.append_, run_underlying hT.ty, sizeOf, typeInfo, hi, Builtin.lenOf, Builtin.firstCells, h2, storeCells]
    obtain ⟨w'', hrun, rfl⟩ := hcell
    unfold Oper.wp
    simp [execOp, ho, resolve, invoke, builtin, hs, hx, hrun, Result.andThen]
    exact hK _ _ (h v w'' (by simpa using hown) (World.grownBy.refl _ _))
  | some ad =>
    refine wpList_append_own w hgd s x t' ho base e i z 1 bytes hT.ty hi hz hsz hby hT.one (by decide) v n xs hs hown ad cs.length c cs hx (by simp) ?_ h1 (by omega) hb1 hbase fun v' w' g1 g2 _ => h v' w' g1 g2
    intro j u hj
    rcases hcs with h0 | ⟨b, o', h0, hc⟩
    · rw [h0] at hj; simp at hj
    · cases h0
      rw [Addr.add_lit]; exact hc j u hj

/-- 'append(s, u)': one element, which the walk has just laid in a new block of one cell. -/
theorem wpList_push (hgd : o.guard = none) (s x : Operand) (t' : TypeId) (ho : o.op = .call { callee := .builtin .append, args := #[s, x], argTypes := #[t', t'] })
    (hT : ElT P t' e z bytes) (base : Nat) (v : Value) (n : Nat) (xs : List Value) (u : Value) (hs : a.eval s = v) (hown : w.ownsRow base e 1 v n xs) (e' : TypeId) (hx : a.eval x = .slice (some ⟨w.heap.size, 0, none⟩) 1 1) (h1 : u.oneCell' = true)
    (hb1 : (n + 1) * bytes ≤ 140737488355328) (hb2 : n + 1 ≤ maxLen) (hbase : base ≤ w.heap.size)
    (h : ∀ v' w', w'.ownsRow base e 1 v' (n + 1) (xs ++ [u]) → w.grownBy w' v.ownBlock → wpList P ops Q rest (a.put o.dst v') w') : wpList P ops Q (o :: rest) a (w.alloc (.cells #[u] e')) := by
  obtain ⟨i, hi, hz, hsz, hby⟩ := hT.info
  refine wpList_append_own (w.alloc (.cells #[u] e')) hgd s x t' ho base e i z 1 bytes hT.ty hi hz hsz hby hT.one (by decide) v n xs hs (hown.alloc _) _ 1 1 [u] hx rfl (cell_one_new _ _ _) (by simpa using h1) (by omega) hb1 (by simp; omega) fun v' w' g1 g2 _ => h v' w' g1 ?_
  have ga := World.grownBy_alloc w (.cells #[u] e') v.ownBlock
  refine ⟨g2.os.trans ga.os, g2.tape.trans ga.tape, g2.output.trans ga.output, Nat.le_trans ga.size g2.size, fun k hk hne => (g2.block k (by have := ga.size; omega) hne).trans (ga.block k hk hne)⟩
end

section
variable {P : Program} {w : World} {ops : Array Oper} {rest : List Oper} {o : Oper} {a : Act} {Q : Exit → Act → World → Prop} {t e : TypeId} {z : Value} {bytes : Nat}
/-- 'make([]T, 0, n)'. -/
theorem wpList_make0 (hg : o.guard = none) (l c : Operand) (t : TypeId) (hop : o.op = Op.makeSlice t l c) (hT : ElT P t e z bytes) (base : Nat) (kl kc : IntKind) (C : Int) (n : Nat) (hl : a.eval l = .int kl 0) (hc : a.eval c = .int kc C) (hC : C = (n : Int))
    (b2 : bytes * n ≤ 281474976710656) (b3 : n ≤ maxLen) (b4 : base ≤ w.heap.size)
    (hK : ∀ w', w'.ownsRow base e 1 (.slice (some ⟨w.heap.size, 0, none⟩) 0 n) 0 [] → w.grownBy w' none → wpList P ops Q rest (a.put o.dst (.slice (some ⟨w.heap.size, 0, none⟩) 0 n)) w') : wpList P ops Q (o :: rest) a w := by
  obtain ⟨i, hi, hz, hsz, hby⟩ := hT.info
  exact wpList_make_own w hg l c t hop base e i z 1 hT.ty hi hz hsz kl kc C n hl hc hC (by rw [hby]; exact b2) b3 b4 hK
/-- 'make([]T, n)'. -/
theorem wpList_makeN (hg : o.guard = none) (l c : Operand) (t : TypeId) (hop : o.op = Op.makeSlice t l c) (hT : ElT P t e z bytes) (base : Nat) (kl kc : IntKind) (L C : Int) (n : Nat) (hl : a.eval l = .int kl L) (hc : a.eval c = .int kc C) (hL : L = (n : Int)) (hC : C = (n : Int))
    (b2 : bytes * n ≤ 281474976710656) (b3 : n ≤ maxLen) (b4 : base ≤ w.heap.size)
    (hK : ∀ w', w'.ownsRow base e 1 (.slice (some ⟨w.heap.size, 0, none⟩) n n) n (madeCells z.cells n).toList → w.grownBy w' none → wpList P ops Q rest (a.put o.dst (.slice (some ⟨w.heap.size, 0, none⟩) n n)) w') : wpList P ops Q (o :: rest) a w := by
  obtain ⟨i, hi, hz, hsz, hby⟩ := hT.info
  exact wpList_make_full w hg l c t hop base e i z 1 hT.ty hi hz hsz kl kc L C n hl hc hL hC (by rw [hby]; exact b2) b3 b4 (by simpa using hK)
end

theorem own_n {w : World} {base : Nat} {e : TypeId} {v : Value} {n : Nat} {xs : List Value} (h : w.ownsRow base e 1 v n xs) : w.ownsRow base e 1 v xs.length xs := by
  have := own_len h; rw [this]; exact h
/-- A slice that the walk has just laid. -/
theorem own_lit (w : World) (l : List Value) (e : TypeId) (he : l.length ≤ maxLen) : (w.alloc (.cells l.toArray e)).ownsRow w.heap.size e 1 (.slice (some ⟨w.heap.size, 0, none⟩) l.length l.length) l.length l :=
  ⟨by simp, .inr ⟨w.heap.size, l.length, l.toArray, rfl, Nat.le_refl _, heap_alloc_new w _, Nat.le_refl _, he, by simp, by simp⟩⟩

/-- The ending of a call that hands back a new slice. -/
def RetOwn (E : TypeId) (w : World) (cs : List Value) (e : Ending) (w' : World) : Prop := ∃ v', e = .returned v' ∧ w'.ownsRow w.heap.size E 1 v' cs.length cs ∧ Ext w w'

/-- What the call owns stays while all that was there stays. -/
theorem own_ext {w w' : World} {base : Nat} {e : TypeId} {size : Nat} {v : Value} {n : Nat} {xs : List Value} (h : w.ownsRow base e size v n xs) (hE : Ext w w') : w'.ownsRow base e size v n xs := by
  obtain ⟨h1, h2⟩ := h
  refine ⟨h1, ?_⟩
  rcases h2 with h2 | ⟨g, cap, cur, hv, hg, hh, r⟩
  · exact .inl h2
  · exact .inr ⟨g, cap, cur, hv, hg, hE.heap hh, r⟩

theorem own_base {w : World} {base base' : Nat} {e : TypeId} {size : Nat} {v : Value} {n : Nat} {xs : List Value} (h : w.ownsRow base e size v n xs) (hb : base' ≤ base) : w.ownsRow base' e size v n xs := by
  obtain ⟨h1, h2⟩ := h
  refine ⟨h1, ?_⟩
  rcases h2 with h2 | ⟨g, cap, cur, hv, hg, r⟩
  · exact .inl h2
  · exact .inr ⟨g, cap, cur, hv, by omega, r⟩

theorem grown_trans {a b c : World} {r r' : Option Nat} (h : a.grownBy b r) (k : b.grownBy c r') (hr : r' = r ∨ ∀ i, r' = some i → a.heap.size ≤ i) : a.grownBy c r :=
  ⟨k.os.trans h.os, k.tape.trans h.tape, k.output.trans h.output, Nat.le_trans h.size k.size, fun i hi hne => by
    refine (k.block i (Nat.lt_of_lt_of_le hi h.size) fun e => ?_).trans (h.block i hi hne)
    rcases hr with hr | hr
    · exact hne (e.trans hr)
    · have := hr i e.symm; omega⟩

/-! ### Bytes, numbers -/
def u8s (xs : List Int) : List Value := xs.map (Value.int .u8)
def u64s (xs : List Int) : List Value := xs.map (Value.int .u64)
theorem u8s_one (xs : List Int) : ∀ u ∈ u8s xs, u.oneCell' = true := ints_oneCell _ _
theorem u64s_one (xs : List Int) : ∀ u ∈ u64s xs, u.oneCell' = true := ints_oneCell _ _
theorem one1 (k : IntKind) (n : Int) : ∀ u ∈ [Value.int k n], u.oneCell' = true := by intro u hu; simp at hu; subst hu; rfl
theorem u8s_len (xs : List Int) : (u8s xs).length = xs.length := by simp [u8s]
theorem u64s_len (xs : List Int) : (u64s xs).length = xs.length := by simp [u64s]
theorem u8s_append (xs ys : List Int) : u8s (xs ++ ys) = u8s xs ++ u8s ys := by simp [u8s]
theorem u8s_one' (x : Int) : u8s [x] = [.int .u8 x] := rfl
theorem u64s_append (xs ys : List Int) : u64s (xs ++ ys) = u64s xs ++ u64s ys := by simp [u64s]

/-- A slice of numbers, opened. -/
theorem Rd.open {w : World} {v : Value} {k : IntKind} {xs : List Int} (h : Rd w v (xs.map (Value.int k))) :
    ∃ a c, v = .slice a xs.length c ∧ xs.length ≤ c ∧ c ≤ maxLen ∧ (xs = [] ∨ ∃ b o, a = some ⟨b, o, none⟩ ∧ ∀ j, j < xs.length → w.cell? ⟨b, o + j, none⟩ = some (.int k (xs.getD j 0))) := by
  obtain ⟨a, c, hv, h1, h2, h3⟩ := h
  rw [List.length_map] at hv h1
  refine ⟨a, c, hv, h1, h2, h3.imp (by simp) ?_⟩
  rintro ⟨b, o, ha, hc⟩
  exact ⟨b, o, ha, fun j hj => hc j _ (by simp [List.getD, List.getElem?_eq_getElem hj])⟩

/-- 'string(b)'. -/
theorem Rd.convert {P : Program} {w : World} {v : Value} {xs : List Int} (h : Rd w v (u8s xs)) {src e dst : TypeId} (hs : P.underlying src = some (.slice e)) (he : P.underlying e = some (.int .u8)) (hd : P.underlying dst = some .string) :
    (Go.convert src dst v).run P w = .ok (.string (strOfNums xs)) w := by
  obtain ⟨a, c, rfl, _, _, h3⟩ := h
  rw [u8s_len]
  rcases h3 with h0 | ⟨b, o, rfl, hc⟩
  · have hx : xs = [] := by simpa [u8s] using h0
    subst hx
    cases a with
    | none => exact run_convert_bytes_nil w src e hs he 0 c dst hd
    | some ad =>
      obtain ⟨b, o, s⟩ := ad
      rw [run_convert_bytes_string w src dst e _ _ c hs he hd, run_bytesToString w _ _ c [] (by simp [loadCells, loadCellsFrom])]
      rfl
  · exact run_convert_bytes_arg w src e hs he b o xs.length c xs rfl (fun i hi => hc i _ (by simp [u8s, List.getD, List.getElem?_eq_getElem hi])) dst hd

/-- bytes -/
def B8 (xs : List Int) : Prop := ∀ x ∈ xs, 0 ≤ x ∧ x ≤ 255
def U64 (n : Int) : Prop := 0 ≤ n ∧ n ≤ 18446744073709551615
def B64 (xs : List Int) : Prop := ∀ x ∈ xs, U64 x

theorem strOfNums_inj {xs ys : List Int} (hx : B8 xs) (hy : B8 ys) (h : strOfNums xs = strOfNums ys) : xs = ys := by
  have h1 := congrArg (fun s : ByteArray => s.data.toList) h
  simp only [strOfNums_data] at h1
  have h2 : xs.map (fun n => UInt8.ofNat n.toNat) = ys.map (fun n => UInt8.ofNat n.toNat) := h1
  clear h h1
  induction xs generalizing ys with
  | nil => cases ys with
    | nil => rfl
    | cons y ys => simp at h2
  | cons x xs ih => cases ys with
    | nil => simp at h2
    | cons y ys =>
      simp only [List.map_cons, List.cons.injEq] at h2
      have e1 := hx x (by simp)
      have e2 := hy y (by simp)
      have e3 := congrArg UInt8.toNat h2.1
      simp only [UInt8.toNat_ofNat'] at e3
      have : x = y := by omega
      rw [this, ih (fun z hz => hx z (by simp [hz])) (fun z hz => hy z (by simp [hz])) h2.2]

/-- '==' on strings, as the walk spells it. -/
theorem str_beq (xs ys : List Int) (hx : B8 xs) (hy : B8 ys) : ((strOfNums xs).toList == (strOfNums ys).toList) = decide (xs = ys) := by
  by_cases h : xs = ys
  · subst h; simp
  · rw [decide_eq_false h]
    rw [beq_eq_false_iff_ne]
    intro e
    apply h
    apply strOfNums_inj hx hy
    have e' : (strOfNums xs).data.toList = (strOfNums ys).data.toList := by
      have k : ∀ s : ByteArray, s.toList = s.data.toList := fun s => Lib.toList_data s
      rwa [k, k] at e
    have := congrArg List.toArray e'
    simp at this
    exact ByteArray.ext this

theorem or_zero (a b : Int) (ha : U64 a) (hb : U64 b) : bits BinOp.or IntKind.u64 a b = 0 ↔ a = 0 ∧ b = 0 := by
  obtain ⟨a0, a1⟩ := ha
  obtain ⟨b0, b1⟩ := hb
  rw [u64_or a b a0 (by omega) b0 (by omega)]
  obtain ⟨m, rfl⟩ := Int.eq_ofNat_of_zero_le a0
  obtain ⟨n, rfl⟩ := Int.eq_ofNat_of_zero_le b0
  simp only [Int.toNat_natCast]
  constructor
  · intro h
    have h' : m ||| n = 0 := by omega
    exact ⟨by have := @Nat.left_le_or m n; omega, by have := @Nat.right_le_or m n; omega⟩
  · rintro ⟨h1, h2⟩
    have : m = 0 := by omega
    have : n = 0 := by omega
    subst_vars; rfl
theorem ret_eq {a b : Value} (h : a = b) : Ending.returned a = Ending.returned b := by rw [h]
end Go.Proofs.Ytgefphfnicjbiaa

/- Contracts of package bin: the writers. -/
namespace Go.Proofs.Ytgefphfnicjbiaa
open Go Go.RowKit

theorem el8 : ElT Try.prog 29 5 (.int .u8 0) 1 := ElT.mk' Try.underlying29 (by kernel_rfl) rfl

set_option maxHeartbeats 400000 in
theorem add_own (base : Nat) (v : Value) (l : Nat) (xs : List Int) (n : Nat) (w : World) (hn : n ≤ 18446744073709551615) (hown : w.ownsRow base 5 1 v l (u8s xs)) (hb : base ≤ w.heap.size) (hl : l ≤ 140737488355300) :
    Calls Try.prog 60 #[v, .int .u64 n] w fun e w' => ∃ v', e = .returned v' ∧ w'.ownsRow base 5 1 v' (l + (numB n).length) (u8s (xs ++ numB n)) ∧ Below base w w' := by
  have hk := bitLen_le n
  go_enter Try.func60, Try.ntmps60
  go_wp2_with (first | (go_at_call 79; refine (Try.bits_Len64 _ _ (by omega) (by omega)).mono ?_; rintro e w' ⟨rfl, hw⟩; subst hw) | (at_builtin; refine wpList_push rfl (.tmp 11) (.tmp 14) _ rfl el8 base _ l (u8s xs) _ rfl hown _ rfl rfl (by omega) (by unfold maxLen; omega) hb ?_))
  intro v1 w1 hown1 hg1
  have e1 : ((Lib.bitLen n : Int) + 7) / 8 = (numK n : Int) := by unfold numK; omega
  simp only [e1] at hown1 ⊢
  have hk8 := numK_le n
  have hb1 : Below base w' w1 := (Below.refl _ _).grown hg1 hb fun k hk => (hown.lt k hk).1
  have hs1 : base ≤ w1.heap.size := by have := hb1.size; omega
  have HO := Lib.hid hown1; clear hown1 hg1 e1 hk
  go_wp2_with fail
  go_loopw [0, 6] (fun b i wr => ∃ j : Nat, j ≤ numK n ∧ i = .int .i64 (8 * (numK n : Int) - 8 - 8 * (j : Int)) ∧ wr.ownsRow base 5 1 b (l + 1 + j) (u8s (xs ++ ((numK n : Int) :: (be (numK n) n).take j))) ∧ Below base w' wr ∧ base ≤ wr.heap.size) (fun _ i _ => (intOf i + 8).toNat)
  case atStart => exact ⟨0, Nat.zero_le _, by go_num, by simpa [u8s] using HO.out, hb1, hs1⟩
  case round =>
    obtain ⟨j, hj, rfl, hown2, hb2, hs2⟩ := hrel
    by_cases hlt : j < numK n
    · go_wp2_with (at_builtin; refine wpList_push rfl (.tmp 23) (.tmp 28) _ rfl el8 base _ (l + 1 + j) _ _ rfl hown2 _ rfl rfl (by omega) (by unfold maxLen; omega) hs2 ?_)
      intro v2 w2 hown3 hg3
      have hb3 : Below base w' w2 := hb2.grown hg3 hs2 fun k hk => (hown2.lt k hk).1
      have hs3 : base ≤ w2.heap.size := by have := hg3.size; omega
      rw [shr_byte n _ _ hlt] at hown3
      have e3 : u8s (xs ++ ((numK n : Int) :: (be (numK n) n).take j)) ++ [Value.int .u8 ((n / 256 ^ (numK n - 1 - j) % 256 : Nat) : Int)] = u8s (xs ++ ((numK n : Int) :: (be (numK n) n).take (j + 1))) := by
        rw [be_take _ _ _ hlt]; simp [u8s]
      rw [e3] at hown3
      have H3 := Lib.hid hown3; clear hown3 e3 hg3
      go_wp2_with fail
      go_roundw
      case rel => exact ⟨j + 1, by omega, by go_num, H3.out, hb3, hs3⟩
      case measure => simp [intOf]; omega
    · have hjk : j = numK n := by omega
      have H2 := Lib.hid hown2; clear hown2
      have HJ := Lib.hid hjk; clear hjk
      go_wp2_with fail
      go_ret
      refine ⟨_, rfl, ?_, hb2⟩
      have := H2.out
      rw [HJ.out, List.take_of_length_le (by rw [be_len]; exact Nat.le_refl _)] at this
      rw [numB_len, show l + (numK n + 1) = l + 1 + numK n by omega]
      exact this

set_option maxHeartbeats 400000 in
theorem num_ret (n : Nat) (w : World) (hn : n ≤ 18446744073709551615) : Calls Try.prog 27 #[.int .u64 n] w (RetOwn 5 w (u8s (numB n))) := by
  go_enter Try.func27, Try.ntmps27
  go_wp2_with (first | (go_at_call 60; refine (add_own w.heap.size _ 0 [] n w hn (World.ownsRow_nil _ _ _ _) (Nat.le_refl _) (by omega)).mono ?_))
  rintro e w' ⟨v', rfl, ho, hb⟩
  have HO := Lib.hid ho; clear ho
  go_wp2
  go_ret
  exact ⟨v', rfl, by rw [u8s_len]; simpa using HO.out, hb⟩

set_option maxHeartbeats 400000 in
theorem raw_ret (v : Value) (xs : List Int) (w : World) (hr : Rd w v (u8s xs)) (hx : xs.length ≤ 140737488355000) : Calls Try.prog 28 #[v] w (RetOwn 5 w (u8s (numB xs.length ++ xs))) := by
  have HR := Lib.hid hr
  obtain ⟨a, c, rfl, _, _, _⟩ := Rd.open hr
  go_enter Try.func28, Try.ntmps28
  go_wp2_with (at_make; refine wpList_make0 rfl _ _ 29 rfl el8 w.heap.size _ _ _ (xs.length + 9) rfl rfl (by omega) (by omega) (by unfold maxLen; omega) (Nat.le_refl _) ?_)
  intro w1 ho1 hg1
  have hE1 : Ext w w1 := Ext.grown hg1 (by intro k hk; cases hk)
  have hs1 := hE1.size
  have HO := Lib.hid ho1; clear ho1 hg1
  go_wp2_with fail
  refine (add_own w.heap.size _ 0 [] xs.length w1 (by omega) (by simpa [u8s] using HO.out) hs1 (by omega)).mono ?_
  rintro e w2 ⟨v2, rfl, ho2, hb2⟩
  have hE2 : Ext w w2 := Below.trans hE1 hb2
  have hs2 := hE2.size
  have hk := numK_le xs.length
  have hl := numB_len xs.length
  have HO2 := Lib.hid ho2; have HE2 := Lib.hid hE2; clear ho2 hb2 hE2 hE1
  go_wp2_with (at_builtin; refine wpList_append_rd rfl (.tmp 10) (.tmp 11) _ rfl el8 w.heap.size _ _ _ (u8s xs) rfl HO2.out _ rfl (HR.out.ext HE2.out) (u8s_one _) (by rw [u8s_len]; omega) (by rw [u8s_len]; unfold maxLen; omega) hs2 ?_)
  intro v3 w3 ho3 hg3
  have hE3 : Ext w w3 := Below.grown HE2.out hg3 hs2 fun k hk => (HO2.out.lt k hk).1
  have H3 := Lib.hid ho3; have HE3 := Lib.hid hE3; clear ho3 hE3 hg3
  go_wp2
  go_ret
  refine ⟨v3, rfl, ?_, HE3.out⟩
  have := H3.out
  simpa [u8s, Nat.add_assoc, hl] using this
end Go.Proofs.Ytgefphfnicjbiaa

/- A block of the call's own, known whole. Of any program. -/
namespace Go.Proofs.Ytgefphfnicjbiaa
open Go Go.RowKit

/-- Block b holds cs. -/
def Blk (w : World) (b : Nat) (cs : Array Value) (e : TypeId) : Prop := w.heap[b]? = some (.cells cs e (0, 0))

section
variable {w w' : World} {b : Nat} {cs : Array Value} {e : TypeId}
theorem Blk.lt (h : Blk w b cs e) : b < w.heap.size := (Array.getElem?_eq_some_iff.1 h).1
theorem Blk.cell (h : Blk w b cs e) (j : Nat) {u : Value} (hj : cs[j]? = some u) : w.cell? ⟨b, j, none⟩ = some u := by
  rw [cell_of_row w b j cs e (0, 0) h]; exact hj
theorem Blk.free (h : Blk w b cs e) (j : Nat) : w.frozen? ⟨b, j, none⟩ = false := by
  have h' : w.heap[b]? = some (.cells cs e (0, 0)) := h
  simp [World.frozen?, h']
theorem Blk.ext (h : Blk w b cs e) (hE : Ext w w') : Blk w' b cs e := hE.heap h
theorem Blk.below {B : Nat} (h : Blk w b cs e) (hE : Below B w w') (hb : b < B) : Blk w' b cs e := (hE.block b hb).trans h
theorem Blk.alloc (h : Blk w b cs e) (o : Obj) : Blk (w.alloc o) b cs e := h.ext (Ext.alloc _ _)
theorem Blk.new (w : World) (cs : Array Value) (e : TypeId) : Blk (w.alloc (.cells cs e)) w.heap.size cs e := heap_alloc_new w _
theorem Blk.set (h : Blk w b cs e) (j : Nat) (v : Value) : Blk (w.setCell ⟨b, j, none⟩ v) b (cs.setIfInBounds j v) e := by
  have h' : w.heap[b]? = some (.cells cs e (0, 0)) := h
  simp [Blk, World.setCell, Array.getElem?_modify, h']
theorem Blk.other (h : Blk w b cs e) (a : Addr) (v : Value) (ha : a.block ≠ b) : Blk (w.setCell a v) b cs e := by
  unfold Blk; rw [Below.heap_setCell _ _ _ _ (Ne.symm ha)]; exact h
theorem Blk.drew (h : Blk w b cs e) : Blk w.drew b cs e := h

theorem Blk.six {c0 c1 c2 c3 c4 c5 : Value} (h : Blk w b #[c0, c1, c2, c3, c4, c5] e) :
    w.cell? ⟨b, 0, none⟩ = some c0 ∧ w.cell? ⟨b, 1, none⟩ = some c1 ∧ w.cell? ⟨b, 2, none⟩ = some c2 ∧ w.cell? ⟨b, 3, none⟩ = some c3 ∧ w.cell? ⟨b, 4, none⟩ = some c4 ∧ w.cell? ⟨b, 5, none⟩ = some c5 :=
  ⟨h.cell 0 rfl, h.cell 1 rfl, h.cell 2 rfl, h.cell 3 rfl, h.cell 4 rfl, h.cell 5 rfl⟩
theorem Blk.six_free (h : Blk w b cs e) : w.frozen? ⟨b, 0, none⟩ = false ∧ w.frozen? ⟨b, 1, none⟩ = false ∧ w.frozen? ⟨b, 2, none⟩ = false ∧ w.frozen? ⟨b, 3, none⟩ = false ∧ w.frozen? ⟨b, 4, none⟩ = false ∧ w.frozen? ⟨b, 5, none⟩ = false :=
  ⟨h.free 0, h.free 1, h.free 2, h.free 3, h.free 4, h.free 5⟩
end
end Go.Proofs.Ytgefphfnicjbiaa

/- Contracts of slices.Grow, slices.Concat and slices.Clone at []byte. -/
namespace Go.Proofs.Ytgefphfnicjbiaa
open Go Go.RowKit

set_option maxHeartbeats 400000 in
set_option maxRecDepth 100000 in
theorem grow8_nil (n : Nat) (w : World) (hn : n ≤ 140737488355328) : Calls Try.prog 61 #[.slice none 0 0, .int .i64 n] w fun e w' => ∃ v', e = .returned v' ∧ w'.ownsRow w.heap.size 5 1 v' 0 [] ∧ Ext w w' := by
  obtain ⟨i0, hi, hz0, hz1, hz2⟩ := el8.info
  by_cases h0 : n = 0
  · subst h0
    go_enter Try.func61, Try.ntmps61
    go_wp2_with fail
    go_ret
    exact ⟨_, rfl, World.ownsRow_nil _ _ _ _, Ext.refl _⟩
  · have hpos : 0 < n := by omega
    go_enter Try.func61, Try.ntmps61
    go_wp2_with (at_builtin; refine Lib.wpList_append_run _ rfl (.tmp 20) (.tmp 21) _ _ rfl _ _ rfl rfl _ _ (Lib.run_append_nil_zeros _ _ _ _ 5 i0 (.int .u8 0) .i64 .i64 el8.ty Try.underlying3 hi hz0 n hpos (by omega) (by omega) (by rw [hz2]; omega)) ?_)
    have hC := grownCap_ge w n 0 5
    have hM := grownCap_le_maxLen w n 0 5 (by unfold maxLen; omega)
    unfold maxLen at hM
    go_ret
    refine ⟨_, rfl, ⟨by simp, .inr ⟨w.heap.size, grownCap w n 0 5, _, rfl, Nat.le_refl _, heap_alloc_new w _, Nat.zero_le _, by unfold maxLen; omega, ?_, by simp⟩⟩, (Ext.alloc _ _).trans (Ext.drew _)⟩
    simp [size_zeroCells]; omega

/-- A list of texts, by slices. -/
structure Texts (w : World) (cs : List Value) (xss : List (List Int)) : Prop where
  len : cs.length = xss.length
  get : ∀ (j : Nat) (c : Value) (xs : List Int), cs[j]? = some c → xss[j]? = some xs → Rd w c (u8s xs)

theorem Texts.ext {w w' : World} {cs : List Value} {xss : List (List Int)} (h : Texts w cs xss) (hE : Ext w w') : Texts w' cs xss := ⟨h.len, fun j c xs h1 h2 => (h.get j c xs h1 h2).ext hE⟩

theorem Texts.nil (w : World) : Texts w [] [] := ⟨rfl, fun j c xs h => by simp at h⟩
theorem Texts.cons {w : World} {c : Value} {xs : List Int} {cs : List Value} {xss : List (List Int)} (h : Rd w c (u8s xs)) (ht : Texts w cs xss) : Texts w (c :: cs) (xs :: xss) := by
  refine ⟨by simp [ht.len], fun j c' xs' h1 h2 => ?_⟩
  cases j with
  | zero => simp at h1 h2; subst h1; subst h2; exact h
  | succ j => exact ht.get j c' xs' (by simpa using h1) (by simpa using h2)

theorem flatten_take_succ (xss : List (List Int)) (r : Nat) (xs : List Int) (h : xss[r]? = some xs) : (xss.take (r + 1)).flatten = (xss.take r).flatten ++ xs := by
  rw [List.take_add_one, h]; simp
theorem flatten_take_le (xss : List (List Int)) (r : Nat) : (xss.take r).flatten.length ≤ xss.flatten.length := by
  conv => rhs; rw [← List.take_append_drop r xss, List.flatten_append, List.length_append]
  omega

set_option maxHeartbeats 800000 in
theorem concat8 (v : Value) (cs : List Value) (xss : List (List Int)) (w : World) (hr : Rd w v cs) (ht : Texts w cs xss) (hn : xss.flatten.length ≤ 140737488355300) :
    Calls Try.prog 29 #[v] w (RetOwn 5 w (u8s xss.flatten)) := by
  obtain ⟨a, c, rfl, hac, hcm, h3⟩ := hr
  unfold maxLen at hcm
  obtain ⟨K, hK⟩ : ∃ K, K = cs.length := ⟨_, rfl⟩
  rw [← hK] at hac ⊢
  have H3 := Lib.hid h3; have HT := Lib.hid ht; have HK := Lib.hid hK; have HN := Lib.hid hn; clear h3 ht hK hn
  have at_ : ∀ r, r < K → ∃ (a1 : Option Addr) (c1 : Nat) (xs : List Int), xss[r]? = some xs ∧ cs[r]? = some (.slice a1 xs.length c1) ∧ xs.length ≤ c1 ∧ c1 ≤ maxLen ∧ Rd w (.slice a1 xs.length c1) (u8s xs) ∧ (xss.take (r + 1)).flatten = (xss.take r).flatten ++ xs ∧ (xss.take (r + 1)).flatten.length ≤ 140737488355300 := by
    intro r hr
    rw [HK.out] at hr
    have h1 : cs[r]? = some (cs[r]) := by simp [hr]
    have hr2 : r < xss.length := by rw [← HT.out.len]; exact hr
    have h2 : xss[r]? = some (xss[r]) := by simp [hr2]
    have h4 := HT.out.get r _ _ h1 h2
    have h5 := h4
    obtain ⟨a1, c1, he, hl1, hc1, _⟩ := Rd.open h4
    refine ⟨a1, c1, xss[r], h2, by rw [h1, he], hl1, hc1, by rw [← he]; exact h5, flatten_take_succ _ _ _ h2, ?_⟩
    have := flatten_take_le xss (r + 1); have := HN.out; omega
  have AT := Lib.hid at_; clear at_
  go_enter Try.func29, Try.ntmps29
  go_wp2_with fail
  go_loopg [3, 11] K (fun g s i wr => ∃ (r : Nat), r + g = K ∧ i = .int .i64 (r : Int) ∧ s = .int .i64 (((xss.take r).flatten.length : Nat) : Int) ∧ wr = w)
  case atStart => exact ⟨0, by omega, rfl, rfl, rfl⟩
  case round =>
    obtain ⟨r, hg, rfl, rfl, rfl⟩ := hrel
    by_cases hlt : r < K
    · obtain ⟨a1, c1, xs, g1, g2, g3, g4, _, g6, g7⟩ := AT.out r hlt
      rcases H3.out with h0 | ⟨b, o, rfl, hc⟩
      · have := HK.out; rw [h0] at this; simp at this; omega
      · have hcell := hc r _ g2
        rw [g6, List.length_append] at g7
        have e1 : (((xss.take r).flatten.length + xs.length : Nat) : Int) = ((xss.take (r + 1)).flatten.length : Int) := by rw [g6, List.length_append]
        unfold maxLen at g4
        obtain ⟨S, hS⟩ : ∃ S, S = (xss.take r).flatten.length := ⟨_, rfl⟩
        rw [← hS] at g7 e1 ⊢
        have E1 := Lib.hid e1; clear e1 hS hc g6 g1 g2
        go_wp2_with fail
        go_roundg (gk - 1)
        case measure => omega
        case rel => exact ⟨r + 1, by omega, by go_num, by rw [← E1.out]; go_num, rfl⟩
    · have hrk : r = K := by omega
      subst hrk
      have e0 : (xss.take r).flatten = xss.flatten := by rw [List.take_of_length_le (by rw [HK.out, HT.out.len]; exact Nat.le_refl _)]
      rw [e0]
      have hn := HN.out
      obtain ⟨S, hS⟩ : ∃ S, S = xss.flatten.length := ⟨_, rfl⟩
      rw [← hS] at hn ⊢
      have HSS := Lib.hid hS; clear hS e0
      go_wp2_with fail
      refine (grow8_nil S wr (by omega)).mono ?_
      rintro e w1 ⟨v1, rfl, ho1, hE1⟩
      have hs1 := hE1.size
      have HO1 := Lib.hid ho1; clear ho1
      go_wp2_with fail
      obtain ⟨wo, hwo⟩ : ∃ wo : World, wo = wr := ⟨_, rfl⟩
      subst hwo
      go_loopg [6, 27] r (fun g b i wr => ∃ (q : Nat), q + g = r ∧ i = .int .i64 (q : Int) ∧ wr.ownsRow wo.heap.size 5 1 b (xss.take q).flatten.length (u8s (xss.take q).flatten) ∧ Ext wo wr ∧ wo.heap.size ≤ wr.heap.size)
      case atStart => exact ⟨0, by omega, rfl, by simpa [u8s] using HO1.out, hE1, hs1⟩
      case round =>
        obtain ⟨q, hq, rfl, ho2, hE2, hs2⟩ := hrel
        by_cases hlt2 : q < r
        · obtain ⟨a1, c1, xs, g1, g2, g3, g4, g5, g6, g7⟩ := AT.out q hlt2
          rcases H3.out with h0 | ⟨b, o, rfl, hc⟩
          · have := HK.out; rw [h0] at this; simp at this; omega
          · have hcell := hE2.cell (hc q _ g2)
            have g5' := Lib.hid (g5.ext hE2)
            have E1 := Lib.hid g6
            have g7' := g7
            rw [g6, List.length_append] at g7'
            have HO2 := Lib.hid ho2
            clear hc g1 g2 g5 g6 g7 ho2 g4 g3
            go_wp2_with (at_builtin; refine wpList_append_rd rfl (.tmp 31) (.tmp 32) _ rfl el8 wo.heap.size _ _ _ (u8s xs) rfl HO2.out _ rfl g5'.out (u8s_one _) (by rw [u8s_len]; omega) (by rw [u8s_len]; unfold maxLen; omega) hs2 ?_)
            intro v3 w3 ho3 hg3
            have hE3 : Ext wo w3 := Below.grown hE2 hg3 hs2 fun k hk => (HO2.out.lt k hk).1
            have hs3 := hE3.size
            have ho4 := own_n ho3
            rw [← u8s_append, ← E1.out, u8s_len] at ho4
            clear ho3; have ho3 := ho4; clear ho4
            have HO3 := Lib.hid ho3; clear ho3 hg3
            go_wp2_with fail
            go_roundg (gk - 1)
            case measure => omega
            case rel => exact ⟨q + 1, by omega, by go_num, HO3.out, hE3, hs3⟩
        · have hqk : q = r := by omega
          subst hqk
          have HO2 := Lib.hid ho2; clear ho2
          go_wp2_with fail
          go_ret
          refine ⟨_, rfl, ?_, hE2⟩
          have := HO2.out
          rw [List.take_of_length_le (by rw [HK.out, HT.out.len]; exact Nat.le_refl _)] at this
          rw [u8s_len]; exact this

set_option maxHeartbeats 400000 in
/-- slices.Clone: nil of nil; else a new slice. -/
theorem clone8 (v : Value) (xs : List Int) (w : World) (hr : Rd w v (u8s xs)) (hx : xs.length ≤ 140737488355328) : Calls Try.prog 21 #[v] w (RetOwn 5 w (u8s xs)) := by
  have HR := Lib.hid hr
  obtain ⟨a, c, rfl, hl, hc, h3⟩ := Rd.open hr
  have q := fun (w : World) (a : Option Addr) (n c n' c' : Nat) => Lib.run_eql_slice_nil (P := Try.prog) w 29 _ a n c n' c' Try.underlying29
  cases a with
  | none =>
    have h0 : xs = [] := by rcases h3 with h | ⟨_, _, h, _⟩; exact h; cases h
    subst h0
    clear h3 hr HR
    go_enter Try.func21, Try.ntmps21
    go_wp2_with fail
    go_ret
    exact ⟨_, rfl, World.ownsRow_nil _ _ _ _, Ext.refl _⟩
  | some ad =>
    clear h3 hr
    have HO1 : Hid ((w.alloc (.cells #[] 5)).ownsRow w.heap.size 5 1 (.slice (some ⟨w.heap.size, 0, none⟩) 0 0) 0 []) := own_lit w [] 5 (by simp)
    go_enter Try.func21, Try.ntmps21
    go_wp2_with (at_builtin; refine wpList_append_rd rfl (.tmp 5) (.tmp 6) _ rfl el8 w.heap.size _ 0 [] (u8s xs) rfl HO1.out _ rfl (HR.out.ext (Ext.alloc _ _)) (u8s_one _) (by rw [u8s_len]; omega) (by rw [u8s_len]; unfold maxLen; omega) (by simp) ?_)
    intro v2 w2 ho2 hg2
    have hE2 : Ext w w2 := Below.grown (Ext.alloc w (.cells #[] 5)) hg2 (by simp) (by intro k hk; simp [Value.ownBlock] at hk; omega)
    have HO2 := Lib.hid ho2; clear ho2 hg2
    go_wp2_with fail
    go_ret
    exact ⟨_, rfl, by have := HO2.out; simpa using own_n this, hE2⟩
end Go.Proofs.Ytgefphfnicjbiaa

/- 'recover' in a region that draws its order. Of any program. -/
namespace Go.Proofs.Ytgefphfnicjbiaa
open Go Go.RowKit

/-- All orders that a region may take. -/
def orders (md : Region.Mode) (ops : Array Oper) : Nat → Array Bool → List (List Nat)
  | 0, _ => [[]]
  | fuel + 1, listed => match Region.ready md ops listed with
    | [] => [[]]
    | rs => rs.flatMap fun i => (orders md ops fuel (listed.setIfInBounds i true)).map (i :: ·)

theorem go_mem_orders (md : Region.Mode) (ops : Array Oper) : ∀ (fuel t : Nat) (listed : Array Bool), Region.linearise.go md ops fuel t listed [] ∈ orders md ops fuel listed := by
  intro fuel
  induction fuel with
  | zero => intro t listed; simp [Region.linearise.go, orders]
  | succ fuel ih =>
    intro t listed
    simp only [Region.linearise.go]
    change (match (Region.ready md ops listed)[t % (Region.ready md ops listed).length]? with
      | some i => Region.linearise.go md ops fuel (t / (Region.ready md ops listed).length) (listed.setIfInBounds i true) [i]
      | none => [].reverse) ∈ _
    simp only [orders]
    cases hr : Region.ready md ops listed with
    | nil => simp
    | cons x xs =>
      have hlt : t % (x :: xs).length < (x :: xs).length := Nat.mod_lt _ (by simp)
      rw [List.getElem?_eq_getElem hlt]
      simp only []
      rw [linearise_go_acc, List.reverse_singleton, List.singleton_append]
      exact List.mem_flatMap.2 ⟨_, List.getElem_mem hlt, List.mem_map.2 ⟨_, ih _ _, rfl⟩⟩

theorem wpS_region_draw {P : Program} {ops : Array Oper} {Q : Exit → Act → List Frame → World → Prop} {a : Act} {cs : List Frame} {w : World} {id : Nat} (L : List (List Nat)) (hm : P.follows .mixedOrders = true) (hL : orders .any ops ops.size (Array.replicate ops.size false) = L)
    (h : ∀ l ∈ L, wpOpsS P ops Q l a cs w.drew) : (Code.region id ops true).wpS P Q a cs w := by
  subst hL
  intro b k hb hr
  have hl : Region.schedule (P.follows .mixedOrders) ops (w.tape w.drawn (.order b.fn id)) ∈ orders .any ops ops.size (Array.replicate ops.size false) := by
    simp only [Region.schedule, hm, Bool.true_or, if_true]
    exact go_mem_orders .any ops _ _ _
  obtain ⟨e, a', cs', w', q, r⟩ := wp_opsS _ a cs w.drew (h _ hl) b k hb hr
  exact ⟨e, a', cs', w', q, .of_steps (.one step_region_draw) r⟩

/-! ### What a call leaves alone but for one block -/
theorem Ext.grownBy {w w' : World} (h : Ext w w') (r : Option Nat) : w.grownBy w' r := ⟨h.os, h.tape, h.output, h.size, fun k hk _ => h.block k hk⟩
theorem grown_refl (w : World) (r : Option Nat) : w.grownBy w r := ⟨rfl, rfl, rfl, Nat.le_refl _, fun _ _ _ => rfl⟩
theorem grown_set (w : World) (b j : Nat) (v : Value) (s : Option Nat := none) : w.grownBy (w.setCell ⟨b, j, none⟩ v) (some b) :=
  ⟨rfl, rfl, rfl, by simp [World.setCell], fun k _ hne => by rw [Below.heap_setCell _ _ _ _ (by intro e; exact hne (by rw [e]))]⟩
theorem grown_trans1 {a b c : World} {r : Option Nat} (h : a.grownBy b r) (k : b.grownBy c r) : a.grownBy c r := grown_trans h k (.inl rfl)
theorem grown_drew {w w' : World} {r : Option Nat} (h : w.grownBy w' r) : w.grownBy w'.drew r := ⟨h.os, h.tape, h.output, h.size, h.block⟩
theorem Blk.grown {w w' : World} {b : Nat} {cs : Array Value} {e : TypeId} {r : Option Nat} (h : Blk w b cs e) (hg : w.grownBy w' r) (hr : some b ≠ r) : Blk w' b cs e := by
  unfold Blk at *; rw [hg.block b (Blk.lt h) hr]; exact h
theorem cell_grown {w w' : World} {r : Option Nat} (hg : w.grownBy w' r) {p : Addr} {v : Value} (h : w.cell? p = some v) (hr : some p.block ≠ r) : w'.cell? p = some v := by
  rw [World.cell?_of_block (hg.block p.block (World.block_lt_of_cell? w p h) hr)]; exact h
/-- The block that v lies in, if it has cells, is none of r. -/
def Off (v : Value) (cs : List Value) (r : Option Nat) : Prop := ∀ a n c, v = .slice (some a) n c → cs ≠ [] → some a.block ≠ r
theorem Rd.grown {w w' : World} {v : Value} {cs : List Value} {r : Option Nat} (h : Rd w v cs) (hg : w.grownBy w' r) (ho : Off v cs r) : Rd w' v cs := by
  obtain ⟨a, c, hv, h1, h2, h3⟩ := h
  refine ⟨a, c, hv, h1, h2, ?_⟩
  by_cases hn : cs = []
  · exact .inl hn
  · rcases h3 with h3 | ⟨b, o, rfl, hc⟩
    · exact absurd h3 hn
    · exact .inr ⟨b, o, rfl, fun j u hj => cell_grown hg (hc j u hj) (by have := ho _ _ _ hv hn; exact this)⟩
/-- A block whose cells are none of the slice's is not its block. -/
theorem Rd.off {w : World} {v : Value} {cs : List Value} {b : Nat} {ds : Array Value} {e : TypeId} (h : Rd w v cs) (hb : Blk w b ds e) (hd : ∀ u ∈ ds, u ∉ cs) : Off v cs (some b) := by
  intro a n c hv hn hab
  obtain ⟨a', c', hv', h1, h2, h3⟩ := h
  rcases h3 with h3 | ⟨b', o, ha', hc⟩
  · exact hn h3
  · rw [hv] at hv'
    cases hv'
    cases ha'
    cases hab
    cases cs with
    | nil => exact hn rfl
    | cons u us =>
      have h0 := hc 0 u rfl
      rw [cell_of_row w _ _ ds e (0, 0) hb] at h0
      exact hd u (Array.mem_of_getElem? h0) (by simp)
end Go.Proofs.Ytgefphfnicjbiaa

/- What a call leaves alone but for some blocks. Of any program. -/
namespace Go.Proofs.Ytgefphfnicjbiaa
open Go Go.RowKit

/-- All blocks of w but those of S are in w' as they were. -/
structure Chg (S : List Nat) (w w' : World) : Prop where
  os : w'.os = w.os
  tape : w'.tape = w.tape
  output : w'.output = w.output
  size : w.heap.size ≤ w'.heap.size
  block : ∀ k, k < w.heap.size → k ∉ S → w'.heap[k]? = w.heap[k]?
section
variable {S T : List Nat} {w w' w'' : World}
theorem Chg.refl (S : List Nat) (w : World) : Chg S w w := ⟨rfl, rfl, rfl, Nat.le_refl _, fun _ _ _ => rfl⟩
theorem Chg.trans' (h : Chg S w w') (k : Chg T w' w'') (hT : ∀ t ∈ T, t ∈ S ∨ w.heap.size ≤ t) : Chg S w w'' :=
  ⟨k.os.trans h.os, k.tape.trans h.tape, k.output.trans h.output, Nat.le_trans h.size k.size, fun i hi hn =>
    (k.block i (Nat.lt_of_lt_of_le hi h.size) fun ht => by rcases hT i ht with h1 | h1; exact hn h1; omega).trans (h.block i hi hn)⟩
theorem Chg.trans (h : Chg S w w') (k : Chg S w' w'') : Chg S w w'' := h.trans' k fun _ ht => .inl ht
theorem Chg.mono (h : Chg T w w') (hT : ∀ t ∈ T, t ∈ S ∨ w.heap.size ≤ t) : Chg S w w' := (Chg.refl S w).trans' h hT
theorem Chg.ext (h : Ext w w') : Chg S w w' := ⟨h.os, h.tape, h.output, h.size, fun k hk _ => h.block k hk⟩
theorem Chg.grown {r : Option Nat} (h : w.grownBy w' r) : Chg r.toList w w' :=
  ⟨h.os, h.tape, h.output, h.size, fun k hk hn => h.block k hk (by intro e; subst e; simp at hn)⟩
theorem Chg.some {b : Nat} (h : w.grownBy w' (some b)) (hb : b ∈ S ∨ w.heap.size ≤ b) : Chg S w w' :=
  (Chg.grown h).mono fun t ht => by simp at ht; subst ht; exact hb
theorem Chg.set (p j : Nat) (v : Value) (hp : p ∈ S) : Chg S w (w.setCell ⟨p, j, none⟩ v) := Chg.some (grown_set w p j v) (.inl hp)
theorem Chg.setNew (h : Chg S w w') (p j : Nat) (v : Value) (hp : p ∈ S ∨ w.heap.size ≤ p) : Chg S w (w'.setCell ⟨p, j, none⟩ v) :=
  h.trans' (Chg.grown (grown_set w' p j v)) fun t ht => by simp at ht; subst ht; exact hp
theorem Chg.drew : Chg S w w.drew := Chg.ext (Ext.drew w)
theorem Chg.toDrew (h : Chg S w w') : Chg S w w'.drew := ⟨h.os, h.tape, h.output, h.size, h.block⟩
theorem Chg.below {B : Nat} {w0 : World} (h : Below B w0 w) (k : Chg S w w') (hB : B ≤ w.heap.size) (hS : ∀ t ∈ S, B ≤ t) : Below B w0 w' :=
  ⟨k.os.trans h.os, k.tape.trans h.tape, k.output.trans h.output, Nat.le_trans h.size k.size, fun i hi => (k.block i (Nat.lt_of_lt_of_le hi hB) fun ht => by have := hS i ht; omega).trans (h.block i hi)⟩
theorem Chg.toExt (h : Chg S w w') (hS : ∀ t ∈ S, w.heap.size ≤ t) : Ext w w' := Chg.below (Below.refl _ _) h (Nat.le_refl _) hS
theorem Blk.chg {b : Nat} {cs : Array Value} {e : TypeId} (h : Blk w b cs e) (hg : Chg S w w') (hb : b ∉ S) : Blk w' b cs e := by
  unfold Blk at *; rw [hg.block b (Blk.lt h) hb]; exact h
theorem cell_chg (hg : Chg S w w') {p : Addr} {v : Value} (h : w.cell? p = some v) (hp : p.block ∉ S) : w'.cell? p = some v := by
  rw [World.cell?_of_block (hg.block p.block (World.block_lt_of_cell? w p h) hp)]; exact h
/-- The block that v lies in, if it has cells, is none of S. -/
def OffL (v : Value) (cs : List Value) (S : List Nat) : Prop := ∀ a n c, v = .slice (some a) n c → cs ≠ [] → a.block ∉ S
theorem Rd.chg {v : Value} {cs : List Value} (h : Rd w v cs) (hg : Chg S w w') (ho : OffL v cs S) : Rd w' v cs := by
  obtain ⟨a, c, hv, h1, h2, h3⟩ := h
  refine ⟨a, c, hv, h1, h2, ?_⟩
  by_cases hn : cs = []
  · exact .inl hn
  · rcases h3 with h3 | ⟨b, o, rfl, hc⟩
    · exact absurd h3 hn
    · exact .inr ⟨b, o, rfl, fun j u hj => cell_chg hg (hc j u hj) (by have := ho _ _ _ hv hn; exact this)⟩
/-- A slice that lies in blocks from B on. -/
def From (B : Nat) (v : Value) : Prop := ∀ a n c, v = .slice (some a) n c → B ≤ a.block
theorem From.nil (B : Nat) : From B (.slice none 0 0) := fun _ _ _ h => by cases h
theorem From.mono {B B' : Nat} {v : Value} (h : From B v) (hb : B' ≤ B) : From B' v := fun a n c hv => Nat.le_trans hb (h a n c hv)
theorem From.off {B : Nat} {v : Value} {cs : List Value} (h : From B v) (hS : ∀ t ∈ S, t < B) : OffL v cs S := fun a n c hv _ hm => by have := h a n c hv; have := hS _ hm; omega
theorem From.own {base : Nat} {e : TypeId} {sz n : Nat} {v : Value} {xs : List Value} (h : w.ownsRow base e sz v n xs) : From base v := fun a m c hv => by
  rcases h.2 with ⟨hn, _⟩ | ⟨g, cap, cur, hv', hg, _⟩
  · rw [hn] at hv; cases hv
  · rw [hv'] at hv; cases hv; exact hg
end
end Go.Proofs.Ytgefphfnicjbiaa

/- Slices of rows of several cells in memory. Of any program. -/
namespace Go.Proofs.Ytgefphfnicjbiaa
open Go Go.RowKit

/-- v is a slice whose elements are the rows, of s cells each. -/
def RowV (w : World) (s : Nat) (v : Value) (rows : List (List Value)) : Prop := ∃ a c, v = .slice a rows.length c ∧ rows.length ≤ c ∧ c ≤ maxLen ∧
  (rows = [] ∨ ∃ b o, a = some ⟨b, o, none⟩ ∧ ∀ (i : Nat) r, rows[i]? = some r → ∀ (j : Nat) u, r[j]? = some u → w.cell? ⟨b, o + i * s + j, none⟩ = some u)
theorem RowV.nil (w : World) (s : Nat) : RowV w s (.slice none 0 0) [] := ⟨none, 0, rfl, Nat.le_refl _, by unfold maxLen; omega, .inl rfl⟩
theorem RowV.chg {w w' : World} {s : Nat} {v : Value} {rows : List (List Value)} {S : List Nat} (h : RowV w s v rows) (hg : Chg S w w') (ho : ∀ a n c, v = .slice (some a) n c → rows ≠ [] → a.block ∉ S) : RowV w' s v rows := by
  obtain ⟨a, c, hv, h1, h2, h3⟩ := h
  refine ⟨a, c, hv, h1, h2, ?_⟩
  by_cases hn : rows = []
  · exact .inl hn
  · rcases h3 with h3 | ⟨b, o, rfl, hc⟩
    · exact absurd h3 hn
    · exact .inr ⟨b, o, rfl, fun i r hr j u hj => cell_chg hg (hc i r hr j u hj) (by have := ho _ _ _ hv hn; exact this)⟩
theorem RowV.ext {w w' : World} {s : Nat} {v : Value} {rows : List (List Value)} (h : RowV w s v rows) (hE : Ext w w') : RowV w' s v rows := h.chg (S := []) (Chg.ext hE) (by simp)
theorem RowV.of_own {w : World} {base s : Nat} {e : TypeId} {v : Value} {rows : List (List Value)} (h : w.ownsRow base e s v rows.length rows.flatten) (hs : ∀ r ∈ rows, r.length = s) : RowV w s v rows := by
  rcases h.2 with ⟨hv, h0⟩ | ⟨g, cap, cur, hv, _, hh, h1, h2, h3, h4⟩
  · have : rows = [] := List.eq_nil_of_length_eq_zero h0
    subst this
    exact ⟨none, 0, hv, Nat.le_refl _, by unfold maxLen; omega, .inl rfl⟩
  · refine ⟨_, cap, hv, h1, h2, .inr ⟨g, 0, rfl, fun i r hr j u hj => ?_⟩⟩
    rw [Nat.zero_add]
    refine (show Blk w g cur e from hh).cell _ ?_
    have key : ∀ (rows : List (List Value)) (i : Nat) (r : List Value), (∀ r ∈ rows, r.length = s) → rows[i]? = some r → r[j]? = some u → rows.flatten[i * s + j]? = some u := by
      intro rows
      induction rows with
      | nil => intro i r _ hi _; simp at hi
      | cons x t ih =>
        intro i r hs hi hj
        have hx := hs x (by simp)
        rw [List.flatten_cons]
        cases i with
        | zero =>
          simp at hi; subst hi
          have hjl := (List.getElem?_eq_some_iff.1 hj).1
          rw [List.getElem?_append_left (by omega)]
          simpa using hj
        | succ i =>
          simp at hi
          rw [List.getElem?_append_right (by rw [hx, Nat.succ_mul]; omega), hx, show (i + 1) * s + j - s = i * s + j by rw [Nat.succ_mul]; omega]
          exact ih i r (fun r hr => hs r (by simp [hr])) hi hj
    have hk := key rows i r hs hr hj
    rw [← h4, List.getElem?_take] at hk
    split at hk
    · simpa using hk
    · cases hk
theorem RowV.lt {w : World} {s : Nat} {v : Value} {rows : List (List Value)} {a : Addr} {n c : Nat} (h : RowV w s v rows) (e : v = .slice (some a) n c) (hne : rows ≠ []) (hr : ∀ r ∈ rows, r ≠ []) : a.block < w.heap.size := by
  obtain ⟨a', c', hv, _, _, h3⟩ := h
  rcases h3 with h3 | ⟨b, o, rfl, hc⟩
  · exact absurd h3 hne
  · rw [e] at hv
    cases hv
    cases rows with
    | nil => exact absurd rfl hne
    | cons r t =>
      cases hr2 : r with
      | nil => exact absurd hr2 (hr r (by simp))
      | cons u x => exact World.block_lt_of_cell? w ⟨b, o + 0 * s + 0, none⟩ (hc 0 r rfl 0 u (by rw [hr2]; rfl))
end Go.Proofs.Ytgefphfnicjbiaa

/- Rows that no string shares: whose cells may be written. Of any program. -/
namespace Go.Proofs.Ytgefphfnicjbiaa
open Go Go.RowKit

/-- The row that v's elements lie in, if it has any, is shared by no string. -/
def UnT (w : World) (v : Value) : Prop := ∀ a n c, v = .slice (some a) n c → n ≠ 0 → ∃ cs, Blk w a.block cs 5
section
variable {w w' : World} {v : Value}
theorem UnT.nil (w : World) : UnT w (.slice none 0 0) := fun _ _ _ h => by cases h
theorem UnT.zero (w : World) (a : Option Addr) (c : Nat) : UnT w (.slice a 0 c) := fun _ _ _ h hn => by cases h; exact absurd rfl hn
theorem UnT.not (w : World) {v : Value} (h : ∀ a n c, v ≠ .slice a n c) : UnT w v := fun _ _ _ e => absurd e (h _ _ _)
theorem UnT.set (h : UnT w v) (b j : Nat) (u : Value) : UnT (w.setCell ⟨b, j, none⟩ u) v := fun a n c e hn => by
  obtain ⟨cs, hB⟩ := h a n c e hn
  by_cases hb : b = a.block
  · subst hb; exact ⟨_, hB.set j u⟩
  · exact ⟨_, hB.other ⟨b, j, none⟩ u hb⟩
theorem UnT.drew (h : UnT w v) : UnT w.drew v := fun a n c e hn => by
  obtain ⟨cs, hB⟩ := h a n c e hn
  exact ⟨cs, hB.drew⟩
theorem UnT.ext (h : UnT w v) (hE : Ext w w') : UnT w' v := fun a n c e hn => by
  obtain ⟨cs, hB⟩ := h a n c e hn
  exact ⟨cs, hB.ext hE⟩
theorem UnT.grown {r : Option Nat} (h : UnT w v) (hg : w.grownBy w' r) (hr : ∀ a n c, v = .slice (some a) n c → n ≠ 0 → some a.block ≠ r) : UnT w' v := fun a n c e hn => by
  obtain ⟨cs, hB⟩ := h a n c e hn
  exact ⟨cs, hB.grown hg (hr a n c e hn)⟩
theorem UnT.chg {S : List Nat} (h : UnT w v) (hg : Chg S w w') (hS : ∀ a n c, v = .slice (some a) n c → n ≠ 0 → a.block ∉ S) : UnT w' v := fun a n c e hn => by
  obtain ⟨cs, hB⟩ := h a n c e hn
  exact ⟨cs, hB.chg hg (hS a n c e hn)⟩
theorem UnT.own {base : Nat} {sz n : Nat} {xs : List Value} (h : w.ownsRow base 5 sz v n xs) : UnT w v := fun a m c hv _ => by
  rcases h.2 with ⟨hn, _⟩ | ⟨g, cap, cur, hv', hg, hh, _⟩
  · rw [hn] at hv; cases hv
  · rw [hv'] at hv; cases hv; exact ⟨_, hh⟩
end
end Go.Proofs.Ytgefphfnicjbiaa

/- Own rows: a copy by append to an empty slice; a cell turned; types tell rows apart. Of any program. -/
namespace Go.Proofs.Ytgefphfnicjbiaa
open Go Go.RowKit

theorem flat_row {s : Nat} {u : Value} : ∀ (rows : List (List Value)) (j : Nat), (∀ r ∈ rows, r.length = s) → rows.flatten[j]? = some u → ∃ i r j', rows[i]? = some r ∧ r[j']? = some u ∧ j = i * s + j'
  | [], j, _, h => by simp at h
  | x :: t, j, hs, h => by
    have hx := hs x (by simp)
    rw [List.flatten_cons] at h
    by_cases hj : j < s
    · rw [List.getElem?_append_left (by omega)] at h
      exact ⟨0, x, j, rfl, h, by omega⟩
    · rw [List.getElem?_append_right (by omega), hx] at h
      obtain ⟨i, r, j', h1, h2, h3⟩ := flat_row t (j - s) (fun r hr => hs r (by simp [hr])) h
      exact ⟨i + 1, r, j', by simpa using h1, h2, by rw [Nat.succ_mul]; omega⟩
/-- What an append to an empty slice with no room brings. -/
def Half (w w' : World) (p : Nat) (e : TypeId) (size m : Nat) (news : List Value) (v' : Value) : Prop :=
  (m = 0 ∧ v' = .slice (some ⟨p, 0, none⟩) 0 0) ∨ (0 < m ∧ w'.ownsRow w.heap.size e size v' m news)
section
variable {P : Program} {w : World} {ops : Array Oper} {rest : List Oper} {o : Oper} {a : Act} {Q : Exit → Act → World → Prop}
theorem run_append_zero (t ty e : TypeId) (i : TypeInfo) (ht : P.underlying t = some (.slice e)) (hi : P.info? e = some i) (ad : Addr) (ax : Option Addr) (c : Nat) :
    (Builtin.append_ #[t, t] ty #[.slice (some ad) 0 0, .slice ax 0 c]).run P w = .ok (.slice (some ad) 0 0) w := by
  cases ax with
  | none => simp [Builtin.append_, run_underlying ht, sizeOf, typeInfo, hi, Builtin.lenOf, run_firstCells_none, storeCells]
  | some x =>
    have hf := run_firstCells_some (P := P) w i.size 0 x 0 c [] (by simp) (by simp)
    simp [Builtin.append_, run_underlying ht, sizeOf, typeInfo, hi, Builtin.lenOf, hf, storeCells]
theorem wpList_append_half (hgd : o.guard = none) (s x : Operand) (t : TypeId) (ho : o.op = .call { callee := .builtin .append, args := #[s, x], argTypes := #[t, t] })
    (e : TypeId) (z : Value) (size bytes : Nat) (ht : P.underlying t = some (.slice e)) (hi : (P.info? e).map (fun i => (i.zero, i.size, i.bytes)) = some (some z, size, bytes)) (hzs : z.cells.size = size) (hsz : 0 < size)
    (p : Nat) (hs : a.eval s = .slice (some ⟨p, 0, none⟩) 0 0) (ax : Option Addr) (m c : Nat) (news : List Value) (hx : a.eval x = .slice ax m c) (hl : news.length = m * size)
    (hnews : m = 0 ∨ ∃ ad, ax = some ad ∧ ∀ j u, news[j]? = some u → w.cell? (ad.add j) = some u) (h63 : m ≤ maxLen) (hbytes : m * bytes ≤ 140737488355328)
    (h : ∀ v' w', Half w w' p e size m news v' → Ext w w' → wpList P ops Q rest (a.put o.dst v') w') : wpList P ops Q (o :: rest) a w := by
  obtain ⟨i, hi, hz, hsize, hby⟩ := info_parts hi
  refine wpList_plain hgd fun K hK => ?_
  have key : ∃ v' w', (Builtin.append_ #[t, t] o.type #[.slice (some ⟨p, 0, none⟩) 0 0, .slice ax m c]).run P w = .ok v' w' ∧ Half w w' p e size m news v' ∧ Ext w w' := by
    by_cases hm : m = 0
    · subst hm
      exact ⟨_, w, run_append_zero t o.type e i ht hi ⟨p, 0, none⟩ ax c, .inl ⟨rfl, rfl⟩, Ext.refl _⟩
    · rcases hnews with h0 | ⟨ad, rfl, hc⟩
      · exact absurd h0 hm
      · obtain ⟨v', w', hr, ho', hg⟩ := run_append_arg_grows (P := P) w t o.type e i z size bytes ht hi hz hsize hby hzs hsz ⟨p, 0, none⟩ 0 0 [] (by simp) (by simp) ad m c news hl hc (by omega) (by omega) (by simpa using hbytes)
        simp only [Nat.zero_add, List.nil_append] at ho'
        exact ⟨v', w', hr, .inr ⟨by omega, ho'⟩, ⟨hg.os, hg.tape, hg.output, hg.size, fun k hk => hg.block k hk (by simp)⟩⟩
  obtain ⟨v', w', hr, h1, h2⟩ := key
  unfold Oper.wp execOp
  simp only [ho, resolve, invoke, builtin, Sem.run_bind, Sem.run_pure, Result.andThen_ok, List.map_toArray, List.map_cons, List.map_nil, hs, hx, hr]
  exact hK _ _ (h v' w' h1 h2)
end
theorem own_low {w : World} {B B' s n : Nat} {e : TypeId} {v : Value} {xs : List Value} (h : w.ownsRow B e s v n xs) (hB : B' ≤ B) : w.ownsRow B' e s v n xs := by
  refine ⟨h.1, h.2.imp id ?_⟩
  rintro ⟨g, cap, cur, h1, h2, h3⟩
  exact ⟨g, cap, cur, h1, Nat.le_trans hB h2, h3⟩
theorem own_type {w : World} {B s n : Nat} {e : TypeId} {v : Value} {xs : List Value} (h : w.ownsRow B e s v n xs) : ∀ t ∈ v.ownBlock.toList, B ≤ t ∧ t < w.heap.size ∧ ∃ cur, Blk w t cur e := fun t ht => by
  rcases h.2 with ⟨hv, _⟩ | ⟨g, cap, cur, hv, hg, hh, _⟩
  · rw [hv] at ht; simp [Value.ownBlock] at ht
  · rw [hv] at ht; simp [Value.ownBlock] at ht; subst ht
    exact ⟨hg, (Array.getElem?_eq_some_iff.1 hh).1, cur, hh⟩
theorem blk_type {w : World} {t : Nat} {c c' : Array Value} {e e' : TypeId} (h : Blk w t c e) (h' : Blk w t c' e') : e = e' := by
  unfold Blk at h h'
  rw [h] at h'
  cases h'; rfl
/-- Rows of two element types lie in two blocks. -/
theorem own_apart {w : World} {B B' s s' n n' : Nat} {e e' : TypeId} {v v' : Value} {xs xs' : List Value} (h : w.ownsRow B e s v n xs) (h' : w.ownsRow B' e' s' v' n' xs') (he : e ≠ e') : ∀ t ∈ v.ownBlock.toList, t ∉ v'.ownBlock.toList := fun t ht ht' => by
  obtain ⟨_, _, c, hc⟩ := own_type h t ht
  obtain ⟨_, _, c', hc'⟩ := own_type h' t ht'
  exact he (blk_type hc hc')
theorem own_off {w w' : World} {S : List Nat} {base : Nat} {e : TypeId} {size : Nat} {v : Value} {n : Nat} {xs : List Value} (h : w.ownsRow base e size v n xs) (hg : Chg S w w') (hS : ∀ t ∈ v.ownBlock.toList, t ∉ S) : w'.ownsRow base e size v n xs := by
  obtain ⟨h1, h2⟩ := h
  refine ⟨h1, ?_⟩
  rcases h2 with h2 | ⟨g, cap, cur, hv, hg', hh, r⟩
  · exact .inl h2
  · exact .inr ⟨g, cap, cur, hv, hg', (hg.block g (Array.getElem?_eq_some_iff.1 hh).1 (hS g (by rw [hv]; simp [Value.ownBlock]))).trans hh, r⟩
/-- A cell of an own row is turned. -/
theorem own_set {w : World} {base size g n cap : Nat} {e : TypeId} {xs : List Value} (h : w.ownsRow base e size (.slice (some ⟨g, 0, none⟩) n cap) n xs) (j : Nat) (hj : j < xs.length) (u : Value) :
    (w.setCell ⟨g, j, none⟩ u).ownsRow base e size (.slice (some ⟨g, 0, none⟩) n cap) n (xs.set j u) := by
  obtain ⟨h1, h2⟩ := h
  refine ⟨by rw [List.length_set]; exact h1, ?_⟩
  rcases h2 with ⟨h2, _⟩ | ⟨g', cap', cur, hv, hg', hh, k1, k2, k3, k4⟩
  · cases h2
  · cases hv
    refine .inr ⟨g, cap, _, rfl, hg', (show Blk w g cur e from hh).set j u, k1, k2, by simpa using k3, ?_⟩
    rw [← k4, Array.toList_setIfInBounds, List.take_set]
theorem own_free {w : World} {base size g n cap : Nat} {e : TypeId} {xs : List Value} (h : w.ownsRow base e size (.slice (some ⟨g, 0, none⟩) n cap) n xs) (j : Nat) : w.frozen? ⟨g, j, none⟩ = false := by
  rcases h.2 with ⟨h2, _⟩ | ⟨g', cap', cur, hv, hg', hh, _⟩
  · cases h2
  · cases hv; exact (show Blk w g cur e from hh).free j
theorem own_cell {w : World} {base size g n cap : Nat} {e : TypeId} {xs : List Value} (h : w.ownsRow base e size (.slice (some ⟨g, 0, none⟩) n cap) n xs) (j : Nat) {u : Value} (hj : xs[j]? = some u) : w.cell? ⟨g, j, none⟩ = some u := by
  have := h.cells (g := g) rfl j u hj
  rwa [Addr.add_lit, Nat.zero_add] at this
theorem own_slice {w : World} {base size n : Nat} {e : TypeId} {v : Value} {xs : List Value} (h : w.ownsRow base e size v n xs) : ∃ a c, v = .slice a n c ∧ n ≤ c ∧ c ≤ 9223372036854775807 ∧ (n ≠ 0 → ∃ g, a = some ⟨g, 0, none⟩) := by
  rcases h.2 with ⟨hv, h0⟩ | ⟨g, cap, cur, hv, _, _, k1, k2, _⟩
  · exact ⟨none, 0, by rw [hv, h0], by omega, by omega, fun hn => absurd h0 hn⟩
  · exact ⟨_, cap, hv, k1, by unfold maxLen at k2; omega, fun _ => ⟨g, rfl⟩⟩
/-- An empty slice with no room is an own row of nothing. -/
theorem own_empty {w : World} {base size p : Nat} {e : TypeId} (h : Blk w p #[] e) (hp : base ≤ p) : w.ownsRow base e size (.slice (some ⟨p, 0, none⟩) 0 0) 0 [] :=
  ⟨by simp, .inr ⟨p, 0, #[], rfl, hp, h, Nat.le_refl _, Nat.zero_le _, by simp, by simp⟩⟩
theorem Half.own {w w' : World} {p : Nat} {e : TypeId} {size m : Nat} {news : List Value} {v' : Value} {base : Nat} (h : Half w w' p e size m news v') (hE : Ext w w') (hb : Blk w p #[] e) (hp : base ≤ p) (hw : base ≤ w.heap.size) (hl : news.length = m * size) : w'.ownsRow base e size v' m news := by
  rcases h with ⟨rfl, rfl⟩ | ⟨_, h⟩
  · have : news = [] := List.eq_nil_of_length_eq_zero (by omega)
    subst this
    exact own_empty (hb.ext hE) hp
  · exact own_low h hw
end Go.Proofs.Ytgefphfnicjbiaa

/- copy at elements of several cells. Of any program. -/
namespace Go.Proofs.Ytgefphfnicjbiaa
open Go Go.RowKit
section
variable {P : Program}
theorem run_copy_rowK (w : World) (dT sT ty elem : TypeId) (k g o dLen dCap : Nat) (a : Addr) (sLen sCap : Nat) (cur : Array Value) (t : TypeId) (cs : List Value)
    (hu : P.underlying dT = some (.slice elem)) (hs : (P.info? elem).map (·.size) = some k)
    (hg : w.heap[g]? = some (.cells cur t (0, 0))) (hn : cs.length = Nat.min sLen dLen * k)
    (hsrc : ∀ j v, cs[j]? = some v → w.cell? (a.add j) = some v) (hfit : o + cs.length ≤ cur.size) (h1 : ∀ v ∈ cs, v.oneCell' = true) :
    (Builtin.copy_ #[dT, sT] ty #[.slice (some ⟨g, o, none⟩) dLen dCap, .slice (some a) sLen sCap]).run P w =
      .ok (goInt (Nat.min sLen dLen)) (w.setRow g (cur.toList.take o ++ cs ++ cur.toList.drop (o + cs.length)).toArray) := by
  have hl := run_loadCells_list (P := P) w a cs hsrc
  have hst := run_storeCells_at P g o t cs 0 cur w hg (by simpa using hfit) h1
  cases hq : P.info? elem with
  | none => simp [hq] at hs
  | some i =>
    have hi : i.size = k := by simpa [hq] using hs
    simp [Builtin.copy_, run_underlying hu, Builtin.lenOf, Builtin.firstCells, sizeOf, typeInfo, hq, hi, ← hn, hl, hst]
theorem wpList_copy_eq (w : World) {ops : Array Oper} {rest : List Oper} {o : Oper} {a : Act} {Q : Exit → Act → World → Prop} (hgd : o.guard = none) (d s : Operand) (t t' : TypeId)
    (ho : o.op = .call { callee := .builtin .copy, args := #[d, s], argTypes := #[t, t'] }) (v u : Value) (hd : a.eval d = v) (hs : a.eval s = u) {v' : Value} {w' : World}
    (hr : (Builtin.copy_ #[t, t'] o.type #[v, u]).run P w = .ok v' w') (h : wpList P ops Q rest (a.put o.dst v') w') : wpList P ops Q (o :: rest) a w := by
  refine wpList_plain hgd fun K hK => ?_
  unfold Oper.wp execOp
  simp only [ho, resolve, invoke, builtin, Sem.run_bind, Sem.run_pure, Result.andThen_ok, List.map_toArray, List.map_cons, List.map_nil, hd, hs, hr]
  exact hK _ _ h
end
end Go.Proofs.Ytgefphfnicjbiaa

/- 'append(s, x)' of one element of several cells, which the walk has just laid. Of any program. -/
namespace Go.Proofs.Ytgefphfnicjbiaa
open Go Go.RowKit

section
variable {P : Program} {w : World} {ops : Array Oper} {rest : List Oper} {o : Oper} {a : Act} {Q : Exit → Act → World → Prop} {e : TypeId} {z : Value}
/-- 'append(s, x)', x of several cells, which the walk has just laid in a new block. -/
theorem wpList_push_row (hgd : o.guard = none) (s x : Operand) (t' : TypeId) (ho : o.op = .call { callee := .builtin .append, args := #[s, x], argTypes := #[t', t'] })
    (size bytes : Nat) (ht : P.underlying t' = some (.slice e)) (hi : (P.info? e).map (fun i => (i.zero, i.size, i.bytes)) = some (some z, size, bytes)) (hzs : z.cells.size = size) (hsz : 0 < size)
    (base : Nat) (v : Value) (n : Nat) (xs us : List Value) (hs : a.eval s = v) (hown : w.ownsRow base e size v n xs) (hl : us.length = size) (hx : a.eval x = .slice (some ⟨w.heap.size, 0, none⟩) 1 1) (h1 : ∀ u ∈ us, u.oneCell' = true)
    (hb1 : (n + 1) * bytes ≤ 140737488355328) (hb2 : n + 1 ≤ maxLen) (hbase : base ≤ w.heap.size) {W : World} (hW : W = w.alloc (.cells us.toArray e))
    (h : ∀ v' w', w'.ownsRow base e size v' (n + 1) (xs ++ us) → w.grownBy w' v.ownBlock → wpList P ops Q rest (a.put o.dst v') w') : wpList P ops Q (o :: rest) a W := by
  subst hW
  obtain ⟨i, hi, hz, hsz', hby⟩ := info_parts hi
  have hB := Blk.new w us.toArray e
  refine wpList_append_own (w.alloc (.cells us.toArray e)) hgd s x t' ho base e i z size bytes ht hi hz hsz' hby hzs hsz v n xs hs (hown.alloc _) _ 1 1 us hx (by omega) (fun j u hj => by rw [Addr.add_lit, Nat.zero_add]; exact hB.cell j (by simpa using hj)) h1 (by omega) hb1 (by simp; omega) fun v' w' g1 g2 _ => h v' w' g1 ?_
  have ga := World.grownBy_alloc w (.cells us.toArray e) v.ownBlock
  refine ⟨g2.os.trans ga.os, g2.tape.trans ga.tape, g2.output.trans ga.output, Nat.le_trans ga.size g2.size, fun k hk hne => (g2.block k (by have := ga.size; omega) hne).trans (ga.block k hk hne)⟩
end
theorem own_extG {w w' : World} {B : Nat} {v : Value} {e : TypeId} {s n : Nat} {xs : List Value} {w0 : World} (h : w.ownsRow B e s v n xs) (hg : w.grownBy w' v.ownBlock) (hE : Ext w0 w) (hB : w0.heap.size ≤ B) : Ext w0 w' := by
  refine Below.grown (show Below w0.heap.size w0 w from hE) hg hE.size fun k hk => ?_
  rcases h.2 with ⟨h1, _⟩ | ⟨g, cap, cur, h1, h2, _⟩
  · rw [h1] at hk; cases hk
  · rw [h1] at hk; simp [Value.ownBlock] at hk; omega
end Go.Proofs.Ytgefphfnicjbiaa
