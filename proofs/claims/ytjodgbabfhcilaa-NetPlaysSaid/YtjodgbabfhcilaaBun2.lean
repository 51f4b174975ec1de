/- Parts of the proof, in plain words at the head of each: Base, Bin, Blk, Concat, Draw, Ref01, Chg, Ent1, Ords, Rfr, Net0, Un, Net1. -/
import Derived.WalkKit
import Derived.WalkSpells
import Derived.WalkLawsBesides
import Derived.Lib.Hide
import Derived.Laws.BytesArg
import Derived.Lib.Strings
import Derived.Laws.AppendOwnNone
import Derived.Deep.LoopGhost
import Derived.Deep.Draws
import Derived.Test.YtjodgbabfhcilaaMono
import Derived.Test.YtjodgbabfhcilaaBun1
import Derived.Deep.DeepCutAuto
import Derived.Lib.AppendZeros
import Derived.Defers
import Derived.Recover
import Derived.Deep.QuietTactic
import Derived.BigQuiet
import Derived.Maps.OwnOps
import Derived.DeepKeys4
import Derived.ChangeKeys
import Derived.Deep.RegionLaw
import Derived.Deep.Upon
import Derived.Lib.SliceRun
set_option linter.unusedSimpArgs false
set_option linter.unusedVariables false
/- Words for what slices read as, and for what a call leaves alone; append and its kin said in those words. Of any program. -/
namespace Go.Proofs.Ytjodgbabfhcilaa
open Go Go.RowKit

/-! ### What a call leaves alone -/
/-- All blocks of w are in w' as they were. -/
def Ext (w w' : World) : Prop := Below w.heap.size w w'

theorem Ext.refl (w : World) : Ext w w := Below.refl _ _
theorem Ext.trans {a b c : World} (h : Ext a b) (k : Ext b c) : Ext a c := Below.trans h (Below.mono k h.size)
theorem Ext.of {w w' : World} (h : Below w.heap.size w w') : Ext w w' := h
theorem Ext.below {w w' : World} (h : Ext w w') : Below w.heap.size w w' := h
theorem Ext.belowN {w w' : World} {n : Nat} (h : Ext w w') (hn : n ≤ w.heap.size) : Below n w w' := Below.mono h hn
theorem Ext.alloc (w : World) (o : Obj) : Ext w (w.alloc o) := (Below.refl _ w).alloc (Nat.le_refl _) o
theorem Ext.drew (w : World) : Ext w w.drew := (Below.refl _ w).drew
theorem Ext.drewN (w : World) (n : Nat) : Ext w (w.drewN n) := ⟨rfl, rfl, rfl, Nat.le_refl _, fun _ _ => rfl⟩
theorem Ext.size {w w' : World} (h : Ext w w') : w.heap.size ≤ w'.heap.size := Below.size h
theorem Ext.cell {w w' : World} (h : Ext w w') {p : Addr} {v : Value} (hc : w.cell? p = some v) : w'.cell? p = some v :=
  (Below.cell h (World.block_lt_of_cell? w p hc)).trans hc
theorem Ext.frozen {w w' : World} (h : Ext w w') {p : Addr} (hp : p.block < w.heap.size) {b : Bool} (hf : w.frozen? p = b) : w'.frozen? p = b := (Below.frozen h hp).trans hf
theorem Ext.heap {w w' : World} (h : Ext w w') {k : Nat} {o : Obj} (hk : w.heap[k]? = some o) : w'.heap[k]? = some o :=
  (Below.block h k (Array.getElem?_eq_some_iff.1 hk).1).trans hk
theorem Ext.grown {w w' : World} {row : Option Nat} (hg : w.grownBy w' row) (hr : ∀ k, row = some k → w.heap.size ≤ k) : Ext w w' := (Below.refl _ w).grown hg (Nat.le_refl _) hr
theorem Ext.pre : Mono.Pre Ext Ext := ⟨fun _ _ h => h, fun _ _ _ => Ext.trans, fun _ _ _ => Ext.trans⟩

/-! ### Slices whose elements are one cell each -/
/-- v is a slice whose elements are, one cell each, cs. -/
def Rd (w : World) (v : Value) (cs : List Value) : Prop :=
  ∃ a c, v = .slice a cs.length c ∧ cs.length ≤ c ∧ c ≤ maxLen ∧ (cs = [] ∨ ∃ b o, a = some ⟨b, o, none⟩ ∧ ∀ j u, cs[j]? = some u → w.cell? ⟨b, o + j, none⟩ = some u)

theorem Rd.ext {w w' : World} {v : Value} {cs : List Value} (h : Rd w v cs) (hE : Ext w w') : Rd w' v cs := by
  obtain ⟨a, c, hv, h1, h2, h3⟩ := h
  refine ⟨a, c, hv, h1, h2, h3.imp id ?_⟩
  rintro ⟨b, o, ha, hc⟩
  exact ⟨b, o, ha, fun j u hj => hE.cell (hc j u hj)⟩

theorem Rd.nil (w : World) : Rd w (.slice none 0 0) [] := ⟨none, 0, rfl, Nat.zero_le _, Nat.zero_le _, .inl rfl⟩

theorem Rd.len {w : World} {v : Value} {cs : List Value} (h : Rd w v cs) : cs.length ≤ maxLen := by obtain ⟨_, _, _, h1, h2, _⟩ := h; omega

theorem Rd.shape {w : World} {v : Value} {cs : List Value} (h : Rd w v cs) : ∃ a n c, v = .slice a n c := by obtain ⟨a, c, hv, _⟩ := h; exact ⟨a, _, c, hv⟩

theorem Rd.of_own {w : World} {base : Nat} {e : TypeId} {v : Value} {n : Nat} {xs : List Value} (h : w.ownsRow base e 1 v n xs) : Rd w v xs := by
  obtain ⟨hl, h⟩ := h
  simp only [Nat.mul_one] at hl
  rcases h with ⟨rfl, rfl⟩ | ⟨g, cap, cur, rfl, _, hg, h1, h2, h3, h4⟩
  · rw [List.eq_nil_of_length_eq_zero hl]; exact Rd.nil w
  · refine ⟨_, cap, by rw [hl], by omega, h2, .inr ⟨g, 0, rfl, fun j u hj => ?_⟩⟩
    rw [Nat.zero_add, cell_of_row w g j cur e (0, 0) hg]
    rw [← h4, List.getElem?_take] at hj
    split at hj
    · simpa using hj
    · cases hj

/-- The element type of a slice type: its row of the table. -/
structure ElT (P : Program) (t e : TypeId) (z : Value) (bytes : Nat) : Prop where
  ty : P.underlying t = some (.slice e)
  info : ∃ i, P.info? e = some i ∧ i.zero = some z ∧ i.size = 1 ∧ i.bytes = bytes
  one : z.cells.size = 1

theorem ElT.mk' {P : Program} {t e : TypeId} {z : Value} {bytes : Nat} (ht : P.underlying t = some (.slice e)) (h : (P.info? e).map (fun i => (i.zero, i.size, i.bytes)) = some (some z, 1, bytes)) (ho : z.cells.size = 1) : ElT P t e z bytes :=
  ⟨ht, info_parts h, ho⟩

section
variable {P : Program} {w : World} {ops : Array Oper} {rest : List Oper} {o : Oper} {a : Act} {Q : Exit → Act → World → Prop} {t e : TypeId} {z : Value} {bytes base : Nat} {v : Value} {xs : List Value}

theorem own_len {n : Nat} (h : w.ownsRow base e 1 v n xs) : xs.length = n := by have := h.1; omega

/-- 'append(s, x...)', s the call's own, x whatever reads as cs. -/
theorem wpList_append_rd (hgd : o.guard = none) (s x : Operand) (t' : TypeId) (ho : o.op = .call { callee := .builtin .append, args := #[s, x], argTypes := #[t', t'] })
    (hT : ElT P t' e z bytes) (base : Nat) (v : Value) (n : Nat) (xs cs : List Value) (hs : a.eval s = v) (hown : w.ownsRow base e 1 v n xs) (vx : Value) (hx : a.eval x = vx) (hrd : Rd w vx cs) (h1 : ∀ u ∈ cs, u.oneCell' = true)
    (hb1 : (n + cs.length) * bytes ≤ 140737488355328) (hb2 : n + cs.length ≤ maxLen) (hbase : base ≤ w.heap.size)
    (h : ∀ v' w', w'.ownsRow base e 1 v' (n + cs.length) (xs ++ cs) → w.grownBy w' v.ownBlock → wpList P ops Q rest (a.put o.dst v') w') : wpList P ops Q (o :: rest) a w := by
  obtain ⟨i, hi, hz, hsz, hby⟩ := hT.info
  obtain ⟨ad, c, rfl, hlc, hcm, hcs⟩ := hrd
  cases ad with
  | none =>
    have hnil : cs = [] := by rcases hcs with h0 | ⟨b, o', h0, _⟩; exact h0; cases h0
    subst hnil
    refine wpList_plain hgd fun K hK => ?_
    have hcell : ∃ w'', (Builtin.append_ #[t', t'] o.type #[v, .slice none 0 c]).run P w = .ok v w'' ∧ w'' = w := by
      refine ⟨w, ?_, rfl⟩
      have hr := run_append_owned_none (P := P) (w := w) base t' o.type e i 1 hT.ty hi v n xs (by simpa [hsz] using hown)
      rcases hown.2 with ⟨rfl, rfl⟩ | ⟨g, cap, cur, rfl, _, hg, h2, h3, h4, h5⟩
      · simp [Builtin.append_, run_underlying hT.ty, sizeOf, typeInfo, hi, Builtin.lenOf, Builtin.firstCells]
      · simp [Builtin.append_, run_underlying hT.ty, sizeOf, typeInfo, hi, Builtin.lenOf, Builtin.firstCells, h2, storeCells]
    obtain ⟨w'', hrun, rfl⟩ := hcell
    unfold Oper.wp
    simp [execOp, ho, resolve, invoke, builtin, hs, hx, hrun, Result.andThen]
    exact hK _ _ (h v w'' (by simpa using hown) (World.grownBy.refl _ _))
  | some ad =>
    refine wpList_append_own w hgd s x t' ho base e i z 1 bytes hT.ty hi hz hsz hby hT.one (by decide) v n xs hs hown ad cs.length c cs hx (by simp) ?_ h1 (by omega) hb1 hbase fun v' w' g1 g2 _ => h v' w' g1 g2
    intro j u hj
    rcases hcs with h0 | ⟨b, o', h0, hc⟩
    · rw [h0] at hj; simp at hj
    · cases h0
      rw [Addr.add_lit]; exact hc j u hj

/-- 'append(s, u)': one element, which the walk has just laid in a new block of one cell. -/
theorem wpList_push (hgd : o.guard = none) (s x : Operand) (t' : TypeId) (ho : o.op = .call { callee := .builtin .append, args := #[s, x], argTypes := #[t', t'] })
    (hT : ElT P t' e z bytes) (base : Nat) (v : Value) (n : Nat) (xs : List Value) (u : Value) (hs : a.eval s = v) (hown : w.ownsRow base e 1 v n xs) (e' : TypeId) (hx : a.eval x = .slice (some ⟨w.heap.size, 0, none⟩) 1 1) (h1 : u.oneCell' = true)
    (hb1 : (n + 1) * bytes ≤ 140737488355328) (hb2 : n + 1 ≤ maxLen) (hbase : base ≤ w.heap.size)
    (h : ∀ v' w', w'.ownsRow base e 1 v' (n + 1) (xs ++ [u]) → w.grownBy w' v.ownBlock → wpList P ops Q rest (a.put o.dst v') w') : wpList P ops Q (o :: rest) a (w.alloc (.cells #[u] e')) := by
  obtain ⟨i, hi, hz, hsz, hby⟩ := hT.info
  refine wpList_append_own (w.alloc (.cells #[u] e')) hgd s x t' ho base e i z 1 bytes hT.ty hi hz hsz hby hT.one (by decide) v n xs hs (hown.alloc _) _ 1 1 [u] hx rfl (cell_one_new _ _ _) (by simpa using h1) (by omega) hb1 (by simp; omega) fun v' w' g1 g2 _ => h v' w' g1 ?_
  have ga := World.grownBy_alloc w (.cells #[u] e') v.ownBlock
  refine ⟨g2.os.trans ga.os, g2.tape.trans ga.tape, g2.output.trans ga.output, Nat.le_trans ga.size g2.size, fun k hk hne => (g2.block k (by have := ga.size; omega) hne).trans (ga.block k hk hne)⟩
end

section
variable {P : Program} {w : World} {ops : Array Oper} {rest : List Oper} {o : Oper} {a : Act} {Q : Exit → Act → World → Prop} {t e : TypeId} {z : Value} {bytes : Nat}
/-- 'make([]T, 0, n)'. -/
theorem wpList_make0 (hg : o.guard = none) (l c : Operand) (t : TypeId) (hop : o.op = Op.makeSlice t l c) (hT : ElT P t e z bytes) (base : Nat) (kl kc : IntKind) (C : Int) (n : Nat) (hl : a.eval l = .int kl 0) (hc : a.eval c = .int kc C) (hC : C = (n : Int))
    (b2 : bytes * n ≤ 281474976710656) (b3 : n ≤ maxLen) (b4 : base ≤ w.heap.size)
    (hK : ∀ w', w'.ownsRow base e 1 (.slice (some ⟨w.heap.size, 0, none⟩) 0 n) 0 [] → w.grownBy w' none → wpList P ops Q rest (a.put o.dst (.slice (some ⟨w.heap.size, 0, none⟩) 0 n)) w') : wpList P ops Q (o :: rest) a w := by
  obtain ⟨i, hi, hz, hsz, hby⟩ := hT.info
  exact wpList_make_own w hg l c t hop base e i z 1 hT.ty hi hz hsz kl kc C n hl hc hC (by rw [hby]; exact b2) b3 b4 hK
/-- 'make([]T, n)'. -/
theorem wpList_makeN (hg : o.guard = none) (l c : Operand) (t : TypeId) (hop : o.op = Op.makeSlice t l c) (hT : ElT P t e z bytes) (base : Nat) (kl kc : IntKind) (L C : Int) (n : Nat) (hl : a.eval l = .int kl L) (hc : a.eval c = .int kc C) (hL : L = (n : Int)) (hC : C = (n : Int))
    (b2 : bytes * n ≤ 281474976710656) (b3 : n ≤ maxLen) (b4 : base ≤ w.heap.size)
    (hK : ∀ w', w'.ownsRow base e 1 (.slice (some ⟨w.heap.size, 0, none⟩) n n) n (madeCells z.cells n).toList → w.grownBy w' none → wpList P ops Q rest (a.put o.dst (.slice (some ⟨w.heap.size, 0, none⟩) n n)) w') : wpList P ops Q (o :: rest) a w := by
  obtain ⟨i, hi, hz, hsz, hby⟩ := hT.info
  exact wpList_make_full w hg l c t hop base e i z 1 hT.ty hi hz hsz kl kc L C n hl hc hL hC (by rw [hby]; exact b2) b3 b4 (by simpa using hK)
end

theorem own_n {w : World} {base : Nat} {e : TypeId} {v : Value} {n : Nat} {xs : List Value} (h : w.ownsRow base e 1 v n xs) : w.ownsRow base e 1 v xs.length xs := by
  have := own_len h; rw [this]; exact h
/-- A slice that the walk has just laid. -/
theorem own_lit (w : World) (l : List Value) (e : TypeId) (he : l.length ≤ maxLen) : (w.alloc (.cells l.toArray e)).ownsRow w.heap.size e 1 (.slice (some ⟨w.heap.size, 0, none⟩) l.length l.length) l.length l :=
  ⟨by simp, .inr ⟨w.heap.size, l.length, l.toArray, rfl, Nat.le_refl _, heap_alloc_new w _, Nat.le_refl _, he, by simp, by simp⟩⟩

/-- The ending of a call that hands back a new slice. -/
def RetOwn (E : TypeId) (w : World) (cs : List Value) (e : Ending) (w' : World) : Prop := ∃ v', e = .returned v' ∧ w'.ownsRow w.heap.size E 1 v' cs.length cs ∧ Ext w w'

/-- What the call owns stays while all that was there stays. -/
theorem own_ext {w w' : World} {base : Nat} {e : TypeId} {size : Nat} {v : Value} {n : Nat} {xs : List Value} (h : w.ownsRow base e size v n xs) (hE : Ext w w') : w'.ownsRow base e size v n xs := by
  obtain ⟨h1, h2⟩ := h
  refine ⟨h1, ?_⟩
  rcases h2 with h2 | ⟨g, cap, cur, hv, hg, hh, r⟩
  · exact .inl h2
  · exact .inr ⟨g, cap, cur, hv, hg, hE.heap hh, r⟩

theorem own_base {w : World} {base base' : Nat} {e : TypeId} {size : Nat} {v : Value} {n : Nat} {xs : List Value} (h : w.ownsRow base e size v n xs) (hb : base' ≤ base) : w.ownsRow base' e size v n xs := by
  obtain ⟨h1, h2⟩ := h
  refine ⟨h1, ?_⟩
  rcases h2 with h2 | ⟨g, cap, cur, hv, hg, r⟩
  · exact .inl h2
  · exact .inr ⟨g, cap, cur, hv, by omega, r⟩

theorem grown_trans {a b c : World} {r r' : Option Nat} (h : a.grownBy b r) (k : b.grownBy c r') (hr : r' = r ∨ ∀ i, r' = some i → a.heap.size ≤ i) : a.grownBy c r :=
  ⟨k.os.trans h.os, k.tape.trans h.tape, k.output.trans h.output, Nat.le_trans h.size k.size, fun i hi hne => by
    refine (k.block i (Nat.lt_of_lt_of_le hi h.size) fun e => ?_).trans (h.block i hi hne)
    rcases hr with hr | hr
    · exact hne (e.trans hr)
    · have := hr i e.symm; omega⟩

/-! ### Bytes, numbers -/
def u8s (xs : List Int) : List Value := xs.map (Value.int .u8)
def u64s (xs : List Int) : List Value := xs.map (Value.int .u64)
theorem u8s_one (xs : List Int) : ∀ u ∈ u8s xs, u.oneCell' = true := ints_oneCell _ _
theorem u64s_one (xs : List Int) : ∀ u ∈ u64s xs, u.oneCell' = true := ints_oneCell _ _
theorem one1 (k : IntKind) (n : Int) : ∀ u ∈ [Value.int k n], u.oneCell' = true := by intro u hu; simp at hu; subst hu; rfl
theorem u8s_len (xs : List Int) : (u8s xs).length = xs.length := by simp [u8s]
theorem u64s_len (xs : List Int) : (u64s xs).length = xs.length := by simp [u64s]
theorem u8s_append (xs ys : List Int) : u8s (xs ++ ys) = u8s xs ++ u8s ys := by simp [u8s]
theorem u8s_one' (x : Int) : u8s [x] = [.int .u8 x] := rfl
theorem u64s_append (xs ys : List Int) : u64s (xs ++ ys) = u64s xs ++ u64s ys := by simp [u64s]

/-- A slice of numbers, opened. -/
theorem Rd.open {w : World} {v : Value} {k : IntKind} {xs : List Int} (h : Rd w v (xs.map (Value.int k))) :
    ∃ a c, v = .slice a xs.length c ∧ xs.length ≤ c ∧ c ≤ maxLen ∧ (xs = [] ∨ ∃ b o, a = some ⟨b, o, none⟩ ∧ ∀ j, j < xs.length → w.cell? ⟨b, o + j, none⟩ = some (.int k (xs.getD j 0))) := by
  obtain ⟨a, c, hv, h1, h2, h3⟩ := h
  rw [List.length_map] at hv h1
  refine ⟨a, c, hv, h1, h2, h3.imp (by simp) ?_⟩
  rintro ⟨b, o, ha, hc⟩
  exact ⟨b, o, ha, fun j hj => hc j _ (by simp [List.getD, List.getElem?_eq_getElem hj])⟩

/-- 'string(b)'. -/
theorem Rd.convert {P : Program} {w : World} {v : Value} {xs : List Int} (h : Rd w v (u8s xs)) {src e dst : TypeId} (hs : P.underlying src = some (.slice e)) (he : P.underlying e = some (.int .u8)) (hd : P.underlying dst = some .string) :
    (Go.convert src dst v).run P w = .ok (.string (strOfNums xs)) w := by
  obtain ⟨a, c, rfl, _, _, h3⟩ := h
  rw [u8s_len]
  rcases h3 with h0 | ⟨b, o, rfl, hc⟩
  · have hx : xs = [] := by simpa [u8s] using h0
    subst hx
    cases a with
    | none => exact run_convert_bytes_nil w src e hs he 0 c dst hd
    | some ad =>
      obtain ⟨b, o, s⟩ := ad
      rw [run_convert_bytes_string w src dst e _ _ c hs he hd, run_bytesToString w _ _ c [] (by simp [loadCells, loadCellsFrom])]
      rfl
  · exact run_convert_bytes_arg w src e hs he b o xs.length c xs rfl (fun i hi => hc i _ (by simp [u8s, List.getD, List.getElem?_eq_getElem hi])) dst hd

/-- bytes -/
def B8 (xs : List Int) : Prop := ∀ x ∈ xs, 0 ≤ x ∧ x ≤ 255
def U64 (n : Int) : Prop := 0 ≤ n ∧ n ≤ 18446744073709551615
def B64 (xs : List Int) : Prop := ∀ x ∈ xs, U64 x

theorem strOfNums_inj {xs ys : List Int} (hx : B8 xs) (hy : B8 ys) (h : strOfNums xs = strOfNums ys) : xs = ys := by
  have h1 := congrArg (fun s : ByteArray => s.data.toList) h
  simp only [strOfNums_data] at h1
  have h2 : xs.map (fun n => UInt8.ofNat n.toNat) = ys.map (fun n => UInt8.ofNat n.toNat) := h1
  clear h h1
  induction xs generalizing ys with
  | nil => cases ys with
    | nil => rfl
    | cons y ys => simp at h2
  | cons x xs ih => cases ys with
    | nil => simp at h2
    | cons y ys =>
      simp only [List.map_cons, List.cons.injEq] at h2
      have e1 := hx x (by simp)
      have e2 := hy y (by simp)
      have e3 := congrArg UInt8.toNat h2.1
      simp only [UInt8.toNat_ofNat'] at e3
      have : x = y := by omega
      rw [this, ih (fun z hz => hx z (by simp [hz])) (fun z hz => hy z (by simp [hz])) h2.2]

/-- '==' on strings, as the walk spells it. -/
theorem str_beq (xs ys : List Int) (hx : B8 xs) (hy : B8 ys) : ((strOfNums xs).toList == (strOfNums ys).toList) = decide (xs = ys) := by
  by_cases h : xs = ys
  · subst h; simp
  · rw [decide_eq_false h]
    rw [beq_eq_false_iff_ne]
    intro e
    apply h
    apply strOfNums_inj hx hy
    have e' : (strOfNums xs).data.toList = (strOfNums ys).data.toList := by
      have k : ∀ s : ByteArray, s.toList = s.data.toList := fun s => Lib.toList_data s
      rwa [k, k] at e
    have := congrArg List.toArray e'
    simp at this
    exact ByteArray.ext this

theorem or_zero (a b : Int) (ha : U64 a) (hb : U64 b) : bits BinOp.or IntKind.u64 a b = 0 ↔ a = 0 ∧ b = 0 := by
  obtain ⟨a0, a1⟩ := ha
  obtain ⟨b0, b1⟩ := hb
  rw [u64_or a b a0 (by omega) b0 (by omega)]
  obtain ⟨m, rfl⟩ := Int.eq_ofNat_of_zero_le a0
  obtain ⟨n, rfl⟩ := Int.eq_ofNat_of_zero_le b0
  simp only [Int.toNat_natCast]
  constructor
  · intro h
    have h' : m ||| n = 0 := by omega
    exact ⟨by have := @Nat.left_le_or m n; omega, by have := @Nat.right_le_or m n; omega⟩
  · rintro ⟨h1, h2⟩
    have : m = 0 := by omega
    have : n = 0 := by omega
    subst_vars; rfl
theorem ret_eq {a b : Value} (h : a = b) : Ending.returned a = Ending.returned b := by rw [h]
end Go.Proofs.Ytjodgbabfhcilaa

/- Contracts of package bin: the writers. -/
namespace Go.Proofs.Ytjodgbabfhcilaa
open Go Go.RowKit

theorem el8 : ElT Try.prog 32 5 (.int .u8 0) 1 := ElT.mk' Try.underlying32 (by kernel_rfl) rfl

set_option maxHeartbeats 400000 in
theorem add_own (base : Nat) (v : Value) (l : Nat) (xs : List Int) (n : Nat) (w : World) (hn : n ≤ 18446744073709551615) (hown : w.ownsRow base 5 1 v l (u8s xs)) (hb : base ≤ w.heap.size) (hl : l ≤ 140737488355300) :
    Calls Try.prog 79 #[v, .int .u64 n] w fun e w' => ∃ v', e = .returned v' ∧ w'.ownsRow base 5 1 v' (l + (numB n).length) (u8s (xs ++ numB n)) ∧ Below base w w' := by
  have hk := bitLen_le n
  go_enter Try.func79, Try.ntmps79
  go_wp2_with (first | (go_at_call 82; refine (Try.bits_Len64 _ _ (by omega) (by omega)).mono ?_; rintro e w' ⟨rfl, hw⟩; subst hw) | (at_builtin; refine wpList_push rfl (.tmp 11) (.tmp 14) _ rfl el8 base _ l (u8s xs) _ rfl hown _ rfl rfl (by omega) (by unfold maxLen; omega) hb ?_))
  intro v1 w1 hown1 hg1
  have e1 : ((Lib.bitLen n : Int) + 7) / 8 = (numK n : Int) := by unfold numK; omega
  simp only [e1] at hown1 ⊢
  have hk8 := numK_le n
  have hb1 : Below base w' w1 := (Below.refl _ _).grown hg1 hb fun k hk => (hown.lt k hk).1
  have hs1 : base ≤ w1.heap.size := by have := hb1.size; omega
  have HO := Lib.hid hown1; clear hown1 hg1 e1 hk
  go_wp2_with fail
  go_loopw [0, 6] (fun b i wr => ∃ j : Nat, j ≤ numK n ∧ i = .int .i64 (8 * (numK n : Int) - 8 - 8 * (j : Int)) ∧ wr.ownsRow base 5 1 b (l + 1 + j) (u8s (xs ++ ((numK n : Int) :: (be (numK n) n).take j))) ∧ Below base w' wr ∧ base ≤ wr.heap.size) (fun _ i _ => (intOf i + 8).toNat)
  case atStart => exact ⟨0, Nat.zero_le _, by go_num, by simpa [u8s] using HO.out, hb1, hs1⟩
  case round =>
    obtain ⟨j, hj, rfl, hown2, hb2, hs2⟩ := hrel
    by_cases hlt : j < numK n
    · go_wp2_with (at_builtin; refine wpList_push rfl (.tmp 23) (.tmp 28) _ rfl el8 base _ (l + 1 + j) _ _ rfl hown2 _ rfl rfl (by omega) (by unfold maxLen; omega) hs2 ?_)
      intro v2 w2 hown3 hg3
      have hb3 : Below base w' w2 := hb2.grown hg3 hs2 fun k hk => (hown2.lt k hk).1
      have hs3 : base ≤ w2.heap.size := by have := hg3.size; omega
      rw [shr_byte n _ _ hlt] at hown3
      have e3 : u8s (xs ++ ((numK n : Int) :: (be (numK n) n).take j)) ++ [Value.int .u8 ((n / 256 ^ (numK n - 1 - j) % 256 : Nat) : Int)] = u8s (xs ++ ((numK n : Int) :: (be (numK n) n).take (j + 1))) := by
        rw [be_take _ _ _ hlt]; simp [u8s]
      rw [e3] at hown3
      have H3 := Lib.hid hown3; clear hown3 e3 hg3
      go_wp2_with fail
      go_roundw
      case rel => exact ⟨j + 1, by omega, by go_num, H3.out, hb3, hs3⟩
      case measure => simp [intOf]; omega
    · have hjk : j = numK n := by omega
      have H2 := Lib.hid hown2; clear hown2
      have HJ := Lib.hid hjk; clear hjk
      go_wp2_with fail
      go_ret
      refine ⟨_, rfl, ?_, hb2⟩
      have := H2.out
      rw [HJ.out, List.take_of_length_le (by rw [be_len]; exact Nat.le_refl _)] at this
      rw [numB_len, show l + (numK n + 1) = l + 1 + numK n by omega]
      exact this

set_option maxHeartbeats 400000 in
theorem num_ret (n : Nat) (w : World) (hn : n ≤ 18446744073709551615) : Calls Try.prog 75 #[.int .u64 n] w (RetOwn 5 w (u8s (numB n))) := by
  go_enter Try.func75, Try.ntmps75
  go_wp2_with (first | (go_at_call 79; refine (add_own w.heap.size _ 0 [] n w hn (World.ownsRow_nil _ _ _ _) (Nat.le_refl _) (by omega)).mono ?_))
  rintro e w' ⟨v', rfl, ho, hb⟩
  have HO := Lib.hid ho; clear ho
  go_wp2
  go_ret
  exact ⟨v', rfl, by rw [u8s_len]; simpa using HO.out, hb⟩

set_option maxHeartbeats 400000 in
theorem raw_ret (v : Value) (xs : List Int) (w : World) (hr : Rd w v (u8s xs)) (hx : xs.length ≤ 140737488355000) : Calls Try.prog 77 #[v] w (RetOwn 5 w (u8s (numB xs.length ++ xs))) := by
  have HR := Lib.hid hr
  obtain ⟨a, c, rfl, _, _, _⟩ := Rd.open hr
  go_enter Try.func77, Try.ntmps77
  go_wp2_with (at_make; refine wpList_make0 rfl _ _ 32 rfl el8 w.heap.size _ _ _ (xs.length + 9) rfl rfl (by omega) (by omega) (by unfold maxLen; omega) (Nat.le_refl _) ?_)
  intro w1 ho1 hg1
  have hE1 : Ext w w1 := Ext.grown hg1 (by intro k hk; cases hk)
  have hs1 := hE1.size
  have HO := Lib.hid ho1; clear ho1 hg1
  go_wp2_with fail
  refine (add_own w.heap.size _ 0 [] xs.length w1 (by omega) (by simpa [u8s] using HO.out) hs1 (by omega)).mono ?_
  rintro e w2 ⟨v2, rfl, ho2, hb2⟩
  have hE2 : Ext w w2 := Below.trans hE1 hb2
  have hs2 := hE2.size
  have hk := numK_le xs.length
  have hl := numB_len xs.length
  have HO2 := Lib.hid ho2; have HE2 := Lib.hid hE2; clear ho2 hb2 hE2 hE1
  go_wp2_with (at_builtin; refine wpList_append_rd rfl (.tmp 10) (.tmp 11) _ rfl el8 w.heap.size _ _ _ (u8s xs) rfl HO2.out _ rfl (HR.out.ext HE2.out) (u8s_one _) (by rw [u8s_len]; omega) (by rw [u8s_len]; unfold maxLen; omega) hs2 ?_)
  intro v3 w3 ho3 hg3
  have hE3 : Ext w w3 := Below.grown HE2.out hg3 hs2 fun k hk => (HO2.out.lt k hk).1
  have H3 := Lib.hid ho3; have HE3 := Lib.hid hE3; clear ho3 hE3 hg3
  go_wp2
  go_ret
  refine ⟨v3, rfl, ?_, HE3.out⟩
  have := H3.out
  simpa [u8s, Nat.add_assoc, hl] using this
end Go.Proofs.Ytjodgbabfhcilaa

/- A block of the call's own, known whole. Of any program. -/
namespace Go.Proofs.Ytjodgbabfhcilaa
open Go Go.RowKit

/-- Block b holds cs. -/
def Blk (w : World) (b : Nat) (cs : Array Value) (e : TypeId) : Prop := w.heap[b]? = some (.cells cs e (0, 0))

section
variable {w w' : World} {b : Nat} {cs : Array Value} {e : TypeId}
theorem Blk.lt (h : Blk w b cs e) : b < w.heap.size := (Array.getElem?_eq_some_iff.1 h).1
theorem Blk.cell (h : Blk w b cs e) (j : Nat) {u : Value} (hj : cs[j]? = some u) : w.cell? ⟨b, j, none⟩ = some u := by
  rw [cell_of_row w b j cs e (0, 0) h]; exact hj
theorem Blk.free (h : Blk w b cs e) (j : Nat) : w.frozen? ⟨b, j, none⟩ = false := by
  have h' : w.heap[b]? = some (.cells cs e (0, 0)) := h
  simp [World.frozen?, h']
theorem Blk.ext (h : Blk w b cs e) (hE : Ext w w') : Blk w' b cs e := hE.heap h
theorem Blk.below {B : Nat} (h : Blk w b cs e) (hE : Below B w w') (hb : b < B) : Blk w' b cs e := (hE.block b hb).trans h
theorem Blk.alloc (h : Blk w b cs e) (o : Obj) : Blk (w.alloc o) b cs e := h.ext (Ext.alloc _ _)
theorem Blk.new (w : World) (cs : Array Value) (e : TypeId) : Blk (w.alloc (.cells cs e)) w.heap.size cs e := heap_alloc_new w _
theorem Blk.set (h : Blk w b cs e) (j : Nat) (v : Value) : Blk (w.setCell ⟨b, j, none⟩ v) b (cs.setIfInBounds j v) e := by
  have h' : w.heap[b]? = some (.cells cs e (0, 0)) := h
  simp [Blk, World.setCell, Array.getElem?_modify, h']
theorem Blk.other (h : Blk w b cs e) (a : Addr) (v : Value) (ha : a.block ≠ b) : Blk (w.setCell a v) b cs e := by
  unfold Blk; rw [Below.heap_setCell _ _ _ _ (Ne.symm ha)]; exact h
theorem Blk.drew (h : Blk w b cs e) : Blk w.drew b cs e := h

theorem Blk.six {c0 c1 c2 c3 c4 c5 : Value} (h : Blk w b #[c0, c1, c2, c3, c4, c5] e) :
    w.cell? ⟨b, 0, none⟩ = some c0 ∧ w.cell? ⟨b, 1, none⟩ = some c1 ∧ w.cell? ⟨b, 2, none⟩ = some c2 ∧ w.cell? ⟨b, 3, none⟩ = some c3 ∧ w.cell? ⟨b, 4, none⟩ = some c4 ∧ w.cell? ⟨b, 5, none⟩ = some c5 :=
  ⟨h.cell 0 rfl, h.cell 1 rfl, h.cell 2 rfl, h.cell 3 rfl, h.cell 4 rfl, h.cell 5 rfl⟩
theorem Blk.six_free (h : Blk w b cs e) : w.frozen? ⟨b, 0, none⟩ = false ∧ w.frozen? ⟨b, 1, none⟩ = false ∧ w.frozen? ⟨b, 2, none⟩ = false ∧ w.frozen? ⟨b, 3, none⟩ = false ∧ w.frozen? ⟨b, 4, none⟩ = false ∧ w.frozen? ⟨b, 5, none⟩ = false :=
  ⟨h.free 0, h.free 1, h.free 2, h.free 3, h.free 4, h.free 5⟩
end
end Go.Proofs.Ytjodgbabfhcilaa

/- Contracts of slices.Grow, slices.Concat and slices.Clone at []byte. -/
namespace Go.Proofs.Ytjodgbabfhcilaa
open Go Go.RowKit

set_option maxHeartbeats 400000 in
set_option maxRecDepth 100000 in
theorem grow8_nil (n : Nat) (w : World) (hn : n ≤ 140737488355328) : Calls Try.prog 83 #[.slice none 0 0, .int .i64 n] w fun e w' => ∃ v', e = .returned v' ∧ w'.ownsRow w.heap.size 5 1 v' 0 [] ∧ Ext w w' := by
  obtain ⟨i0, hi, hz0, hz1, hz2⟩ := el8.info
  by_cases h0 : n = 0
  · subst h0
    go_enter Try.func83, Try.ntmps83
    go_wp2_with fail
    go_ret
    exact ⟨_, rfl, World.ownsRow_nil _ _ _ _, Ext.refl _⟩
  · have hpos : 0 < n := by omega
    go_enter Try.func83, Try.ntmps83
    go_wp2_with (at_builtin; refine Lib.wpList_append_run _ rfl (.tmp 20) (.tmp 21) _ _ rfl _ _ rfl rfl _ _ (Lib.run_append_nil_zeros _ _ _ _ 5 i0 (.int .u8 0) .i64 .i64 el8.ty Try.underlying3 hi hz0 n hpos (by omega) (by omega) (by rw [hz2]; omega)) ?_)
    have hC := grownCap_ge w n 0 5
    have hM := grownCap_le_maxLen w n 0 5 (by unfold maxLen; omega)
    unfold maxLen at hM
    go_ret
    refine ⟨_, rfl, ⟨by simp, .inr ⟨w.heap.size, grownCap w n 0 5, _, rfl, Nat.le_refl _, heap_alloc_new w _, Nat.zero_le _, by unfold maxLen; omega, ?_, by simp⟩⟩, (Ext.alloc _ _).trans (Ext.drew _)⟩
    simp [size_zeroCells]; omega

/-- A list of texts, by slices. -/
structure Texts (w : World) (cs : List Value) (xss : List (List Int)) : Prop where
  len : cs.length = xss.length
  get : ∀ (j : Nat) (c : Value) (xs : List Int), cs[j]? = some c → xss[j]? = some xs → Rd w c (u8s xs)

theorem Texts.ext {w w' : World} {cs : List Value} {xss : List (List Int)} (h : Texts w cs xss) (hE : Ext w w') : Texts w' cs xss := ⟨h.len, fun j c xs h1 h2 => (h.get j c xs h1 h2).ext hE⟩

theorem Texts.nil (w : World) : Texts w [] [] := ⟨rfl, fun j c xs h => by simp at h⟩
theorem Texts.cons {w : World} {c : Value} {xs : List Int} {cs : List Value} {xss : List (List Int)} (h : Rd w c (u8s xs)) (ht : Texts w cs xss) : Texts w (c :: cs) (xs :: xss) := by
  refine ⟨by simp [ht.len], fun j c' xs' h1 h2 => ?_⟩
  cases j with
  | zero => simp at h1 h2; subst h1; subst h2; exact h
  | succ j => exact ht.get j c' xs' (by simpa using h1) (by simpa using h2)

theorem flatten_take_succ (xss : List (List Int)) (r : Nat) (xs : List Int) (h : xss[r]? = some xs) : (xss.take (r + 1)).flatten = (xss.take r).flatten ++ xs := by
  rw [List.take_add_one, h]; simp
theorem flatten_take_le (xss : List (List Int)) (r : Nat) : (xss.take r).flatten.length ≤ xss.flatten.length := by
  conv => rhs; rw [← List.take_append_drop r xss, List.flatten_append, List.length_append]
  omega

set_option maxHeartbeats 800000 in
theorem concat8 (v : Value) (cs : List Value) (xss : List (List Int)) (w : World) (hr : Rd w v cs) (ht : Texts w cs xss) (hn : xss.flatten.length ≤ 140737488355300) :
    Calls Try.prog 81 #[v] w (RetOwn 5 w (u8s xss.flatten)) := by
  obtain ⟨a, c, rfl, hac, hcm, h3⟩ := hr
  unfold maxLen at hcm
  obtain ⟨K, hK⟩ : ∃ K, K = cs.length := ⟨_, rfl⟩
  rw [← hK] at hac ⊢
  have H3 := Lib.hid h3; have HT := Lib.hid ht; have HK := Lib.hid hK; have HN := Lib.hid hn; clear h3 ht hK hn
  have at_ : ∀ r, r < K → ∃ (a1 : Option Addr) (c1 : Nat) (xs : List Int), xss[r]? = some xs ∧ cs[r]? = some (.slice a1 xs.length c1) ∧ xs.length ≤ c1 ∧ c1 ≤ maxLen ∧ Rd w (.slice a1 xs.length c1) (u8s xs) ∧ (xss.take (r + 1)).flatten = (xss.take r).flatten ++ xs ∧ (xss.take (r + 1)).flatten.length ≤ 140737488355300 := by
    intro r hr
    rw [HK.out] at hr
    have h1 : cs[r]? = some (cs[r]) := by simp [hr]
    have hr2 : r < xss.length := by rw [← HT.out.len]; exact hr
    have h2 : xss[r]? = some (xss[r]) := by simp [hr2]
    have h4 := HT.out.get r _ _ h1 h2
    have h5 := h4
    obtain ⟨a1, c1, he, hl1, hc1, _⟩ := Rd.open h4
    refine ⟨a1, c1, xss[r], h2, by rw [h1, he], hl1, hc1, by rw [← he]; exact h5, flatten_take_succ _ _ _ h2, ?_⟩
    have := flatten_take_le xss (r + 1); have := HN.out; omega
  have AT := Lib.hid at_; clear at_
  go_enter Try.func81, Try.ntmps81
  go_wp2_with fail
  go_loopg [3, 11] K (fun g s i wr => ∃ (r : Nat), r + g = K ∧ i = .int .i64 (r : Int) ∧ s = .int .i64 (((xss.take r).flatten.length : Nat) : Int) ∧ wr = w)
  case atStart => exact ⟨0, by omega, rfl, rfl, rfl⟩
  case round =>
    obtain ⟨r, hg, rfl, rfl, rfl⟩ := hrel
    by_cases hlt : r < K
    · obtain ⟨a1, c1, xs, g1, g2, g3, g4, _, g6, g7⟩ := AT.out r hlt
      rcases H3.out with h0 | ⟨b, o, rfl, hc⟩
      · have := HK.out; rw [h0] at this; simp at this; omega
      · have hcell := hc r _ g2
        rw [g6, List.length_append] at g7
        have e1 : (((xss.take r).flatten.length + xs.length : Nat) : Int) = ((xss.take (r + 1)).flatten.length : Int) := by rw [g6, List.length_append]
        unfold maxLen at g4
        obtain ⟨S, hS⟩ : ∃ S, S = (xss.take r).flatten.length := ⟨_, rfl⟩
        rw [← hS] at g7 e1 ⊢
        have E1 := Lib.hid e1; clear e1 hS hc g6 g1 g2
        go_wp2_with fail
        go_roundg (gk - 1)
        case measure => omega
        case rel => exact ⟨r + 1, by omega, by go_num, by rw [← E1.out]; go_num, rfl⟩
    · have hrk : r = K := by omega
      subst hrk
      have e0 : (xss.take r).flatten = xss.flatten := by rw [List.take_of_length_le (by rw [HK.out, HT.out.len]; exact Nat.le_refl _)]
      rw [e0]
      have hn := HN.out
      obtain ⟨S, hS⟩ : ∃ S, S = xss.flatten.length := ⟨_, rfl⟩
      rw [← hS] at hn ⊢
      have HSS := Lib.hid hS; clear hS e0
      go_wp2_with fail
      refine (grow8_nil S wr (by omega)).mono ?_
      rintro e w1 ⟨v1, rfl, ho1, hE1⟩
      have hs1 := hE1.size
      have HO1 := Lib.hid ho1; clear ho1
      go_wp2_with fail
      obtain ⟨wo, hwo⟩ : ∃ wo : World, wo = wr := ⟨_, rfl⟩
      subst hwo
      go_loopg [6, 27] r (fun g b i wr => ∃ (q : Nat), q + g = r ∧ i = .int .i64 (q : Int) ∧ wr.ownsRow wo.heap.size 5 1 b (xss.take q).flatten.length (u8s (xss.take q).flatten) ∧ Ext wo wr ∧ wo.heap.size ≤ wr.heap.size)
      case atStart => exact ⟨0, by omega, rfl, by simpa [u8s] using HO1.out, hE1, hs1⟩
      case round =>
        obtain ⟨q, hq, rfl, ho2, hE2, hs2⟩ := hrel
        by_cases hlt2 : q < r
        · obtain ⟨a1, c1, xs, g1, g2, g3, g4, g5, g6, g7⟩ := AT.out q hlt2
          rcases H3.out with h0 | ⟨b, o, rfl, hc⟩
          · have := HK.out; rw [h0] at this; simp at this; omega
          · have hcell := hE2.cell (hc q _ g2)
            have g5' := Lib.hid (g5.ext hE2)
            have E1 := Lib.hid g6
            have g7' := g7
            rw [g6, List.length_append] at g7'
            have HO2 := Lib.hid ho2
            clear hc g1 g2 g5 g6 g7 ho2 g4 g3
            go_wp2_with (at_builtin; refine wpList_append_rd rfl (.tmp 31) (.tmp 32) _ rfl el8 wo.heap.size _ _ _ (u8s xs) rfl HO2.out _ rfl g5'.out (u8s_one _) (by rw [u8s_len]; omega) (by rw [u8s_len]; unfold maxLen; omega) hs2 ?_)
            intro v3 w3 ho3 hg3
            have hE3 : Ext wo w3 := Below.grown hE2 hg3 hs2 fun k hk => (HO2.out.lt k hk).1
            have hs3 := hE3.size
            have ho4 := own_n ho3
            rw [← u8s_append, ← E1.out, u8s_len] at ho4
            clear ho3; have ho3 := ho4; clear ho4
            have HO3 := Lib.hid ho3; clear ho3 hg3
            go_wp2_with fail
            go_roundg (gk - 1)
            case measure => omega
            case rel => exact ⟨q + 1, by omega, by go_num, HO3.out, hE3, hs3⟩
        · have hqk : q = r := by omega
          subst hqk
          have HO2 := Lib.hid ho2; clear ho2
          go_wp2_with fail
          go_ret
          refine ⟨_, rfl, ?_, hE2⟩
          have := HO2.out
          rw [List.take_of_length_le (by rw [HK.out, HT.out.len]; exact Nat.le_refl _)] at this
          rw [u8s_len]; exact this

set_option maxHeartbeats 400000 in
/-- slices.Clone: nil of nil; else a new slice. -/
theorem clone8 (v : Value) (xs : List Int) (w : World) (hr : Rd w v (u8s xs)) (hx : xs.length ≤ 140737488355328) : Calls Try.prog 50 #[v] w (RetOwn 5 w (u8s xs)) := by
  have HR := Lib.hid hr
  obtain ⟨a, c, rfl, hl, hc, h3⟩ := Rd.open hr
  have q := fun (w : World) (a : Option Addr) (n c n' c' : Nat) => Lib.run_eql_slice_nil (P := Try.prog) w 32 _ a n c n' c' Try.underlying32
  cases a with
  | none =>
    have h0 : xs = [] := by rcases h3 with h | ⟨_, _, h, _⟩; exact h; cases h
    subst h0
    clear h3 hr HR
    go_enter Try.func50, Try.ntmps50
    go_wp2_with fail
    go_ret
    exact ⟨_, rfl, World.ownsRow_nil _ _ _ _, Ext.refl _⟩
  | some ad =>
    clear h3 hr
    have HO1 : Hid ((w.alloc (.cells #[] 5)).ownsRow w.heap.size 5 1 (.slice (some ⟨w.heap.size, 0, none⟩) 0 0) 0 []) := own_lit w [] 5 (by simp)
    go_enter Try.func50, Try.ntmps50
    go_wp2_with (at_builtin; refine wpList_append_rd rfl (.tmp 5) (.tmp 6) _ rfl el8 w.heap.size _ 0 [] (u8s xs) rfl HO1.out _ rfl (HR.out.ext (Ext.alloc _ _)) (u8s_one _) (by rw [u8s_len]; omega) (by rw [u8s_len]; unfold maxLen; omega) (by simp) ?_)
    intro v2 w2 ho2 hg2
    have hE2 : Ext w w2 := Below.grown (Ext.alloc w (.cells #[] 5)) hg2 (by simp) (by intro k hk; simp [Value.ownBlock] at hk; omega)
    have HO2 := Lib.hid ho2; clear ho2 hg2
    go_wp2_with fail
    go_ret
    exact ⟨_, rfl, by have := HO2.out; simpa using own_n this, hE2⟩
end Go.Proofs.Ytjodgbabfhcilaa

/- 'recover' in a region that draws its order. Of any program. -/
namespace Go.Proofs.Ytjodgbabfhcilaa
open Go Go.RowKit

/-- All orders that a region may take. -/
def orders (md : Region.Mode) (ops : Array Oper) : Nat → Array Bool → List (List Nat)
  | 0, _ => [[]]
  | fuel + 1, listed => match Region.ready md ops listed with
    | [] => [[]]
    | rs => rs.flatMap fun i => (orders md ops fuel (listed.setIfInBounds i true)).map (i :: ·)

theorem go_mem_orders (md : Region.Mode) (ops : Array Oper) : ∀ (fuel t : Nat) (listed : Array Bool), Region.linearise.go md ops fuel t listed [] ∈ orders md ops fuel listed := by
  intro fuel
  induction fuel with
  | zero => intro t listed; simp [Region.linearise.go, orders]
  | succ fuel ih =>
    intro t listed
    simp only [Region.linearise.go]
    change (match (Region.ready md ops listed)[t % (Region.ready md ops listed).length]? with
      | some i => Region.linearise.go md ops fuel (t / (Region.ready md ops listed).length) (listed.setIfInBounds i true) [i]
      | none => [].reverse) ∈ _
    simp only [orders]
    cases hr : Region.ready md ops listed with
    | nil => simp
    | cons x xs =>
      have hlt : t % (x :: xs).length < (x :: xs).length := Nat.mod_lt _ (by simp)
      rw [List.getElem?_eq_getElem hlt]
      simp only []
      rw [linearise_go_acc, List.reverse_singleton, List.singleton_append]
      exact List.mem_flatMap.2 ⟨_, List.getElem_mem hlt, List.mem_map.2 ⟨_, ih _ _, rfl⟩⟩

theorem wpS_region_draw {P : Program} {ops : Array Oper} {Q : Exit → Act → List Frame → World → Prop} {a : Act} {cs : List Frame} {w : World} {id : Nat} (L : List (List Nat)) (hm : P.follows .mixedOrders = true) (hL : orders .any ops ops.size (Array.replicate ops.size false) = L)
    (h : ∀ l ∈ L, wpOpsS P ops Q l a cs w.drew) : (Code.region id ops true).wpS P Q a cs w := by
  subst hL
  intro b k hb hr
  have hl : Region.schedule (P.follows .mixedOrders) ops (w.tape w.drawn (.order b.fn id)) ∈ orders .any ops ops.size (Array.replicate ops.size false) := by
    simp only [Region.schedule, hm, Bool.true_or, if_true]
    exact go_mem_orders .any ops _ _ _
  obtain ⟨e, a', cs', w', q, r⟩ := wp_opsS _ a cs w.drew (h _ hl) b k hb hr
  exact ⟨e, a', cs', w', q, .of_steps (.one step_region_draw) r⟩

/-! ### What a call leaves alone but for one block -/
theorem Ext.grownBy {w w' : World} (h : Ext w w') (r : Option Nat) : w.grownBy w' r := ⟨h.os, h.tape, h.output, h.size, fun k hk _ => h.block k hk⟩
theorem grown_refl (w : World) (r : Option Nat) : w.grownBy w r := ⟨rfl, rfl, rfl, Nat.le_refl _, fun _ _ _ => rfl⟩
theorem grown_set (w : World) (b j : Nat) (v : Value) (s : Option Nat := none) : w.grownBy (w.setCell ⟨b, j, none⟩ v) (some b) :=
  ⟨rfl, rfl, rfl, by simp [World.setCell], fun k _ hne => by rw [Below.heap_setCell _ _ _ _ (by intro e; exact hne (by rw [e]))]⟩
theorem grown_trans1 {a b c : World} {r : Option Nat} (h : a.grownBy b r) (k : b.grownBy c r) : a.grownBy c r := grown_trans h k (.inl rfl)
theorem grown_drew {w w' : World} {r : Option Nat} (h : w.grownBy w' r) : w.grownBy w'.drew r := ⟨h.os, h.tape, h.output, h.size, h.block⟩
theorem Blk.grown {w w' : World} {b : Nat} {cs : Array Value} {e : TypeId} {r : Option Nat} (h : Blk w b cs e) (hg : w.grownBy w' r) (hr : some b ≠ r) : Blk w' b cs e := by
  unfold Blk at *; rw [hg.block b (Blk.lt h) hr]; exact h
theorem cell_grown {w w' : World} {r : Option Nat} (hg : w.grownBy w' r) {p : Addr} {v : Value} (h : w.cell? p = some v) (hr : some p.block ≠ r) : w'.cell? p = some v := by
  rw [World.cell?_of_block (hg.block p.block (World.block_lt_of_cell? w p h) hr)]; exact h
/-- The block that v lies in, if it has cells, is none of r. -/
def Off (v : Value) (cs : List Value) (r : Option Nat) : Prop := ∀ a n c, v = .slice (some a) n c → cs ≠ [] → some a.block ≠ r
theorem Rd.grown {w w' : World} {v : Value} {cs : List Value} {r : Option Nat} (h : Rd w v cs) (hg : w.grownBy w' r) (ho : Off v cs r) : Rd w' v cs := by
  obtain ⟨a, c, hv, h1, h2, h3⟩ := h
  refine ⟨a, c, hv, h1, h2, ?_⟩
  by_cases hn : cs = []
  · exact .inl hn
  · rcases h3 with h3 | ⟨b, o, rfl, hc⟩
    · exact absurd h3 hn
    · exact .inr ⟨b, o, rfl, fun j u hj => cell_grown hg (hc j u hj) (by have := ho _ _ _ hv hn; exact this)⟩
/-- A block whose cells are none of the slice's is not its block. -/
theorem Rd.off {w : World} {v : Value} {cs : List Value} {b : Nat} {ds : Array Value} {e : TypeId} (h : Rd w v cs) (hb : Blk w b ds e) (hd : ∀ u ∈ ds, u ∉ cs) : Off v cs (some b) := by
  intro a n c hv hn hab
  obtain ⟨a', c', hv', h1, h2, h3⟩ := h
  rcases h3 with h3 | ⟨b', o, ha', hc⟩
  · exact hn h3
  · rw [hv] at hv'
    cases hv'
    cases ha'
    cases hab
    cases cs with
    | nil => exact hn rfl
    | cons u us =>
      have h0 := hc 0 u rfl
      rw [cell_of_row w _ _ ds e (0, 0) hb] at h0
      exact hd u (Array.mem_of_getElem? h0) (by simp)
end Go.Proofs.Ytjodgbabfhcilaa

/- Contracts of package tabellionref01: the writers. -/
namespace Go.Proofs.Ytjodgbabfhcilaa
open Go Go.RowKit

theorem div_succ (n j : Nat) : ((n / 256 ^ j : Nat) : Int) / 256 = ((n / 256 ^ (j + 1) : Nat) : Int) := by
  rw [Nat.pow_succ, ← Nat.div_div_eq_div_mul]; generalize n / 256 ^ j = q; omega

theorem num_int (n : Int) (w : World) (hn : U64 n) : Calls Try.prog 75 #[.int .u64 n] w (RetOwn 5 w (u8s (numB n.toNat))) := by
  obtain ⟨h0, h1⟩ := hn
  obtain ⟨m, rfl⟩ := Int.eq_ofNat_of_zero_le h0
  exact num_ret m w (by omega)
end Go.Proofs.Ytjodgbabfhcilaa

/- What a call leaves alone but for some blocks. Of any program. -/
namespace Go.Proofs.Ytjodgbabfhcilaa
open Go Go.RowKit

/-- All blocks of w but those of S are in w' as they were. -/
structure Chg (S : List Nat) (w w' : World) : Prop where
  os : w'.os = w.os
  tape : w'.tape = w.tape
  output : w'.output = w.output
  size : w.heap.size ≤ w'.heap.size
  block : ∀ k, k < w.heap.size → k ∉ S → w'.heap[k]? = w.heap[k]?
section
variable {S T : List Nat} {w w' w'' : World}
theorem Chg.refl (S : List Nat) (w : World) : Chg S w w := ⟨rfl, rfl, rfl, Nat.le_refl _, fun _ _ _ => rfl⟩
theorem Chg.trans' (h : Chg S w w') (k : Chg T w' w'') (hT : ∀ t ∈ T, t ∈ S ∨ w.heap.size ≤ t) : Chg S w w'' :=
  ⟨k.os.trans h.os, k.tape.trans h.tape, k.output.trans h.output, Nat.le_trans h.size k.size, fun i hi hn =>
    (k.block i (Nat.lt_of_lt_of_le hi h.size) fun ht => by rcases hT i ht with h1 | h1; exact hn h1; omega).trans (h.block i hi hn)⟩
theorem Chg.trans (h : Chg S w w') (k : Chg S w' w'') : Chg S w w'' := h.trans' k fun _ ht => .inl ht
theorem Chg.mono (h : Chg T w w') (hT : ∀ t ∈ T, t ∈ S ∨ w.heap.size ≤ t) : Chg S w w' := (Chg.refl S w).trans' h hT
theorem Chg.ext (h : Ext w w') : Chg S w w' := ⟨h.os, h.tape, h.output, h.size, fun k hk _ => h.block k hk⟩
theorem Chg.grown {r : Option Nat} (h : w.grownBy w' r) : Chg r.toList w w' :=
  ⟨h.os, h.tape, h.output, h.size, fun k hk hn => h.block k hk (by intro e; subst e; simp at hn)⟩
theorem Chg.some {b : Nat} (h : w.grownBy w' (some b)) (hb : b ∈ S ∨ w.heap.size ≤ b) : Chg S w w' :=
  (Chg.grown h).mono fun t ht => by simp at ht; subst ht; exact hb
theorem Chg.set (p j : Nat) (v : Value) (hp : p ∈ S) : Chg S w (w.setCell ⟨p, j, none⟩ v) := Chg.some (grown_set w p j v) (.inl hp)
theorem Chg.setNew (h : Chg S w w') (p j : Nat) (v : Value) (hp : p ∈ S ∨ w.heap.size ≤ p) : Chg S w (w'.setCell ⟨p, j, none⟩ v) :=
  h.trans' (Chg.grown (grown_set w' p j v)) fun t ht => by simp at ht; subst ht; exact hp
theorem Chg.drew : Chg S w w.drew := Chg.ext (Ext.drew w)
theorem Chg.toDrew (h : Chg S w w') : Chg S w w'.drew := ⟨h.os, h.tape, h.output, h.size, h.block⟩
theorem Chg.below {B : Nat} {w0 : World} (h : Below B w0 w) (k : Chg S w w') (hB : B ≤ w.heap.size) (hS : ∀ t ∈ S, B ≤ t) : Below B w0 w' :=
  ⟨k.os.trans h.os, k.tape.trans h.tape, k.output.trans h.output, Nat.le_trans h.size k.size, fun i hi => (k.block i (Nat.lt_of_lt_of_le hi hB) fun ht => by have := hS i ht; omega).trans (h.block i hi)⟩
theorem Chg.toExt (h : Chg S w w') (hS : ∀ t ∈ S, w.heap.size ≤ t) : Ext w w' := Chg.below (Below.refl _ _) h (Nat.le_refl _) hS
theorem Blk.chg {b : Nat} {cs : Array Value} {e : TypeId} (h : Blk w b cs e) (hg : Chg S w w') (hb : b ∉ S) : Blk w' b cs e := by
  unfold Blk at *; rw [hg.block b (Blk.lt h) hb]; exact h
theorem cell_chg (hg : Chg S w w') {p : Addr} {v : Value} (h : w.cell? p = some v) (hp : p.block ∉ S) : w'.cell? p = some v := by
  rw [World.cell?_of_block (hg.block p.block (World.block_lt_of_cell? w p h) hp)]; exact h
/-- The block that v lies in, if it has cells, is none of S. -/
def OffL (v : Value) (cs : List Value) (S : List Nat) : Prop := ∀ a n c, v = .slice (some a) n c → cs ≠ [] → a.block ∉ S
theorem Rd.chg {v : Value} {cs : List Value} (h : Rd w v cs) (hg : Chg S w w') (ho : OffL v cs S) : Rd w' v cs := by
  obtain ⟨a, c, hv, h1, h2, h3⟩ := h
  refine ⟨a, c, hv, h1, h2, ?_⟩
  by_cases hn : cs = []
  · exact .inl hn
  · rcases h3 with h3 | ⟨b, o, rfl, hc⟩
    · exact absurd h3 hn
    · exact .inr ⟨b, o, rfl, fun j u hj => cell_chg hg (hc j u hj) (by have := ho _ _ _ hv hn; exact this)⟩
/-- A slice that lies in blocks from B on. -/
def From (B : Nat) (v : Value) : Prop := ∀ a n c, v = .slice (some a) n c → B ≤ a.block
theorem From.nil (B : Nat) : From B (.slice none 0 0) := fun _ _ _ h => by cases h
theorem From.mono {B B' : Nat} {v : Value} (h : From B v) (hb : B' ≤ B) : From B' v := fun a n c hv => Nat.le_trans hb (h a n c hv)
theorem From.off {B : Nat} {v : Value} {cs : List Value} (h : From B v) (hS : ∀ t ∈ S, t < B) : OffL v cs S := fun a n c hv _ hm => by have := h a n c hv; have := hS _ hm; omega
theorem From.own {base : Nat} {e : TypeId} {sz n : Nat} {v : Value} {xs : List Value} (h : w.ownsRow base e sz v n xs) : From base v := fun a m c hv => by
  rcases h.2 with ⟨hn, _⟩ | ⟨g, cap, cur, hv', hg, _⟩
  · rw [hn] at hv; cases hv
  · rw [hv'] at hv; cases hv; exact hg
end
end Go.Proofs.Ytjodgbabfhcilaa

/- Contracts of packages cmd and tabellionref12: which members, which entries are formed. -/
namespace Go.Proofs.Ytjodgbabfhcilaa
open Go Go.RowKit

/-- A call that hands back v, and leaves all that was there alone. -/
def RetIs (v : Value) (w : World) (e : Ending) (w' : World) : Prop := e = .returned v ∧ Ext w w'

set_option maxHeartbeats 400000 in
theorem members_ret (v : Value) (xs : List Int) (w : World) (hr : Rd w v (u64s xs)) : Calls Try.prog 78 #[v] w (RetIs (.bool (membersB xs)) w) := by
  obtain ⟨a, c, rfl, hac, hcm, h3⟩ := Rd.open hr
  unfold maxLen at hcm
  have H3 := Lib.hid h3; clear h3 hr
  go_enter Try.func78, Try.ntmps78
  go_wp2_with fail
  go_loopg [3, 8] xs.length (fun g l i wr => ∃ (r : Nat) (last : Int), r + g = xs.length ∧ i = .int .i64 (r : Int) ∧ l = .int .u64 last ∧ memGo last (xs.drop r) = membersB xs ∧ Ext w wr)
  case atStart => exact ⟨0, 0, by omega, rfl, rfl, by simp [membersB], Ext.refl _⟩
  case round =>
    obtain ⟨r, last, hg, rfl, rfl, hm, hE⟩ := hrel
    by_cases hlt : r < xs.length
    · rcases H3.out with h0 | ⟨b, o, rfl, hc⟩
      · subst h0; simp at hlt
      · have hcell := hE.cell (hc r hlt)
        obtain ⟨x, hx⟩ : ∃ x : Int, x = xs.getD r 0 := ⟨_, rfl⟩
        rw [← hx] at hcell
        have hd : xs.drop r = x :: xs.drop (r + 1) := by
          rw [List.drop_eq_getElem_cons hlt, hx]; simp [List.getD, List.getElem?_eq_getElem hlt]
        rw [hd, memGo] at hm
        have HM := Lib.hid hm; clear hm hx hc hd
        by_cases h1 : x ≤ last
        · go_wp2_with fail
          go_ret
          refine ⟨?_, hE⟩
          rw [← HM.out]; simp [h1]
        · by_cases h2 : 7 < x
          · go_wp2_with fail
            go_ret
            refine ⟨?_, hE⟩
            rw [← HM.out]; simp [h2]
          · go_wp2_with fail
            go_roundg (gk - 1)
            case measure => omega
            case rel => exact ⟨r + 1, x, by omega, by go_num, rfl, by rw [← HM.out]; simp [h1, h2], hE⟩
    · have hd : xs.drop r = [] := List.drop_eq_nil_of_le (by omega)
      rw [hd, memGo] at hm
      have HM := Lib.hid hm; clear hm hd
      go_wp2_with fail
      go_ret
      refine ⟨?_, hE⟩
      rw [← HM.out]; rfl

set_option maxHeartbeats 400000 in
theorem rmembers_ret (v : Value) (xs : List Int) (w : World) (hr : Rd w v (u64s xs)) : Calls Try.prog 41 #[v] w (RetIs (.bool (membersB xs)) w) := by
  obtain ⟨a, c, rfl, hac, hcm, h3⟩ := Rd.open hr
  unfold maxLen at hcm
  have H3 := Lib.hid h3; clear h3 hr
  go_enter Try.func41, Try.ntmps41
  go_wp2_with fail
  go_loopg [3] xs.length (fun g i wr => ∃ (r : Nat) (last : Int), r + g = xs.length ∧ i = .int .i64 (r : Int) ∧ memGo last (xs.drop r) = membersB xs ∧ (r = 0 ∧ last = 0 ∨ 0 < r ∧ 1 ≤ last ∧ last = xs.getD (r - 1) 0) ∧ Ext w wr)
  case atStart => exact ⟨0, 0, by omega, rfl, by simp [membersB], .inl ⟨rfl, rfl⟩, Ext.refl _⟩
  case round =>
    obtain ⟨r, last, hg, rfl, hm, hl, hE⟩ := hrel
    by_cases hlt : r < xs.length
    · rcases H3.out with h0 | ⟨b, o, rfl, hc⟩
      · subst h0; simp at hlt
      · have hcell := hE.cell (hc r hlt)
        obtain ⟨x, hx⟩ : ∃ x : Int, x = xs.getD r 0 := ⟨_, rfl⟩
        rw [← hx] at hcell
        have hd : xs.drop r = x :: xs.drop (r + 1) := by
          rw [List.drop_eq_getElem_cons hlt, hx]; simp [List.getD, List.getElem?_eq_getElem hlt]
        rw [hd, memGo] at hm
        have HM := Lib.hid hm; have HX := Lib.hid hx; clear hm hx hd
        by_cases h1 : x < 1
        · have HF := Lib.hid (show membersB xs = false by rw [← HM.out]; simp; omega)
          clear hl hc
          go_wp2_with fail
          go_quiet (fail)
          go_wp2_with fail
          go_ret
          exact ⟨by rw [HF.out]; rfl, hE.trans (Ext.drewN _ _)⟩
        · have h1' : decide (x < 1) = false := by simpa using h1
          by_cases h2 : 7 < x
          · have HF := Lib.hid (show membersB xs = false by rw [← HM.out]; simp; omega)
            clear hl hc
            go_wp2_with fail
            go_quiet (fail)
            go_wp2_with fail
            go_ret
            exact ⟨by rw [HF.out]; rfl, hE.trans (Ext.drewN _ _)⟩
          · have h2' : decide (7 < x) = false := by simpa using h2
            rcases hl with ⟨h0, rfl⟩ | ⟨hr0, hl1, hlx⟩
            · have HN := Lib.hid (show memGo x (xs.drop (r + 1)) = membersB xs by rw [← HM.out]; simp [h2]; omega)
              have hr0 : decide (0 < r) = false := by simp; omega
              clear hc h0
              go_wp2_with fail
              go_quiet (fail)
              go_wp2_with fail
              go_roundg (gk - 1)
              case measure => omega
              case rel => exact ⟨r + 1, x, by omega, by go_num, HN.out, .inr ⟨by omega, by omega, HX.out⟩, hE.trans (Ext.drewN _ _)⟩
            · have hcell2 := hE.cell (hc (r - 1) (by omega))
              rw [← hlx] at hcell2
              have HL := Lib.hid hlx; clear hlx hc
              by_cases h3 : x ≤ last
              · have HF := Lib.hid (show membersB xs = false by rw [← HM.out]; simp [h3])
                go_wp2_with fail
                go_quiet (fail)
                go_wp2_with fail
                go_ret
                exact ⟨by rw [HF.out]; rfl, hE.trans (Ext.drewN _ _)⟩
              · have HN := Lib.hid (show memGo x (xs.drop (r + 1)) = membersB xs by rw [← HM.out]; simp [h2, h3])
                go_wp2_with fail
                go_quiet (fail)
                go_wp2_with fail
                go_roundg (gk - 1)
                case measure => omega
                case rel => exact ⟨r + 1, x, by omega, by go_num, HN.out, .inr ⟨by omega, by omega, HX.out⟩, hE.trans (Ext.drewN _ _)⟩
    · have hd : xs.drop r = [] := List.drop_eq_nil_of_le (by omega)
      rw [hd, memGo] at hm
      have HF := Lib.hid (show membersB xs = decide (0 < (xs.length : Int)) by
        rw [← hm]; rcases hl with ⟨h1, h2⟩ | ⟨h1, h2, _⟩
        · rw [h2, decide_eq_false (by omega), decide_eq_false (by omega)]
        · rw [decide_eq_true (by omega), decide_eq_true (by omega)])
      clear hm hd hl
      go_wp2_with fail
      go_ret
      exact ⟨by rw [HF.out]; simp, hE⟩
end Go.Proofs.Ytjodgbabfhcilaa

/- A region that draws its order, order by order. Of any program. -/
namespace Go.Proofs.Ytjodgbabfhcilaa
open Go Go.RowKit

theorem wpOps_list {P : Program} {ops : Array Oper} {Q : Exit → Act → World → Prop} : ∀ l : List Nat, wpOps P ops Q l = wpList P ops Q (l.filterMap (ops[·]?)) := by
  intro l
  induction l with
  | nil => funext a w; simp [wpOps, wpList]
  | cons i l ih =>
    funext a w
    cases h : ops[i]? with
    | none => simp only [wpOps, h, List.filterMap_cons, ih]
    | some o => simp only [wpOps, h, List.filterMap_cons, wpList, ih]

theorem wp_region_orders {P : Program} {ops : Array Oper} {Q : Exit → Act → World → Prop} {a : Act} {w : World} {id : Nat} (L : List (List Nat)) (hm : P.follows .mixedOrders = true) (hL : orders .any ops ops.size (Array.replicate ops.size false) = L)
    (h : ∀ l ∈ L, wpList P ops Q (l.filterMap (ops[·]?)) a w.drew) : (Code.region id ops true).wp P Q a w := by
  subst hL
  refine wp_region_draw fun t => ?_
  have hl : Region.schedule (P.follows .mixedOrders) ops t ∈ orders .any ops ops.size (Array.replicate ops.size false) := by
    simp only [Region.schedule, hm, Bool.true_or, if_true]
    exact go_mem_orders .any ops _ _ _
  rw [wpOps_list]
  exact h _ hl
end Go.Proofs.Ytjodgbabfhcilaa

/- tabellionref01.Reader: fail, Byte. -/
namespace Go.Proofs.Ytjodgbabfhcilaa
open Go Go.RowKit
/-- What a reading call brings: X, or the reader's error if it is stuck. -/
def stuckR {α : Type} (e : Int) (X : Except Int α) : Except Int α := if e = 0 then X else .error e

end Go.Proofs.Ytjodgbabfhcilaa

/- net: ways that are blocked: a map keyed by structs, plain and in memory. -/
namespace Go.Proofs.Ytjodgbabfhcilaa
open Go Go.RowKit Go.Maps

theorem Rd.ltB {a : Addr} {n c : Nat} {w : World} {v : Value} {cs : List Value} (h : Rd w v cs) (hv : v = .slice (some a) n c) (hn : cs ≠ []) : a.block < w.heap.size := by
  obtain ⟨a', c', hv', _, _, h3⟩ := h
  rcases h3 with h3 | ⟨b', o, rfl, hc⟩
  · exact absurd h3 hn
  · rw [hv] at hv'
    cases hv'
    cases cs with
    | nil => exact absurd rfl hn
    | cons u r => exact World.block_lt_of_cell? w ⟨b', o + 0, none⟩ (hc 0 u rfl)
theorem OffL.more {A A' : List Nat} {w : World} {v : Value} {cs : List Value} (ho : OffL v cs A) (h : Rd w v cs) (hA : ∀ t ∈ A', t ∈ A ∨ w.heap.size ≤ t) : OffL v cs A' := fun a n c hv hn hm => by
  rcases hA _ hm with h1 | h1
  · exact ho a n c hv hn h1
  · have := h.ltB hv hn; omega
theorem Rd.chgA {A S : List Nat} {w w' : World} {v : Value} {cs : List Value} (h : Rd w v cs) (ho : OffL v cs A) (hg : Chg S w w') (hS : ∀ t ∈ S, t ∈ A ∨ w.heap.size ≤ t) : Rd w' v cs := by
  refine h.chg hg fun a n c hv hn hm => ?_
  rcases hS _ hm with h1 | h1
  · exact ho a n c hv hn h1
  · have := h.ltB hv hn; omega

/-! ### A way as a key -/
abbrev wayV (a b : Int) : Value := .agg #[.int .u64 a, .int .u64 b]
/-- A way's bytes, as a map's key reads. -/
def wayK (a b : Int) : Nm := keyBytes [.int .u64 a, .int .u64 b]
theorem laidOutN : laidOutB Try.prog = true := by kernel_rfl
theorem rowW : (72 : TypeId) < Try.prog.types.size := of_decide_eq_true (by kernel_rfl)
theorem wideW : (match Try.prog.underlying 72 with | some (.array _ _) | some (.struct _) => true | _ => false) = true := by rw [Try.underlying72]
set_option maxRecDepth 100000 in
theorem kW : Keyed Try.prog 72 := Keyed.of_law (deep_law_laid laidOutN (m := 2) (by omega) rowW (by kernel_rfl) wideW)
theorem cellsW : Try.prog.cellsOf 72 = 2 := by kernel_rfl
theorem cellsU : Try.prog.cellsOf 29 = 1 := by kernel_rfl
theorem wf64 {a : Int} (h : U64 a) : (Lit.int .u64 a).wf = true := by
  obtain ⟨h1, h2⟩ := h
  simp only [Lit.wf, Bool.and_eq_true, decide_eq_true_eq]
  exact ⟨h1, h2⟩
theorem hkeyW {a b : Int} (ha : U64 a) (hb : U64 b) : keyOf Try.prog 72 (wayV a b) = some (.string (wayK a b)) := by
  have h1 : Try.prog.keyType 72 = true := by kernel_rfl
  have h2 : (wayV a b).formed Try.prog 72 = true := by simp [Value.formed, Try.underlying72, cellsW]
  obtain ⟨n, hn⟩ : ∃ n, Try.prog.types.size = n + 1 := Nat.exists_eq_succ_of_ne_zero (show Try.prog.types.size ≠ 0 from fun e => by have := rowW; rw [e] at this; exact absurd this (Nat.not_lt_zero _))
  have wa := wf64 ha; have wb := wf64 hb
  have h3 : Try.prog.keyLits (Try.prog.types.size + 1) 72 (wayV a b).cells.toList = some [.int .u64 a, .int .u64 b] := by
    rw [hn]
    simp [Program.keyLits, Try.underlying72, Try.underlying29, cellsW, cellsU, Value.cells, wa, wb]
  unfold keyOf
  rw [Try.underlying72]
  simp only [h1, h2, h3, Bool.and_self, ↓reduceIte, Option.map_some]
  rfl
theorem wayK_inj {a b c d : Int} (ha : U64 a) (hb : U64 b) (hc : U64 c) (hd : U64 d) (h : wayK a b = wayK c d) : a = c ∧ b = d := by
  have key := keyBytes_inj (l := [.int .u64 a, .int .u64 b]) (l' := [.int .u64 c, .int .u64 d]) (by simp [Alike, Lit.sameKind]) (by
    intro x hx; simp at hx; rcases hx with rfl | rfl
    · exact wf64 ha
    · exact wf64 hb) (by
    intro x hx; simp at hx; rcases hx with rfl | rfl
    · exact wf64 hc
    · exact wf64 hd) h
  simp at key
  exact key

/-! ### The map of the ways -/
abbrev WL := List (Nm × Unit)
/-- Block b is a map of at most n ways, those of W. -/
def Walls (w : World) (b n : Nat) (W : WL) : Prop := w.ownsMap Try.prog 72 hR b n (toD (fun _ : Unit => Value.agg #[]) W)
/-- Is the way from a to b blocked? -/
def wall (W : WL) (a b : Int) : Bool := (getG (wayK a b) W).isSome
theorem wall_put (W : WL) {a b c d : Int} (ha : U64 a) (hb : U64 b) (hc : U64 c) (hd : U64 d) : wall (putG (wayK a b) () W) c d = (decide (a = c ∧ b = d) || wall W c d) := by
  unfold wall
  by_cases h : a = c ∧ b = d
  · obtain ⟨rfl, rfl⟩ := h
    rw [getG_putG_same]; simp
  · rw [getG_putG_other (fun e => h (by have := wayK_inj hc hd ha hb e; exact ⟨this.1.symm, this.2.symm⟩))]
    rw [decide_eq_false h, Bool.false_or]
theorem wall_del (W : WL) {a b c d : Int} (ha : U64 a) (hb : U64 b) (hc : U64 c) (hd : U64 d) : wall (delG (wayK a b) W) c d = (!decide (a = c ∧ b = d) && wall W c d) := by
  unfold wall
  by_cases h : a = c ∧ b = d
  · obtain ⟨rfl, rfl⟩ := h
    rw [getG_delG_same]; simp
  · rw [getG_delG_other (fun e => h (by have := wayK_inj hc hd ha hb e; exact ⟨this.1.symm, this.2.symm⟩))]
    rw [decide_eq_false h]; simp
theorem own_chgM {S : List Nat} {w w' : World} {b n : Nat} {k : TypeId} {H : Type} {R : Value → Option (DataW H × List MemPlace)} {D : DataW H} {P : Program} (h : w.ownsMap P k R b n D) (hg : Chg S w w') (hb : b ∉ S) : w'.ownsMap P k R b n D := by
  have hlt := h.lt
  obtain ⟨es, clock, hh, r⟩ := h
  exact ⟨es, clock, (hg.block b hlt hb).trans hh, r⟩
theorem Chg.turned {w w' : World} {b : Nat} (h : w.mapTurned w' b) : Chg [b] w w' ∧ w'.heap.size = w.heap.size := by
  refine ⟨Chg.some h.grown (.inl (by simp)), ?_⟩
  obtain ⟨es, clock, es', clock', _, rfl⟩ := h
  simp [Go.ChangeMaps.setBlock]
theorem zeroE (w : World) : (zeroValue 70).run Try.prog w = .ok (.agg #[]) w := by kernel_rfl
theorem Walls.made (w : World) : Walls (w.alloc (.map #[] 0)) w.heap.size 0 [] := World.ownsMap_made _ _ _ _
theorem Walls.look {w : World} {m n : Nat} {W : WL} (h : Walls w m n W) {a b : Int} (ha : U64 a) (hb : U64 b) :
    (Instr.lookup 57 (.map (some m)) (wayV a b) true).run Try.prog w = .ok (.tuple #[.agg #[], .bool (wall W a b)]) w := by
  have hr : ∀ e0 : Value, (hR e0) = some (.held e0, []) := fun _ => rfl
  obtain ⟨v, ps, hrun, hv⟩ := World.ownsMap.look_ok h kW Try.underlying57 (zeroE w) (hr _) (hkeyW ha hb)
  simp only [hR, Option.some.injEq, Prod.mk.injEq] at hv
  rw [toD_atKey] at hv
  have hv' : v = .agg #[] := by
    have := hv.1
    split at this <;> simpa using this
  rw [toD_has, hv'] at hrun
  exact hrun
theorem Walls.put {w : World} {m n : Nat} {W : WL} (h : Walls w m n W) (hn : n < maxLen) {a b : Int} (ha : U64 a) (hb : U64 b) :
    ∃ w', (Instr.mapUpdate 57 (.map (some m)) (wayV a b) (.agg #[])).run Try.prog w = .ok () w' ∧ Walls w' m (n + 1) (putG (wayK a b) () W) ∧ Chg [m] w w' ∧ w'.heap.size = w.heap.size := by
  obtain ⟨w', hrun, ho', ht'⟩ := World.ownsMap.store h kW Try.underlying57 hn (hkeyW ha hb) (show hR (.agg #[]) = some (.held (.agg #[]), []) from rfl)
  obtain ⟨hc, hsz⟩ := Chg.turned ht'
  refine ⟨w', hrun, ?_, hc, hsz⟩
  unfold Walls
  rw [← toD_put (c := fun _ : Unit => Value.agg #[]) (wayK a b) () W]; exact ho'
theorem Walls.drop {w : World} {m n : Nat} {W : WL} (h : Walls w m n W) {a b : Int} (ha : U64 a) (hb : U64 b) (ty : TypeId) :
    ∃ w', (Builtin.delete_ #[57, 72] ty #[.map (some m), wayV a b]).run Try.prog w = .ok (.tuple #[]) w' ∧ Walls w' m n (delG (wayK a b) W) ∧ Chg [m] w w' ∧ w'.heap.size = w.heap.size := by
  obtain ⟨w', hrun, ho', ht'⟩ := World.ownsMap.drop h kW Try.underlying57 (hkeyW ha hb) ty
  obtain ⟨hc, hsz⟩ := Chg.turned ht'
  refine ⟨w', hrun, ?_, hc, hsz⟩
  rw [toD_del] at ho'; exact ho'
end Go.Proofs.Ytjodgbabfhcilaa

/- Rows that no string shares: whose cells may be written. Of any program. -/
namespace Go.Proofs.Ytjodgbabfhcilaa
open Go Go.RowKit

/-- The row that v's elements lie in, if it has any, is shared by no string. -/
def UnA (w : World) (v : Value) : Prop := ∀ a n c, v = .slice (some a) n c → n ≠ 0 → ∃ cs t, Blk w a.block cs t
section
variable {w w' : World} {v : Value}
theorem UnA.nil (w : World) : UnA w (.slice none 0 0) := fun _ _ _ h => by cases h
theorem UnA.zero (w : World) (a : Option Addr) (c : Nat) : UnA w (.slice a 0 c) := fun _ _ _ h hn => by cases h; exact absurd rfl hn
theorem UnA.not (w : World) {v : Value} (h : ∀ a n c, v ≠ .slice a n c) : UnA w v := fun _ _ _ e => absurd e (h _ _ _)
theorem UnA.set (h : UnA w v) (b j : Nat) (u : Value) : UnA (w.setCell ⟨b, j, none⟩ u) v := fun a n c e hn => by
  obtain ⟨cs, t, hB⟩ := h a n c e hn
  by_cases hb : b = a.block
  · subst hb; exact ⟨_, _, hB.set j u⟩
  · exact ⟨_, _, hB.other ⟨b, j, none⟩ u hb⟩
theorem UnA.drew (h : UnA w v) : UnA w.drew v := fun a n c e hn => by
  obtain ⟨cs, t, hB⟩ := h a n c e hn
  exact ⟨cs, t, hB.drew⟩
theorem UnA.ext (h : UnA w v) (hE : Ext w w') : UnA w' v := fun a n c e hn => by
  obtain ⟨cs, t, hB⟩ := h a n c e hn
  exact ⟨cs, t, hB.ext hE⟩
theorem UnA.grown {r : Option Nat} (h : UnA w v) (hg : w.grownBy w' r) (hr : ∀ a n c, v = .slice (some a) n c → n ≠ 0 → some a.block ≠ r) : UnA w' v := fun a n c e hn => by
  obtain ⟨cs, t, hB⟩ := h a n c e hn
  exact ⟨cs, t, hB.grown hg (hr a n c e hn)⟩
theorem UnA.chg {S : List Nat} (h : UnA w v) (hg : Chg S w w') (hS : ∀ a n c, v = .slice (some a) n c → n ≠ 0 → a.block ∉ S) : UnA w' v := fun a n c e hn => by
  obtain ⟨cs, t, hB⟩ := h a n c e hn
  exact ⟨cs, t, hB.chg hg (hS a n c e hn)⟩
theorem UnA.own {base : Nat} {e : TypeId} {sz n : Nat} {xs : List Value} (h : w.ownsRow base e sz v n xs) : UnA w v := fun a m c hv _ => by
  rcases h.2 with ⟨hn, _⟩ | ⟨g, cap, cur, hv', hg, hh, _⟩
  · rw [hn] at hv; cases hv
  · rw [hv'] at hv; cases hv; exact ⟨_, _, hh⟩
end
end Go.Proofs.Ytjodgbabfhcilaa

/- slices.Delete of one element, at [][]byte. -/
namespace Go.Proofs.Ytjodgbabfhcilaa
open Go Go.RowKit Go.Maps

theorem elS : ElT Try.prog 58 32 (.slice none 0 0) 24 := ElT.mk' Try.underlying58 (by kernel_rfl) rfl
theorem Blk.setCells {b : Nat} {e : TypeId} : ∀ (vs : List Value) (o : Nat) {w : World} {cs : List Value}, Blk w b cs.toArray e → o + vs.length ≤ cs.length → Blk (w.setCells b o vs) b (cs.take o ++ vs ++ cs.drop (o + vs.length)).toArray e
  | [], o, w, cs, h, _ => by simpa [World.setCells] using h
  | v :: r, o, w, cs, h, hl => by
    simp only [List.length_cons] at hl
    have h1 : Blk (w.setCell ⟨b, o, none⟩ v) b (cs.set o v).toArray e := by simpa using h.set o v
    have h2 := Blk.setCells r (o + 1) h1 (by rw [List.length_set]; omega)
    have ho : o < cs.length := by omega
    have a1 : (cs.set o v).take (o + 1) = cs.take o ++ [v] := by
      rw [List.take_add_one, List.getElem?_set_self ho, List.take_set_of_le (Nat.le_refl _)]; rfl
    have a2 : (cs.set o v).drop (o + 1 + r.length) = cs.drop (o + 1 + r.length) := List.drop_set_of_lt (by omega)
    have e1 : (cs.set o v).take (o + 1) ++ r ++ (cs.set o v).drop (o + 1 + r.length) = cs.take o ++ (v :: r) ++ cs.drop (o + (v :: r).length) := by
      rw [a1, a2, List.length_cons, show o + 1 + r.length = o + (r.length + 1) by omega]; simp
    rw [e1] at h2
    exact h2
theorem chg_setCells (b : Nat) : ∀ (vs : List Value) (o : Nat) (w : World), Chg [b] w (w.setCells b o vs)
  | [], _, w => Chg.refl _ w
  | v :: r, o, w => (Chg.set b o v (by simp)).trans (chg_setCells b r (o + 1) _)

theorem Blk.isSome {w : World} {b j : Nat} {e : TypeId} {cl : List Value} (h : Blk w b cl.toArray e) (hj : j < cl.length) : (w.cell? ⟨b, j, none⟩).isSome = true := by
  rw [h.cell j (show cl.toArray[j]? = some cl[j] by simp [hj])]; rfl
set_option maxRecDepth 1000000 in
set_option maxHeartbeats 4000000 in
theorem ndel_c (B g n cap k j : Nat) (xs : List Value) (w : World) (hown : w.ownsRow B 32 1 (.slice (some ⟨g, 0, none⟩) n cap) n xs) (hk : k < n) (hj : j = k + 1) (hn : n ≤ 1000) (h1 : ∀ u ∈ xs, u.oneCell' = true) :
    Calls Try.prog 28 #[.slice (some ⟨g, 0, none⟩) n cap, .int .i64 (k : Int), .int .i64 (j : Int)] w fun e w' => e = .returned (.slice (some ⟨g, 0, none⟩) (n - 1) cap) ∧ w'.ownsRow B 32 1 (.slice (some ⟨g, 0, none⟩) (n - 1) cap) (n - 1) (xs.eraseIdx k) ∧ Chg [g] w w' := by
  obtain ⟨hxl, ⟨hv, _⟩ | ⟨g', cap', cur, hv, hBg, hh, hnc, hcm, hcs, htk⟩⟩ := hown
  · cases hv
  simp only [Value.slice.injEq, Option.some.injEq, Addr.mk.injEq, and_true, true_and] at hv
  obtain ⟨rfl, rfl⟩ := hv
  simp only [Nat.mul_one] at hxl hcs htk
  obtain ⟨cl, rfl⟩ : ∃ cl : List Value, cur = cl.toArray := ⟨cur.toList, by simp⟩
  rw [List.size_toArray] at hcs
  simp only [List.toList_toArray] at htk
  have hb : Blk w g cl.toArray 32 := hh
  have hxg : ∀ t, t < n → xs[t]? = cl[t]? := fun t ht => by rw [← htk, List.getElem?_take, if_pos ht]
  obtain ⟨news, hnews⟩ : ∃ news, news = xs.drop j := ⟨_, rfl⟩
  have hlen : news.length = n - j := by rw [hnews, List.length_drop, hxl]
  have hbd : Blk w.drew g cl.toArray 32 := hb
  obtain ⟨A, hA, hsrc⟩ : ∃ A : Addr, (if cap = j then (⟨g, 0, none⟩ : Addr) else ⟨g, j, none⟩) = A ∧ Hid (∀ t u, news[t]? = some u → w.drew.cell? (A.add t) = some u) := by
    by_cases h : cap = j
    · refine ⟨_, by rw [if_pos h], fun t u hu => ?_⟩
      have h0 : news.length = 0 := by rw [hlen]; omega
      rw [List.length_eq_zero_iff.1 h0] at hu
      simp at hu
    · refine ⟨_, by rw [if_neg h], fun t u hu => ?_⟩
      have ht : t < n - j := by
        have := (List.getElem?_eq_some_iff.1 hu).1
        rwa [hlen] at this
      rw [hnews, List.getElem?_drop, hxg _ (by omega)] at hu
      rw [Addr.add_lit]
      exact hbd.cell (j + t) (by simpa using hu)
  have s1 : Hid (news.length = (n - j) * 1) := by rw [Nat.mul_one]; exact hlen
  have s2 : Hid (∀ u ∈ news, u.oneCell' = true) := fun u hu => h1 u (by rw [hnews] at hu; exact List.mem_of_mem_drop hu)
  have s3 : Hid (∀ t, t < news.length → (w.drew.cell? ⟨g, 0 + k * 1 + t, none⟩).isSome = true ∧ w.drew.frozen? ⟨g, 0 + k * 1 + t, none⟩ = false) := by
    intro t ht
    rw [hlen] at ht
    refine ⟨?_, hbd.free _⟩
    rw [Nat.mul_one, Nat.zero_add]
    exact hbd.isSome (by omega)
  obtain ⟨W1, hW1⟩ : ∃ W1, W1 = w.drew.setCells g (0 + k * 1) news := ⟨_, rfl⟩
  have hb1 : Blk W1 g (cl.take k ++ news ++ cl.drop (k + news.length)).toArray 32 := by
    rw [hW1, show 0 + k * 1 = k by omega]
    exact hbd.setCells news k (by omega)
  have hL1 : (cl.take k ++ news ++ cl.drop (k + news.length)).length = cap := by
    simp only [List.length_append, List.length_take, List.length_drop]
    omega
  obtain ⟨c1, hc1⟩ : ∃ c1, c1 = cl.take k ++ news ++ cl.drop (k + news.length) := ⟨_, rfl⟩
  rw [← hc1] at hb1 hL1
  have hcl : ∀ ty, (Builtin.clear_ #[58] ty #[.slice (some ⟨g, n - 1, none⟩) 1 (cap - (n - 1))]).run Try.prog W1 = .ok (.tuple #[]) (W1.setCells g (n - 1) [Value.slice none 0 0]) := fun ty =>
    Lib.run_clear_slice W1 58 32 ty (.slice none 0 0) Try.underlying58 (fun w => by kernel_rfl) rfl rfl g (n - 1) 1 _ (by omega) (fun t ht => hb1.isSome (by omega)) (fun t _ => hb1.free _)
  obtain ⟨W2, hW2⟩ : ∃ W2, W2 = W1.setCells g (n - 1) [Value.slice none 0 0] := ⟨_, rfl⟩
  rw [← hW2] at hcl
  have hF : Hid (W2.ownsRow B 32 1 (.slice (some ⟨g, 0, none⟩) (n - 1) cap) (n - 1) (xs.eraseIdx k) ∧ Chg [g] w W2) := by
    have hb2 : Blk W2 g (c1.take (n - 1) ++ [Value.slice none 0 0] ++ c1.drop (n - 1 + 1)).toArray 32 := by
      rw [hW2]; exact hb1.setCells [Value.slice none 0 0] (n - 1) (by simp; omega)
    refine ⟨⟨by rw [List.length_eraseIdx, if_pos (by omega)]; omega, .inr ⟨g, cap, _, rfl, hBg, hb2, by omega, hcm, ?_, ?_⟩⟩, ?_⟩
    · simp; omega
    · simp only [Nat.mul_one]
      rw [List.append_assoc, List.take_append_of_le_length (by rw [List.length_take]; omega), List.take_of_length_le (by rw [List.length_take]; omega), hc1]
      rw [List.take_append_of_le_length (by simp [hlen]; omega), List.take_of_length_le (by simp [hlen]; omega), List.eraseIdx_eq_take_drop_succ, hnews, hj]
      congr 1
      rw [← htk, List.take_take, Nat.min_eq_left (by omega)]
    · rw [hW2, hW1]
      exact (Chg.drew.trans (chg_setCells g _ _ _)).trans (chg_setCells g _ _ _)
  have hW : Hid (W1 = w.drew.setCells g (0 + k * 1) news) := hW1
  have hkc : k ≤ cap := by omega
  have hjc : j ≤ cap := by omega
  have hjn : j ≤ n := by omega
  have hkj : k ≤ j := by omega
  have hne : k ≠ j := by omega
  have hA' : (if cap = j then some (⟨g, 0, none⟩ : Addr) else some ⟨g, j, none⟩) = some A := by rw [← hA]; split <;> rfl
  have e1 : k + (n - j) = n - 1 := by omega
  have HE1 := Lib.hid e1
  have hnc1 : ¬ (cap = n - 1) := by omega
  have hn1 : n - (n - 1) = 1 := by omega
  obtain ⟨i0, hi0, _, hz1, _⟩ := elS.info
  have mixed : Try.prog.follows Departure.mixedOrders = true := by kernel_rfl
  clear hW1 hW2 hb1 hb hbd hh hxg hnews hlen hL1 hc1 hcs htk hj hA e1
  go_enter Try.func28, Try.ntmps28
  go_wp2_with fail
  go_region_law_o (refine step_append_room rfl (.tmp 22) (.tmp 25) 58 rfl 32 i0 1 Try.underlying58 hi0 hz1 g 0 k cap (by simp [Act.eval, Act.put]) A (n - j) (cap - j) news (by simp [Act.eval, Act.put]) s1.out hsrc.out s2.out (by omega) s3.out ?_; rw [← hW.out, HE1.out])
  go_wp2_with fail
  go_ret
  exact ⟨rfl, hF.out⟩
end Go.Proofs.Ytjodgbabfhcilaa
