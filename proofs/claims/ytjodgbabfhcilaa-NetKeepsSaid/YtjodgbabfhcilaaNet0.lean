/- net: ways that are blocked: a map keyed by structs, plain and in memory. -/
import Derived.Test.YtjodgbabfhcilaaFilL
import Derived.Test.YtjodgbabfhcilaaBun2
import Derived.Test.YtjodgbabfhcilaaBun1
import Derived.Maps.OwnOps
import Derived.DeepKeys4
import Derived.ChangeKeys
set_option linter.unusedSimpArgs false
set_option linter.unusedVariables false
namespace Go.Proofs.Ytjodgbabfhcilaa
open Go Go.RowKit Go.Maps

theorem Rd.ltB {a : Addr} {n c : Nat} {w : World} {v : Value} {cs : List Value} (h : Rd w v cs) (hv : v = .slice (some a) n c) (hn : cs ≠ []) : a.block < w.heap.size := by
  obtain ⟨a', c', hv', _, _, h3⟩ := h
  rcases h3 with h3 | ⟨b', o, rfl, hc⟩
  · exact absurd h3 hn
  · rw [hv] at hv'
    cases hv'
    cases cs with
    | nil => exact absurd rfl hn
    | cons u r => exact World.block_lt_of_cell? w ⟨b', o + 0, none⟩ (hc 0 u rfl)
theorem OffL.more {A A' : List Nat} {w : World} {v : Value} {cs : List Value} (ho : OffL v cs A) (h : Rd w v cs) (hA : ∀ t ∈ A', t ∈ A ∨ w.heap.size ≤ t) : OffL v cs A' := fun a n c hv hn hm => by
  rcases hA _ hm with h1 | h1
  · exact ho a n c hv hn h1
  · have := h.ltB hv hn; omega
theorem Rd.chgA {A S : List Nat} {w w' : World} {v : Value} {cs : List Value} (h : Rd w v cs) (ho : OffL v cs A) (hg : Chg S w w') (hS : ∀ t ∈ S, t ∈ A ∨ w.heap.size ≤ t) : Rd w' v cs := by
  refine h.chg hg fun a n c hv hn hm => ?_
  rcases hS _ hm with h1 | h1
  · exact ho a n c hv hn h1
  · have := h.ltB hv hn; omega

/-! ### A way as a key -/
abbrev wayV (a b : Int) : Value := .agg #[.int .u64 a, .int .u64 b]
/-- A way's bytes, as a map's key reads. -/
def wayK (a b : Int) : Nm := keyBytes [.int .u64 a, .int .u64 b]
theorem laidOutN : laidOutB Try.prog = true := by kernel_rfl
theorem rowW : (72 : TypeId) < Try.prog.types.size := of_decide_eq_true (by kernel_rfl)
theorem wideW : (match Try.prog.underlying 72 with | some (.array _ _) | some (.struct _) => true | _ => false) = true := by rw [Try.underlying72]
set_option maxRecDepth 100000 in
theorem kW : Keyed Try.prog 72 := Keyed.of_law (deep_law_laid laidOutN (m := 2) (by omega) rowW (by kernel_rfl) wideW)
theorem cellsW : Try.prog.cellsOf 72 = 2 := by kernel_rfl
theorem cellsU : Try.prog.cellsOf 29 = 1 := by kernel_rfl
theorem wf64 {a : Int} (h : U64 a) : (Lit.int .u64 a).wf = true := by
  obtain ⟨h1, h2⟩ := h
  simp only [Lit.wf, Bool.and_eq_true, decide_eq_true_eq]
  exact ⟨h1, h2⟩
theorem hkeyW {a b : Int} (ha : U64 a) (hb : U64 b) : keyOf Try.prog 72 (wayV a b) = some (.string (wayK a b)) := by
  have h1 : Try.prog.keyType 72 = true := by kernel_rfl
  have h2 : (wayV a b).formed Try.prog 72 = true := by simp [Value.formed, Try.underlying72, cellsW]
  obtain ⟨n, hn⟩ : ∃ n, Try.prog.types.size = n + 1 := Nat.exists_eq_succ_of_ne_zero (show Try.prog.types.size ≠ 0 from fun e => by have := rowW; rw [e] at this; exact absurd this (Nat.not_lt_zero _))
  have wa := wf64 ha; have wb := wf64 hb
  have h3 : Try.prog.keyLits (Try.prog.types.size + 1) 72 (wayV a b).cells.toList = some [.int .u64 a, .int .u64 b] := by
    rw [hn]
    simp [Program.keyLits, Try.underlying72, Try.underlying29, cellsW, cellsU, Value.cells, wa, wb]
  unfold keyOf
  rw [Try.underlying72]
  simp only [h1, h2, h3, Bool.and_self, ↓reduceIte, Option.map_some]
  rfl
theorem wayK_inj {a b c d : Int} (ha : U64 a) (hb : U64 b) (hc : U64 c) (hd : U64 d) (h : wayK a b = wayK c d) : a = c ∧ b = d := by
  have key := keyBytes_inj (l := [.int .u64 a, .int .u64 b]) (l' := [.int .u64 c, .int .u64 d]) (by simp [Alike, Lit.sameKind]) (by
    intro x hx; simp at hx; rcases hx with rfl | rfl
    · exact wf64 ha
    · exact wf64 hb) (by
    intro x hx; simp at hx; rcases hx with rfl | rfl
    · exact wf64 hc
    · exact wf64 hd) h
  simp at key
  exact key

/-! ### The map of the ways -/
abbrev WL := List (Nm × Unit)
/-- Block b is a map of at most n ways, those of W. -/
def Walls (w : World) (b n : Nat) (W : WL) : Prop := w.ownsMap Try.prog 72 hR b n (toD (fun _ : Unit => Value.agg #[]) W)
/-- Is the way from a to b blocked? -/
def wall (W : WL) (a b : Int) : Bool := (getG (wayK a b) W).isSome
theorem wall_put (W : WL) {a b c d : Int} (ha : U64 a) (hb : U64 b) (hc : U64 c) (hd : U64 d) : wall (putG (wayK a b) () W) c d = (decide (a = c ∧ b = d) || wall W c d) := by
  unfold wall
  by_cases h : a = c ∧ b = d
  · obtain ⟨rfl, rfl⟩ := h
    rw [getG_putG_same]; simp
  · rw [getG_putG_other (fun e => h (by have := wayK_inj hc hd ha hb e; exact ⟨this.1.symm, this.2.symm⟩))]
    rw [decide_eq_false h, Bool.false_or]
theorem wall_del (W : WL) {a b c d : Int} (ha : U64 a) (hb : U64 b) (hc : U64 c) (hd : U64 d) : wall (delG (wayK a b) W) c d = (!decide (a = c ∧ b = d) && wall W c d) := by
  unfold wall
  by_cases h : a = c ∧ b = d
  · obtain ⟨rfl, rfl⟩ := h
    rw [getG_delG_same]; simp
  · rw [getG_delG_other (fun e => h (by have := wayK_inj hc hd ha hb e; exact ⟨this.1.symm, this.2.symm⟩))]
    rw [decide_eq_false h]; simp
theorem own_chgM {S : List Nat} {w w' : World} {b n : Nat} {k : TypeId} {H : Type} {R : Value → Option (DataW H × List MemPlace)} {D : DataW H} {P : Program} (h : w.ownsMap P k R b n D) (hg : Chg S w w') (hb : b ∉ S) : w'.ownsMap P k R b n D := by
  have hlt := h.lt
  obtain ⟨es, clock, hh, r⟩ := h
  exact ⟨es, clock, (hg.block b hlt hb).trans hh, r⟩
theorem Chg.turned {w w' : World} {b : Nat} (h : w.mapTurned w' b) : Chg [b] w w' ∧ w'.heap.size = w.heap.size := by
  refine ⟨Chg.some h.grown (.inl (by simp)), ?_⟩
  obtain ⟨es, clock, es', clock', _, rfl⟩ := h
  simp [Go.ChangeMaps.setBlock]
theorem zeroE (w : World) : (zeroValue 70).run Try.prog w = .ok (.agg #[]) w := by kernel_rfl
theorem Walls.made (w : World) : Walls (w.alloc (.map #[] 0)) w.heap.size 0 [] := World.ownsMap_made _ _ _ _
theorem Walls.look {w : World} {m n : Nat} {W : WL} (h : Walls w m n W) {a b : Int} (ha : U64 a) (hb : U64 b) :
    (Instr.lookup 57 (.map (some m)) (wayV a b) true).run Try.prog w = .ok (.tuple #[.agg #[], .bool (wall W a b)]) w := by
  have hr : ∀ e0 : Value, (hR e0) = some (.held e0, []) := fun _ => rfl
  obtain ⟨v, ps, hrun, hv⟩ := World.ownsMap.look_ok h kW Try.underlying57 (zeroE w) (hr _) (hkeyW ha hb)
  simp only [hR, Option.some.injEq, Prod.mk.injEq] at hv
  rw [toD_atKey] at hv
  have hv' : v = .agg #[] := by
    have := hv.1
    split at this <;> simpa using this
  rw [toD_has, hv'] at hrun
  exact hrun
theorem Walls.put {w : World} {m n : Nat} {W : WL} (h : Walls w m n W) (hn : n < maxLen) {a b : Int} (ha : U64 a) (hb : U64 b) :
    ∃ w', (Instr.mapUpdate 57 (.map (some m)) (wayV a b) (.agg #[])).run Try.prog w = .ok () w' ∧ Walls w' m (n + 1) (putG (wayK a b) () W) ∧ Chg [m] w w' ∧ w'.heap.size = w.heap.size := by
  obtain ⟨w', hrun, ho', ht'⟩ := World.ownsMap.store h kW Try.underlying57 hn (hkeyW ha hb) (show hR (.agg #[]) = some (.held (.agg #[]), []) from rfl)
  obtain ⟨hc, hsz⟩ := Chg.turned ht'
  refine ⟨w', hrun, ?_, hc, hsz⟩
  unfold Walls
  rw [← toD_put (c := fun _ : Unit => Value.agg #[]) (wayK a b) () W]; exact ho'
theorem Walls.drop {w : World} {m n : Nat} {W : WL} (h : Walls w m n W) {a b : Int} (ha : U64 a) (hb : U64 b) (ty : TypeId) :
    ∃ w', (Builtin.delete_ #[57, 72] ty #[.map (some m), wayV a b]).run Try.prog w = .ok (.tuple #[]) w' ∧ Walls w' m n (delG (wayK a b) W) ∧ Chg [m] w w' ∧ w'.heap.size = w.heap.size := by
  obtain ⟨w', hrun, ho', ht'⟩ := World.ownsMap.drop h kW Try.underlying57 (hkeyW ha hb) ty
  obtain ⟨hc, hsz⟩ := Chg.turned ht'
  refine ⟨w', hrun, ?_, hc, hsz⟩
  rw [toD_del] at ho'; exact ho'
end Go.Proofs.Ytjodgbabfhcilaa
