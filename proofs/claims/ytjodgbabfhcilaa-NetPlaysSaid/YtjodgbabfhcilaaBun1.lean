/- Parts of the proof, in plain words at the head of each: FilL, Mono3, Nums, Shelf, EntL, RdL, CmdL, CutL. -/
import Derived.Maps.OwnSet
import Derived.Maps.Ext
import Derived.Sort.KeysCollected
import Derived.Orders
import Derived.RegionTactic
import Derived.WalkKit
import Derived.Lib.BitFns
import Derived.Shelf.Strconv.Itoa0
import Derived.Shelf.Bytes.SlSearch0
import Derived.Shelf.Bytes.SlEqualAll
import Derived.Shelf.Bytes.Small
import Derived.Test.YtjodgbabfhcilaaProg
set_option linter.unusedSimpArgs false
set_option linter.unusedVariables false
/- Lists of named things, rising by name: plain; and a map's datum that such a list is. Of any program. -/
namespace Go.Proofs.Ytjodgbabfhcilaa
open Go Go.Maps

/-- A file's name: its bytes. -/
abbrev Nm := List UInt8

def insG {α : Type} (x : Nm × α) : List (Nm × α) → List (Nm × α)
  | [] => [x]
  | y :: r => if bytesBefore x.1 y.1 then x :: y :: r else y :: insG x r
def delG {α : Type} (k : Nm) (l : List (Nm × α)) : List (Nm × α) := l.filter fun p => !(p.1 == k)
def putG {α : Type} (k : Nm) (a : α) (l : List (Nm × α)) : List (Nm × α) := insG (k, a) (delG k l)
def getG {α : Type} (k : Nm) : List (Nm × α) → Option α
  | [] => none
  | p :: r => if p.1 == k then some p.2 else getG k r
def mapG {α β : Type} (f : α → β) (l : List (Nm × α)) : List (Nm × β) := l.map fun p => (p.1, f p.2)
def RisG {α : Type} (l : List (Nm × α)) : Prop := l.Pairwise fun p q => bytesBefore p.1 q.1 = true

section
variable {α β : Type}
theorem mapG_insG (f : α → β) (k : Nm) (a : α) : ∀ l : List (Nm × α), mapG f (insG (k, a) l) = insG (k, f a) (mapG f l)
  | [] => rfl
  | y :: r => by
    unfold insG
    simp only [mapG, List.map_cons]
    split
    · rfl
    · have := mapG_insG f k a r
      simp only [mapG] at this
      simp [this]
theorem mapG_delG (f : α → β) (k : Nm) (l : List (Nm × α)) : mapG f (delG k l) = delG k (mapG f l) := by
  simp [mapG, delG, List.filter_map, Function.comp_def]
theorem mapG_putG (f : α → β) (k : Nm) (a : α) (l : List (Nm × α)) : mapG f (putG k a l) = putG k (f a) (mapG f l) := by
  unfold putG; rw [mapG_insG, mapG_delG]
theorem getG_mapG (f : α → β) (k : Nm) : ∀ l : List (Nm × α), getG k (mapG f l) = (getG k l).map f
  | [] => rfl
  | p :: r => by
    show getG k ((p.1, f p.2) :: mapG f r) = _
    unfold getG
    by_cases h : (p.1 == k) = true
    · simp [h]
    · simp only [h, Bool.false_eq_true, ↓reduceIte]; exact getG_mapG f k r
theorem mem_insG {x p : Nm × α} : ∀ {l : List (Nm × α)}, p ∈ insG x l ↔ p = x ∨ p ∈ l
  | [] => by simp [insG]
  | y :: r => by
    unfold insG
    split
    · simp
    · simp only [List.mem_cons, mem_insG (l := r)]
      constructor
      · rintro (h | h | h); exact .inr (.inl h); exact .inl h; exact .inr (.inr h)
      · rintro (h | h | h); exact .inr (.inl h); exact .inl h; exact .inr (.inr h)
theorem mem_delG {k : Nm} {p : Nm × α} {l : List (Nm × α)} : p ∈ delG k l ↔ p ∈ l ∧ p.1 ≠ k := by simp [delG]
theorem mem_putG {k : Nm} {a : α} {p : Nm × α} {l : List (Nm × α)} : p ∈ putG k a l ↔ p = (k, a) ∨ (p ∈ l ∧ p.1 ≠ k) := by
  unfold putG; rw [mem_insG, mem_delG]
theorem getG_mem {k : Nm} {a : α} : ∀ {l : List (Nm × α)}, getG k l = some a → (k, a) ∈ l
  | [], h => by cases h
  | p :: r, h => by
    unfold getG at h
    split at h
    · rename_i hk
      have : p.1 = k := by simpa using hk
      cases h; subst this; simp
    · exact List.mem_cons_of_mem _ (getG_mem h)
theorem getG_insG_same {k : Nm} {a : α} : ∀ {l : List (Nm × α)}, (∀ p ∈ l, p.1 ≠ k) → getG k (insG (k, a) l) = some a
  | [], _ => by simp [insG, getG]
  | y :: r, h => by
    unfold insG
    split
    · simp [getG]
    · unfold getG
      have : (y.1 == k) = false := by simpa using h y (by simp)
      rw [this]; exact getG_insG_same fun p hp => h p (by simp [hp])
theorem getG_insG_other {k k' : Nm} {a : α} (hne : k' ≠ k) : ∀ {l : List (Nm × α)}, getG k' (insG (k, a) l) = getG k' l
  | [] => by simp [insG, getG, Ne.symm hne]
  | y :: r => by
    unfold insG
    split
    · have : (k == k') = false := by simpa using Ne.symm hne
      conv => lhs; unfold getG
      simp [this]
    · unfold getG
      split
      · rfl
      · exact getG_insG_other hne
theorem getG_delG_same {k : Nm} {l : List (Nm × α)} : getG k (delG k l) = none := by
  induction l with
  | nil => rfl
  | cons y r ih =>
    unfold delG at *
    by_cases h : (y.1 == k) = true
    · simp [h]; simpa using ih
    · simp only [List.filter_cons, h, Bool.not_false, ↓reduceIte, getG, Bool.false_eq_true]; exact ih
theorem getG_delG_other {k k' : Nm} (hne : k' ≠ k) {l : List (Nm × α)} : getG k' (delG k l) = getG k' l := by
  induction l with
  | nil => rfl
  | cons y r ih =>
    unfold delG at *
    by_cases h : (y.1 == k) = true
    · have hk : y.1 = k := by simpa using h
      have : (y.1 == k') = false := by rw [hk]; simpa using Ne.symm hne
      simp only [List.filter_cons, h, Bool.not_true, Bool.false_eq_true, ↓reduceIte, getG, this]; exact ih
    · simp only [List.filter_cons, h, Bool.not_false, ↓reduceIte, getG]; rw [ih]
theorem getG_putG_same {k : Nm} {a : α} {l : List (Nm × α)} : getG k (putG k a l) = some a := getG_insG_same fun p hp => (mem_delG.1 hp).2
theorem getG_putG_other {k k' : Nm} {a : α} (hne : k' ≠ k) {l : List (Nm × α)} : getG k' (putG k a l) = getG k' l := by
  unfold putG; rw [getG_insG_other hne, getG_delG_other hne]
theorem length_insG (x : Nm × α) : ∀ l : List (Nm × α), (insG x l).length = l.length + 1
  | [] => rfl
  | y :: r => by unfold insG; split <;> simp [length_insG x r]
theorem getG_none {k : Nm} : ∀ {l : List (Nm × α)}, getG k l = none ↔ ∀ p ∈ l, p.1 ≠ k
  | [] => by simp [getG]
  | y :: r => by
    unfold getG
    split
    · rename_i h; simp only [reduceCtorEq, false_iff]; intro hh; exact hh y (by simp) (by simpa using h)
    · rename_i h; rw [getG_none]; simp only [List.mem_cons, forall_eq_or_imp]; exact ⟨fun hh => ⟨by simpa using h, hh⟩, fun hh => hh.2⟩
end

/-! ### A datum that a list of named things is -/
/-- The reader of a map's elements that keeps each element as the value that it is. -/
def hR (v : Value) : Option (DataW Value × List MemPlace) := some (.held v, [])
def toD {α : Type} (c : α → Value) (l : List (Nm × α)) : DataW Value := .map (l.map fun p => (.string p.1, .held (c p.2)))

section
variable {α : Type} {c : α → Value}
theorem same_str (a b : Nm) : (Lit.string a).sameKey (.string b) = (a == b) := rfl
theorem toD_put (k : Nm) (a : α) (l : List (Nm × α)) : (toD c l).put (.string k) (.held (c a)) = toD c (putG k a l) := by
  unfold toD
  show DataW.map (DataW.insert _ _) = _
  congr 1
  have h1 : (l.map fun p => ((Lit.string p.1, DataW.held (c p.2)) : Lit × DataW Value)).filter (fun p => !p.1.sameKey (.string k)) = (delG k l).map fun p => (Lit.string p.1, DataW.held (c p.2)) := by
    simp [delG, List.filter_map, Function.comp_def, same_str]
  rw [h1]
  unfold putG
  generalize delG k l = m
  induction m with
  | nil => rfl
  | cons y r ih =>
    simp only [List.map_cons, DataW.insert, insG]
    by_cases hb : bytesBefore k y.1 = true
    · simp [hb, Lit.before]
    · simp only [Lit.before, hb, Bool.false_eq_true, ↓reduceIte, ih, List.map_cons]
theorem toD_del (k : Nm) (l : List (Nm × α)) : (toD c l).del (.string k) = toD c (delG k l) := by
  unfold toD
  show DataW.map _ = _
  congr 1
  simp [delG, List.filter_map, Function.comp_def, same_str]
theorem toD_has (k : Nm) : ∀ l : List (Nm × α), Maps.has (toD c l) (.string k) = (getG k l).isSome
  | [] => rfl
  | y :: r => by
    have ih := toD_has k r
    unfold toD at *
    rw [Maps.has_eq] at *
    simp only [List.map_cons, List.any_cons, same_str, getG]
    by_cases h : (y.1 == k) = true
    · simp [h]
    · simp only [h, Bool.false_eq_true, ↓reduceIte, Bool.false_or]; exact ih
theorem toD_atKey (k : Nm) (z : DataW Value) : ∀ l : List (Nm × α), (toD c l).atKey (.string k) z = match getG k l with | some a => .held (c a) | none => z
  | [] => rfl
  | y :: r => by
    have ih := toD_atKey k z r
    unfold toD at *
    unfold DataW.atKey at *
    simp only [List.map_cons, List.find?_cons, same_str, getG] at *
    by_cases h : (y.1 == k) = true
    · simp [h]
    · simp only [h, Bool.false_eq_true, ↓reduceIte]; exact ih
theorem toD_size (l : List (Nm × α)) : Maps.size (toD c l) = l.length := by simp [toD, Maps.size]
theorem toD_keys (l : List (Nm × α)) : strKeys (toD c l) = l.map (·.1) := by simp [toD, strKeys, strOf]
end
end Go.Proofs.Ytjodgbabfhcilaa

/- A region that draws its order is served by one walk in the text's order, where each operation yields a value of a kind that is known ahead and that later operations of the region leave alone. Of any program. -/
namespace Go.Proofs.Ytjodgbabfhcilaa.Mono3
open Go

/-- What is known of the value that an operation yields: it is x; or R holds of it, in the world behind it and in all later ones of the region. -/
inductive Spec where
  | is (x : Value)
  | rel (R : Value → World → Prop)

def Spec.holds : Spec → Value → World → Prop
  | .is x, v, _ => v = x
  | .rel R, v, w => R v w

def onlyK (K : Act → World → Prop) : Exit → Act → World → Prop
  | .normal, a, w => K a w
  | _, _, _ => False

/-- bit j of D: is what is known of operation j at hand? -/
def Know (D : Nat) : List (Nat × (World → Prop)) → World → Prop
  | [], _ => True
  | p :: r, w => (D.testBit p.1 = true → p.2 w) ∧ Know D r w

def KnowAll : List (Nat × (World → Prop)) → World → Prop
  | [], _ => True
  | p :: r, w => p.2 w ∧ KnowAll r w

def dep (ops : Array Oper) (k j : Nat) : Bool := ((Region.before ops).getD k 0).testBit j
section
variable (P : Program) (ops : Array Oper) (E1 E2 : World → World → Prop) (w0 : World) (m : Nat) (Z : Act → World → Prop)

/-- The obligation of one operation. -/
def Obl (k : Nat) (o : Oper) (S : Spec) (a : Act) (kn : World → Prop) : Prop :=
  ∀ w, (if k = m ∨ dep ops m k = true then E1 w0 w else E2 w0 w) → kn w → ∀ K : Act → World → Prop,
    (∀ v w', (if k = m then E2 w w' else E1 w w') → S.holds v w' → K (a.put o.dst v) w') → wpList P ops (onlyK K) [o] a w

/-- The walk in the text's order. -/
def wpMono : List (Nat × (World → Prop)) → Nat → List Oper → List Spec → Act → Prop
  | known, k, o :: rest, .is x :: Ss, a => Obl P ops E1 E2 w0 m k o (.is x) a (Know ((Region.before ops).getD k 0) known) ∧ wpMono known (k + 1) rest Ss (a.put o.dst x)
  | known, k, o :: rest, .rel R :: Ss, a => Obl P ops E1 E2 w0 m k o (.rel R) a (Know ((Region.before ops).getD k 0) known) ∧ ∀ v, wpMono (known ++ [(k, R v)]) (k + 1) rest Ss (a.put o.dst v)
  | known, _, _, _, a => ∀ w, E2 w0 w → KnowAll known w → Z a w
end

/-! ### 'Region.before' -/
def stepB (acc : Array Nat) (o : Oper) : Nat := o.after.foldl (fun s e => if Region.binds .any e then s ||| 2 ^ e.on ||| acc.getD e.on 0 else s) 0

theorem before_eq (ops : Array Oper) : Region.before ops = ops.foldl (init := #[]) fun acc o => acc.push (stepB acc o) := rfl

def befL : List Oper → Array Nat → Array Nat
  | [], acc => acc
  | o :: r, acc => befL r (acc.push (stepB acc o))

theorem before_list (ops : Array Oper) : Region.before ops = befL ops.toList #[] := by
  rw [before_eq, ← Array.foldl_toList]
  generalize (#[] : Array Nat) = acc
  generalize ops.toList = l
  induction l generalizing acc with
  | nil => rfl
  | cons o r ih => exact ih _

theorem befL_old : ∀ (l : List Oper) (acc : Array Nat) (j : Nat), j < acc.size → (befL l acc).getD j 0 = acc.getD j 0
  | [], _, _, _ => rfl
  | o :: r, acc, j, h => by
    show (befL r (acc.push (stepB acc o))).getD j 0 = _
    rw [befL_old r _ j (by simp; omega)]
    simp [Array.getElem?_push, h, show ¬ j = acc.size by omega]

theorem testBit_fold (l : List Edge) (j : Nat) (f : Nat → Nat) : ∀ s : Nat, (l.foldl (fun s e => if Region.binds .any e then s ||| 2 ^ e.on ||| f e.on else s) s).testBit j = true →
    s.testBit j = true ∨ ∃ e ∈ l, Region.binds .any e = true ∧ (e.on = j ∨ (f e.on).testBit j = true) := by
  induction l with
  | nil => intro s h; exact .inl h
  | cons e l ih =>
    intro s h
    rw [List.foldl_cons] at h
    rcases ih _ h with h1 | ⟨e', he', r⟩
    · by_cases hb : Region.binds .any e = true
      · rw [if_pos hb] at h1
        rw [Nat.testBit_or, Nat.testBit_or, Bool.or_eq_true, Bool.or_eq_true, Nat.testBit_two_pow] at h1
        rcases h1 with (h1 | h1) | h1
        · exact .inl h1
        · exact .inr ⟨e, by simp, hb, .inl (by simpa using h1)⟩
        · exact .inr ⟨e, by simp, hb, .inr h1⟩
      · rw [if_neg hb] at h1; exact .inl h1
    · exact .inr ⟨e', List.mem_cons_of_mem _ he', r⟩

theorem befL_get : ∀ (l : List Oper) (acc : Array Nat) (k : Nat) (o : Oper), l[k]? = some o → ∀ j, ((befL l acc).getD (acc.size + k) 0).testBit j = true →
    ∃ e ∈ o.after, Region.binds .any e = true ∧ (e.on = j ∨ ((befL l acc).getD e.on 0).testBit j = true)
  | [], _, _, _, h, _, _ => by simp at h
  | o :: r, acc, 0, o', h, j, hj => by
    simp at h; subst h
    have e0 : (befL (o :: r) acc).getD (acc.size + 0) 0 = stepB acc o := by
      show (befL r (acc.push (stepB acc o))).getD (acc.size + 0) 0 = _
      rw [befL_old r _ _ (by simp)]; simp
    rw [e0] at hj
    unfold stepB at hj
    rw [← Array.foldl_toList] at hj
    rcases testBit_fold o.after.toList j (fun x => acc.getD x 0) 0 hj with h0 | ⟨e, he, hb, h1⟩
    · simp at h0
    · refine ⟨e, by simpa using he, hb, h1.imp id fun h2 => ?_⟩
      have hlt : e.on < acc.size := by
        rcases Nat.lt_or_ge e.on acc.size with h' | h'
        · exact h'
        · simp [Array.getElem?_eq_none h'] at h2
      show ((befL r (acc.push (stepB acc o))).getD e.on 0).testBit j = true
      rw [befL_old r _ _ (by simp; omega)]
      have : (acc.push (stepB acc o)).getD e.on 0 = acc.getD e.on 0 := by simp [Array.getElem?_push, hlt, show ¬ e.on = acc.size by omega]
      rw [this]; exact h2
  | o :: r, acc, k + 1, o', h, j, hj => by
    have := befL_get r (acc.push (stepB acc o)) k o' (by simpa using h) j
    rw [show (acc.push (stepB acc o)).size + k = acc.size + (k + 1) by simp; omega] at this
    exact this hj

theorem before_get {ops : Array Oper} {k : Nat} {o : Oper} (h : ops[k]? = some o) {j : Nat} (hj : ((Region.before ops).getD k 0).testBit j = true) :
    ∃ e ∈ o.after, Region.binds .any e = true ∧ (e.on = j ∨ ((Region.before ops).getD e.on 0).testBit j = true) := by
  rw [before_list] at hj ⊢
  have := befL_get ops.toList #[] k o (by simpa using h) j
  simpa using this (by simpa using hj)

/-! ### The looks -/

/-- Each slot that an operation looks at and that another one writes: that one is ahead of it, in the text and in each order; or behind it in both. No two write one slot. -/
def looksOk (ops : Array Oper) (B : Array Nat) : Bool :=
  ops.toList.zipIdx.all fun (o, k) => ops.toList.zipIdx.all fun (o', j) =>
    k == j || (match o'.dst with
      | none => true
      | some d => o.dst != some d && (!(o.looksAt ops).contains d || (if j < k then (B.getD k 0).testBit j else (B.getD j 0).testBit k)))

theorem mem_zipIdx_of {l : List Oper} {k : Nat} {o : Oper} (h : l[k]? = some o) : (o, k) ∈ l.zipIdx := by
  rw [List.mem_zipIdx_iff_getElem?]; exact h

theorem looksOk_spec {ops : Array Oper} {B : Array Nat} (hB : looksOk ops B = true) {k j : Nat} {o o' : Oper} (hk : ops[k]? = some o) (hj : ops[j]? = some o') (hne : k ≠ j) {d : Tmp} (hd : o'.dst = some d) :
    o.dst ≠ some d ∧ (d ∈ o.looksAt ops → if j < k then (B.getD k 0).testBit j = true else (B.getD j 0).testBit k = true) := by
  unfold looksOk at hB
  rw [List.all_eq_true] at hB
  have h1 := hB (o, k) (mem_zipIdx_of (by simpa using hk))
  rw [List.all_eq_true] at h1
  have h2 := h1 (o', j) (mem_zipIdx_of (by simpa using hj))
  simp only [hd, Bool.or_eq_true, beq_iff_eq, hne, false_or, Bool.and_eq_true, bne_iff_ne, Bool.not_eq_true'] at h2
  refine ⟨h2.1, fun hm => ?_⟩
  rcases h2.2 with h3 | h3
  · rw [List.contains_iff_mem.2 hm] at h3; cases h3
  · split <;> rename_i hlt <;> simp only [hlt, if_true] at h3 <;> exact h3

/-! ### The frame: which slots hold what -/
/-- The frame b is a0, but that each operation of L has written its value. -/
structure Fr (ops : Array Oper) (a0 b : Act) (L : Nat → Prop) (v : Nat → Value) : Prop where
  size : b.tmps.size = a0.tmps.size
  defers : b.defers = a0.defers
  put : ∀ i o d, ops[i]? = some o → L i → o.dst = some d → d < a0.tmps.size → b.tmps[d]? = some (v i)
  old : ∀ t, (∀ i o, ops[i]? = some o → L i → o.dst ≠ some t) → b.tmps[t]? = a0.tmps[t]?

theorem Fr.start (ops : Array Oper) (a0 : Act) (v : Nat → Value) : Fr ops a0 a0 (fun _ => False) v := ⟨rfl, rfl, fun _ _ _ _ h => h.elim, fun _ _ => rfl⟩

theorem Act.size_put (a : Act) (d : Option Tmp) (v : Value) : (a.put d v).tmps.size = a.tmps.size := by cases d <;> simp [Act.put]
theorem Act.defers_put (a : Act) (d : Option Tmp) (v : Value) : (a.put d v).defers = a.defers := by cases d <;> rfl
theorem Act.get_put_ne (a : Act) {d : Option Tmp} {t : Tmp} (v : Value) (h : d ≠ some t) : (a.put d v).tmps[t]? = a.tmps[t]? := by
  cases d with
  | none => rfl
  | some d => simp only [Act.put]; rw [Array.getElem?_setIfInBounds_ne (fun e => h (by rw [e]))]
theorem Act.get_put_eq (a : Act) {t : Tmp} (v : Value) (h : t < a.tmps.size) : (a.put (some t) v).tmps[t]? = some v := by simp [Act.put, h]

/-- One operation more writes. -/
theorem Fr.step {ops : Array Oper} {B : Array Nat} (hB : looksOk ops B = true) {a0 b : Act} {L : Nat → Prop} {v v' : Nat → Value} (h : Fr ops a0 b L v) {i : Nat} {o : Oper} (hi : ops[i]? = some o) (hv : ∀ j, L j → v' j = v j) {L' : Nat → Prop} (hL : ∀ j, L' j ↔ (L j ∨ j = i)) (hni : ¬ L i) :
    Fr ops a0 (b.put o.dst (v' i)) L' v' := by
  refine ⟨by rw [Act.size_put, h.size], by rw [Act.defers_put, h.defers], fun j oj d hj hLj hd hsz => ?_, fun t ht => ?_⟩
  · by_cases hji : j = i
    · subst hji
      rw [hi] at hj; cases hj
      rw [hd]
      exact Act.get_put_eq b _ (by rw [h.size]; exact hsz)
    · have hLj' : L j := ((hL j).1 hLj).resolve_right hji
      rw [Act.get_put_ne b _ (looksOk_spec hB hi hj (Ne.symm hji) hd).1, h.put j oj d hj hLj' hd hsz, hv j hLj']
  · rw [Act.get_put_ne b _ (ht i o hi ((hL i).2 (.inr rfl))), h.old t fun j oj hj hLj => ht j oj hj ((hL j).2 (.inl hLj))]

/-- Two frames over one start agree where they agree on who has written. -/
theorem Fr.ext {ops : Array Oper} {a0 b c : Act} {L : Nat → Prop} {v : Nat → Value} (hb : Fr ops a0 b L v) (hc : Fr ops a0 c L v) : b = c := by
  obtain ⟨bt, bd⟩ := b
  obtain ⟨ct, cd⟩ := c
  have h1 : bd = cd := hb.defers.trans hc.defers.symm
  have h2 : bt = ct := by
    apply Array.ext_getElem?
    intro t
    by_cases hw : ∃ i o, ops[i]? = some o ∧ L i ∧ o.dst = some t
    · obtain ⟨i, o, hi, hL, hd⟩ := hw
      by_cases hsz : t < a0.tmps.size
      · exact (hb.put i o t hi hL hd hsz).trans (hc.put i o t hi hL hd hsz).symm
      · have s1 : bt.size = a0.tmps.size := hb.size
        have s2 : ct.size = a0.tmps.size := hc.size
        rw [Array.getElem?_eq_none (by omega), Array.getElem?_eq_none (by omega)]
    · have hn : ∀ i o, ops[i]? = some o → L i → o.dst ≠ some t := fun i o hi hL hd => hw ⟨i, o, hi, hL, hd⟩
      exact (hb.old t hn).trans (hc.old t hn).symm
  rw [h1, h2]

theorem getD_of_get {b c : Array Value} {t : Nat} (h : b[t]? = c[t]?) : b.getD t undef = c.getD t undef := by
  simp [h]

/-- What an operation looks at reads alike in any order and in the text's. -/
theorem Fr.looks {ops : Array Oper} {a0 b c : Act} {L L' : Nat → Prop} {v : Nat → Value} (hb : Fr ops a0 b L v) (hc : Fr ops a0 c L' v) {k : Nat} {o : Oper} (hk : ops[k]? = some o) (hB : looksOk ops (Region.before ops) = true)
    (hL : ∀ j, ((Region.before ops).getD k 0).testBit j = true → L j) (hL0 : ∀ j, ((Region.before ops).getD j 0).testBit k = true → ¬ L j) (hL' : ∀ j, L' j ↔ j < k) (hnk : ¬ L k) :
    ∀ t ∈ o.looksAt ops, b.tmps[t]? = c.tmps[t]? := by
  intro t ht
  by_cases hw : ∃ i oi, ops[i]? = some oi ∧ oi.dst = some t ∧ i ≠ k
  · obtain ⟨i, oi, hi, hd, hne⟩ := hw
    obtain ⟨_, h2⟩ := looksOk_spec hB hk hi (Ne.symm hne) hd
    have h3 := h2 ht
    split at h3 <;> rename_i hlt
    · have hLi := hL i h3
      by_cases hsz : t < a0.tmps.size
      · exact (hb.put i oi t hi hLi hd hsz).trans (hc.put i oi t hi ((hL' i).2 hlt) hd hsz).symm
      · rw [Array.getElem?_eq_none (by rw [hb.size]; exact Nat.le_of_not_lt hsz), Array.getElem?_eq_none (by rw [hc.size]; exact Nat.le_of_not_lt hsz)]
    · have hNi := hL0 i h3
      have u : ∀ j oj, ops[j]? = some oj → oj.dst = some t → j = i := fun j oj hj hdj => by
        by_cases hji : j = i
        · exact hji
        · exact absurd hd (looksOk_spec hB hi hj (Ne.symm hji) hdj).1
      rw [hb.old t fun j oj hj hLj hdj => hNi (u j oj hj hdj ▸ hLj), hc.old t fun j oj hj hLj hdj => by have h5 : j = i := u j oj hj hdj; have h6 : j < k := (hL' j).1 hLj; omega]
  · have hn : ∀ j oj, ops[j]? = some oj → oj.dst = some t → j = k := fun j oj hj hd => by
      by_cases hjk : j = k
      · exact hjk
      · exact absurd ⟨j, oj, hj, hd, hjk⟩ hw
    rw [hb.old t fun j oj hj hLj hdj => hnk (hn j oj hj hdj ▸ hLj), hc.old t fun j oj hj hLj hdj => by have h5 : j = k := hn j oj hj hdj; have h6 : j < k := (hL' j).1 hLj; omega]

theorem execOp_looks {ops : Array Oper} {b c : Act} (o : Oper) (hs : ∀ cs x, o.op ≠ .select cs x) (h : ∀ t ∈ o.looksAt ops, b.tmps[t]? = c.tmps[t]?) : execOp b.eval o = execOp c.eval o :=
  execOp_congr o hs fun x hx => by
    cases x with
    | tmp t => exact getD_of_get (h t (List.mem_append_left _ (List.mem_filterMap.2 ⟨.tmp t, by simpa using hx, rfl⟩)))
    | _ => rfl

theorem wanted_looks {ops : Array Oper} {b c : Act} (o : Oper) (h : ∀ t ∈ o.looksAt ops, b.tmps[t]? = c.tmps[t]?) : Region.wanted o (yielded ops b.tmps) = Region.wanted o (yielded ops c.tmps) := by
  unfold Region.wanted
  cases hg : o.guard with
  | none => rfl
  | some g =>
    obtain ⟨j, want⟩ := g
    simp only
    congr 1
    unfold yielded
    cases hd : (ops[j]?).bind (·.dst) with
    | none => rfl
    | some d =>
      simp only [Option.bind_some]
      rw [h d (List.mem_append_right _ (by simp [hg, hd]))]

/-! ### One operation, out of its obligation -/
section
variable {P : Program} {ops : Array Oper} {E1 E2 : World → World → Prop} {w0 : World} {m : Nat}

/-- What one operation is asked, in words of its value alone. -/
def Yl (P : Program) (E : World → World → Prop) (S : Spec) (w : World) : Result Next → Prop
  | .ok (.value u) w' => E w w' ∧ S.holds u w'
  | .ok .skip w' => E w w' ∧ S.holds undef w'
  | .ok (.enter f args) w' => Calls P f args w' fun e w'' => ∃ u, e = .returned u ∧ E w w'' ∧ S.holds u w''
  | .ok (.row r args) w' => Rows P r args w' fun u w'' => E w w'' ∧ S.holds u w''
  | _ => False

theorem put_inj {a : Act} {d : Tmp} (hd : d < a.tmps.size) {u v : Value} (h : a.put (some d) u = a.put (some d) v) : u = v := by
  have h1 := Act.get_put_eq a u hd
  have h2 := Act.get_put_eq a v hd
  rw [h, h2] at h1
  exact (Option.some.inj h1).symm

theorem yl_of_obl {k : Nat} {o : Oper} {S : Spec} {a : Act} {kn : World → Prop} (h : Obl P ops E1 E2 w0 m k o S a kn) (hd : ∃ d, o.dst = some d ∧ d < a.tmps.size) {w : World}
    (hw : if k = m ∨ dep ops m k = true then E1 w0 w else E2 w0 w) (hkn : kn w) :
    if Region.wanted o (yielded ops a.tmps) then Yl P (if k = m then E2 else E1) S w ((execOp a.eval o).run P w) else (if k = m then E2 else E1) w w ∧ S.holds undef w := by
  obtain ⟨d, hd, hsz⟩ := hd
  have h1 := h w hw hkn (fun a' w' => ∃ v, a' = a.put o.dst v ∧ (if k = m then E2 else E1) w w' ∧ S.holds v w') (fun v w' he hs => ⟨v, rfl, by split <;> simp_all, hs⟩)
  have back : ∀ u w', (∃ v, a.put o.dst u = a.put o.dst v ∧ (if k = m then E2 else E1) w w' ∧ S.holds v w') → (if k = m then E2 else E1) w w' ∧ S.holds u w' := by
    rintro u w' ⟨v, he, h2, h3⟩
    rw [hd] at he
    rw [put_inj hsz he]
    exact ⟨h2, h3⟩
  unfold wpList at h1
  split <;> rename_i hwant
  · rw [if_pos hwant] at h1
    rcases h1 with h1 | ⟨_, a', w', hf⟩
    case inr => exact hf.elim
    unfold Oper.wp at h1
    generalize (execOp a.eval o).run P w = r at h1 ⊢
    cases r with
    | ok n w' =>
      cases n <;> simp only [Oper.upon] at h1
      case value u => exact back u w' h1
      case skip => exact back undef w' h1
      case defer dd =>
        obtain ⟨v, he, _⟩ := h1
        have := congrArg Act.defers he
        rw [Act.defers_put, Act.defers_put] at this
        exact absurd this (by simp)
      case enter f args =>
        refine Calls.mono h1 fun e w'' he => ?_
        cases e with
        | returned u => exact ⟨u, rfl, back u w'' he⟩
        | panicked c => exact False.elim he
        | outgrown => obtain ⟨_, _, hf⟩ := he; exact hf.elim
      case row r args => exact Rows.mono h1 fun u w'' he => back u w'' he
    | halt x w' =>
      cases x <;> simp only [Oper.upon] at h1
      case panic u => exact False.elim h1
  · rw [if_neg hwant] at h1
    exact back undef w h1

/-- ... and back, in whatever frame that the operation sees alike. -/
theorem wpOp_of_yl {Q : Exit → Act → World → Prop} {i : Nat} {o : Oper} (hi : ops[i]? = some o) {a b : Act} {w : World} {E : World → World → Prop} {S : Spec} {Kb : Act → World → Prop}
    (he : execOp b.eval o = execOp a.eval o) (hwt : Region.wanted o (yielded ops b.tmps) = Region.wanted o (yielded ops a.tmps))
    (h : if Region.wanted o (yielded ops a.tmps) then Yl P E S w ((execOp a.eval o).run P w) else E w w ∧ S.holds undef w)
    (hK : ∀ u w', E w w' → S.holds u w' → Kb (b.put o.dst u) w') : wpOp P ops Q i Kb b w := by
  unfold wpOp
  simp only [hi]
  rw [hwt]
  split <;> rename_i hwant
  · rw [if_pos hwant] at h
    refine .inl ?_
    unfold Oper.wp
    rw [he]
    generalize (execOp a.eval o).run P w = r at h ⊢
    cases r with
    | ok n w' =>
      cases n <;> simp only [Yl] at h <;> simp only [Oper.upon]
      case value u => exact hK _ _ h.1 h.2
      case skip => exact hK _ _ h.1 h.2
      case enter f args => exact Calls.mono h fun e w'' ⟨u, he, h1, h2⟩ => by subst he; exact hK _ _ h1 h2
      case row r args => exact Rows.mono h fun u w'' hu => hK _ _ hu.1 hu.2
    | halt x w' => simp only [Yl] at h
  · rw [if_neg hwant] at h
    exact hK _ _ h.1 h.2

/-! ### The lexical walk gives each operation's obligation, at each choice of values -/
/-- The frame ahead of operation k, in the text's order. -/
def lex (a : Act) (v : Nat → Value) : Nat → Nat → List Oper → Act
  | _, 0, _ => a
  | _, _, [] => a
  | k, n + 1, o :: rest => lex (a.put o.dst (v k)) v (k + 1) n rest

/-- What is known, at each choice of values. -/
def knows (S : Nat → Spec) (v : Nat → Value) : Nat → Nat → List (Nat × (World → Prop))
  | _, 0 => []
  | k, n + 1 => (k, fun w => (S k).holds (v k) w) :: knows S v (k + 1) n

theorem know_iff (D : Nat) : ∀ (l : List (Nat × (World → Prop))) (w : World), Know D l w ↔ ∀ p ∈ l, D.testBit p.1 = true → p.2 w
  | [], w => by simp [Know]
  | p :: r, w => by simp [Know, know_iff D r w]

theorem knowAll_iff : ∀ (l : List (Nat × (World → Prop))) (w : World), KnowAll l w ↔ ∀ p ∈ l, p.2 w
  | [], w => by simp [KnowAll]
  | p :: r, w => by simp [KnowAll, knowAll_iff r w]

/-- Of a choice of values it is asked that it holds where the kind is 'it is x'. -/
def Fits (Ss : List Spec) (v : Nat → Value) : Prop := ∀ (j : Nat) (x : Value), Ss[j]? = some (.is x) → v j = x

theorem wpMono_gives {Z : Act → World → Prop} (v : Nat → Value) : ∀ (rest : List Oper) (Ss : List Spec) (known : List (Nat × (World → Prop))) (k : Nat) (a : Act), rest.length = Ss.length →
    (∀ p ∈ known, p.1 < k ∧ ∃ S : Spec, True) → wpMono P ops E1 E2 w0 m Z known k rest Ss a → (∀ (j : Nat) (x : Value), Ss[j]? = some (.is x) → v (k + j) = x) →
    (∀ (j : Nat) (o : Oper) (S : Spec), rest[j]? = some o → Ss[j]? = some S →
      ∀ kn : World → Prop, (∀ w, kn w → (∀ p ∈ known, ((Region.before ops).getD (k + j) 0).testBit p.1 = true → p.2 w) ∧ ∀ (i : Nat) (S' : Spec), i < j → Ss[i]? = some S' → ((Region.before ops).getD (k + j) 0).testBit (k + i) = true → S'.holds (v (k + i)) w) →
      Obl P ops E1 E2 w0 m (k + j) o S (lex a v k j rest) kn) ∧
    (∀ w, E2 w0 w → (∀ p ∈ known, p.2 w) → (∀ (i : Nat) (S' : Spec), Ss[i]? = some S' → S'.holds (v (k + i)) w) → Z (lex a v k rest.length rest) w)
  | [], [], known, k, a, _, _, h, _ => by
    refine ⟨fun j o S hj => by simp at hj, fun w hE hkn _ => ?_⟩
    unfold wpMono at h
    exact h w hE ((knowAll_iff known w).2 hkn)
  | [], _ :: _, _, _, _, hl, _, _, _ => by simp at hl
  | _ :: _, [], _, _, _, hl, _, _, _ => by simp at hl
  | o :: rest, .is x :: Ss, known, k, a, hl, hkn, h, hv => by
    unfold wpMono at h
    obtain ⟨h1, h2⟩ := h
    have hx : v k = x := hv 0 x rfl
    have ih := wpMono_gives v rest Ss known (k + 1) (a.put o.dst x) (by simpa using hl) (fun p hp => ⟨by have := (hkn p hp).1; omega, .is undef, trivial⟩) h2
      (fun j y hj => by have := hv (j + 1) y (by simpa using hj); rwa [show k + (j + 1) = k + 1 + j by omega] at this)
    refine ⟨fun j oj S hj hS kn hk => ?_, fun w hE h3 h4 => ?_⟩
    · cases j with
      | zero =>
        simp at hj hS; subst hj; subst hS
        intro w hw hkw
        exact h1 w hw ((know_iff _ known w).2 (hk w hkw).1)
      | succ j =>
        have := ih.1 j oj S (by simpa using hj) (by simpa using hS) kn (fun w hkw => by
          obtain ⟨q1, q2⟩ := hk w hkw
          refine ⟨by rwa [show k + 1 + j = k + (j + 1) by omega], fun i S' hij hS' hb => ?_⟩
          have := q2 (i + 1) S' (by omega) (by simpa using hS') (by rwa [show k + (j + 1) = k + 1 + j by omega, show k + (i + 1) = k + 1 + i by omega])
          rwa [show k + (i + 1) = k + 1 + i by omega] at this)
        rw [show k + (j + 1) = k + 1 + j by omega]
        show Obl P ops E1 E2 w0 m (k + 1 + j) oj S (lex (a.put o.dst (v k)) v (k + 1) j rest) kn
        rw [hx]; exact this
    · have := ih.2 w hE h3 (fun i S' hS' => by have := h4 (i + 1) S' (by simpa using hS'); rwa [show k + (i + 1) = k + 1 + i by omega] at this)
      show Z (lex (a.put o.dst (v k)) v (k + 1) rest.length rest) w
      rw [hx]; exact this
  | o :: rest, .rel R :: Ss, known, k, a, hl, hkn, h, hv => by
    unfold wpMono at h
    obtain ⟨h1, h2⟩ := h
    have ih := wpMono_gives v rest Ss (known ++ [(k, R (v k))]) (k + 1) (a.put o.dst (v k)) (by simpa using hl)
      (fun p hp => ⟨by rcases List.mem_append.1 hp with hp | hp; (have := (hkn p hp).1; omega); (simp at hp; subst hp; simp), .is undef, trivial⟩) (h2 (v k))
      (fun j y hj => by have := hv (j + 1) y (by simpa using hj); rwa [show k + (j + 1) = k + 1 + j by omega] at this)
    refine ⟨fun j oj S hj hS kn hk => ?_, fun w hE h3 h4 => ?_⟩
    · cases j with
      | zero =>
        simp at hj hS; subst hj; subst hS
        intro w hw hkw
        exact h1 w hw ((know_iff _ known w).2 (hk w hkw).1)
      | succ j =>
        have := ih.1 j oj S (by simpa using hj) (by simpa using hS) kn (fun w hkw => by
          obtain ⟨q1, q2⟩ := hk w hkw
          refine ⟨fun p hp hb => ?_, fun i S' hij hS' hb => ?_⟩
          · rcases List.mem_append.1 hp with hp | hp
            · exact q1 p hp (by rwa [show k + (j + 1) = k + 1 + j by omega])
            · simp at hp; subst hp
              exact q2 0 (.rel R) (by omega) (by simp) (by rw [show k + (j + 1) = k + 1 + j by omega]; exact hb)
          · have := q2 (i + 1) S' (by omega) (by simpa using hS') (by rwa [show k + (j + 1) = k + 1 + j by omega, show k + (i + 1) = k + 1 + i by omega])
            rwa [show k + (i + 1) = k + 1 + i by omega] at this)
        rw [show k + (j + 1) = k + 1 + j by omega]
        exact this
    · exact ih.2 w hE (fun p hp => by
        rcases List.mem_append.1 hp with hp | hp
        · exact h3 p hp
        · simp at hp; subst hp; exact h4 0 (.rel R) (by simp)) (fun i S' hS' => by have := h4 (i + 1) S' (by simpa using hS'); rwa [show k + (i + 1) = k + 1 + i by omega] at this)

/-- The text's order, as a frame. -/
theorem lex_fr (hB : looksOk ops (Region.before ops) = true) (a0 : Act) (v : Nat → Value) : ∀ (rest : List Oper) (k n : Nat) (a : Act), (∀ j, rest[j]? = ops[k + j]?) → n ≤ rest.length → Fr ops a0 a (fun j => j < k) v → Fr ops a0 (lex a v k n rest) (fun j => j < k + n) v
  | _, _, 0, _, _, _, h => by unfold lex; simpa using h
  | [], _, n + 1, _, _, hn, _ => by simp at hn
  | o :: rest, k, n + 1, a, hr, hn, h => by
    have h0 : ops[k]? = some o := by simpa using (hr 0).symm
    have h1 : Fr ops a0 (a.put o.dst (v k)) (fun j => j < k + 1) v := h.step hB h0 (fun _ _ => rfl) (fun j => by omega) (by omega)
    have := lex_fr hB a0 v rest (k + 1) n (a.put o.dst (v k)) (fun j => by have := hr (j + 1); simpa [Nat.add_assoc, Nat.add_comm 1 j] using this) (by simpa using hn) h1
    rw [show k + (n + 1) = k + 1 + n by omega]
    exact this

/-! ### Any order -/
structure Inv (ops : Array Oper) (E1 E2 : World → World → Prop) (w0 : World) (m : Nat) (Ss : List Spec) (a0 : Act) (listed : Array Bool) (b : Act) (w : World) (v : Nat → Value) : Prop where
  fr : Fr ops a0 b (fun j => listed.getD j false = true) v
  fits : ∀ j x, Ss[j]? = some (.is x) → v j = x
  holds : ∀ j S, listed.getD j false = true → Ss[j]? = some S → S.holds (v j) w
  e2 : E2 w0 w
  e1 : listed.getD m false = false → E1 w0 w
  closed : ∀ j, listed.getD j false = true → ∀ i, ((Region.before ops).getD j 0).testBit i = true → listed.getD i false = true

def upd (v : Nat → Value) (i : Nat) (u : Value) : Nat → Value := fun j => if j = i then u else v j
theorem upd_self (v : Nat → Value) (i : Nat) (u : Value) : upd v i u i = u := by simp [upd]
theorem upd_ne (v : Nat → Value) {i j : Nat} (u : Value) (h : j ≠ i) : upd v i u j = v j := by simp [upd, h]

/-- What the preorders are asked. -/
structure Pre (E1 E2 : World → World → Prop) : Prop where
  weak : ∀ a b, E1 a b → E2 a b
  trans1 : ∀ a b c, E1 a b → E1 b c → E1 a c
  trans2 : ∀ a b c, E2 a b → E2 b c → E2 a c

def unl (listed : Array Bool) (n : Nat) : Nat := (List.range n).countP fun j => !listed.getD j false

theorem unl_set {listed : Array Bool} {i : Nat} (hi : i < listed.size) (hu : listed.getD i false = false) : ∀ n, (i < n → unl listed n = unl (listed.setIfInBounds i true) n + 1) ∧ (n ≤ i → unl listed n = unl (listed.setIfInBounds i true) n)
  | 0 => ⟨fun h => by omega, fun _ => rfl⟩
  | n + 1 => by
    obtain ⟨h1, h2⟩ := unl_set hi hu n
    have hs : ∀ l : Array Bool, unl l (n + 1) = unl l n + if l.getD n false = false then 1 else 0 := fun l => by
      unfold unl; rw [List.range_succ, List.countP_append]; simp [List.countP_cons]
    rw [hs, hs]
    have hset : (listed.setIfInBounds i true).getD i false = true := by simp [hi]
    refine ⟨fun h => ?_, fun h => ?_⟩
    · by_cases hin : i = n
      · subst hin; rw [h2 (Nat.le_refl _), hset, hu]; simp
      · rw [h1 (by omega), getD_set_ne false hin]; omega
    · rw [h2 (by omega), getD_set_ne false (by omega)]

theorem unl_zero {listed : Array Bool} {n : Nat} (h : unl listed n = 0) : ∀ j, j < n → listed.getD j false = true := by
  intro j hj
  unfold unl at h
  rw [List.countP_eq_zero] at h
  have := h j (List.mem_range.2 hj)
  simpa using this

theorem unl_all (ops : Array Oper) : ∀ n, unl (Array.replicate ops.size false) n = n
  | 0 => rfl
  | n + 1 => by
    have := unl_all ops n
    unfold unl at *
    rw [List.range_succ, List.countP_append, this]
    simp [Array.getElem?_replicate]
    split <;> simp

/-- Edges lead back. -/
def backOk (ops : Array Oper) : Bool := ops.toList.zipIdx.all fun (o, k) => o.after.toList.all fun e => !Region.binds .any e || decide (e.on < k)
theorem backOk_spec {ops : Array Oper} (h : backOk ops = true) {k : Nat} {o : Oper} (hk : ops[k]? = some o) : ∀ e ∈ o.after, Region.binds .any e = true → e.on < k := by
  intro e he hb
  unfold backOk at h
  rw [List.all_eq_true] at h
  have h1 := h (o, k) (mem_zipIdx_of (by simpa using hk))
  rw [List.all_eq_true] at h1
  have h2 := h1 e (by simpa using he)
  simpa [hb] using h2

/-- From operation n on, each waits for all that are ahead of it. -/
def tailOk (ops : Array Oper) (B : Array Nat) (n : Nat) : Bool := (List.range ops.size).all fun k => decide (k < n) || (List.range k).all fun j => (B.getD k 0).testBit j
theorem tailOk_spec {ops : Array Oper} {B : Array Nat} {n : Nat} (h : tailOk ops B n = true) {k j : Nat} (hk : k < ops.size) (hn : n ≤ k) (hj : j < k) : (B.getD k 0).testBit j = true := by
  unfold tailOk at h
  rw [List.all_eq_true] at h
  have h1 := h k (List.mem_range.2 hk)
  rw [Bool.or_eq_true, List.all_eq_true] at h1
  rcases h1 with h1 | h1
  · simp at h1; omega
  · exact h1 j (List.mem_range.2 hj)

theorem exists_min {p : Nat → Prop} [DecidablePred p] : ∀ n, p n → ∃ k, p k ∧ k ≤ n ∧ ∀ j, j < k → ¬ p j
  | 0, h => ⟨0, h, Nat.le_refl _, fun j hj => by omega⟩
  | n + 1, h => by
    by_cases hx : ∃ k, k ≤ n ∧ p k
    · obtain ⟨k, hk, hp⟩ := hx
      obtain ⟨k', a, b, c⟩ := exists_min k hp
      exact ⟨k', a, by omega, c⟩
    · exact ⟨n + 1, h, Nat.le_refl _, fun j hj hp => hx ⟨j, by omega, hp⟩⟩

/-- The least that has not come up may come up. -/
theorem least_ready {listed : Array Bool} (hs : listed.size = ops.size) (hb : backOk ops = true) {j : Nat} (hj : j < ops.size) (hu : listed.getD j false = false) : ∃ k, k ∈ Region.ready .any ops listed ∧ k ≤ j ∧ ∀ i, i < k → listed.getD i false = true := by
  obtain ⟨k, h1, h2, h3⟩ := exists_min (p := fun k => listed.getD k false = false) j hu
  have hk : k < ops.size := by omega
  refine ⟨k, mem_ready.2 ⟨?_, ops[k], by simp [hk], fun e he hbe => ?_⟩, h2, fun i hi => by simpa using h3 i hi⟩
  · have hk' : k < listed.size := by omega
    simpa [hk'] using h1
  · have := backOk_spec hb (k := k) (o := ops[k]) (by simp [hk]) e he hbe
    simpa using h3 e.on this

theorem ready_unlisted {listed : Array Bool} (hs : listed.size = ops.size) {i : Nat} (hi : i ∈ Region.ready .any ops listed) : ∃ o, ops[i]? = some o ∧ i < ops.size ∧ listed.getD i false = false ∧ ∀ e ∈ o.after, Region.binds .any e = true → listed.getD e.on false = true := by
  obtain ⟨h1, o, ho, h2⟩ := mem_ready.1 hi
  have hlt : i < ops.size := (Array.getElem?_eq_some_iff.1 ho).1
  have hl : i < listed.size := by omega
  exact ⟨o, ho, hlt, by simpa [hl] using h1, h2⟩

/-- The tail: in the text's order alone. -/
theorem tail_any {Q : Exit → Act → World → Prop} {n : Nat} (hb : backOk ops = true) (ht : tailOk ops (Region.before ops) n = true) : ∀ (l : List Oper) (k : Nat) (listed : Array Bool) (a : Act) (w : World), n ≤ k → (∀ j, l[j]? = ops[k + j]?) → listed.size = ops.size → k + l.length = ops.size →
    (∀ j, j < k → listed.getD j false = true) → (∀ j, k ≤ j → j < ops.size → listed.getD j false = false) → wpList P ops Q l a w → wpAny P .any ops Q l.length listed a w
  | [], k, listed, a, w, _, hl, hs, hk, h1, h2, h => by
    refine ⟨?_, h⟩
    cases hr : Region.ready .any ops listed with
    | nil => rfl
    | cons i r =>
      obtain ⟨o, _, hi, hu, _⟩ := ready_unlisted hs (i := i) (by rw [hr]; simp)
      have := h1 i (by simp at hk; omega)
      rw [this] at hu; cases hu
  | o :: l, k, listed, a, w, hn, hl, hs, hk, h1, h2, h => by
    have h0 : ops[k]? = some o := by simpa using (hl 0).symm
    have hklt : k < ops.size := by simp at hk; omega
    refine ⟨fun hr => ?_, fun i hi => ?_⟩
    · obtain ⟨k', hk', _⟩ := least_ready hs hb hklt (h2 k (Nat.le_refl _) hklt)
      rw [hr] at hk'; cases hk'
    · obtain ⟨oi, hoi, hilt, hu, hed⟩ := ready_unlisted hs hi
      have hki : k ≤ i := Nat.le_of_not_lt fun hlt => by rw [h1 i hlt] at hu; cases hu
      have hik : i = k := by
        rcases Nat.lt_or_ge k i with hlt | hge
        · exfalso
          have hd := tailOk_spec ht hilt (by omega) hlt
          obtain ⟨e, he, hbe, hor⟩ := before_get hoi hd
          have hle := hed e he hbe
          rcases hor with rfl | hor
          · rw [h2 e.on (Nat.le_refl _) hklt] at hle; cases hle
          · have heb := backOk_spec hb hoi e he hbe
            rcases Nat.lt_or_ge e.on k with h6 | h6
            · obtain ⟨oe, hoe⟩ : ∃ oe, ops[e.on]? = some oe := ⟨ops[e.on], by simp [show e.on < ops.size by omega]⟩
              have bits : ∀ (x : Nat) (ox : Oper), ops[x]? = some ox → ∀ y, ((Region.before ops).getD x 0).testBit y = true → y < x := by
                intro x
                induction x using Nat.strongRecOn with
                | _ x ih =>
                  intro ox hox y hy
                  obtain ⟨e', he', hb', hor'⟩ := before_get hox hy
                  have hlt' := backOk_spec hb hox e' he' hb'
                  rcases hor' with rfl | hor'
                  · exact hlt'
                  · have hsz : e'.on < ops.size := by have := (Array.getElem?_eq_some_iff.1 hox).1; omega
                    have := ih e'.on hlt' ops[e'.on] (by simp [hsz]) y hor'
                    omega
              have := bits e.on oe hoe k hor
              omega
            · rw [h2 e.on h6 (by omega)] at hle; cases hle
        · omega
      subst hik
      unfold wpOp
      simp only [h0]
      unfold wpList at h
      have next : ∀ a' w', wpList P ops Q l a' w' → wpAny P .any ops Q l.length (listed.setIfInBounds i true) a' w' := fun a' w' h' =>
        tail_any hb ht l (i + 1) _ a' w' (by omega) (fun j => by have := hl (j + 1); simpa [Nat.add_assoc, Nat.add_comm 1 j] using this) (by simpa using hs) (by simp at hk; omega)
          (fun j hj => by
            by_cases hji : j = i
            · subst hji; simp [show j < listed.size by omega]
            · rw [getD_set_ne false (Ne.symm hji)]; exact h1 j (by omega))
          (fun j hj hjs => by rw [getD_set_ne false (by omega)]; exact h2 j (by omega) hjs) h'
      split <;> rename_i hwant
      · rw [if_pos hwant] at h; exact h.imp (Oper.wp_mono next) id
      · rw [if_neg hwant] at h; exact next _ _ h

theorem lex_take (v : Nat → Value) : ∀ (l : List Oper) (k n : Nat) (a : Act), lex a v k n l = lex a v k n (l.take n)
  | _, _, 0, _ => rfl
  | [], _, _ + 1, _ => rfl
  | o :: l, k, n + 1, a => by show lex _ v (k + 1) n l = lex _ v (k + 1) n (l.take n); exact lex_take v l (k + 1) n _

theorem any_of_mono {Q : Exit → Act → World → Prop} {a0 : Act} {Ss : List Spec} {pre tail : List Oper} (hops : ops = (pre ++ tail).toArray) (hp : Pre E1 E2) (hB : looksOk ops (Region.before ops) = true) (hb : backOk ops = true) (ht : tailOk ops (Region.before ops) pre.length = true)
    (hdst : ∀ (i : Nat) (o : Oper), pre[i]? = some o → ∃ d, o.dst = some d ∧ d < a0.tmps.size) (hsel : Region.noSelect ops = true) (hl : pre.length = Ss.length)
    (hst : ∀ (j : Nat) R v w w', Ss[j]? = some (Spec.rel R) → R v w → (if j = m then E1 w w' else E2 w w') → R v w')
    (h : wpMono P ops E1 E2 w0 m (wpList P ops Q tail) [] 0 pre Ss a0) :
    ∀ (fuel : Nat) (listed : Array Bool) (b : Act) (w : World) (v : Nat → Value), listed.size = ops.size → unl listed ops.size = fuel → (∀ j, pre.length ≤ j → listed.getD j false = false) → Inv ops E1 E2 w0 m Ss a0 listed b w v →
      wpAny P .any ops Q fuel listed b w := by
  have hsz : ops.size = pre.length + tail.length := by rw [hops]; simp
  have hpre : ∀ j, j < pre.length → ops[j]? = pre[j]? := fun j hj => by rw [hops]; simp [List.getElem?_append, hj]
  have htl : ∀ j, tail[j]? = ops[pre.length + j]? := fun j => by rw [hops]; simp [List.getElem?_append, show ¬ pre.length + j < pre.length by omega]
  have htk : ∀ j, (pre ++ tail)[j]? = ops[0 + j]? := fun j => by rw [hops]; simp
  -- all of the first part has come up: the frame is the text's, and the tail stands
  have fin : ∀ (listed : Array Bool) (b : Act) (w : World) (v : Nat → Value), (∀ j, pre.length ≤ j → listed.getD j false = false) → Inv ops E1 E2 w0 m Ss a0 listed b w v → (∀ j, j < pre.length → listed.getD j false = true) → wpList P ops Q tail b w := by
    intro listed b w v hun hI hall
    have g := (wpMono_gives v pre Ss [] 0 a0 hl (fun _ hp => by simp at hp) h (fun j x hj => by simpa using hI.fits j x hj)).2 w hI.e2 (fun _ hp => by simp at hp) (fun i S' hi => by
      have hlt : i < pre.length := by have := (List.getElem?_eq_some_iff.1 hi).1; omega
      simpa using hI.holds i S' (hall i hlt) hi)
    have hf := lex_fr hB a0 v (pre ++ tail) 0 pre.length a0 htk (by simp) ⟨rfl, rfl, fun _ _ _ _ hj => absurd hj (by omega), fun _ _ => rfl⟩
    rw [lex_take, List.take_left' rfl] at hf
    have e : b = lex a0 v 0 pre.length pre := by
      refine Fr.ext (L := fun j => j < 0 + pre.length) ?_ hf
      refine ⟨hI.fr.size, hI.fr.defers, fun i o d hi hLi hd hs => hI.fr.put i o d hi (hall i (by omega)) hd hs, fun t hn => hI.fr.old t fun i o hi hLi hd => hn i o hi ?_ hd⟩
      rcases Nat.lt_or_ge i pre.length with h' | h'
      · omega
      · have := hun i h'; rw [this] at hLi; cases hLi
    rw [e]; exact g
  intro fuel
  induction fuel with
  | zero =>
    intro listed b w v hs hu hun hI
    have hall := unl_zero hu
    have ht0 : tail = [] := by
      cases tail with
      | nil => rfl
      | cons o t =>
        have h1 := hall pre.length (by rw [hsz]; simp)
        rw [hun _ (Nat.le_refl _)] at h1; cases h1
    refine ⟨?_, ?_⟩
    · cases hr : Region.ready .any ops listed with
      | nil => rfl
      | cons i r =>
        obtain ⟨o, _, hi, hui, _⟩ := ready_unlisted hs (i := i) (by rw [hr]; simp)
        rw [hall i hi] at hui; cases hui
    · have := fin listed b w v hun hI (fun j hj => hall j (by omega))
      rw [ht0] at this
      exact this
  | succ fuel ih =>
    intro listed b w v hs hu hun hI
    refine ⟨fun hr => ?_, fun i hi => ?_⟩
    · exfalso
      have hex : ∃ j, j < ops.size ∧ listed.getD j false = false := by
        have : ∃ j ∈ List.range ops.size, (!listed.getD j false) = true := by
          have h0 : 0 < (List.range ops.size).countP fun j => !listed.getD j false := by unfold unl at hu; omega
          exact List.countP_pos_iff.1 h0
        obtain ⟨j, hj, hjj⟩ := this
        exact ⟨j, List.mem_range.1 hj, by simpa using hjj⟩
      obtain ⟨j, hj, huj⟩ := hex
      obtain ⟨k, hk, _⟩ := least_ready hs hb hj huj
      rw [hr] at hk; cases hk
    · obtain ⟨o, ho, hilt, hui, hed⟩ := ready_unlisted hs hi
      have hdeps : ∀ j, ((Region.before ops).getD i 0).testBit j = true → listed.getD j false = true := fun j hj => by
        obtain ⟨e, he, hbe, hor⟩ := before_get ho hj
        rcases hor with rfl | hor
        · exact hed e he hbe
        · exact hI.closed e.on (hed e he hbe) j hor
      rcases Nat.lt_or_ge i pre.length with hlt | hge
      · -- one of the first part
        have hoi : pre[i]? = some o := by rw [← hpre i hlt]; exact ho
        obtain ⟨S, hS⟩ : ∃ S, Ss[i]? = some S := ⟨Ss[i]'(by omega), by simp [show i < Ss.length by omega]⟩
        have g := (wpMono_gives v pre Ss [] 0 a0 hl (fun _ hp => by simp at hp) h (fun j x hj => by simpa using hI.fits j x hj)).1 i o S hoi hS
          (fun w' => w' = w) (fun w' hw' => ⟨fun _ hp => by simp at hp, fun j S' hji hS' hbit => by
            subst hw'
            have := hI.holds j S' (hdeps j (by simpa using hbit)) hS'
            simpa using this⟩)
        have hf := lex_fr hB a0 v (pre ++ tail) 0 i a0 htk (by simp; omega) ⟨rfl, rfl, fun _ _ _ _ hj => absurd hj (by omega), fun _ _ => rfl⟩
        have hlx : lex a0 v 0 i (pre ++ tail) = lex a0 v 0 i pre := by
          rw [lex_take, lex_take v pre, List.take_append_of_le_length (by omega)]
        rw [hlx] at hf
        simp only [Nat.zero_add] at g hf
        have hw : if i = m ∨ dep ops m i = true then E1 w0 w else E2 w0 w := by
          split
          · rename_i him
            rcases him with him | him
            · subst him; exact hI.e1 hui
            · refine hI.e1 ?_
              cases hm : listed.getD m false with
              | false => rfl
              | true =>
                have := hI.closed m hm i him
                rw [hui] at this; cases this
          · exact hI.e2
        obtain ⟨d, hd, hdsz⟩ := hdst i o hoi
        have gy := yl_of_obl g ⟨d, hd, by rw [hf.size]; exact hdsz⟩ hw rfl
        have hlk := Fr.looks hI.fr hf ho hB hdeps (fun j hj hLj => by
          have := hI.closed j hLj i hj
          rw [hui] at this; cases this) (fun j => Iff.rfl) (by rw [hui]; simp)
        refine wpOp_of_yl ho (execOp_looks o (fun cs x => Region.noSelect_spec hsel i o cs x ho) hlk) (wanted_looks o hlk) gy fun u w' hE hSu => ?_
        have hset : (listed.setIfInBounds i true).getD i false = true := by simp [show i < listed.size by omega]
        refine ih (listed.setIfInBounds i true) (b.put o.dst u) w' (upd v i u) (by simpa using hs) (by have := (unl_set (by omega) hui ops.size).1 hilt; omega)
          (fun j hj => by rw [getD_set_ne false (by omega)]; exact hun j hj) ?_
        have hgrow : E2 w w' := by split at hE; exact hE; exact hp.weak _ _ hE
        refine ⟨?_, fun j x hj => ?_, fun j S' hj hS' => ?_, hp.trans2 _ _ _ hI.e2 hgrow, fun hm => ?_, fun j hj j' hb' => ?_⟩
        · have := hI.fr.step (v' := upd v i u) (L' := fun j => (listed.setIfInBounds i true).getD j false = true) hB ho (fun j hLj => upd_ne v u (fun e => by subst e; rw [hui] at hLj; cases hLj)) (fun j => by
            by_cases hji : j = i
            · subst hji; simp [hset]
            · simp only [getD_set_ne false (Ne.symm hji), hji, or_false]) (by rw [hui]; simp)
          rw [upd_self] at this
          exact this
        · by_cases hji : j = i
          · subst hji
            rw [hj] at hS; cases hS
            rw [upd_self]; exact hSu
          · rw [upd_ne v u hji]; exact hI.fits j x hj
        · by_cases hji : j = i
          · subst hji
            rw [hS'] at hS; cases hS
            rw [upd_self]; exact hSu
          · rw [getD_set_ne false (Ne.symm hji)] at hj
            rw [upd_ne v u hji]
            have h3 := hI.holds j S' hj hS'
            cases S' with
            | is x => exact h3
            | rel R =>
              refine hst j R _ _ _ hS' h3 ?_
              split
              · rename_i hjm; rwa [if_neg (fun e => hji (hjm.trans e.symm))] at hE
              · exact hgrow
        · have hne : ¬ i = m := fun e => by subst e; rw [hset] at hm; cases hm
          rw [if_neg hne] at hE
          exact hp.trans1 _ _ _ (hI.e1 (by rwa [getD_set_ne false hne] at hm)) hE
        · by_cases hji : j = i
          · subst hji
            exact getD_set_true (hdeps j' hb')
          · rw [getD_set_ne false (Ne.symm hji)] at hj
            exact getD_set_true (hI.closed j hj j' hb')
      · -- the tail begins
        have hall : ∀ j, j < i → listed.getD j false = true := fun j hj => hdeps j (tailOk_spec ht hilt hge hj)
        have hi0 : i = pre.length := by
          rcases Nat.lt_or_ge pre.length i with h' | h'
          · have := hall _ h'; rw [hun _ (Nat.le_refl _)] at this; cases this
          · omega
        have hw := fin listed b w v hun hI (fun j hj => hall j (by omega))
        have hcnt : fuel + 1 = tail.length := by
          have h1 : ∀ n, n ≤ tail.length → unl listed (pre.length + n) = n := by
            intro n hn
            unfold unl
            rw [List.range_eq_range', ← List.range'_append_1, List.countP_append, Nat.zero_add]
            have e1 : (List.range' 0 pre.length).countP (fun j => !listed.getD j false) = 0 := by
              rw [List.countP_eq_zero]; intro j hj; simp at hj; have := hall j (by omega); simp [this]
            have e2 : (List.range' pre.length n).countP (fun j => !listed.getD j false) = n := by
              have : (List.range' pre.length n).countP (fun j => !listed.getD j false) = (List.range' pre.length n).length := by
                rw [List.countP_eq_length]; intro j hj; simp at hj; have := hun j (by omega); simp [this]
              rw [this]; simp
            rw [e1, e2]; omega
          have := h1 tail.length (Nat.le_refl _)
          rw [← hsz, hu] at this; exact this
        have := tail_any hb ht tail pre.length listed b w (Nat.le_refl _) htl hs hsz.symm (fun j hj => hall j (by omega)) (fun j hj _ => hun j hj) hw
        rw [← hcnt] at this
        exact this.2 i hi

/-- **A REGION THAT DRAWS ITS ORDER, BY ONE WALK IN THE TEXT's ORDER.** 'pre': operations that yield values of the kinds 'Ss'; 'tail': operations that wait for all ahead of them. -/
theorem wp_region_mono {id : Nat} {Q : Exit → Act → World → Prop} {a : Act} {w : World} {l : List Oper} (n : Nat) (E1 E2 : World → World → Prop) (m : Nat) (Ss : List Spec) (hm : P.follows .mixedOrders = true) (hp : Pre E1 E2) (hr1 : E1 w.drew w.drew)
    (hchk : (looksOk l.toArray (Region.before l.toArray) && backOk l.toArray && tailOk l.toArray (Region.before l.toArray) (l.take n).length && Region.noSelect l.toArray) = true)
    (hdst : (l.take n).all (fun o => o.dst.any fun d => decide (d < a.tmps.size)) = true) (hl : (l.take n).length = Ss.length)
    (hst : ∀ (j : Nat) R v w w', Ss[j]? = some (Spec.rel R) → R v w → (if j = m then E1 w w' else E2 w w') → R v w')
    (h : wpMono P l.toArray E1 E2 w.drew m (wpList P l.toArray Q (l.drop n)) [] 0 (l.take n) Ss a) : (Code.region id l.toArray true).wp P Q a w := by
  simp only [Bool.and_eq_true] at hchk
  obtain ⟨⟨⟨h1, h2⟩, h3⟩, h4⟩ := hchk
  refine wp_region_any hm ?_
  refine any_of_mono (E1 := E1) (E2 := E2) (w0 := w.drew) (m := m) (Ss := Ss) (pre := l.take n) (tail := l.drop n) (by rw [List.take_append_drop]) hp h1 h2 h3 (fun i o hi => ?_) h4 hl hst h _ _ a w.drew
    (fun j => match Ss[j]? with | some (.is x) => x | _ => undef) (by simp) (unl_all _ _) (fun j _ => by simp [Array.getElem?_replicate]; split <;> simp) ?_
  · rw [List.all_eq_true] at hdst
    have := hdst o (List.mem_of_getElem? hi)
    cases hd : o.dst with
    | none => rw [hd] at this; simp at this
    | some d => rw [hd] at this; exact ⟨d, rfl, by simpa using this⟩
  · refine ⟨?_, fun j x hj => by simp [hj], fun j S hj _ => ?_, hp.weak _ _ hr1, fun _ => hr1, fun j hj => ?_⟩
    · refine ⟨rfl, rfl, fun i o d _ hL => ?_, fun _ _ => rfl⟩
      simp [Array.getElem?_replicate] at hL; split at hL <;> simp at hL
    · simp [Array.getElem?_replicate] at hj; split at hj <;> simp at hj
    · simp [Array.getElem?_replicate] at hj; split at hj <;> simp at hj
end

/-! ### The steps of the walk -/
section
variable {P : Program} {ops : Array Oper} {E1 E2 : World → World → Prop} {w0 : World} {m : Nat} {Z : Act → World → Prop} {known : List (Nat × (World → Prop))} {k : Nat} {o : Oper} {rest : List Oper} {Ss : List Spec} {a : Act}
theorem step_is {x : Value} (h1 : Obl P ops E1 E2 w0 m k o (.is x) a (Know ((Region.before ops).getD k 0) known)) (h2 : wpMono P ops E1 E2 w0 m Z known (k + 1) rest Ss (a.put o.dst x)) : wpMono P ops E1 E2 w0 m Z known k (o :: rest) (.is x :: Ss) a := ⟨h1, h2⟩
theorem step_rel {R : Value → World → Prop} (h1 : Obl P ops E1 E2 w0 m k o (.rel R) a (Know ((Region.before ops).getD k 0) known)) (h2 : ∀ v, wpMono P ops E1 E2 w0 m Z (known ++ [(k, R v)]) (k + 1) rest Ss (a.put o.dst v)) : wpMono P ops E1 E2 w0 m Z known k (o :: rest) (.rel R :: Ss) a := ⟨h1, h2⟩
theorem step_end (h : ∀ w, E2 w0 w → KnowAll known w → Z a w) : wpMono P ops E1 E2 w0 m Z known k [] [] a := by unfold wpMono; exact h
end

/-! ### As a walk uses it: one preorder -/
/-- What is known of a value stays known. -/
def Stab (E : World → World → Prop) : List Spec → Prop
  | [] => True
  | .is _ :: r => Stab E r
  | .rel R :: r => (∀ v w w', R v w → E w w' → R v w') ∧ Stab E r
theorem Stab.of {E : World → World → Prop} : ∀ {Ss : List Spec}, Stab E Ss → ∀ R v w w', Spec.rel R ∈ Ss → R v w → E w w' → R v w'
  | .is x :: r, h, R, v, w, w', hm, hr, he => Stab.of (Ss := r) h R v w w' (by simpa using hm) hr he
  | .rel R' :: r, h, R, v, w, w', hm, hr, he => by
    rcases List.mem_cons.1 hm with h1 | h1
    · cases h1; exact h.1 v w w' hr he
    · exact Stab.of (Ss := r) h.2 R v w w' h1 hr he

theorem is_rfl (x : Value) (w : World) : (Spec.is x).holds x w := rfl
theorem rel_mk {R : Value → World → Prop} {v : Value} {w : World} (h : R v w) : (Spec.rel R).holds v w := h
section
variable {P : Program} {ops : Array Oper} {E : World → World → Prop} {w0 : World} {m : Nat}
/-- The obligation, with one preorder. -/
theorem obl_mk {k : Nat} {o : Oper} {S : Spec} {a : Act} {kn : World → Prop} (h : ∀ w, E w0 w → kn w → ∀ K : Act → World → Prop, (∀ v w', E w w' → S.holds v w' → K (a.put o.dst v) w') → wpList P ops (onlyK K) [o] a w) : Obl P ops E E w0 m k o S a kn := by
  intro w hw hk K hK
  simp only [ite_self] at hw hK
  exact h w hw hk K hK

theorem region1 {id : Nat} {Q : Exit → Act → World → Prop} {a : Act} {w : World} {l : List Oper} (n : Nat) (E : World → World → Prop) (Ss : List Spec) (hm : P.follows .mixedOrders = true) (hr : ∀ w, E w w) (htr : ∀ a b c, E a b → E b c → E a c)
    (hchk : (looksOk l.toArray (Region.before l.toArray) && backOk l.toArray && tailOk l.toArray (Region.before l.toArray) (l.take n).length && Region.noSelect l.toArray) = true)
    (hdst : (l.take n).all (fun o => o.dst.any fun d => decide (d < a.tmps.size)) = true) (hl : (l.take n).length = Ss.length) (hst : Stab E Ss)
    (h : wpMono P l.toArray E E w.drew l.length (wpList P l.toArray Q (l.drop n)) [] 0 (l.take n) Ss a) : (Code.region id l.toArray true).wp P Q a w :=
  wp_region_mono n E E l.length Ss hm ⟨fun _ _ h => h, htr, htr⟩ (hr _) hchk hdst hl (fun j R v w w' hj hR hE => Stab.of hst R v w w' (List.mem_of_getElem? hj) hR (by simpa using hE)) h
end

/-! ### Two preorders: one operation (m) does what the others don't -/
def Stab2 (E1 E2 : World → World → Prop) (m : Nat) : Nat → List Spec → Prop
  | _, [] => True
  | k, .is _ :: r => Stab2 E1 E2 m (k + 1) r
  | k, .rel R :: r => (∀ v w w', R v w → (if k = m then E1 w w' else E2 w w') → R v w') ∧ Stab2 E1 E2 m (k + 1) r
theorem Stab2.of {E1 E2 : World → World → Prop} {m : Nat} : ∀ {Ss : List Spec} {k : Nat}, Stab2 E1 E2 m k Ss → ∀ (j : Nat) R v w w', Ss[j]? = some (Spec.rel R) → R v w → (if k + j = m then E1 w w' else E2 w w') → R v w'
  | .is x :: r, k, h, 0, R, v, w, w', hj, hr, he => by simp at hj
  | .is x :: r, k, h, j + 1, R, v, w, w', hj, hr, he => Stab2.of (Ss := r) (k := k + 1) h j R v w w' (by simpa using hj) hr (by rwa [show k + 1 + j = k + (j + 1) by omega])
  | .rel R' :: r, k, h, 0, R, v, w, w', hj, hr, he => by
    simp at hj; subst hj; exact h.1 v w w' hr (by simpa using he)
  | .rel R' :: r, k, h, j + 1, R, v, w, w', hj, hr, he => Stab2.of (Ss := r) (k := k + 1) h.2 j R v w w' (by simpa using hj) hr (by rwa [show k + 1 + j = k + (j + 1) by omega])
section
variable {P : Program} {ops : Array Oper} {E1 E2 : World → World → Prop} {w0 : World} {m : Nat}
theorem obl_quiet {k : Nat} {o : Oper} {S : Spec} {a : Act} {kn : World → Prop} (hk : k ≠ m) (hdp : dep ops m k = false) (h : ∀ w, E2 w0 w → kn w → ∀ K : Act → World → Prop, (∀ v w', E1 w w' → S.holds v w' → K (a.put o.dst v) w') → wpList P ops (onlyK K) [o] a w) : Obl P ops E1 E2 w0 m k o S a kn := by
  intro w hw hkn K hK
  rw [if_neg (by rw [hdp]; simp [hk])] at hw
  simp only [if_neg hk] at hK
  exact h w hw hkn K hK
theorem obl_early {k : Nat} {o : Oper} {S : Spec} {a : Act} {kn : World → Prop} (hk : k ≠ m) (hdp : dep ops m k = true) (h : ∀ w, E1 w0 w → kn w → ∀ K : Act → World → Prop, (∀ v w', E1 w w' → S.holds v w' → K (a.put o.dst v) w') → wpList P ops (onlyK K) [o] a w) : Obl P ops E1 E2 w0 m k o S a kn := by
  intro w hw hkn K hK
  rw [if_pos (.inr hdp)] at hw
  simp only [if_neg hk] at hK
  exact h w hw hkn K hK
theorem obl_loud {o : Oper} {S : Spec} {a : Act} {kn : World → Prop} (h : ∀ w, E1 w0 w → kn w → ∀ K : Act → World → Prop, (∀ v w', E2 w w' → S.holds v w' → K (a.put o.dst v) w') → wpList P ops (onlyK K) [o] a w) : Obl P ops E1 E2 w0 m m o S a kn := by
  intro w hw hkn K hK
  rw [if_pos (.inl rfl)] at hw
  simp only [if_true] at hK
  exact h w hw hkn K hK
theorem region2 {id : Nat} {Q : Exit → Act → World → Prop} {a : Act} {w : World} {l : List Oper} (n m : Nat) (E1 E2 : World → World → Prop) (Ss : List Spec) (hm : P.follows .mixedOrders = true) (hp : Pre E1 E2) (hr : E1 w.drew w.drew)
    (hchk : (looksOk l.toArray (Region.before l.toArray) && backOk l.toArray && tailOk l.toArray (Region.before l.toArray) (l.take n).length && Region.noSelect l.toArray) = true)
    (hdst : (l.take n).all (fun o => o.dst.any fun d => decide (d < a.tmps.size)) = true) (hl : (l.take n).length = Ss.length) (hst : Stab2 E1 E2 m 0 Ss)
    (h : wpMono P l.toArray E1 E2 w.drew m (wpList P l.toArray Q (l.drop n)) [] 0 (l.take n) Ss a) : (Code.region id l.toArray true).wp P Q a w :=
  wp_region_mono n E1 E2 m Ss hm hp hr hchk hdst hl (fun j R v w w' hj hR hE => Stab2.of hst j R v w w' hj hR (by simpa using hE)) h
end

#print axioms region1
#print axioms region2
end Go.Proofs.Ytjodgbabfhcilaa.Mono3

/- Plain laws on the bytes of numbers. No program. -/
namespace Go.Proofs.Ytjodgbabfhcilaa

/-- big-endian, k bytes -/
def be : Nat → Nat → List Int
  | 0, _ => []
  | k + 1, n => ((n / 256 ^ k % 256 : Nat) : Int) :: be k n
/-- how many bytes -/
def numK (n : Nat) : Nat := (Lib.bitLen n + 7) / 8
def numB (n : Nat) : List Int := (numK n : Int) :: be (numK n) n
theorem be_len : ∀ k n, (be k n).length = k
  | 0, _ => rfl
  | k + 1, n => by simp [be, be_len k n]
theorem be_get : ∀ (k n j : Nat), j < k → (be k n)[j]? = some ((n / 256 ^ (k - 1 - j) % 256 : Nat) : Int)
  | k + 1, n, 0, _ => by simp [be]
  | k + 1, n, j + 1, h => by
    simp only [be, List.getElem?_cons_succ]
    rw [be_get k n j (by omega)]
    simp only [show k - 1 - j = k + 1 - 1 - (j + 1) by omega]
theorem be_take (k n j : Nat) (h : j < k) : (be k n).take (j + 1) = (be k n).take j ++ [((n / 256 ^ (k - 1 - j) % 256 : Nat) : Int)] := by
  rw [List.take_add_one, be_get k n j h]; rfl

theorem bitLen_le (n : Nat) : Lib.bitLen n ≤ 64 := by
  have h : ∀ f x, Lib.bitLenAux f x ≤ f := by
    intro f
    induction f with
    | zero => intro x; simp [Lib.bitLenAux]
    | succ f ih => intro x; unfold Lib.bitLenAux; split; omega; have := ih (x / 2); omega
  exact h 64 n
theorem numK_le (n : Nat) : numK n ≤ 8 := by have := bitLen_le n; unfold numK; omega
theorem numB_len (n : Nat) : (numB n).length = numK n + 1 := by simp [numB, be_len]

theorem shr_byte (n k j : Nat) (h : j < k) : (n : Int) / 2 ^ (8 * k - 8 - 8 * j) % 256 = ((n / 256 ^ (k - 1 - j) % 256 : Nat) : Int) := by
  rw [show 8 * k - 8 - 8 * j = 8 * (k - 1 - j) by omega]
  have : (256 : Nat) ^ (k - 1 - j) = 2 ^ (8 * (k - 1 - j)) := by rw [show (256 : Nat) = 2 ^ 8 from rfl, ← Nat.pow_mul]
  rw [this]
  simp

/-- little-endian, k bytes -/
def le : Nat → Nat → List Int
  | 0, _ => []
  | k + 1, n => le k n ++ [((n / 256 ^ k % 256 : Nat) : Int)]
theorem le_len : ∀ k n, (le k n).length = k
  | 0, _ => rfl
  | k + 1, n => by simp [le, le_len k n]
theorem be_le : ∀ k n, be k n = (le k n).reverse
  | 0, _ => rfl
  | k + 1, n => by simp [be, le, be_le k n]
theorem le_get : ∀ (k n j : Nat), j < k → (le k n)[j]? = some ((n / 256 ^ j % 256 : Nat) : Int)
  | k + 1, n, j, h => by
    rw [le, List.getElem?_append, le_len]
    by_cases hj : j < k
    · rw [if_pos hj, le_get k n j hj]
    · obtain rfl : j = k := by omega
      simp
theorem le_getD (k n j : Nat) (h : j < k) : (le k n).getD j 0 = ((n / 256 ^ j % 256 : Nat) : Int) := by
  simp [List.getD, le_get k n j h]

theorem bitLen_pos (n : Nat) (h : n ≠ 0) (hn : n < 2 ^ 64) : 1 ≤ Lib.bitLen n := by
  rw [Lib.bitLen_half n h hn]; omega
theorem numK_zero : numK 0 = 0 := by decide
theorem numK_rec (n : Nat) (h : n ≠ 0) (hn : n < 2 ^ 64) : numK n = numK (n / 256) + 1 := by
  unfold numK
  by_cases h8 : 256 ≤ n
  · rw [Lib.bitLen_shift8 n h8 (by omega)]; omega
  · have h1 := bitLen_pos n h hn
    have h2 := Lib.bitLen_le n 8 (by omega) (by omega)
    rw [show n / 256 = 0 by omega]
    have : Lib.bitLen 0 = 0 := by decide
    omega
theorem numK_div : ∀ (j n : Nat), n < 2 ^ 64 → numK (n / 256 ^ j) = numK n - j
  | 0, n, _ => by simp
  | j + 1, n, h => by
    rw [Nat.pow_succ, ← Nat.div_div_eq_div_mul]
    have hd : n / 256 ^ j < 2 ^ 64 := Nat.lt_of_le_of_lt (Nat.div_le_self _ _) h
    have ih := numK_div j n h
    by_cases h0 : n / 256 ^ j = 0
    · rw [h0] at ih ⊢
      rw [numK_zero] at ih
      rw [Nat.zero_div, numK_zero]; omega
    · have := numK_rec _ h0 hd
      omega
theorem div_zero_iff (n j : Nat) (h : n < 2 ^ 64) : n / 256 ^ j = 0 ↔ numK n ≤ j := by
  have hd : n / 256 ^ j < 2 ^ 64 := Nat.lt_of_le_of_lt (Nat.div_le_self _ _) h
  have ih := numK_div j n h
  constructor
  · intro h0; rw [h0, numK_zero] at ih; omega
  · intro hj
    by_cases h0 : n / 256 ^ j = 0
    · exact h0
    · have := numK_rec _ h0 hd; omega
theorem lt_pow_numK (n : Nat) (h : n < 2 ^ 64) : n < 256 ^ numK n := by
  have := (div_zero_iff n (numK n) h).2 (Nat.le_refl _)
  exact (Nat.div_eq_zero_iff_lt (Nat.pow_pos (by decide))).1 this

theorem be_bound : ∀ k n, ∀ x ∈ be k n, 0 ≤ x ∧ x ≤ 255
  | k + 1, n, x, h => by
    simp only [be, List.mem_cons] at h
    rcases h with rfl | h
    · omega
    · exact be_bound k n x h
theorem numB_bound (n : Nat) : ∀ x ∈ numB n, 0 ≤ x ∧ x ≤ 255 := by
  intro x h
  simp only [numB, List.mem_cons] at h
  rcases h with rfl | h
  · have := numK_le n; omega
  · exact be_bound _ _ x h

/-- the number that bytes are, the highest first -/
def val (xs : List Int) : Nat := xs.foldl (fun n x => n * 256 + x.toNat) 0
theorem val_snoc (xs : List Int) (x : Int) : val (xs ++ [x]) = val xs * 256 + x.toNat := by simp [val]
theorem val_nil : val [] = 0 := rfl
theorem val_be : ∀ k n j, j ≤ k → val ((be k n).take j) = n / 256 ^ (k - j) % 256 ^ j
  | k, n, 0, _ => by simp [val, Nat.mod_one]
  | k, n, j + 1, h => by
    rw [be_take k n j (by omega), val_snoc, val_be k n j (by omega)]
    have e : n / 256 ^ (k - j) = n / 256 ^ (k - (j + 1)) / 256 := by
      rw [Nat.div_div_eq_div_mul, ← Nat.pow_succ, show (k - (j + 1)).succ = k - j by omega]
    rw [e, show k - 1 - j = k - (j + 1) by omega]
    generalize n / 256 ^ (k - (j + 1)) = m
    simp only [Int.toNat_natCast]
    rw [Nat.pow_succ, Nat.mul_comm (256 ^ j) 256, Nat.mod_mul]
    omega
theorem val_be_all (n : Nat) (h : n < 2 ^ 64) : val (be (numK n) n) = n := by
  have := val_be (numK n) n (numK n) (Nat.le_refl _)
  rw [List.take_of_length_le (by rw [be_len]; exact Nat.le_refl _), Nat.sub_self, Nat.pow_zero, Nat.div_one, Nat.mod_eq_of_lt (lt_pow_numK n h)] at this
  exact this
theorem be_head (n : Nat) (h : n ≠ 0) (hn : n < 2 ^ 64) : ∃ x r, be (numK n) n = x :: r ∧ x ≠ 0 := by
  have h1 := numK_rec n h hn
  rw [h1]
  refine ⟨_, _, rfl, ?_⟩
  have h2 : ¬ n / 256 ^ numK (n / 256) = 0 := by rw [div_zero_iff n _ hn]; omega
  have h3 := lt_pow_numK n hn
  rw [h1, Nat.pow_succ, Nat.mul_comm] at h3
  have : n / 256 ^ numK (n / 256) < 256 := by
    rw [Nat.div_lt_iff_lt_mul (Nat.pow_pos (by decide))]; exact h3
  generalize n / 256 ^ numK (n / 256) = q at *
  omega
end Go.Proofs.Ytjodgbabfhcilaa

/-
  Contracts of library functions at this program, laid by the kit's lay-shelf and lay-plain.
-/
namespace Go.Proofs
open Go.Shelf
def Try.lays129_ren : Go.Shelf.Ren := ⟨fun | 129 => 82 | n => n, fun | 53 => 29 | 3 => 3 | 4 => 4 | 46 => 35 | 5 => 5 | 9 => 9 | n => n, fun | n => n⟩
theorem Try.lays129 : Go.Proofs.Lays.n129 Try.prog Try.lays129_ren := {
  mixed := by kernel_rfl
  f129 := Try.func82.trans (congrArg some (by kernel_rfl))
  t3 := Try.underlying3
  a3 := Try.isAgg3
  z3 := Try.sizeOf3
  v3 := Try.zeroValue3
  t4 := Try.underlying4
  a4 := Try.isAgg4
  z4 := Try.sizeOf4
  v4 := Try.zeroValue4
  t5 := Try.underlying5
  a5 := Try.isAgg5
  z5 := Try.sizeOf5
  v5 := Try.zeroValue5
  t9 := Try.underlying9
  a9 := Try.isAgg9
  z9 := Try.sizeOf9
  v9 := Try.zeroValue9
  t46 := Try.underlying35
  a46 := Try.isAgg35
  z46 := Try.sizeOf35
  v46 := Try.zeroValue35
  t53 := Try.underlying29
  a53 := Try.isAgg29
  z53 := Try.sizeOf29
  v53 := Try.zeroValue29 }
/-- bits.Len64: "Len64 returns the minimum number of bits required to represent x; the result is 0 for x == 0.": IT RETURNS 'Lib.bitLen x'; the world is as it was. ('h0', 'h1': x is a uint64.) (LAID: no walk: one application.) -/
theorem Try.bits_Len64 (x : Int) (w : World) (h0 : 0 ≤ x) (h1 : x ≤ 18446744073709551615) :
    Calls Try.prog 82 #[.int .u64 x] w fun e w' => e = .returned (.int .i64 (Lib.bitLen x.toNat)) ∧ w' = w := Any.bits_Len64 Try.lays129 x w h0 h1
def Try.lays115_ren : Go.Shelf.Ren := ⟨fun | 115 => 49 | n => n, fun | 37 => 32 | 4 => 4 | 9 => 9 | 5 => 5 | n => n, fun | n => n⟩
theorem Try.lays115 : Go.Proofs.Lays.n115 Try.prog Try.lays115_ren := {
  mixed := by kernel_rfl
  f115 := Try.func49.trans (congrArg some (by kernel_rfl))
  t4 := Try.underlying4
  a4 := Try.isAgg4
  z4 := Try.sizeOf4
  v4 := Try.zeroValue4
  t9 := Try.underlying9
  a9 := Try.isAgg9
  z9 := Try.sizeOf9
  v9 := Try.zeroValue9
  t37 := Try.underlying32
  a37 := Try.isAgg32
  z37 := Try.sizeOf32
  v37 := Try.zeroValue32 }
open Go.Proofs Go.RowKit Go.Lib in
/-- bytes.Equal, each argument with what 'string(..)' of it gives. (LAID: no walk: one application.) -/
theorem Try.bytes_Equal_strs (v1 v2 : Value) (t1 t2 : ByteArray) (w : World) (h1 : (convert 32 9 v1).run Try.prog w = .ok (.string t1) w) (h2 : (convert 32 9 v2).run Try.prog w = .ok (.string t2) w) :
    Calls Try.prog 49 #[v1, v2] w fun e w' => e = .returned (.bool (t1.toList == t2.toList)) ∧ w' = w := Any.bytes_Equal_strs Try.lays115 v1 v2 t1 t2 w h1 h2
def Try.laysnb115_ren : Go.Shelf.Ren := ⟨fun | 115 => 49 | n => n, fun | 37 => 32 | 4 => 4 | 9 => 9 | 5 => 5 | n => n, fun | n => n⟩
theorem Try.laysnb115 : Go.Proofs.Lays.nb115 Try.prog Try.laysnb115_ren := {
  mixed := by kernel_rfl
  f115 := Try.func49.trans (congrArg some (by kernel_rfl))
  t4 := Try.underlying4
  a4 := Try.isAgg4
  z4 := Try.sizeOf4
  v4 := Try.zeroValue4
  t9 := Try.underlying9
  a9 := Try.isAgg9
  z9 := Try.sizeOf9
  v9 := Try.zeroValue9
  t37 := Try.underlying32
  a37 := Try.isAgg32
  z37 := Try.sizeOf32
  v37 := Try.zeroValue32
  t5 := Try.underlying5
  a5 := Try.isAgg5
  z5 := Try.sizeOf5
  v5 := Try.zeroValue5 }
/-- bytes.Equal: WHOLE. (LAID: no walk: one application.) -/
theorem Try.bytes_Equal_all (p1 p2 : Option Addr) (n c m d : Nat) (xs ys : List Int) (w : World) (hx : xs.length = n) (hy : ys.length = m) (h1 : Lib.BytesIn w p1 n xs) (h2 : Lib.BytesIn w p2 m ys) :
    Calls Try.prog 49 #[.slice p1 n c, .slice p2 m d] w fun e w' => e = .returned (.bool (Lib.bytesOf xs == Lib.bytesOf ys)) ∧ w' = w := Any.bytes_Equal_all Try.laysnb115 p1 p2 n c m d xs ys w hx hy h1 h2
/-- bytes.Equal: "Equal reports whether a and b are the same length and contain the same bytes. A nil argument is equivalent to an empty slice.": IT RETURNS 'the bytes of the one == the bytes of the other'; the world is as it was. THE TWO ARGUMENTS COME AS WHATEVER VALUES, each with the one fact that the walk wants of it: what 'string(..)' of it gives: for a slice whose cells you know: 'run_convert_bytes_arg' (Derived/Laws/BytesArg.lean) hands that fact; for a nil one: 'run_convert_bytes_nil' (with xs := []). (LAID: no walk: one application.) -/
theorem Try.bytes_Equal (v1 v2 : Value) (xs ys : List Int) (w : World) (h1 : (convert 32 9 v1).run Try.prog w = .ok (.string (strOfNums xs)) w) (h2 : (convert 32 9 v2).run Try.prog w = .ok (.string (strOfNums ys)) w) :
    Calls Try.prog 49 #[v1, v2] w fun e w' => e = .returned (.bool (Lib.bytesOf xs == Lib.bytesOf ys)) ∧ w' = w := Any.bytes_Equal Try.lays115 v1 v2 xs ys w h1 h2
end Go.Proofs

/- Plain words for entries of the log. No program. -/
namespace Go.Proofs.Ytjodgbabfhcilaa

structure Ent where
  term : Int
  kind : Int
  client : Int
  seq : Int
  data : List Int
  members : List Int

/-- Strictly rising from 'last' on, none above 7; the last of all above 0. -/
def memGo (last : Int) : List Int → Bool
  | [] => decide (0 < last)
  | x :: r => !(decide (x ≤ last) || decide (7 < x)) && memGo x r
def membersB (xs : List Int) : Bool := memGo 0 xs

def formedB (x : Ent) : Bool :=
  decide (1 ≤ x.term ∧ x.term ≤ 4611686018427387904) &&
  (if x.kind = 2 then decide (x.data.length ≤ 64) && decide (x.members.length = 0)
   else if x.kind = 1 then decide (x.client = 0) && decide (x.seq = 0) && decide (x.data.length = 0) && decide (x.members.length = 0)
   else if x.kind = 3 then decide (x.client = 0) && decide (x.seq = 0) && decide (x.data.length = 0) && membersB x.members
   else false)

/-- The bytes of a formed entry. -/
def putB (x : Ent) : List Int :=
  numB x.term.toNat ++ [x.kind % 256] ++
  (if x.kind = 2 then numB x.client.toNat ++ numB x.seq.toNat ++ (numB x.data.length ++ x.data)
   else if x.kind = 3 then numB x.members.length ++ x.members.flatMap (fun m => numB m.toNat)
   else [])

theorem memGo_len : ∀ (xs : List Int) (last : Int), 0 ≤ last → memGo last xs = true → last + xs.length ≤ 7 ∨ xs = []
  | [], _, _, _ => .inr rfl
  | x :: r, last, h0, h => by
    simp only [memGo, Bool.and_eq_true, Bool.not_eq_true', Bool.or_eq_false_iff, decide_eq_false_iff_not] at h
    left
    rcases memGo_len r x (by omega) h.2 with h1 | h1
    · simp only [List.length_cons]; omega
    · subst h1; simp only [List.length_cons, List.length_nil]; omega
theorem formed_cases (x : Ent) (h : formedB x = true) : (1 ≤ x.term ∧ x.term ≤ 4611686018427387904) ∧
    ((x.kind = 1 ∧ x.client = 0 ∧ x.seq = 0 ∧ x.data = [] ∧ x.members = []) ∨ (x.kind = 2 ∧ x.data.length ≤ 64 ∧ x.members = []) ∨ (x.kind = 3 ∧ x.client = 0 ∧ x.seq = 0 ∧ x.data = [] ∧ membersB x.members = true)) := by
  simp only [formedB, Bool.and_eq_true, decide_eq_true_eq] at h
  refine ⟨h.1, ?_⟩
  have h2 := h.2
  by_cases k2 : x.kind = 2
  · rw [if_pos k2] at h2; simp at h2; exact .inr (.inl ⟨k2, h2⟩)
  · rw [if_neg k2] at h2
    by_cases k1 : x.kind = 1
    · rw [if_pos k1] at h2; simp at h2; exact .inl ⟨k1, h2.1.1.1, h2.1.1.2, h2.1.2, h2.2⟩
    · rw [if_neg k1] at h2
      by_cases k3 : x.kind = 3
      · rw [if_pos k3] at h2; simp at h2; exact .inr (.inr ⟨k3, h2.1.1.1, h2.1.1.2, h2.1.2, h2.2⟩)
      · rw [if_neg k3] at h2; cases h2
end Go.Proofs.Ytjodgbabfhcilaa

/- Plain: numbers and texts read from bytes. No program. -/
namespace Go.Proofs.Ytjodgbabfhcilaa

/-- k digits; the first of all may not be 0. -/
def rdDig : Nat → Bool → Nat → List Int → Except Int (Nat × List Int)
  | 0, _, n, bs => .ok (n, bs)
  | _ + 1, _, _, [] => .error 2
  | k + 1, f, n, c :: r => if f && decide (c = 0) then .error 3 else rdDig k false (n * 256 + c.toNat) r
def rdNum : List Int → Except Int (Int × List Int)
  | [] => .error 2
  | k :: r => if 8 < k then .error 3 else match rdDig k.toNat true 0 r with
    | .error e => .error e
    | .ok (n, r') => .ok ((n : Int), r')
def rdByte : List Int → Except Int (Int × List Int)
  | [] => .error 2
  | c :: r => .ok (c, r)
def rdRaw (most : Int) (bs : List Int) : Except Int (List Int × List Int) :=
  match rdNum bs with
  | .error e => .error e
  | .ok (n, r) => if max most 0 < n then .error 4 else if (r.length : Int) < n then .error 2 else .ok (r.take n.toNat, r.drop n.toNat)

theorem rdDig_go : ∀ (xs r : List Int) (n : Nat), rdDig xs.length false n (xs ++ r) = .ok (xs.foldl (fun n x => n * 256 + x.toNat) n, r)
  | [], r, n => by simp [rdDig]
  | x :: xs, r, n => by simp [rdDig, rdDig_go xs r]
theorem rdDig_all (xs r : List Int) (h : ∀ x s, xs = x :: s → x ≠ 0) : rdDig xs.length true 0 (xs ++ r) = .ok (val xs, r) := by
  cases xs with
  | nil => simp [rdDig, val]
  | cons x s =>
    have hx := h x s rfl
    simp only [List.length_cons, List.cons_append, rdDig, Bool.true_and, decide_eq_true_eq, if_neg hx]
    rw [rdDig_go]; simp [val]
theorem rdNum_numB (n : Nat) (h : n < 2 ^ 64) (r : List Int) : rdNum (numB n ++ r) = .ok ((n : Int), r) := by
  have h8 := numK_le n
  have hd := rdDig_all (be (numK n) n) r (fun x s hx => by
    by_cases h0 : n = 0
    · subst h0; rw [numK_zero] at hx; simp [be] at hx
    · obtain ⟨y, r', hy, hne⟩ := be_head n h0 h
      rw [hy] at hx; cases hx; exact hne)
  rw [be_len, val_be_all n h] at hd
  simp only [numB, List.cons_append, rdNum]
  rw [if_neg (by omega), Int.toNat_natCast, hd]
theorem rdRaw_put (d r : List Int) (most : Int) (h : (d.length : Int) ≤ most) (hl : d.length < 2 ^ 64) : rdRaw most (numB d.length ++ d ++ r) = .ok (d, r) := by
  unfold rdRaw
  rw [List.append_assoc, rdNum_numB _ hl]
  simp only []
  rw [if_neg (by omega), if_neg (by simp; omega)]
  simp

/-- cut short -/
theorem rdDig_short : ∀ (xs : List Int) (k n : Nat), xs.length < k → rdDig k false n xs = .error 2
  | [], k + 1, n, _ => by simp [rdDig]
  | x :: xs, k + 1, n, h => by simp only [rdDig, Bool.false_and, Bool.false_eq_true, if_false]; exact rdDig_short xs k _ (by simpa using h)
theorem rdNum_cut (n : Nat) (h : n < 2 ^ 64) (j : Nat) (hj : j < (numB n).length) : rdNum ((numB n).take j) = .error 2 := by
  have h8 := numK_le n
  rw [numB_len] at hj
  cases j with
  | zero => simp [rdNum]
  | succ j =>
    simp only [numB, List.take_succ_cons, rdNum]
    rw [if_neg (by omega), Int.toNat_natCast]
    by_cases h0 : n = 0
    · subst h0; rw [numK_zero] at hj; omega
    · obtain ⟨y, r', hy, hne⟩ := be_head n h0 h
      have hl := be_len (numK n) n
      rw [hy] at hl ⊢
      simp only [List.length_cons] at hl
      cases j with
      | zero => rw [← hl]; simp [rdDig]
      | succ j =>
        rw [← hl]
        simp only [List.take_succ_cons, rdDig, Bool.true_and, decide_eq_true_eq, if_neg hne]
        rw [rdDig_short _ _ _ (by simp; omega)]

/-- what was read is just its bytes -/
theorem val_lt (ds : List Int) (hb : ∀ x ∈ ds, 0 ≤ x ∧ x ≤ 255) : val ds < 256 ^ ds.length := by
  have h : ∀ (ds : List Int) (n k : Nat), (∀ x ∈ ds, 0 ≤ x ∧ x ≤ 255) → n < 256 ^ k → ds.foldl (fun n x => n * 256 + x.toNat) n < 256 ^ (k + ds.length) := by
    intro ds
    induction ds with
    | nil => intro n k _ h; simpa using h
    | cons x ds ih =>
      intro n k hb h
      have hx := hb x (by simp)
      have := ih (n * 256 + x.toNat) (k + 1) (fun y hy => hb y (by simp [hy])) (by rw [Nat.pow_succ]; omega)
      simpa [Nat.add_assoc, Nat.add_comm 1] using this
  have := h ds 0 0 hb (by simp)
  simpa [val] using this
theorem val_ge (x : Int) (ds : List Int) (hx : 1 ≤ x) : 256 ^ ds.length ≤ val (x :: ds) := by
  have h : ∀ (ds : List Int) (n k : Nat), 256 ^ k ≤ n → 256 ^ (k + ds.length) ≤ ds.foldl (fun n x => n * 256 + x.toNat) n := by
    intro ds
    induction ds with
    | nil => intro n k h; simpa using h
    | cons y ds ih =>
      intro n k h
      have := ih (n * 256 + y.toNat) (k + 1) (by rw [Nat.pow_succ]; omega)
      simpa [Nat.add_assoc, Nat.add_comm 1] using this
  have := h ds (0 * 256 + x.toNat) 0 (by simp; omega)
  simpa [val] using this
theorem be_val : ∀ (k : Nat) (ds : List Int), ds.length = k → (∀ x ∈ ds, 0 ≤ x ∧ x ≤ 255) → be k (val ds) = ds := by
  intro k ds hl hb
  apply List.ext_getElem?
  intro j
  by_cases hj : j < k
  · rw [be_get k _ j hj]
    have hv : ∀ (ds : List Int) (j : Nat), j < ds.length → (∀ x ∈ ds, 0 ≤ x ∧ x ≤ 255) → ds[j]? = some ((val ds / 256 ^ (ds.length - 1 - j) % 256 : Nat) : Int) := by
      intro ds j hj hb
      have e : ds = ds.take (j + 1) ++ ds.drop (j + 1) := (List.take_append_drop _ _).symm
      have hval : ∀ (a b : List Int), (∀ x ∈ b, 0 ≤ x ∧ x ≤ 255) → val (a ++ b) / 256 ^ b.length = val a := by
        intro a b hb
        have hx : val (a ++ b) = val a * 256 ^ b.length + val b := by
          have g : ∀ (b : List Int) (n : Nat), b.foldl (fun n x => n * 256 + x.toNat) n = n * 256 ^ b.length + val b := by
            intro b
            induction b with
            | nil => intro n; simp [val]
            | cons y b ih =>
              intro n
              rw [List.foldl_cons, ih]
              have : val (y :: b) = (0 * 256 + y.toNat) * 256 ^ b.length + val b := by unfold val; rw [List.foldl_cons, ih]; rfl
              rw [this, List.length_cons, Nat.pow_succ]
              rw [Nat.add_mul, Nat.mul_assoc, Nat.mul_comm 256]; simp [Nat.add_assoc]
          unfold val
          rw [List.foldl_append, g]; rfl
        rw [hx, Nat.mul_comm, Nat.mul_add_div (Nat.pow_pos (by decide)), Nat.div_eq_of_lt (val_lt b hb), Nat.add_zero]
      have h1 := hval (ds.take (j + 1)) (ds.drop (j + 1)) (fun x hx => hb x (List.mem_of_mem_drop hx))
      rw [List.take_append_drop] at h1
      rw [show ds.length - 1 - j = (ds.drop (j + 1)).length by simp; omega, h1]
      have h2 : ds.take (j + 1) = ds.take j ++ [ds[j]] := by rw [List.take_add_one]; simp [hj]
      rw [h2, val_snoc]
      have hx := hb ds[j] (by simp)
      rw [List.getElem?_eq_getElem hj]
      congr 1
      omega
    have := hv ds j (by omega) hb
    rw [this, hl]
  · rw [List.getElem?_eq_none (by rw [be_len]; omega), List.getElem?_eq_none (by omega)]
theorem numK_val (x : Int) (ds : List Int) (hx : 1 ≤ x) (hb : ∀ y ∈ x :: ds, 0 ≤ y ∧ y ≤ 255) (hl : ds.length < 8) : numK (val (x :: ds)) = ds.length + 1 := by
  have h1 := val_lt (x :: ds) hb
  have h2 := val_ge x ds hx
  rw [List.length_cons] at h1
  have hp : (256 : Nat) ^ (ds.length + 1) ≤ 256 ^ 8 := Nat.pow_le_pow_right (by decide) (by omega)
  have h64 : val (x :: ds) < 2 ^ 64 := by have : (256 : Nat) ^ 8 = 2 ^ 64 := by decide
                                          omega
  have a := (div_zero_iff (val (x :: ds)) (ds.length + 1) h64).1 (Nat.div_eq_of_lt h1)
  have b : ¬ numK (val (x :: ds)) ≤ ds.length := fun h => by
    have := (div_zero_iff (val (x :: ds)) ds.length h64).2 h
    rw [Nat.div_eq_zero_iff] at this
    rcases this with h | h
    · have := Nat.pow_pos (n := ds.length) (show 0 < 256 by decide); omega
    · omega
  omega
theorem rdDig_inv : ∀ (k : Nat) (n m : Nat) (bs r : List Int), rdDig k false n bs = .ok (m, r) → ∃ ds, bs = ds ++ r ∧ ds.length = k ∧ m = ds.foldl (fun n x => n * 256 + x.toNat) n
  | 0, n, m, bs, r, h => by simp [rdDig] at h; exact ⟨[], by simp [h.2], rfl, by simp [h.1]⟩
  | k + 1, n, m, [], r, h => by simp [rdDig] at h
  | k + 1, n, m, c :: bs, r, h => by
    simp only [rdDig, Bool.false_and, Bool.false_eq_true, if_false] at h
    obtain ⟨ds, h1, h2, h3⟩ := rdDig_inv k _ m bs r h
    exact ⟨c :: ds, by simp [h1], by simp [h2], by simp [h3]⟩
theorem rdNum_inv (bs r : List Int) (n : Int) (hb : ∀ x ∈ bs, 0 ≤ x ∧ x ≤ 255) (h : rdNum bs = .ok (n, r)) : bs = numB n.toNat ++ r ∧ 0 ≤ n ∧ n.toNat < 2 ^ 64 := by
  cases bs with
  | nil => simp [rdNum] at h
  | cons k bs =>
    have hk := hb k (by simp)
    simp only [rdNum] at h
    by_cases h8 : 8 < k
    · rw [if_pos h8] at h; cases h
    · rw [if_neg h8] at h
      cases hd : rdDig k.toNat true 0 bs with
      | error e => rw [hd] at h; cases h
      | ok p =>
        obtain ⟨m, r'⟩ := p
        rw [hd] at h
        simp only [Except.ok.injEq, Prod.mk.injEq] at h
        obtain ⟨rfl, rfl⟩ := h
        rw [Int.toNat_natCast]
        cases hkn : k.toNat with
        | zero =>
          rw [hkn] at hd
          simp [rdDig] at hd
          obtain ⟨rfl, rfl⟩ := hd
          refine ⟨?_, by omega, by omega⟩
          simp [numB, numK_zero, be]; omega
        | succ j =>
          rw [hkn] at hd
          cases bs with
          | nil => simp [rdDig] at hd
          | cons c bs =>
            simp only [rdDig, Bool.true_and, decide_eq_true_eq] at hd
            by_cases hc : c = 0
            · rw [if_pos hc] at hd; cases hd
            · rw [if_neg hc] at hd
              obtain ⟨ds, h1, h2, h3⟩ := rdDig_inv j _ m bs r' hd
              have hcb := hb c (by simp)
              have hdb : ∀ y ∈ c :: ds, 0 ≤ y ∧ y ≤ 255 := fun y hy => hb y (by rw [h1]; simp at hy ⊢; rcases hy with hy | hy; exact .inr (.inl hy); exact .inr (.inr (.inl hy)))
              have hm : m = val (c :: ds) := by rw [h3]; rfl
              have hK := numK_val c ds (by omega) hdb (by omega)
              have hv := be_val (ds.length + 1) (c :: ds) (by simp) hdb
              have hlt := val_lt (c :: ds) hdb
              refine ⟨?_, by omega, ?_⟩
              · rw [hm, numB, hK, hv, h1]
                simp; omega
              · rw [hm]
                have hp : (256 : Nat) ^ (c :: ds).length ≤ 256 ^ 8 := Nat.pow_le_pow_right (by decide) (by simp; omega)
                have : (256 : Nat) ^ 8 = 2 ^ 64 := by decide
                omega
end Go.Proofs.Ytjodgbabfhcilaa

/- Plain: entries read from bytes. No program. -/
namespace Go.Proofs.Ytjodgbabfhcilaa

/-- so many members behind those that were read -/
def rdIds : Nat → List Int → List Int → Except Int (List Int × List Int)
  | 0, acc, bs => .ok (acc, bs)
  | n + 1, acc, bs => match rdNum bs with
    | .error e => .error e
    | .ok (m, r) => if membersB (acc ++ [m]) then rdIds n (acc ++ [m]) r else .error 3

/-- an entry, and what is left -/
def rdEnt (bs : List Int) : Except Int (Ent × List Int) :=
  match rdNum bs with
  | .error e => .error e
  | .ok (t, r) => if t < 1 ∨ 4611686018427387904 < t then .error 3 else match rdByte r with
    | .error e => .error e
    | .ok (k, r) =>
      if k = 1 then .ok (⟨t, 1, 0, 0, [], []⟩, r)
      else if k = 2 then match rdNum r with
        | .error e => .error e
        | .ok (c, r) => match rdNum r with
          | .error e => .error e
          | .ok (s, r) => match rdRaw 64 r with
            | .error e => .error e
            | .ok (d, r) => .ok (⟨t, 2, c, s, d, []⟩, r)
      else if k = 3 then match rdNum r with
        | .error e => .error e
        | .ok (n, r) => if n < 1 ∨ 7 < n then .error 3 else match rdIds n.toNat [] r with
          | .error e => .error e
          | .ok (ms, r) => .ok (⟨t, 3, 0, 0, [], ms⟩, r)
      else .error 3
def getB (bs : List Int) : Except Int Ent :=
  match rdEnt bs with
  | .error e => .error e
  | .ok (x, r) => if r = [] then .ok x else .error 5

/-- the numbers of a formed entry are such that 64 bits hold them -/
structure EntFit (x : Ent) : Prop where
  client : 0 ≤ x.client ∧ x.client.toNat < 2 ^ 64
  seq : 0 ≤ x.seq ∧ x.seq.toNat < 2 ^ 64

theorem memGo_split : ∀ (a b : List Int) (last : Int), 0 ≤ last → memGo last (a ++ b) = true → b ≠ [] → (a = [] ∨ memGo last a = true)
  | [], b, last, _, _, _ => .inl rfl
  | x :: a, b, last, h0, h, hb => by
    right
    simp only [List.cons_append, memGo, Bool.and_eq_true, Bool.not_eq_true', Bool.or_eq_false_iff, decide_eq_false_iff_not] at h ⊢
    refine ⟨h.1, ?_⟩
    rcases memGo_split a b x (by omega) h.2 hb with h1 | h1
    · subst h1; simp [memGo]; omega
    · exact h1
theorem memGo_mem : ∀ (a : List Int) (last : Int), 0 ≤ last → memGo last a = true → ∀ x ∈ a, 1 ≤ x ∧ x ≤ 7
  | x :: a, last, h0, h, y, hy => by
    simp only [memGo, Bool.and_eq_true, Bool.not_eq_true', Bool.or_eq_false_iff, decide_eq_false_iff_not] at h
    rcases List.mem_cons.1 hy with rfl | hy
    · omega
    · exact memGo_mem a x (by omega) h.2 y hy

theorem rdIds_put : ∀ (ms acc r : List Int), membersB (acc ++ ms) = true → rdIds ms.length acc (ms.flatMap (fun m => numB m.toNat) ++ r) = .ok (acc ++ ms, r)
  | [], acc, r, _ => by simp [rdIds]
  | m :: ms, acc, r, h => by
    have hm := memGo_mem (acc ++ m :: ms) 0 (by omega) h m (by simp)
    simp only [List.length_cons, rdIds, List.flatMap_cons, List.append_assoc]
    rw [rdNum_numB _ (by omega)]
    have e : ((m.toNat : Nat) : Int) = m := by omega
    simp only [e]
    have h1 : membersB (acc ++ [m]) = true := by
      cases hms : ms with
      | nil => rw [hms] at h; exact h
      | cons y ys =>
        have := memGo_split (acc ++ [m]) ms 0 (by omega) (by simpa [membersB] using h) (by rw [hms]; simp)
        rcases this with h2 | h2
        · simp at h2
        · exact h2
    rw [if_pos h1]
    have := rdIds_put ms (acc ++ [m]) r (by simpa using h)
    simpa using this

/-- what was laid is read -/
theorem rdEnt_put (x : Ent) (hf : formedB x = true) (hx : EntFit x) (r : List Int) : rdEnt (putB x ++ r) = .ok (x, r) := by
  obtain ⟨⟨t1, t2⟩, hc⟩ := formed_cases x hf
  obtain ⟨t, k, c, s, d, ms⟩ := x
  simp only at t1 t2 hc
  have ht : t.toNat < 2 ^ 64 := by omega
  have et : ((t.toNat : Nat) : Int) = t := by omega
  unfold putB rdEnt
  simp only [List.append_assoc]
  rw [rdNum_numB _ ht]
  simp only [et]
  rw [if_neg (by omega)]
  simp only [List.cons_append, List.nil_append, rdByte]
  rcases hc with ⟨rfl, rfl, rfl, rfl, rfl⟩ | ⟨rfl, hd, rfl⟩ | ⟨rfl, rfl, rfl, rfl, hm⟩
  · simp
  · obtain ⟨⟨c0, c1⟩, s0, s1⟩ := hx
    simp only at c0 c1 s0 s1
    have ec : ((c.toNat : Nat) : Int) = c := by omega
    have es : ((s.toNat : Nat) : Int) = s := by omega
    simp only [show ((2 : Int) % 256 = 1) = False by simp, show ((2 : Int) % 256 = 2) = True by simp, if_true, if_false, List.append_assoc]
    rw [rdNum_numB _ c1]
    simp only [ec]
    rw [rdNum_numB _ s1]
    simp only [es]
    rw [← List.append_assoc, rdRaw_put d r 64 (by omega) (by omega)]
  · simp only [show ((3 : Int) % 256 = 1) = False by simp, show ((3 : Int) % 256 = 2) = False by simp, show ((3 : Int) % 256 = 3) = True by simp, if_true, if_false]
    simp only [show ((3 : Int) = 2) = False by simp, if_false]
    rcases memGo_len ms 0 (by omega) hm with h | h
    · have hne : 1 ≤ ms.length := by
        cases ms with
        | nil => simp [membersB, memGo] at hm
        | cons y ys => simp
      rw [List.append_assoc, rdNum_numB _ (by omega)]
      simp only []
      rw [if_neg (by omega), Int.toNat_natCast, rdIds_put ms [] r (by simpa using hm)]
      simp
    · subst h; simp [membersB, memGo] at hm
theorem getB_put (x : Ent) (hf : formedB x = true) (hx : EntFit x) : getB (putB x) = .ok x := by
  have := rdEnt_put x hf hx []
  rw [List.append_nil] at this
  simp [getB, this]
theorem putB_inj (x y : Ent) (hf : formedB x = true) (hg : formedB y = true) (hx : EntFit x) (hy : EntFit y) (h : putB x = putB y) : x = y := by
  have a := getB_put x hf hx
  rw [h, getB_put y hg hy] at a
  exact (Except.ok.inj a).symm
/-- with a byte more there is a tail -/
theorem getB_tail (x : Ent) (hf : formedB x = true) (hx : EntFit x) (m : Int) : getB (putB x ++ [m]) = .error 5 := by
  simp [getB, rdEnt_put x hf hx [m]]

theorem rdIds_inv : ∀ (n : Nat) (acc bs ms r : List Int), (∀ x ∈ bs, 0 ≤ x ∧ x ≤ 255) → rdIds n acc bs = .ok (ms, r) → ∃ ns, ms = acc ++ ns ∧ ns.length = n ∧ bs = ns.flatMap (fun m => numB m.toNat) ++ r ∧ (n ≠ 0 → membersB ms = true)
  | 0, acc, bs, ms, r, _, h => by
    simp [rdIds] at h
    exact ⟨[], by simp [h.1], rfl, by simp [h.2], by simp⟩
  | n + 1, acc, bs, ms, r, hb, h => by
    simp only [rdIds] at h
    cases hn : rdNum bs with
    | error e => rw [hn] at h; cases h
    | ok p =>
      obtain ⟨m, r'⟩ := p
      rw [hn] at h
      simp only at h
      by_cases hm : membersB (acc ++ [m]) = true
      · rw [if_pos hm] at h
        obtain ⟨h1, h2, h3⟩ := rdNum_inv bs r' m hb hn
        obtain ⟨ns, g1, g2, g3, g4⟩ := rdIds_inv n (acc ++ [m]) r' ms r (fun x hx => hb x (by rw [h1]; simp [hx])) h
        refine ⟨m :: ns, by simp [g1], by simp [g2], by simp [h1, g3], fun _ => ?_⟩
        cases n with
        | zero =>
          have : ns = [] := List.eq_nil_of_length_eq_zero g2
          rw [g1, this]; simpa using hm
        | succ n => exact g4 (by omega)
      · rw [if_neg hm] at h; cases h

/-- what is read is formed, and the bytes are its own -/
theorem rdEnt_inv (bs r : List Int) (x : Ent) (hb : ∀ y ∈ bs, 0 ≤ y ∧ y ≤ 255) (h : rdEnt bs = .ok (x, r)) : bs = putB x ++ r ∧ formedB x = true ∧ EntFit x := by
  unfold rdEnt at h
  cases h1 : rdNum bs with
  | error e => rw [h1] at h; cases h
  | ok p =>
    obtain ⟨t, r1⟩ := p
    rw [h1] at h
    simp only at h
    obtain ⟨e1, t0, t1⟩ := rdNum_inv bs r1 t hb h1
    have hb1 : ∀ y ∈ r1, 0 ≤ y ∧ y ≤ 255 := fun y hy => hb y (by rw [e1]; simp [hy])
    by_cases ht : t < 1 ∨ 4611686018427387904 < t
    · rw [if_pos ht] at h; cases h
    · rw [if_neg ht] at h
      cases r1 with
      | nil => simp [rdByte] at h
      | cons k r2 =>
        have hb2 : ∀ y ∈ r2, 0 ≤ y ∧ y ≤ 255 := fun y hy => hb1 y (by simp [hy])
        simp only [rdByte] at h
        have htt : decide (1 ≤ t ∧ t ≤ 4611686018427387904) = true := by simp; omega
        by_cases k1 : k = 1
        · subst k1
          simp only [if_true, Except.ok.injEq, Prod.mk.injEq] at h
          obtain ⟨rfl, rfl⟩ := h
          refine ⟨by rw [e1]; simp [putB], by simp only [formedB, htt]; simp, ⟨by simp, by simp⟩⟩
        · rw [if_neg k1] at h
          by_cases k2 : k = 2
          · subst k2
            simp only [if_true] at h
            cases h3 : rdNum r2 with
            | error e => rw [h3] at h; cases h
            | ok p =>
              obtain ⟨c, r3⟩ := p
              rw [h3] at h
              simp only at h
              obtain ⟨e3, c0, c1⟩ := rdNum_inv r2 r3 c hb2 h3
              have hb3 : ∀ y ∈ r3, 0 ≤ y ∧ y ≤ 255 := fun y hy => hb2 y (by rw [e3]; simp [hy])
              cases h4 : rdNum r3 with
              | error e => rw [h4] at h; cases h
              | ok p =>
                obtain ⟨s, r4⟩ := p
                rw [h4] at h
                simp only at h
                obtain ⟨e4, s0, s1⟩ := rdNum_inv r3 r4 s hb3 h4
                have hb4 : ∀ y ∈ r4, 0 ≤ y ∧ y ≤ 255 := fun y hy => hb3 y (by rw [e4]; simp [hy])
                cases h5 : rdRaw 64 r4 with
                | error e => rw [h5] at h; cases h
                | ok p =>
                  obtain ⟨d, r5⟩ := p
                  rw [h5] at h
                  simp only [Except.ok.injEq, Prod.mk.injEq] at h
                  obtain ⟨rfl, rfl⟩ := h
                  unfold rdRaw at h5
                  cases h6 : rdNum r4 with
                  | error e => rw [h6] at h5; cases h5
                  | ok p =>
                    obtain ⟨n, r6⟩ := p
                    rw [h6] at h5
                    simp only at h5
                    obtain ⟨e6, n0, n1⟩ := rdNum_inv r4 r6 n hb4 h6
                    by_cases hn : max 64 0 < n
                    · rw [if_pos hn] at h5; cases h5
                    · rw [if_neg hn] at h5
                      by_cases hl : (r6.length : Int) < n
                      · rw [if_pos hl] at h5; cases h5
                      · rw [if_neg hl] at h5
                        simp only [Except.ok.injEq, Prod.mk.injEq] at h5
                        obtain ⟨rfl, rfl⟩ := h5
                        have hlen : (r6.take n.toNat).length = n.toNat := by simp; omega
                        refine ⟨?_, ?_, ⟨⟨c0, c1⟩, s0, s1⟩⟩
                        · rw [e1, e3, e4, e6]
                          simp only [putB, if_true, hlen]
                          simp
                        · simp only [formedB, htt, Bool.true_and, if_true, hlen]
                          simp; omega
          · rw [if_neg k2] at h
            by_cases k3 : k = 3
            · subst k3
              simp only [if_true] at h
              cases h3 : rdNum r2 with
              | error e => rw [h3] at h; cases h
              | ok p =>
                obtain ⟨n, r3⟩ := p
                rw [h3] at h
                simp only at h
                obtain ⟨e3, n0, n1⟩ := rdNum_inv r2 r3 n hb2 h3
                have hb3 : ∀ y ∈ r3, 0 ≤ y ∧ y ≤ 255 := fun y hy => hb2 y (by rw [e3]; simp [hy])
                by_cases hn : n < 1 ∨ 7 < n
                · rw [if_pos hn] at h; cases h
                · rw [if_neg hn] at h
                  cases h4 : rdIds n.toNat [] r3 with
                  | error e => rw [h4] at h; cases h
                  | ok p =>
                    obtain ⟨ms, r4⟩ := p
                    rw [h4] at h
                    simp only [Except.ok.injEq, Prod.mk.injEq] at h
                    obtain ⟨rfl, rfl⟩ := h
                    obtain ⟨ns, g1, g2, g3, g4⟩ := rdIds_inv n.toNat [] r3 ms r4 hb3 h4
                    rw [List.nil_append] at g1
                    subst g1
                    refine ⟨?_, ?_, ⟨by simp, by simp⟩⟩
                    · rw [e1, e3, g3]
                      simp only [putB, g2]
                      simp
                    · simp only [formedB, htt]
                      simp [g4 (by omega)]
            · rw [if_neg k3] at h; cases h
theorem getB_inv (bs : List Int) (x : Ent) (hb : ∀ y ∈ bs, 0 ≤ y ∧ y ≤ 255) (h : getB bs = .ok x) : putB x = bs ∧ formedB x = true ∧ EntFit x := by
  unfold getB at h
  cases h1 : rdEnt bs with
  | error e => rw [h1] at h; cases h
  | ok p =>
    obtain ⟨y, r⟩ := p
    rw [h1] at h
    simp only at h
    by_cases hr : r = []
    · rw [if_pos hr] at h
      cases h
      obtain ⟨e, f, g⟩ := rdEnt_inv bs r x hb h1
      exact ⟨by rw [e, hr, List.append_nil], f, g⟩
    · rw [if_neg hr] at h; cases h
end Go.Proofs.Ytjodgbabfhcilaa

/- Plain: an entry's bytes, cut off. No program. -/
namespace Go.Proofs.Ytjodgbabfhcilaa

theorem rdNum_take (n : Nat) (h : n < 2 ^ 64) (r : List Int) (j : Nat) : rdNum ((numB n ++ r).take j) = if j < (numB n).length then .error 2 else .ok ((n : Int), r.take (j - (numB n).length)) := by
  rw [List.take_append]
  split
  · rename_i hj
    rw [show j - (numB n).length = 0 by omega]
    simp only [List.take_zero, List.append_nil]
    exact rdNum_cut n h j hj
  · rename_i hj
    rw [List.take_of_length_le (by omega)]
    exact rdNum_numB n h _
theorem rdRaw_cut (d : List Int) (j : Nat) (most : Int) (h : (d.length : Int) ≤ most) (hl : d.length < 2 ^ 64) (hj : j < (numB d.length ++ d).length) : rdRaw most ((numB d.length ++ d).take j) = .error 2 := by
  unfold rdRaw
  rw [rdNum_take _ hl]
  simp only [List.length_append] at hj
  split
  · rename_i e he
    split at he
    · cases he; rfl
    · cases he
  · rename_i n r he
    split at he
    · cases he
    · simp only [Except.ok.injEq, Prod.mk.injEq] at he
      obtain ⟨rfl, rfl⟩ := he
      rw [if_neg (by omega), if_pos (by simp; omega)]
theorem rdIds_cut : ∀ (ms acc : List Int) (j : Nat), membersB (acc ++ ms) = true → j < (ms.flatMap (fun m => numB m.toNat)).length → rdIds ms.length acc ((ms.flatMap (fun m => numB m.toNat)).take j) = .error 2
  | [], acc, j, _, hj => by simp at hj
  | m :: ms, acc, j, h, hj => by
    have hm := memGo_mem (acc ++ m :: ms) 0 (by omega) h m (by simp)
    simp only [List.length_cons, rdIds, List.flatMap_cons]
    rw [rdNum_take _ (by omega)]
    have e : ((m.toNat : Nat) : Int) = m := by omega
    by_cases hjn : j < (numB m.toNat).length
    · rw [if_pos hjn]
    · rw [if_neg hjn]
      simp only [e]
      have h1 : membersB (acc ++ [m]) = true := by
        cases hms : ms with
        | nil => rw [hms] at h; exact h
        | cons y ys =>
          have := memGo_split (acc ++ [m]) ms 0 (by omega) (by simpa [membersB] using h) (by rw [hms]; simp)
          rcases this with h2 | h2
          · simp at h2
          · exact h2
      rw [if_pos h1]
      simp only [List.flatMap_cons, List.length_append] at hj
      exact rdIds_cut ms (acc ++ [m]) (j - (numB m.toNat).length) (by simpa using h) (by omega)

theorem getB_cut (x : Ent) (hf : formedB x = true) (hx : EntFit x) (j : Nat) (hj : j < (putB x).length) : getB ((putB x).take j) = .error 2 := by
  have key : rdEnt ((putB x).take j) = .error 2 := by
    obtain ⟨⟨t1, t2⟩, hc⟩ := formed_cases x hf
    obtain ⟨t, k, c, s, d, ms⟩ := x
    simp only at t1 t2 hc
    have ht : t.toNat < 2 ^ 64 := by omega
    have et : ((t.toNat : Nat) : Int) = t := by omega
    unfold putB at hj ⊢
    unfold rdEnt
    simp only [List.append_assoc] at hj ⊢
    rw [rdNum_take _ ht]
    by_cases h1 : j < (numB t.toNat).length
    · rw [if_pos h1]
    · rw [if_neg h1]
      simp only [et]
      rw [if_neg (by omega)]
      simp only [List.length_append] at hj
      obtain ⟨i, hi⟩ : ∃ i, i = j - (numB t.toNat).length := ⟨_, rfl⟩
      rw [← hi]
      cases i with
      | zero => simp [rdByte]
      | succ i =>
        simp only [List.cons_append, List.nil_append, List.take_succ_cons, rdByte]
        rcases hc with ⟨rfl, rfl, rfl, rfl, rfl⟩ | ⟨rfl, hd, rfl⟩ | ⟨rfl, rfl, rfl, rfl, hm⟩
        · simp at hj; omega
        · obtain ⟨⟨c0, c1⟩, s0, s1⟩ := hx
          simp only at c0 c1 s0 s1
          have ec : ((c.toNat : Nat) : Int) = c := by omega
          have es : ((s.toNat : Nat) : Int) = s := by omega
          simp only [show ((2 : Int) % 256 = 1) = False by simp, show ((2 : Int) % 256 = 2) = True by simp, if_true, if_false, List.append_assoc, List.length_append, List.length_singleton] at hj ⊢
          rw [rdNum_take _ c1]
          by_cases h2 : i < (numB c.toNat).length
          · rw [if_pos h2]
          · rw [if_neg h2]
            simp only [ec]
            rw [rdNum_take _ s1]
            by_cases h3 : i - (numB c.toNat).length < (numB s.toNat).length
            · rw [if_pos h3]
            · rw [if_neg h3]
              simp only [es]
              rw [rdRaw_cut d _ 64 (by omega) (by omega) (by simp only [List.length_append]; omega)]
        · simp only [show ((3 : Int) % 256 = 1) = False by simp, show ((3 : Int) % 256 = 2) = False by simp, show ((3 : Int) % 256 = 3) = True by simp, show ((3 : Int) = 2) = False by simp, if_true, if_false, List.append_assoc, List.length_append, List.length_singleton] at hj ⊢
          rcases memGo_len ms 0 (by omega) hm with h | h
          · have hne : 1 ≤ ms.length := by
              cases ms with
              | nil => simp [membersB, memGo] at hm
              | cons y ys => simp
            rw [rdNum_take _ (by omega)]
            by_cases h2 : i < (numB ms.length).length
            · rw [if_pos h2]
            · rw [if_neg h2]
              simp only []
              rw [if_neg (by omega), Int.toNat_natCast, rdIds_cut ms [] _ (by simpa using hm) (by omega)]
          · subst h; simp [membersB, memGo] at hm
  unfold getB
  rw [key]
end Go.Proofs.Ytjodgbabfhcilaa
