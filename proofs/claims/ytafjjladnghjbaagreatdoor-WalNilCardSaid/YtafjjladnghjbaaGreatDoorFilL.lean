/- Lists of named things, rising by name: plain; and a map's datum that such a list is. Of any program. -/
import Derived.Maps.OwnSet
import Derived.Maps.Ext
import Derived.Sort.KeysCollected
namespace Go.Proofs.YtafjjladnghjbaaGreatDoor
open Go Go.Maps

/-- A file's name: its bytes. -/
abbrev Nm := List UInt8

def insG {α : Type} (x : Nm × α) : List (Nm × α) → List (Nm × α)
  | [] => [x]
  | y :: r => if bytesBefore x.1 y.1 then x :: y :: r else y :: insG x r
def delG {α : Type} (k : Nm) (l : List (Nm × α)) : List (Nm × α) := l.filter fun p => !(p.1 == k)
def putG {α : Type} (k : Nm) (a : α) (l : List (Nm × α)) : List (Nm × α) := insG (k, a) (delG k l)
def getG {α : Type} (k : Nm) : List (Nm × α) → Option α
  | [] => none
  | p :: r => if p.1 == k then some p.2 else getG k r
def mapG {α β : Type} (f : α → β) (l : List (Nm × α)) : List (Nm × β) := l.map fun p => (p.1, f p.2)
def RisG {α : Type} (l : List (Nm × α)) : Prop := l.Pairwise fun p q => bytesBefore p.1 q.1 = true

section
variable {α β : Type}
theorem mapG_insG (f : α → β) (k : Nm) (a : α) : ∀ l : List (Nm × α), mapG f (insG (k, a) l) = insG (k, f a) (mapG f l)
  | [] => rfl
  | y :: r => by
    unfold insG
    simp only [mapG, List.map_cons]
    split
    · rfl
    · have := mapG_insG f k a r
      simp only [mapG] at this
      simp [this]
theorem mapG_delG (f : α → β) (k : Nm) (l : List (Nm × α)) : mapG f (delG k l) = delG k (mapG f l) := by
  simp [mapG, delG, List.filter_map, Function.comp_def]
theorem mapG_putG (f : α → β) (k : Nm) (a : α) (l : List (Nm × α)) : mapG f (putG k a l) = putG k (f a) (mapG f l) := by
  unfold putG; rw [mapG_insG, mapG_delG]
theorem getG_mapG (f : α → β) (k : Nm) : ∀ l : List (Nm × α), getG k (mapG f l) = (getG k l).map f
  | [] => rfl
  | p :: r => by
    show getG k ((p.1, f p.2) :: mapG f r) = _
    unfold getG
    by_cases h : (p.1 == k) = true
    · simp [h]
    · simp only [h, Bool.false_eq_true, ↓reduceIte]; exact getG_mapG f k r
theorem mem_insG {x p : Nm × α} : ∀ {l : List (Nm × α)}, p ∈ insG x l ↔ p = x ∨ p ∈ l
  | [] => by simp [insG]
  | y :: r => by
    unfold insG
    split
    · simp
    · simp only [List.mem_cons, mem_insG (l := r)]
      constructor
      · rintro (h | h | h); exact .inr (.inl h); exact .inl h; exact .inr (.inr h)
      · rintro (h | h | h); exact .inr (.inl h); exact .inl h; exact .inr (.inr h)
theorem mem_delG {k : Nm} {p : Nm × α} {l : List (Nm × α)} : p ∈ delG k l ↔ p ∈ l ∧ p.1 ≠ k := by simp [delG]
theorem mem_putG {k : Nm} {a : α} {p : Nm × α} {l : List (Nm × α)} : p ∈ putG k a l ↔ p = (k, a) ∨ (p ∈ l ∧ p.1 ≠ k) := by
  unfold putG; rw [mem_insG, mem_delG]
theorem getG_mem {k : Nm} {a : α} : ∀ {l : List (Nm × α)}, getG k l = some a → (k, a) ∈ l
  | [], h => by cases h
  | p :: r, h => by
    unfold getG at h
    split at h
    · rename_i hk
      have : p.1 = k := by simpa using hk
      cases h; subst this; simp
    · exact List.mem_cons_of_mem _ (getG_mem h)
theorem getG_insG_same {k : Nm} {a : α} : ∀ {l : List (Nm × α)}, (∀ p ∈ l, p.1 ≠ k) → getG k (insG (k, a) l) = some a
  | [], _ => by simp [insG, getG]
  | y :: r, h => by
    unfold insG
    split
    · simp [getG]
    · unfold getG
      have : (y.1 == k) = false := by simpa using h y (by simp)
      rw [this]; exact getG_insG_same fun p hp => h p (by simp [hp])
theorem getG_insG_other {k k' : Nm} {a : α} (hne : k' ≠ k) : ∀ {l : List (Nm × α)}, getG k' (insG (k, a) l) = getG k' l
  | [] => by simp [insG, getG, Ne.symm hne]
  | y :: r => by
    unfold insG
    split
    · have : (k == k') = false := by simpa using Ne.symm hne
      conv => lhs; unfold getG
      simp [this]
    · unfold getG
      split
      · rfl
      · exact getG_insG_other hne
theorem getG_delG_same {k : Nm} {l : List (Nm × α)} : getG k (delG k l) = none := by
  induction l with
  | nil => rfl
  | cons y r ih =>
    unfold delG at *
    by_cases h : (y.1 == k) = true
    · simp [h]; simpa using ih
    · simp only [List.filter_cons, h, Bool.not_false, ↓reduceIte, getG, Bool.false_eq_true]; exact ih
theorem getG_delG_other {k k' : Nm} (hne : k' ≠ k) {l : List (Nm × α)} : getG k' (delG k l) = getG k' l := by
  induction l with
  | nil => rfl
  | cons y r ih =>
    unfold delG at *
    by_cases h : (y.1 == k) = true
    · have hk : y.1 = k := by simpa using h
      have : (y.1 == k') = false := by rw [hk]; simpa using Ne.symm hne
      simp only [List.filter_cons, h, Bool.not_true, Bool.false_eq_true, ↓reduceIte, getG, this]; exact ih
    · simp only [List.filter_cons, h, Bool.not_false, ↓reduceIte, getG]; rw [ih]
theorem getG_putG_same {k : Nm} {a : α} {l : List (Nm × α)} : getG k (putG k a l) = some a := getG_insG_same fun p hp => (mem_delG.1 hp).2
theorem getG_putG_other {k k' : Nm} {a : α} (hne : k' ≠ k) {l : List (Nm × α)} : getG k' (putG k a l) = getG k' l := by
  unfold putG; rw [getG_insG_other hne, getG_delG_other hne]
theorem length_insG (x : Nm × α) : ∀ l : List (Nm × α), (insG x l).length = l.length + 1
  | [] => rfl
  | y :: r => by unfold insG; split <;> simp [length_insG x r]
theorem getG_none {k : Nm} : ∀ {l : List (Nm × α)}, getG k l = none ↔ ∀ p ∈ l, p.1 ≠ k
  | [] => by simp [getG]
  | y :: r => by
    unfold getG
    split
    · rename_i h; simp only [reduceCtorEq, false_iff]; intro hh; exact hh y (by simp) (by simpa using h)
    · rename_i h; rw [getG_none]; simp only [List.mem_cons, forall_eq_or_imp]; exact ⟨fun hh => ⟨by simpa using h, hh⟩, fun hh => hh.2⟩
end

/-! ### A datum that a list of named things is -/
/-- The reader of a map's elements that keeps each element as the value that it is. -/
def hR (v : Value) : Option (DataW Value × List MemPlace) := some (.held v, [])
def toD {α : Type} (c : α → Value) (l : List (Nm × α)) : DataW Value := .map (l.map fun p => (.string p.1, .held (c p.2)))

section
variable {α : Type} {c : α → Value}
theorem same_str (a b : Nm) : (Lit.string a).sameKey (.string b) = (a == b) := rfl
theorem toD_put (k : Nm) (a : α) (l : List (Nm × α)) : (toD c l).put (.string k) (.held (c a)) = toD c (putG k a l) := by
  unfold toD
  show DataW.map (DataW.insert _ _) = _
  congr 1
  have h1 : (l.map fun p => ((Lit.string p.1, DataW.held (c p.2)) : Lit × DataW Value)).filter (fun p => !p.1.sameKey (.string k)) = (delG k l).map fun p => (Lit.string p.1, DataW.held (c p.2)) := by
    simp [delG, List.filter_map, Function.comp_def, same_str]
  rw [h1]
  unfold putG
  generalize delG k l = m
  induction m with
  | nil => rfl
  | cons y r ih =>
    simp only [List.map_cons, DataW.insert, insG]
    by_cases hb : bytesBefore k y.1 = true
    · simp [hb, Lit.before]
    · simp only [Lit.before, hb, Bool.false_eq_true, ↓reduceIte, ih, List.map_cons]
theorem toD_del (k : Nm) (l : List (Nm × α)) : (toD c l).del (.string k) = toD c (delG k l) := by
  unfold toD
  show DataW.map _ = _
  congr 1
  simp [delG, List.filter_map, Function.comp_def, same_str]
theorem toD_has (k : Nm) : ∀ l : List (Nm × α), Maps.has (toD c l) (.string k) = (getG k l).isSome
  | [] => rfl
  | y :: r => by
    have ih := toD_has k r
    unfold toD at *
    rw [Maps.has_eq] at *
    simp only [List.map_cons, List.any_cons, same_str, getG]
    by_cases h : (y.1 == k) = true
    · simp [h]
    · simp only [h, Bool.false_eq_true, ↓reduceIte, Bool.false_or]; exact ih
theorem toD_atKey (k : Nm) (z : DataW Value) : ∀ l : List (Nm × α), (toD c l).atKey (.string k) z = match getG k l with | some a => .held (c a) | none => z
  | [] => rfl
  | y :: r => by
    have ih := toD_atKey k z r
    unfold toD at *
    unfold DataW.atKey at *
    simp only [List.map_cons, List.find?_cons, same_str, getG] at *
    by_cases h : (y.1 == k) = true
    · simp [h]
    · simp only [h, Bool.false_eq_true, ↓reduceIte]; exact ih
theorem toD_size (l : List (Nm × α)) : Maps.size (toD c l) = l.length := by simp [toD, Maps.size]
theorem toD_keys (l : List (Nm × α)) : strKeys (toD c l) = l.map (·.1) := by simp [toD, strKeys, strOf]
end
end Go.Proofs.YtafjjladnghjbaaGreatDoor
