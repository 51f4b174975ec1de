/- tabellionlaw08: a disk and the reference beside it, of one plain state. -/
import Derived.Test.YtmffknllnjagoaaDoorDka
import Derived.Test.YtmffknllnjagoaaDoorDskm
import Derived.Test.YtmffknllnjagoaaDoorRk9
set_option linter.unusedSimpArgs false
set_option linter.unusedVariables false
namespace Go.Proofs.YtmffknllnjagoaaDoor
open Go Go.RowKit Go.Maps Go.Sort
open Go.Proofs (encStr)

/-- The disk d is S, the reference r is R; A: foreign blocks; w0: the world at the start. -/
structure Two (w0 w : World) (d r n m M : Nat) (A Od Or : List Nat) (S R : Dk) : Prop where
  dk : DkS w d n M Od A S
  rk : RkS w r m M Or (Od ++ A) R
  sep : ∀ t ∈ A, t ∉ Od
  old : Ext w0 w
  newD : ∀ t ∈ Od, w0.heap.size ≤ t
  newR : ∀ t ∈ Or, w0.heap.size ≤ t
section
variable {w0 w w' : World} {d r n m n' m' M : Nat} {A A' Od Or Od' Or' : List Nat} {S R S' R' : Dk}
theorem Two.disk (h : Two w0 w d r n m M A Od Or S R) (hd : DkS w' d n' M Od' A S') (ht : DkTo Od w w' Od') : Two w0 w' d r n' m M A Od' Or S' R := by
  have hl := hd.low
  refine ⟨hd, h.rk.chg ht.1 (fun t ht => .inl (List.mem_append_left _ ht)) (fun t hm => ?_) (fun t hm => ?_), fun t hA hm => ?_, ht.toExt h.old h.newD, ht.new h.newD h.old.size, h.newR⟩
  · rcases List.mem_append.1 hm with hm | hm
    · exact (ht.2.1 t hm).imp (List.mem_append_left _) id
    · exact .inl (List.mem_append_right _ hm)
  · rcases List.mem_append.1 hm with hm | hm
    · exact hl t hm
    · exact Nat.lt_of_lt_of_le (h.dk.lowF t hm) ht.1.size
  · rcases ht.2.1 t hm with h1 | h1
    · exact h.sep t hA h1
    · have := h.dk.lowF t hA; omega
theorem Two.ref (h : Two w0 w d r n m M A Od Or S R) (hr : RkS w' r m' M Or' (Od ++ A) R') (ht : DkTo Or w w' Or') : Two w0 w' d r n m' M A Od Or' S R' :=
  ⟨h.dk.chg ht.1 fun t hm => ⟨fun hO => h.rk.sep t hm (List.mem_append_left _ hO), .inl (h.rk.noB t hm)⟩, hr, h.sep, ht.toExt h.old h.newR, h.newD, ht.new h.newR h.old.size⟩
theorem Two.ext (h : Two w0 w d r n m M A Od Or S R) (hE : Ext w w') : Two w0 w' d r n m M A Od Or S R :=
  ⟨h.dk.ext hE, h.rk.ext hE, h.sep, h.old.trans hE, h.newD, h.newR⟩
/-- Other foreign blocks, made since. -/
theorem Two.foreign (h : Two w0 w d r n m M A Od Or S R) (hE : Ext w w') (hA : ∀ t ∈ A', t ∈ A ∨ w.heap.size ≤ t) (hl : ∀ t ∈ A', t < w'.heap.size) : Two w0 w' d r n m M A' Od Or S R := by
  refine ⟨h.dk.foreign hE hA hl, h.rk.chg (T := []) (Chg.ext hE) (by simp) (fun t hm => ?_) (fun t hm => ?_), fun t ht hm => ?_, h.old.trans hE, h.newD, h.newR⟩
  · rcases List.mem_append.1 hm with hm | hm
    · exact .inl (List.mem_append_left _ hm)
    · exact (hA t hm).imp (List.mem_append_right _) id
  · rcases List.mem_append.1 hm with hm | hm
    · exact Nat.lt_of_lt_of_le (h.dk.low t hm) hE.size
    · exact hl t hm
  · rcases hA t ht with h1 | h1
    · exact h.sep t h1 hm
    · have := h.dk.low t hm; omega
/-- Foreign blocks turn. -/
theorem Two.tug (h : Two w0 w d r n m M A Od Or S R) (hg : Chg A w w') (hn : ∀ t ∈ A, w0.heap.size ≤ t) : Two w0 w' d r n m M A Od Or S R :=
  ⟨h.dk.chg hg fun t ht => ⟨h.sep t ht, .inr (.inl ht)⟩, h.rk.chg hg (fun t ht => .inl (List.mem_append_right _ ht)) (fun _ ht => .inl ht) (fun t ht => Nat.lt_of_lt_of_le (h.rk.lowF t ht) hg.size), h.sep, Chg.below h.old hg h.old.size hn, h.newD, h.newR⟩
theorem Two.more (h : Two w0 w d r n m M A Od Or S R) (hn : n ≤ n') (hm : m ≤ m') : Two w0 w d r n' m' M A Od Or S R :=
  ⟨h.dk.more hn, h.rk.more hm, h.sep, h.old, h.newD, h.newR⟩
theorem DkS.names (h : DkS w d n M Od A S) : S.now.length ≤ n ∧ ∀ p ∈ S.now, p.1.length ≤ maxLen := by
  obtain ⟨⟨bn, bs, wv, cs, h1, h2, -⟩, -⟩ := h
  refine ⟨h2.len, fun p hp => ?_⟩
  obtain ⟨E, ho, _, hL⟩ := h2
  refine strKeys_le ho Tryd.underlying9 p.1 ?_
  rw [toD_keys]
  rw [hL] at hp
  simp only [mapG, List.mem_map] at hp ⊢
  obtain ⟨q, hq, rfl⟩ := hp
  exact ⟨q, hq, rfl⟩
theorem DkS.usedLe (h : DkS w d n M Od A S) (hnM : n * M ≤ 4611686018427387904) : usedF S.now ≤ 4611686018427387904 := by
  obtain ⟨⟨bn, bs, wv, cs, h1, h2, -⟩, hL, -⟩ := h
  exact Nat.le_trans (usedF_le h2.len hL) hnM
end
/-- A call of a script. -/
structure LO where
  kind : Int
  name : ByteArray
  nto : ByteArray
  n : Int
  b : List Int
  keep : List Bool
def loV (o : LO) (bv kv : Value) : Value := .agg #[.int .i64 o.kind, .string o.name, .string o.nto, .int .i64 o.n, bv, kv]
structure LOk (o : LO) : Prop where
  k0 : -9223372036854775808 ≤ o.kind
  k1 : o.kind ≤ 9223372036854775807
  n0 : -9223372036854775808 ≤ o.n
  n1 : o.n ≤ 9223372036854775807
  name : o.name.size ≤ maxLen
  nto : o.nto.size ≤ maxLen
  b8 : B8 o.b
def kOf (o : LO) : Int := ((o.kind.tmod 10) + 10).tmod 10
def opS (o : LO) (S : Dk) : Int × Dk :=
  if kOf o = 0 then writeS S o.name o.n o.b else if kOf o = 1 then cutS S o.name o.n else if kOf o = 2 then removeS S o.name else if kOf o = 3 then renameS S o.name o.nto else if kOf o = 4 then syncS S
  else if kOf o = 6 then (0, { S with room := o.n }) else if kOf o = 7 then (0, { S with fuse := max o.n (-1) }) else if kOf o = 8 then (0, crashS S o.keep o.n) else (0, S)
theorem kOf_range (o : LO) : 0 ≤ kOf o ∧ kOf o < 10 := by
  unfold kOf
  have h1 := Int.tmod_lt_of_pos o.kind (show (0 : Int) < 10 by omega)
  have h2 : -10 < o.kind.tmod 10 := by
    have := Int.lt_tmod_of_pos o.kind (show (0 : Int) < 10 by omega); omega
  exact ⟨Int.tmod_nonneg _ (by omega), Int.tmod_lt_of_pos _ (by omega)⟩
theorem burnS_waits (S : Dk) : (burnS S).waits = S.waits := by
  unfold burnS; split
  · rfl
  · split <;> rfl
theorem waitS_waits (S : Dk) (o : Dd) : (waitS S o).2.waits.length ≤ S.waits.length + 1 := by
  unfold waitS; split
  · exact Nat.le_succ _
  · simp
theorem opS_waits (o : LO) (S : Dk) : (opS o S).2.waits.length ≤ S.waits.length + 1 := by
  have hw := waitS_waits S
  unfold opS
  repeat' split
  · unfold writeS; repeat' split
    all_goals first | exact hw _ | exact Nat.le_succ _
  · unfold cutS; repeat' split
    all_goals first | exact hw _ | exact Nat.le_succ _
  · unfold removeS; repeat' split
    all_goals first | exact hw _ | exact Nat.le_succ _
  · unfold renameS; repeat' split
    all_goals first | exact hw _ | exact Nat.le_succ _
  · unfold syncS; repeat' split
    all_goals first | exact Nat.le_succ _ | exact Nat.zero_le _
  all_goals first | exact Nat.le_succ _ | exact Nat.zero_le _
end Go.Proofs.YtmffknllnjagoaaDoor
