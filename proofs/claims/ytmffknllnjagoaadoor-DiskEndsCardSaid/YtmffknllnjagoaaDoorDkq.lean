/- tabellionlaw08: what crashes leave, plain. -/
import Derived.Test.YtmffknllnjagoaaDoorTwt
import Derived.Test.YtmffknllnjagoaaDoorTwf
set_option linter.unusedSimpArgs false
set_option linter.unusedVariables false
namespace Go.Proofs.YtmffknllnjagoaaDoor
open Go Go.RowKit Go.Maps Go.Sort
open Go.Proofs (encStr)

/-- The state of DiskEnds' disk: no fuse, not down; the files are the sure ones with all that waits. -/
structure EInv (S : Dk) : Prop where
  now : S.now = doAll S.waits S.sure
  off : S.off = false
  fuse : S.fuse = -1
theorem EInv.new (room : Int) : EInv (dkNew room) := ⟨rfl, rfl, rfl⟩
theorem EInv.burn {S : Dk} (h : EInv S) : burnS S = S := by
  unfold burnS; rw [h.fuse]; rfl
theorem EInv.wait {S : Dk} (h : EInv S) (o : Dd) : EInv (waitS S o).2 ∧ ((waitS S o).2.waits = [] ∨ (waitS S o).2.sure = S.sure) := by
  have e : waitS S o = (0, { S with now := doF o S.now, waits := S.waits ++ [o] }) := by
    unfold waitS; rw [h.burn, if_neg (by rw [h.fuse]; decide)]
  rw [e]
  refine ⟨⟨?_, h.off, h.fuse⟩, .inr rfl⟩
  show doF o S.now = doAll (S.waits ++ [o]) S.sure
  unfold doAll
  rw [List.foldl_append, h.now]; rfl
theorem EInv.op {S : Dk} (h : EInv S) (o : LO) (hk : kOf o ≤ 5) : EInv (opS o S).2 ∧ ((opS o S).2.waits = [] ∨ (opS o S).2.sure = S.sure) := by
  have hw := h.wait
  have hs : EInv S ∧ (S.waits = [] ∨ S.sure = S.sure) := ⟨h, .inr rfl⟩
  have h6 : kOf o ≠ 6 := by omega
  have h7 : kOf o ≠ 7 := by omega
  have h8 : kOf o ≠ 8 := by omega
  unfold opS
  split
  · unfold writeS; repeat' split
    all_goals first | exact hw _ | exact hs
  split
  · unfold cutS; repeat' split
    all_goals first | exact hw _ | exact hs
  split
  · unfold removeS; repeat' split
    all_goals first | exact hw _ | exact hs
  split
  · unfold renameS; repeat' split
    all_goals first | exact hw _ | exact hs
  split
  · unfold syncS
    rw [h.burn, h.off, h.fuse]
    exact ⟨⟨rfl, h.off, h.fuse⟩, .inl rfl⟩
  first
    | exact hs
    | (rw [if_neg h6, if_neg h7, if_neg h8]; exact hs)
theorem tear_same {M : Nat} {o : Dd} (h : DdOk M o) (L : FL) {torn : Int} (ht : (M : Int) ≤ torn) : doF (tearD torn o) L = doF o L := by
  by_cases hk : o.kind = 119
  · have := h.n1 hk
    have h0 := h.n0
    have hb : o.b.take (max 0 (min torn o.b.length)).toNat = o.b := List.take_of_length_le (by omega)
    unfold tearD; rw [hb]
  · unfold doF tearD; rw [if_neg (show ¬ ({ o with b := o.b.take (max 0 (min torn o.b.length)).toNat } : Dd).kind = 119 from hk), if_neg hk]
theorem doAll_torn {M : Nat} {torn : Int} (ht : (M : Int) ≤ torn) : ∀ (l : List Dd) (L : FL), (∀ o ∈ l, DdOk M o) → doAll (tornD torn l) L = doAll l L
  | [], _, _ => rfl
  | [o], L, h => by
    show doF (tearD torn o) L = doF o L
    exact tear_same (h o (by simp)) L ht
  | o :: p :: r, L, h => by
    show doAll (tornD torn (p :: r)) (doF o L) = doAll (p :: r) (doF o L)
    exact doAll_torn ht (p :: r) _ fun x hx => h x (by simp [hx])
theorem kept_all : ∀ l : List Dd, keptD l (List.replicate l.length true) = l
  | [] => rfl
  | o :: r => by show (if true = true then o :: keptD r (List.replicate r.length true) else _) = _; rw [if_pos rfl, kept_all r]
theorem kept_none : ∀ (l : List Dd) (k : Nat), keptD l (List.replicate k false) = []
  | [], k => by unfold keptD; cases k <;> rfl
  | o :: r, 0 => rfl
  | o :: r, k + 1 => by show (if false = true then _ else keptD r (List.replicate k false)) = _; rw [if_neg (by simp), kept_none r k]
theorem crash_all {S : Dk} {M : Nat} {torn : Int} (h : EInv S) (hok : ∀ o ∈ S.waits, DdOk M o) (ht : (M : Int) ≤ torn) : (crashS S (List.replicate S.waits.length true) torn).now = S.now := by
  show doAll (tornD torn (keptD S.waits (List.replicate S.waits.length true))) S.sure = S.now
  rw [kept_all, doAll_torn ht _ _ hok, h.now]
theorem crash_none {S : Dk} {torn : Int} (k : Nat) : (crashS S (List.replicate k false) torn).now = S.sure := by
  show doAll (tornD torn (keptD S.waits (List.replicate k false))) S.sure = S.sure
  rw [kept_none]; rfl
/-- What is told of files on a disk that is not down. -/
def toldF (L : FL) : List Value := toldL ⟨L, [], [], 0, -1, false⟩
theorem told_F {S : Dk} {L : FL} (h1 : S.now = L) (h2 : S.off = false) : toldL S = toldF L := toldL_eq h1 h2
end Go.Proofs.YtmffknllnjagoaaDoor
