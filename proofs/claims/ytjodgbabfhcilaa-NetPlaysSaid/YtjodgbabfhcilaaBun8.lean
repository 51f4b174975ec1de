/- Parts of the proof, in plain words at the head of each: MsgP, MsgQ, Mput, Maw. -/
import Derived.Test.YtjodgbabfhcilaaMw2
import Derived.Test.YtjodgbabfhcilaaBun1
import Derived.Test.YtjodgbabfhcilaaMsn
import Derived.Test.YtjodgbabfhcilaaBun7
import Derived.Test.YtjodgbabfhcilaaMsm
import Derived.Lib.SlBytesConst
set_option linter.unusedSimpArgs false
set_option linter.unusedVariables false
/- Messages and their bytes: there, back, inversion, cut. No program. -/
namespace Go.Proofs.Ytjodgbabfhcilaa
open Go Go.RowKit

/-- Reading rd undoes writing wr, of what P holds of. -/
structure Cod {α : Type} (rd : List Int → Except Int (α × List Int)) (wr : α → Option (List Int)) (P : α → Prop) : Prop where
  put : ∀ a ys r, P a → wr a = some ys → rd (ys ++ r) = .ok (a, r)
  inv : ∀ bs a r, B8 bs → rd bs = .ok (a, r) → ∃ ys, wr a = some ys ∧ bs = ys ++ r ∧ P a
  cut : ∀ a ys j, P a → wr a = some ys → j < ys.length → rd (ys.take j) = .error 2
theorem B8.right {xs ys : List Int} (h : B8 (xs ++ ys)) : B8 ys := fun x hx => h x (List.mem_append.2 (.inr hx))
theorem B8.left {xs ys : List Int} (h : B8 (xs ++ ys)) : B8 xs := fun x hx => h x (List.mem_append.2 (.inl hx))
theorem cNum (lo hi : Int) (h0 : 0 ≤ lo) (h1 : hi ≤ 18446744073709551615) : Cod (rdRng lo hi) (wNum lo hi) (fun n => U64 n) where
  put a ys r _ h := by
    simp only [wNum] at h
    split at h
    · rename_i hc
      cases h
      have := rdNum_numB a.toNat (by omega) r
      simp only [rdRng, this]
      rw [Int.toNat_of_nonneg (by omega), if_neg (by omega)]
    · cases h
  inv bs a r hb h := by
    simp only [rdRng] at h
    split at h
    · cases h
    · rename_i n r' heq
      split at h
      · cases h
      · rename_i hc
        cases h
        obtain ⟨e, h2, h3⟩ := rdNum_inv bs _ _ hb heq
        exact ⟨numB a.toNat, by rw [wNum, if_pos (by omega)], e, ⟨h2, by omega⟩⟩
  cut a ys j _ h hj := by
    simp only [wNum] at h
    split at h
    · cases h
      have := rdNum_cut a.toNat (by omega) j hj
      simp only [rdRng, this]
    · cases h
theorem cYes : Cod rdYes wYes (fun _ => True) where
  put a ys r _ h := by
    simp only [wYes] at h; cases h
    cases a <;> simp [rdYes, rdByte]
  inv bs a r hb h := by
    cases bs with
    | nil => simp [rdYes, rdByte] at h
    | cons c t =>
      have hc := hb c (by simp)
      simp only [rdYes, rdByte] at h
      split at h
      · cases h
      · cases h
        refine ⟨_, rfl, ?_, trivial⟩
        have : c = 0 ∨ c = 1 := by omega
        rcases this with rfl | rfl <;> simp
  cut a ys j _ h hj := by
    simp only [wYes] at h; cases h
    simp at hj; subst hj
    simp [rdYes, rdByte]
theorem rdRaw_inv {most : Int} {bs d r : List Int} (hb : B8 bs) (h : rdRaw most bs = .ok (d, r)) : bs = numB d.length ++ d ++ r ∧ (d.length : Int) ≤ max most 0 ∧ B8 d := by
  simp only [rdRaw] at h
  split at h
  · cases h
  · rename_i n r' heq
    obtain ⟨e, h2, h3⟩ := rdNum_inv bs _ _ hb heq
    split at h
    · cases h
    · rename_i hc
      split at h
      · cases h
      · rename_i hd
        cases h
        have hl : (r'.take n.toNat).length = n.toNat := by rw [List.length_take]; omega
        refine ⟨?_, by rw [hl]; omega, ?_⟩
        · rw [hl, e, List.append_assoc, List.take_append_drop]
        · rw [e] at hb; exact fun x hx => hb.right x (List.mem_of_mem_take hx)
theorem cImg : Cod (rdRaw 16384) wImg (fun d => B8 d) where
  put a ys r _ h := by
    simp only [wImg] at h
    split at h
    · cases h; exact rdRaw_put a r 16384 (by omega) (by omega)
    · cases h
  inv bs a r hb h := by
    obtain ⟨e, hl, h8⟩ := rdRaw_inv hb h
    exact ⟨_, by rw [wImg, if_pos (by omega)], e, h8⟩
  cut a ys j _ h hj := by
    simp only [wImg] at h
    split at h
    · cases h; exact rdRaw_cut a j 16384 (by omega) (by omega) hj
    · cases h
theorem cMems : Cod idsB wMems (fun ms => B64 ms) where
  put a ys r _ h := by
    simp only [wMems] at h
    split at h
    · rename_i hm
      cases h
      have h7 : a.length ≤ 7 ∧ 1 ≤ a.length := by
        rcases memGo_len a 0 (by omega) hm with h3 | h3
        · refine ⟨by omega, ?_⟩
          cases a with
          | nil => simp [membersB, memGo] at hm
          | cons _ _ => simp
        · subst h3; simp [membersB, memGo] at hm
      have := rdNum_numB a.length (by omega) (a.flatMap (fun m => numB m.toNat) ++ r)
      simp only [idsB, List.append_assoc, this]
      rw [if_neg (by omega), Int.toNat_natCast]
      have := rdIds_put a [] r (by simpa using hm)
      simpa using this
    · cases h
  inv bs a r hb h := by
    simp only [idsB] at h
    split at h
    · cases h
    · rename_i n r' heq
      obtain ⟨e, h2, h3⟩ := rdNum_inv bs _ _ hb heq
      split at h
      · cases h
      · rename_i hc
        obtain ⟨ns, e1, e2, e3, e4⟩ := rdIds_inv _ _ _ _ _ (by rw [e] at hb; exact hb.right) h
        simp at e1; subst e1
        have hm := e4 (by omega)
        have hn : n = (a.length : Int) := by omega
        refine ⟨_, by rw [wMems, if_pos hm], ?_, ?_⟩
        · rw [e, e3, hn]; simp
        · intro y hy
          have := memGo_mem a 0 (by omega) hm y hy
          exact ⟨by omega, by omega⟩
  cut a ys j _ h hj := by
    simp only [wMems] at h
    split at h
    · rename_i hm
      cases h
      have h7 : a.length ≤ 7 ∧ 1 ≤ a.length := by
        rcases memGo_len a 0 (by omega) hm with h3 | h3
        · refine ⟨by omega, ?_⟩
          cases a with
          | nil => simp [membersB, memGo] at hm
          | cons _ _ => simp
        · subst h3; simp [membersB, memGo] at hm
      have := rdNum_take a.length (by omega) (a.flatMap (fun m => numB m.toNat)) j
      simp only [idsB, this]
      by_cases hj2 : j < (numB a.length).length
      · simp [hj2]
      · simp only [hj2, if_false]
        rw [if_neg (by omega), Int.toNat_natCast]
        exact rdIds_cut a [] _ (by simpa using hm) (by simp only [List.length_append] at hj; omega)
    · cases h
theorem putB_128 (x : Ent) (hf : formedB x = true) : (putB x).length ≤ 128 := by
  obtain ⟨_, hc⟩ := formed_cases x hf
  have h1 := numB_len_le x.term.toNat
  have h2 := numB_len_le x.client.toNat
  have h3 := numB_len_le x.seq.toNat
  have h4 := numB_len_le x.data.length
  have h5 := numB_len_le x.members.length
  have h6 := flat_len x.members
  unfold putB
  rcases hc with ⟨hk, _⟩ | ⟨hk, hd, _⟩ | ⟨hk, _, _, _, hm⟩
  · simp [hk]; omega
  · simp [hk]; omega
  · have h7 : x.members.length ≤ 7 := by
      rcases memGo_len x.members 0 (by omega) hm with h | h
      · omega
      · rw [h]; simp
    simp only [hk, if_neg (show ¬ ((3 : Int) = 2) by decide), if_pos trivial, List.length_append, List.length_cons, List.length_nil]; omega
theorem ents_put : ∀ (xs acc : List Ent) (r : List Int), (∀ x ∈ xs, formedB x = true ∧ EntOk x) → rdEntsGo xs.length acc (xs.flatMap rawE ++ r) = .ok (acc ++ xs, r)
  | [], acc, r, _ => by simp [rdEntsGo]
  | x :: t, acc, r, h => by
    obtain ⟨hf, hok⟩ := h x (by simp)
    have h1 := rdRaw_put (putB x) (t.flatMap rawE ++ r) 128 (by have := putB_128 x hf; omega) (by have := putB_128 x hf; omega)
    have h2 := getB_put x hf hok.fit
    have h3 := ents_put t (acc ++ [x]) r (fun y hy => h y (by simp [hy]))
    rw [List.length_cons, List.flatMap_cons, show rawE x ++ t.flatMap rawE ++ r = numB (putB x).length ++ putB x ++ (t.flatMap rawE ++ r) by simp [rawE]]
    simp only [rdEntsGo, h1, h2, h3]
    simp
theorem ents_inv : ∀ (n : Nat) (acc : List Ent) (bs : List Int) (xs : List Ent) (r : List Int), B8 bs → rdEntsGo n acc bs = .ok (xs, r) → ∃ ys, xs = acc ++ ys ∧ ys.length = n ∧ bs = ys.flatMap rawE ++ r ∧ ∀ x ∈ ys, formedB x = true ∧ EntOk x
  | 0, acc, bs, xs, r, _, h => by
    simp only [rdEntsGo] at h; cases h
    exact ⟨[], by simp, rfl, by simp, by simp⟩
  | n + 1, acc, bs, xs, r, hb, h => by
    simp only [rdEntsGo] at h
    split at h
    · cases h
    · rename_i d r' heq
      obtain ⟨e, _, h8⟩ := rdRaw_inv hb heq
      split at h
      · cases h
      · rename_i x hx
        obtain ⟨hp, hf, _⟩ := getB_inv d x h8 hx
        have hok := getB_ok h8 hx
        obtain ⟨ys, e1, e2, e3, e4⟩ := ents_inv n _ _ _ _ (by rw [e] at hb; exact hb.right) h
        refine ⟨x :: ys, by rw [e1]; simp, by simp [e2], ?_, ?_⟩
        · rw [e, e3, List.flatMap_cons, rawE, hp]; simp
        · intro y hy
          rcases List.mem_cons.1 hy with rfl | hy
          · exact ⟨hf, hok⟩
          · exact e4 y hy
theorem rdRaw_take (d : List Int) (most : Int) (r : List Int) (j : Nat) (h : (d.length : Int) ≤ most) (hl : d.length < 2 ^ 64) : rdRaw most ((numB d.length ++ d ++ r).take j) = if j < (numB d.length ++ d).length then .error 2 else .ok (d, r.take (j - (numB d.length ++ d).length)) := by
  by_cases hj : j < (numB d.length ++ d).length
  · rw [if_pos hj, List.take_append_of_le_length (by omega)]
    exact rdRaw_cut d j most h hl hj
  · rw [if_neg hj, List.take_append, List.take_of_length_le (by omega)]
    exact rdRaw_put d _ most h hl
theorem ents_cut : ∀ (xs acc : List Ent) (j : Nat), (∀ x ∈ xs, formedB x = true ∧ EntOk x) → j < (xs.flatMap rawE).length → rdEntsGo xs.length acc ((xs.flatMap rawE).take j) = .error 2
  | [], acc, j, _, hj => by simp at hj
  | x :: t, acc, j, h, hj => by
    obtain ⟨hf, hok⟩ := h x (by simp)
    have h1 := rdRaw_take (putB x) 128 (t.flatMap rawE) j (by have := putB_128 x hf; omega) (by have := putB_128 x hf; omega)
    have h2 := getB_put x hf hok.fit
    rw [List.length_cons, List.flatMap_cons, show rawE x ++ t.flatMap rawE = numB (putB x).length ++ putB x ++ t.flatMap rawE by simp [rawE]]
    simp only [rdEntsGo, h1]
    by_cases hj2 : j < (numB (putB x).length ++ putB x).length
    · rw [if_pos hj2]
    · rw [if_neg hj2]
      simp only [h2]
      refine ents_cut t _ _ (fun y hy => h y (by simp [hy])) ?_
      rw [List.flatMap_cons, rawE, List.length_append] at hj
      omega
theorem cEnts : Cod rdEnts wEnts (fun xs => ∀ x ∈ xs, EntOk x) where
  put a ys r hp h := by
    simp only [wEnts] at h
    split at h
    · rename_i hc
      cases h
      have h1 := rdNum_numB a.length (by omega) (a.flatMap rawE ++ r)
      have h2 := ents_put a [] r (fun x hx => ⟨List.all_eq_true.1 hc.2 x hx, hp x hx⟩)
      simp only [rdEnts, List.append_assoc, h1]
      rw [if_neg (by omega), Int.toNat_natCast, h2]
      rfl
    · cases h
  inv bs a r hb h := by
    simp only [rdEnts] at h
    split at h
    · cases h
    · rename_i n r' heq
      obtain ⟨e, h2, h3⟩ := rdNum_inv bs _ _ hb heq
      split at h
      · cases h
      · rename_i hc
        obtain ⟨ys, e1, e2, e3, e4⟩ := ents_inv _ _ _ _ _ (by rw [e] at hb; exact hb.right) h
        simp at e1; subst e1
        refine ⟨_, by rw [wEnts, if_pos ⟨by omega, List.all_eq_true.2 fun x hx => (e4 x hx).1⟩], ?_, fun x hx => (e4 x hx).2⟩
        rw [e, e3, e2]; simp
  cut a ys j hp h hj := by
    simp only [wEnts] at h
    split at h
    · rename_i hc
      cases h
      have h1 := rdNum_take a.length (by omega) (a.flatMap rawE) j
      simp only [rdEnts, h1]
      by_cases hj2 : j < (numB a.length).length
      · simp [hj2]
      · simp only [hj2, if_false]
        rw [if_neg (by omega), Int.toNat_natCast]
        refine ents_cut a [] _ (fun x hx => ⟨List.all_eq_true.1 hc.2 x hx, hp x hx⟩) ?_
        rw [List.length_append] at hj
        omega
    · cases h

/-! ### Fields, one behind the other -/
def bindE {α β : Type} (x : Except Int (α × List Int)) (K : α → List Int → Except Int β) : Except Int β :=
  match x with
  | .error e => .error e
  | .ok (a, r) => K a r
section
variable {α β : Type} {rd : List Int → Except Int (α × List Int)} {wr : α → Option (List Int)} {P : α → Prop} {K : α → List Int → Except Int β}
theorem bind_put (c : Cod rd wr P) {a : α} {ys r : List Int} (hp : P a) (h : wr a = some ys) : bindE (rd (ys ++ r)) K = K a r := by rw [c.put a ys r hp h]; rfl
theorem bind_inv (c : Cod rd wr P) {bs : List Int} {z : β} (hb : B8 bs) (h : bindE (rd bs) K = .ok z) : ∃ a ys r, wr a = some ys ∧ bs = ys ++ r ∧ P a ∧ B8 r ∧ K a r = .ok z := by
  cases hr : rd bs with
  | error e => rw [hr] at h; cases h
  | ok p =>
    obtain ⟨a, r⟩ := p
    rw [hr] at h
    obtain ⟨ys, h1, h2, h3⟩ := c.inv bs a r hb hr
    exact ⟨a, ys, r, h1, h2, h3, by rw [h2] at hb; exact hb.right, h⟩
theorem bind_cut (c : Cod rd wr P) {a : α} {ys rest : List Int} (hp : P a) (h : wr a = some ys) (hK : ∀ j, j < rest.length → K a (rest.take j) = .error 2) {j : Nat} (hj : j < (ys ++ rest).length) : bindE (rd ((ys ++ rest).take j)) K = .error 2 := by
  by_cases h1 : j < ys.length
  · rw [List.take_append_of_le_length (by omega), c.cut a ys j hp h h1]; rfl
  · rw [List.take_append, List.take_of_length_le (by omega), bind_put c hp h]
    rw [List.length_append] at hj
    exact hK _ (by omega)
theorem bind_cut0 (c : Cod rd wr P) {a : α} {ys : List Int} (hp : P a) (h : wr a = some ys) {j : Nat} (hj : j < ys.length) : bindE (rd (ys.take j)) K = .error 2 := by rw [c.cut a ys j hp h hj]; rfl
end
end Go.Proofs.Ytjodgbabfhcilaa

/- Messages whole: there, back, cut. PRINTED BY gen/msgq.py -/
namespace Go.Proofs.Ytjodgbabfhcilaa
open Go Go.RowKit

def tailE (k f t m : Int) (r : List Int) : Except Int (Msg × List Int) :=
  if k = 1 then bindE (rdRng 0 4611686018427387904 r) fun i r => bindE (rdRng 0 4611686018427387904 r) fun l r => .ok (⟨k, f, t, m, i, l, 0, 0, false, [], [], []⟩, r)
  else if k = 2 then bindE (rdYes r) fun y r => .ok (⟨k, f, t, m, 0, 0, 0, 0, y, [], [], []⟩, r)
  else if k = 3 then bindE (rdRng 0 4611686018427387904 r) fun i r => bindE (rdRng 0 4611686018427387904 r) fun l r => bindE (rdRng 0 4611686018427387904 r) fun c r => bindE (rdRng 0 18446744073709551615 r) fun s r => bindE (rdEnts r) fun xs r => .ok (⟨k, f, t, m, i, l, c, s, false, xs, [], []⟩, r)
  else if k = 4 then bindE (rdYes r) fun y r => bindE (rdRng 0 4611686018427387904 r) fun i r => bindE (rdRng 0 18446744073709551615 r) fun s r => .ok (⟨k, f, t, m, i, 0, 0, s, y, [], [], []⟩, r)
  else if k = 5 then bindE (rdRng 0 4611686018427387904 r) fun i r => bindE (rdRng 0 4611686018427387904 r) fun l r => bindE (rdRng 0 18446744073709551615 r) fun s r => bindE (idsB r) fun ms r => bindE (rdRaw 16384 r) fun d r => .ok (⟨k, f, t, m, i, l, 0, s, false, [], ms, d⟩, r)
  else .error 3
theorem rdBody_eq (k : Int) (bs : List Int) : rdBody k bs = bindE (rdRng 1 7 bs) fun f r => bindE (rdRng 1 7 r) fun t r => bindE (rdRng 1 4611686018427387904 r) fun m r => tailE k f t m r := by
  simp only [rdBody]
  rcases rdRng 1 7 bs with e | ⟨f, r1⟩
  · rfl
  simp only [bindE]
  rcases rdRng 1 7 r1 with e | ⟨t, r2⟩
  · rfl
  simp only []
  rcases rdRng 1 4611686018427387904 r2 with e | ⟨m, r3⟩
  · rfl
  simp only []
  unfold tailE
  by_cases k1 : k = 1
  · simp only [k1, if_true, if_false, bindE]
    rcases rdRng 0 4611686018427387904 r3 with e | ⟨i, q0⟩
    · rfl
    simp only []
    rcases rdRng 0 4611686018427387904 q0 with e | ⟨l, q1⟩
    · rfl
    rfl
  by_cases k2 : k = 2
  · simp only [k2, if_true, show ¬ ((2 : Int) = 1) by decide, if_false, bindE]
    rcases rdYes r3 with e | ⟨y, q0⟩
    · rfl
    rfl
  by_cases k3 : k = 3
  · simp only [k3, if_true, show ¬ ((3 : Int) = 1) by decide, show ¬ ((3 : Int) = 2) by decide, if_false, bindE]
    rcases rdRng 0 4611686018427387904 r3 with e | ⟨i, q0⟩
    · rfl
    simp only []
    rcases rdRng 0 4611686018427387904 q0 with e | ⟨l, q1⟩
    · rfl
    simp only []
    rcases rdRng 0 4611686018427387904 q1 with e | ⟨c, q2⟩
    · rfl
    simp only []
    rcases rdRng 0 18446744073709551615 q2 with e | ⟨s, q3⟩
    · rfl
    simp only []
    rcases rdEnts q3 with e | ⟨xs, q4⟩
    · rfl
    rfl
  by_cases k4 : k = 4
  · simp only [k4, if_true, show ¬ ((4 : Int) = 1) by decide, show ¬ ((4 : Int) = 2) by decide, show ¬ ((4 : Int) = 3) by decide, if_false, bindE]
    rcases rdYes r3 with e | ⟨y, q0⟩
    · rfl
    simp only []
    rcases rdRng 0 4611686018427387904 q0 with e | ⟨i, q1⟩
    · rfl
    simp only []
    rcases rdRng 0 18446744073709551615 q1 with e | ⟨s, q2⟩
    · rfl
    rfl
  by_cases k5 : k = 5
  · simp only [k5, if_true, show ¬ ((5 : Int) = 1) by decide, show ¬ ((5 : Int) = 2) by decide, show ¬ ((5 : Int) = 3) by decide, show ¬ ((5 : Int) = 4) by decide, if_false, bindE]
    rcases rdRng 0 4611686018427387904 r3 with e | ⟨i, q0⟩
    · rfl
    simp only []
    rcases rdRng 0 4611686018427387904 q0 with e | ⟨l, q1⟩
    · rfl
    simp only []
    rcases rdRng 0 18446744073709551615 q1 with e | ⟨s, q2⟩
    · rfl
    simp only []
    rcases idsB q2 with e | ⟨ms, q3⟩
    · rfl
    simp only []
    rcases rdRaw 16384 q3 with e | ⟨d, q4⟩
    · rfl
    rfl
  simp only [k1, k2, k3, k4, k5, if_false]
/-- A message with the fields of its kind alone. -/
def bareM (x : Msg) : Msg :=
  if x.kind = 1 then ⟨x.kind, x.src, x.dst, x.term, x.index, x.logTerm, 0, 0, false, [], [], []⟩
  else if x.kind = 2 then ⟨x.kind, x.src, x.dst, x.term, 0, 0, 0, 0, x.yes, [], [], []⟩
  else if x.kind = 3 then ⟨x.kind, x.src, x.dst, x.term, x.index, x.logTerm, x.commit, x.stamp, false, x.entries, [], []⟩
  else if x.kind = 4 then ⟨x.kind, x.src, x.dst, x.term, x.index, 0, 0, x.stamp, x.yes, [], [], []⟩
  else if x.kind = 5 then ⟨x.kind, x.src, x.dst, x.term, x.index, x.logTerm, 0, x.stamp, false, [], x.members, x.image⟩
  else ⟨x.kind, x.src, x.dst, x.term, 0, 0, 0, 0, false, [], [], []⟩
theorem seqO_cons {o : Option (List Int)} {l : List (Option (List Int))} {ys : List Int} (h : seqO (o :: l) = some ys) : ∃ a b, o = some a ∧ seqO l = some b ∧ ys = a ++ b := by
  cases o with
  | none => cases h
  | some a =>
    simp only [seqO] at h
    split at h
    · cases h
    · rename_i b hb; cases h; exact ⟨a, b, rfl, hb, rfl⟩
theorem seqO_mk {a b : List Int} {l : List (Option (List Int))} (h : seqO l = some b) : seqO (some a :: l) = some (a ++ b) := by simp [seqO, h]
theorem body_put (x : Msg) (hok : MsgOk x) {ys : List Int} (h : wBody x = some ys) (r : List Int) : rdBody x.kind (ys ++ r) = .ok (bareM x, r) := by
  obtain ⟨y1, z1, h1, hz1, rfl⟩ := seqO_cons h
  obtain ⟨y2, z2, h2, hz2, rfl⟩ := seqO_cons hz1
  obtain ⟨y3, z3, h3, hz3, rfl⟩ := seqO_cons hz2
  rw [rdBody_eq, List.append_assoc, List.append_assoc, List.append_assoc, bind_put (cNum 1 7 (by omega) (by omega)) hok.src h1, bind_put (cNum 1 7 (by omega) (by omega)) hok.dst h2, bind_put (cNum 1 4611686018427387904 (by omega) (by omega)) hok.term h3]
  simp only [wRest] at hz3
  unfold tailE bareM
  by_cases k1 : x.kind = 1
  · simp only [k1, if_true, if_false] at hz3 ⊢
    obtain ⟨y4, z4, h4, hz4, rfl⟩ := seqO_cons hz3
    obtain ⟨y5, z5, h5, hz5, rfl⟩ := seqO_cons hz4
    cases hz5
    simp only [List.append_nil, List.append_assoc]
    rw [bind_put (cNum 0 4611686018427387904 (by omega) (by omega)) hok.index h4, bind_put (cNum 0 4611686018427387904 (by omega) (by omega)) hok.logTerm h5]
  by_cases k2 : x.kind = 2
  · simp only [k2, if_true, show ¬ ((2 : Int) = 1) by decide, if_false] at hz3 ⊢
    obtain ⟨y4, z4, h4, hz4, rfl⟩ := seqO_cons hz3
    cases hz4
    simp only [List.append_nil, List.append_assoc]
    rw [bind_put cYes trivial h4]
  by_cases k3 : x.kind = 3
  · simp only [k3, if_true, show ¬ ((3 : Int) = 1) by decide, show ¬ ((3 : Int) = 2) by decide, if_false] at hz3 ⊢
    obtain ⟨y4, z4, h4, hz4, rfl⟩ := seqO_cons hz3
    obtain ⟨y5, z5, h5, hz5, rfl⟩ := seqO_cons hz4
    obtain ⟨y6, z6, h6, hz6, rfl⟩ := seqO_cons hz5
    obtain ⟨y7, z7, h7, hz7, rfl⟩ := seqO_cons hz6
    obtain ⟨y8, z8, h8, hz8, rfl⟩ := seqO_cons hz7
    cases hz8
    simp only [List.append_nil, List.append_assoc]
    rw [bind_put (cNum 0 4611686018427387904 (by omega) (by omega)) hok.index h4, bind_put (cNum 0 4611686018427387904 (by omega) (by omega)) hok.logTerm h5, bind_put (cNum 0 4611686018427387904 (by omega) (by omega)) hok.commit h6, bind_put (cNum 0 18446744073709551615 (by omega) (by omega)) hok.stamp h7, bind_put cEnts hok.entries h8]
  by_cases k4 : x.kind = 4
  · simp only [k4, if_true, show ¬ ((4 : Int) = 1) by decide, show ¬ ((4 : Int) = 2) by decide, show ¬ ((4 : Int) = 3) by decide, if_false] at hz3 ⊢
    obtain ⟨y4, z4, h4, hz4, rfl⟩ := seqO_cons hz3
    obtain ⟨y5, z5, h5, hz5, rfl⟩ := seqO_cons hz4
    obtain ⟨y6, z6, h6, hz6, rfl⟩ := seqO_cons hz5
    cases hz6
    simp only [List.append_nil, List.append_assoc]
    rw [bind_put cYes trivial h4, bind_put (cNum 0 4611686018427387904 (by omega) (by omega)) hok.index h5, bind_put (cNum 0 18446744073709551615 (by omega) (by omega)) hok.stamp h6]
  by_cases k5 : x.kind = 5
  · simp only [k5, if_true, show ¬ ((5 : Int) = 1) by decide, show ¬ ((5 : Int) = 2) by decide, show ¬ ((5 : Int) = 3) by decide, show ¬ ((5 : Int) = 4) by decide, if_false] at hz3 ⊢
    obtain ⟨y4, z4, h4, hz4, rfl⟩ := seqO_cons hz3
    obtain ⟨y5, z5, h5, hz5, rfl⟩ := seqO_cons hz4
    obtain ⟨y6, z6, h6, hz6, rfl⟩ := seqO_cons hz5
    obtain ⟨y7, z7, h7, hz7, rfl⟩ := seqO_cons hz6
    obtain ⟨y8, z8, h8, hz8, rfl⟩ := seqO_cons hz7
    cases hz8
    simp only [List.append_nil, List.append_assoc]
    rw [bind_put (cNum 0 4611686018427387904 (by omega) (by omega)) hok.index h4, bind_put (cNum 0 4611686018427387904 (by omega) (by omega)) hok.logTerm h5, bind_put (cNum 0 18446744073709551615 (by omega) (by omega)) hok.stamp h6, bind_put cMems hok.members h7, bind_put cImg hok.image h8]
  simp only [k1, k2, k3, k4, k5, if_false] at hz3
  cases hz3
theorem body_cut (x : Msg) (hok : MsgOk x) {ys : List Int} (h : wBody x = some ys) {j : Nat} (hj : j < ys.length) : rdBody x.kind (ys.take j) = .error 2 := by
  obtain ⟨y1, z1, h1, hz1, rfl⟩ := seqO_cons h
  obtain ⟨y2, z2, h2, hz2, rfl⟩ := seqO_cons hz1
  obtain ⟨y3, z3, h3, hz3, rfl⟩ := seqO_cons hz2
  rw [rdBody_eq]
  refine bind_cut (cNum 1 7 (by omega) (by omega)) hok.src h1 (fun j hj => ?_) hj
  refine bind_cut (cNum 1 7 (by omega) (by omega)) hok.dst h2 (fun j hj => ?_) hj
  refine bind_cut (cNum 1 4611686018427387904 (by omega) (by omega)) hok.term h3 (fun j hj => ?_) hj
  simp only [wRest] at hz3
  unfold tailE
  by_cases k1 : x.kind = 1
  · simp only [k1, if_true, if_false] at hz3 ⊢
    obtain ⟨y4, z4, h4, hz4, rfl⟩ := seqO_cons hz3
    obtain ⟨y5, z5, h5, hz5, rfl⟩ := seqO_cons hz4
    cases hz5
    simp only [List.append_nil] at hj ⊢
    refine bind_cut (cNum 0 4611686018427387904 (by omega) (by omega)) hok.index h4 (fun j hj => ?_) hj
    exact bind_cut0 (cNum 0 4611686018427387904 (by omega) (by omega)) hok.logTerm h5 hj
  by_cases k2 : x.kind = 2
  · simp only [k2, if_true, show ¬ ((2 : Int) = 1) by decide, if_false] at hz3 ⊢
    obtain ⟨y4, z4, h4, hz4, rfl⟩ := seqO_cons hz3
    cases hz4
    simp only [List.append_nil] at hj ⊢
    exact bind_cut0 cYes trivial h4 hj
  by_cases k3 : x.kind = 3
  · simp only [k3, if_true, show ¬ ((3 : Int) = 1) by decide, show ¬ ((3 : Int) = 2) by decide, if_false] at hz3 ⊢
    obtain ⟨y4, z4, h4, hz4, rfl⟩ := seqO_cons hz3
    obtain ⟨y5, z5, h5, hz5, rfl⟩ := seqO_cons hz4
    obtain ⟨y6, z6, h6, hz6, rfl⟩ := seqO_cons hz5
    obtain ⟨y7, z7, h7, hz7, rfl⟩ := seqO_cons hz6
    obtain ⟨y8, z8, h8, hz8, rfl⟩ := seqO_cons hz7
    cases hz8
    simp only [List.append_nil] at hj ⊢
    refine bind_cut (cNum 0 4611686018427387904 (by omega) (by omega)) hok.index h4 (fun j hj => ?_) hj
    refine bind_cut (cNum 0 4611686018427387904 (by omega) (by omega)) hok.logTerm h5 (fun j hj => ?_) hj
    refine bind_cut (cNum 0 4611686018427387904 (by omega) (by omega)) hok.commit h6 (fun j hj => ?_) hj
    refine bind_cut (cNum 0 18446744073709551615 (by omega) (by omega)) hok.stamp h7 (fun j hj => ?_) hj
    exact bind_cut0 cEnts hok.entries h8 hj
  by_cases k4 : x.kind = 4
  · simp only [k4, if_true, show ¬ ((4 : Int) = 1) by decide, show ¬ ((4 : Int) = 2) by decide, show ¬ ((4 : Int) = 3) by decide, if_false] at hz3 ⊢
    obtain ⟨y4, z4, h4, hz4, rfl⟩ := seqO_cons hz3
    obtain ⟨y5, z5, h5, hz5, rfl⟩ := seqO_cons hz4
    obtain ⟨y6, z6, h6, hz6, rfl⟩ := seqO_cons hz5
    cases hz6
    simp only [List.append_nil] at hj ⊢
    refine bind_cut cYes trivial h4 (fun j hj => ?_) hj
    refine bind_cut (cNum 0 4611686018427387904 (by omega) (by omega)) hok.index h5 (fun j hj => ?_) hj
    exact bind_cut0 (cNum 0 18446744073709551615 (by omega) (by omega)) hok.stamp h6 hj
  by_cases k5 : x.kind = 5
  · simp only [k5, if_true, show ¬ ((5 : Int) = 1) by decide, show ¬ ((5 : Int) = 2) by decide, show ¬ ((5 : Int) = 3) by decide, show ¬ ((5 : Int) = 4) by decide, if_false] at hz3 ⊢
    obtain ⟨y4, z4, h4, hz4, rfl⟩ := seqO_cons hz3
    obtain ⟨y5, z5, h5, hz5, rfl⟩ := seqO_cons hz4
    obtain ⟨y6, z6, h6, hz6, rfl⟩ := seqO_cons hz5
    obtain ⟨y7, z7, h7, hz7, rfl⟩ := seqO_cons hz6
    obtain ⟨y8, z8, h8, hz8, rfl⟩ := seqO_cons hz7
    cases hz8
    simp only [List.append_nil] at hj ⊢
    refine bind_cut (cNum 0 4611686018427387904 (by omega) (by omega)) hok.index h4 (fun j hj => ?_) hj
    refine bind_cut (cNum 0 4611686018427387904 (by omega) (by omega)) hok.logTerm h5 (fun j hj => ?_) hj
    refine bind_cut (cNum 0 18446744073709551615 (by omega) (by omega)) hok.stamp h6 (fun j hj => ?_) hj
    refine bind_cut cMems hok.members h7 (fun j hj => ?_) hj
    exact bind_cut0 cImg hok.image h8 hj
  simp only [k1, k2, k3, k4, k5, if_false] at hz3
  cases hz3
theorem body_inv {k : Int} {bs r : List Int} {x : Msg} (hk : -9223372036854775808 ≤ k ∧ k ≤ 9223372036854775807) (hb : B8 bs) (h : rdBody k bs = .ok (x, r)) : ∃ ys, wBody x = some ys ∧ bs = ys ++ r ∧ x.kind = k ∧ bareM x = x ∧ MsgOk x := by
  rw [rdBody_eq] at h
  have z64 : U64 0 := by unfold U64; omega
  have n64 : B64 [] := fun y hy => by cases hy
  have n8 : B8 [] := fun y hy => by cases hy
  have nE : ∀ x ∈ ([] : List Ent), EntOk x := fun y hy => by cases hy
  obtain ⟨f, y1, r1, h1, rfl, p1, hb1, h⟩ := bind_inv (cNum 1 7 (by omega) (by omega)) hb h
  obtain ⟨t, y2, r2, h2, rfl, p2, hb2, h⟩ := bind_inv (cNum 1 7 (by omega) (by omega)) hb1 h
  obtain ⟨m, y3, r3, h3, rfl, p3, hb3, h⟩ := bind_inv (cNum 1 4611686018427387904 (by omega) (by omega)) hb2 h
  unfold tailE at h
  by_cases k1 : k = 1
  · subst k1
    simp only [if_true, if_false] at h
    obtain ⟨i, y4, r4, h4, rfl, p4, hb4, h⟩ := bind_inv (cNum 0 4611686018427387904 (by omega) (by omega)) hb3 h
    obtain ⟨l, y5, r5, h5, rfl, p5, hb5, h⟩ := bind_inv (cNum 0 4611686018427387904 (by omega) (by omega)) hb4 h
    cases h
    refine ⟨y1 ++ (y2 ++ (y3 ++ (y4 ++ (y5 ++ [])))), ?_, by simp, rfl, rfl, ⟨hk, p1, p2, p3, p4, p5, z64, z64, nE, n64, n8⟩⟩
    simp only [wBody, wRest, if_true, if_false, h1, h2, h3, h4, h5, seqO]
  by_cases k2 : k = 2
  · subst k2
    simp only [if_true, show ¬ ((2 : Int) = 1) by decide, if_false] at h
    obtain ⟨y, y4, r4, h4, rfl, p4, hb4, h⟩ := bind_inv cYes hb3 h
    cases h
    refine ⟨y1 ++ (y2 ++ (y3 ++ (y4 ++ []))), ?_, by simp, rfl, rfl, ⟨hk, p1, p2, p3, z64, z64, z64, z64, nE, n64, n8⟩⟩
    simp only [wBody, wRest, if_true, show ¬ ((2 : Int) = 1) by decide, if_false, h1, h2, h3, h4, seqO]
  by_cases k3 : k = 3
  · subst k3
    simp only [if_true, show ¬ ((3 : Int) = 1) by decide, show ¬ ((3 : Int) = 2) by decide, if_false] at h
    obtain ⟨i, y4, r4, h4, rfl, p4, hb4, h⟩ := bind_inv (cNum 0 4611686018427387904 (by omega) (by omega)) hb3 h
    obtain ⟨l, y5, r5, h5, rfl, p5, hb5, h⟩ := bind_inv (cNum 0 4611686018427387904 (by omega) (by omega)) hb4 h
    obtain ⟨c, y6, r6, h6, rfl, p6, hb6, h⟩ := bind_inv (cNum 0 4611686018427387904 (by omega) (by omega)) hb5 h
    obtain ⟨s, y7, r7, h7, rfl, p7, hb7, h⟩ := bind_inv (cNum 0 18446744073709551615 (by omega) (by omega)) hb6 h
    obtain ⟨xs, y8, r8, h8, rfl, p8, hb8, h⟩ := bind_inv cEnts hb7 h
    cases h
    refine ⟨y1 ++ (y2 ++ (y3 ++ (y4 ++ (y5 ++ (y6 ++ (y7 ++ (y8 ++ []))))))), ?_, by simp, rfl, rfl, ⟨hk, p1, p2, p3, p4, p5, p6, p7, p8, n64, n8⟩⟩
    simp only [wBody, wRest, if_true, show ¬ ((3 : Int) = 1) by decide, show ¬ ((3 : Int) = 2) by decide, if_false, h1, h2, h3, h4, h5, h6, h7, h8, seqO]
  by_cases k4 : k = 4
  · subst k4
    simp only [if_true, show ¬ ((4 : Int) = 1) by decide, show ¬ ((4 : Int) = 2) by decide, show ¬ ((4 : Int) = 3) by decide, if_false] at h
    obtain ⟨y, y4, r4, h4, rfl, p4, hb4, h⟩ := bind_inv cYes hb3 h
    obtain ⟨i, y5, r5, h5, rfl, p5, hb5, h⟩ := bind_inv (cNum 0 4611686018427387904 (by omega) (by omega)) hb4 h
    obtain ⟨s, y6, r6, h6, rfl, p6, hb6, h⟩ := bind_inv (cNum 0 18446744073709551615 (by omega) (by omega)) hb5 h
    cases h
    refine ⟨y1 ++ (y2 ++ (y3 ++ (y4 ++ (y5 ++ (y6 ++ []))))), ?_, by simp, rfl, rfl, ⟨hk, p1, p2, p3, p5, z64, z64, p6, nE, n64, n8⟩⟩
    simp only [wBody, wRest, if_true, show ¬ ((4 : Int) = 1) by decide, show ¬ ((4 : Int) = 2) by decide, show ¬ ((4 : Int) = 3) by decide, if_false, h1, h2, h3, h4, h5, h6, seqO]
  by_cases k5 : k = 5
  · subst k5
    simp only [if_true, show ¬ ((5 : Int) = 1) by decide, show ¬ ((5 : Int) = 2) by decide, show ¬ ((5 : Int) = 3) by decide, show ¬ ((5 : Int) = 4) by decide, if_false] at h
    obtain ⟨i, y4, r4, h4, rfl, p4, hb4, h⟩ := bind_inv (cNum 0 4611686018427387904 (by omega) (by omega)) hb3 h
    obtain ⟨l, y5, r5, h5, rfl, p5, hb5, h⟩ := bind_inv (cNum 0 4611686018427387904 (by omega) (by omega)) hb4 h
    obtain ⟨s, y6, r6, h6, rfl, p6, hb6, h⟩ := bind_inv (cNum 0 18446744073709551615 (by omega) (by omega)) hb5 h
    obtain ⟨ms, y7, r7, h7, rfl, p7, hb7, h⟩ := bind_inv cMems hb6 h
    obtain ⟨d, y8, r8, h8, rfl, p8, hb8, h⟩ := bind_inv cImg hb7 h
    cases h
    refine ⟨y1 ++ (y2 ++ (y3 ++ (y4 ++ (y5 ++ (y6 ++ (y7 ++ (y8 ++ []))))))), ?_, by simp, rfl, rfl, ⟨hk, p1, p2, p3, p4, p5, z64, p6, nE, p7, p8⟩⟩
    simp only [wBody, wRest, if_true, show ¬ ((5 : Int) = 1) by decide, show ¬ ((5 : Int) = 2) by decide, show ¬ ((5 : Int) = 3) by decide, show ¬ ((5 : Int) = 4) by decide, if_false, h1, h2, h3, h4, h5, h6, h7, h8, seqO]
  simp only [k1, k2, k3, k4, k5, if_false] at h
  cases h
theorem kind_of_body {x : Msg} {ys : List Int} (h : wBody x = some ys) : 1 ≤ x.kind ∧ x.kind ≤ 5 := by
  obtain ⟨y1, z1, h1, hz1, rfl⟩ := seqO_cons h
  obtain ⟨y2, z2, h2, hz2, rfl⟩ := seqO_cons hz1
  obtain ⟨y3, z3, h3, hz3, rfl⟩ := seqO_cons hz2
  by_cases k1 : x.kind = 1
  · omega
  by_cases k2 : x.kind = 2
  · omega
  by_cases k3 : x.kind = 3
  · omega
  by_cases k4 : x.kind = 4
  · omega
  by_cases k5 : x.kind = 5
  · omega
  simp only [wRest, k1, k2, k3, k4, k5, if_false] at hz3
  cases hz3
theorem getM_put (x : Msg) (hok : MsgOk x) {ys : List Int} (h : wBody x = some ys) : getM (x.kind % 256 :: ys) = .ok (bareM x) := by
  obtain ⟨k1, k5⟩ := kind_of_body h
  have hp := body_put x hok h []
  rw [List.append_nil] at hp
  have e : x.kind % 256 = x.kind := by omega
  simp only [getM, rdByte, e]
  rw [if_neg (by omega), hp]
  simp
theorem getM_tail (x : Msg) (hok : MsgOk x) {ys : List Int} (h : wBody x = some ys) (b : Int) : getM (x.kind % 256 :: ys ++ [b]) = .error 5 := by
  obtain ⟨k1, k5⟩ := kind_of_body h
  have hp := body_put x hok h [b]
  have e : x.kind % 256 = x.kind := by omega
  simp only [getM, List.cons_append, rdByte, e]
  rw [if_neg (by omega), hp]
  simp
theorem getM_cut (x : Msg) (hok : MsgOk x) {ys : List Int} (h : wBody x = some ys) {j : Nat} (hj : j < (x.kind % 256 :: ys).length) : getM ((x.kind % 256 :: ys).take j) = .error 2 := by
  obtain ⟨k1, k5⟩ := kind_of_body h
  have e : x.kind % 256 = x.kind := by omega
  cases j with
  | zero => simp [getM, rdByte]
  | succ j =>
    have hc := body_cut x hok h (j := j) (by simpa using hj)
    simp only [getM, List.take_succ_cons, rdByte, e]
    rw [if_neg (by omega), hc]
theorem getM_inv {bs : List Int} {x : Msg} (hb : B8 bs) (h : getM bs = .ok x) : ∃ ys, wBody x = some ys ∧ bs = (x.kind % 256) :: ys ∧ bareM x = x ∧ MsgOk x := by
  cases bs with
  | nil => simp [getM, rdByte] at h
  | cons k t =>
    have hk := hb k (by simp)
    simp only [getM, rdByte] at h
    split at h
    · cases h
    · split at h
      · cases h
      · rename_i m r heq
        split at h
        · rename_i hr
          cases h
          obtain ⟨ys, e1, e2, e3, e4, e5⟩ := body_inv (by omega) (fun z hz => hb z (by simp [hz])) heq
          refine ⟨ys, e1, ?_, e4, e5⟩
          rw [e3, e2, hr, List.append_nil]
          congr 1; omega
        · cases h
theorem getM_ok {bs : List Int} {x : Msg} (hb : B8 bs) (h : getM bs = .ok x) : MsgOk x := by obtain ⟨_, _, _, _, h⟩ := getM_inv hb h; exact h
end Go.Proofs.Ytjodgbabfhcilaa

/- msg.Put and msg.Formed. -/
namespace Go.Proofs.Ytjodgbabfhcilaa
open Go Go.RowKit

theorem B8.app {xs ys : List Int} (h : B8 xs) (k : B8 ys) : B8 (xs ++ ys) := fun x hx => (List.mem_append.1 hx).elim (h x) (k x)
theorem numB_B8 (n : Nat) : B8 (numB n) := numB_bound n
/-- Bytes, and not too many. -/
def Fine (n : Nat) (ys : List Int) : Prop := B8 ys ∧ ys.length ≤ n
theorem Fine.mono {n k : Nat} {ys : List Int} (h : Fine n ys) (hk : n ≤ k) : Fine k ys := ⟨h.1, Nat.le_trans h.2 hk⟩
theorem seqO_fine : ∀ (l : List (Option (List Int))) (n : Nat), (∀ o ∈ l, ∀ ys, o = some ys → Fine n ys) → ∀ ys, seqO l = some ys → Fine (n * l.length) ys
  | [], n, _, ys, h => by cases h; exact ⟨fun x hx => by simp at hx, by simp⟩
  | none :: _, n, _, ys, h => by cases h
  | some a :: r, n, hl, ys, h => by
    simp only [seqO] at h
    split at h
    · cases h
    · rename_i b hb
      cases h
      have h1 := hl (some a) (by simp) a rfl
      have h2 := seqO_fine r n (fun o ho => hl o (by simp [ho])) b hb
      refine ⟨h1.1.app h2.1, ?_⟩
      have e1 := h1.2; have e2 := h2.2
      simp only [List.length_append, List.length_cons, Nat.mul_succ]
      omega
theorem flat_fine {α : Type} (f : α → List Int) (n : Nat) : ∀ (l : List α), (∀ x ∈ l, Fine n (f x)) → Fine (n * l.length) (l.flatMap f)
  | [], _ => ⟨fun x hx => by simp at hx, by simp⟩
  | a :: r, h => by
    have h1 := h a (by simp)
    have h2 := flat_fine f n r (fun x hx => h x (by simp [hx]))
    rw [List.flatMap_cons]
    refine ⟨h1.1.app h2.1, ?_⟩
    have e1 := h1.2; have e2 := h2.2
    simp only [List.length_append, List.length_cons, Nat.mul_succ]
    omega
theorem wNum_fine {lo hi n : Int} {ys : List Int} (h : wNum lo hi n = some ys) : Fine 17000 ys := by
  have hl := wNum_len h
  simp only [wNum] at h
  split at h
  · cases h; exact ⟨numB_B8 _, by omega⟩
  · cases h
theorem wYes_fine {y : Bool} {ys : List Int} (h : wYes y = some ys) : Fine 17000 ys := by
  simp only [wYes] at h; cases h
  refine ⟨fun x hx => ?_, by simp⟩
  simp at hx; subst hx; cases y <;> simp
theorem wMems_fine {xs : List Int} {ys : List Int} (h : wMems xs = some ys) : Fine 17000 ys := by
  have hl := wMems_len h
  simp only [wMems] at h
  split at h
  · cases h
    exact ⟨(numB_B8 _).app (flat_fine _ 9 xs (fun x _ => ⟨numB_B8 _, numB_len_le _⟩)).1, by omega⟩
  · cases h
theorem wImg_fine {xs : List Int} {ys : List Int} (hx : B8 xs) (h : wImg xs = some ys) : Fine 17000 ys := by
  simp only [wImg] at h
  split at h
  · cases h
    have := numB_len_le xs.length
    exact ⟨(numB_B8 _).app hx, by simp only [List.length_append]; omega⟩
  · cases h
theorem wEnts_fine {xs : List Ent} {ys : List Int} (hx : ∀ x ∈ xs, EntOk x) (h : wEnts xs = some ys) : Fine 17000 ys := by
  simp only [wEnts] at h
  split at h
  · rename_i hc
    cases h
    have h2 := flat_fine rawE 209 xs (fun x hxm => by
      have hf := List.all_eq_true.1 hc.2 x hxm
      have h1 := putB_len x hf
      have h2 := numB_len_le (putB x).length
      refine ⟨(numB_B8 _).app (putB_B8 x (hx x hxm)), ?_⟩
      simp only [rawE, List.length_append]; omega)
    have := numB_len_le xs.length
    refine ⟨(numB_B8 _).app h2.1, ?_⟩
    have e2 := h2.2
    have : 209 * xs.length ≤ 209 * 4 := Nat.mul_le_mul_left _ hc.1
    simp only [List.length_append]; omega
  · cases h
theorem wRest_fine (m : Msg) (hok : MsgOk m) : ∀ o ∈ wRest m, ∀ ys, o = some ys → Fine 17000 ys := by
  intro o ho ys hy
  have e1 := hok.entries; have e2 := hok.image
  simp only [wRest] at ho
  split at ho
  · simp at ho; rcases ho with rfl | rfl <;> exact wNum_fine hy
  split at ho
  · simp at ho; subst ho; exact wYes_fine hy
  split at ho
  · simp at ho; rcases ho with rfl | rfl | rfl | rfl | rfl <;> first | exact wNum_fine hy | exact wEnts_fine e1 hy
  split at ho
  · simp at ho; rcases ho with rfl | rfl | rfl <;> first | exact wNum_fine hy | exact wYes_fine hy
  split at ho
  · simp at ho; rcases ho with rfl | rfl | rfl | rfl | rfl <;> first | exact wNum_fine hy | exact wMems_fine hy | exact wImg_fine e2 hy
  · simp at ho; subst ho; cases hy
theorem wRest_len (m : Msg) : (wRest m).length ≤ 5 := by
  simp only [wRest]
  repeat' split
  all_goals simp
theorem wBody_fine (m : Msg) (hok : MsgOk m) {ys : List Int} (h : wBody m = some ys) : Fine 200000 ys := by
  refine (seqO_fine _ 17000 ?_ ys h).mono ?_
  · intro o ho zs hz
    simp only [List.mem_cons] at ho
    rcases ho with rfl | rfl | rfl | ho
    · exact wNum_fine hz
    · exact wNum_fine hz
    · exact wNum_fine hz
    · exact wRest_fine m hok o ho zs hz
  · have := wRest_len m
    simp only [List.length_cons]; omega

/-- The bytes of a message, if it has them. -/
def wrM (m : Msg) : Option (List Int) :=
  match wBody m with
  | none => none
  | some ys => match getM ((m.kind % 256) :: ys) with
    | .error _ => none
    | .ok x => if x = m then some ((m.kind % 256) :: ys) else none
/-- How msg.Put ends. -/
def MPutOut (X : Option (List Int)) (w : World) (en : Ending) (w' : World) : Prop :=
  Ext w w' ∧ ∃ v e, en = .returned (.tuple #[v, .int .i64 e]) ∧ match X with
  | none => e = 1 ∧ v = .slice none 0 0
  | some bs => e = 0 ∧ Rd w' v (u8s bs) ∧ From w.heap.size v

set_option maxHeartbeats 400000 in
theorem mput_idle (p q : Nat) (w : World) : CallsD Try.prog 33 #[ptr p, ptr q] .returning w fun en u w' => en = .returned (.tuple #[]) ∧ u = .returning ∧ w' = w := by
  refine callsD_of_wpS Try.func33 rfl fun c₀ cs hu => ?_
  have ha := isErr_nil
  apply wpS_seq
  apply wpS_region
  simp [wpOpsS, go_sem, recoverD, hu, ha, Try.ntmps33, Exit.thenS]
  refine wpS_of_wp ?_
  simp [Array.replicate]
  go_wp2
  exact ⟨rfl, .returning, by cases c₀; simp_all, _, results_none rfl _ _ _, rfl, rfl, rfl⟩

set_option maxHeartbeats 1000000 in
theorem mput_catch (p q : Nat) (b0 e0 : Value) (no : Int) (older : List PanicEntry) (w : World) (hx : Blk w p #[b0] 32) (he : Blk w q #[e0] 27) (hpq : p ≠ q) :
    CallsD Try.prog 33 #[ptr p, ptr q] (.panicking ({ v := errv no, recovered := false } :: older)) w fun en u w' => en = .returned (.tuple #[]) ∧ u = .panicking ({ v := errv no, recovered := true } :: older) ∧ Chg [p, q] w w' ∧ Blk w' p #[.slice none 0 0] 32 ∧ Blk w' q #[.int .i64 1] 27 := by
  refine callsD_of_wpS Try.func33 rfl fun c₀ cs hu => ?_
  have ha := isErr_some
  have x0 := hx.cell 0 rfl
  have f0 := hx.free 0
  have y0 := he.cell 0 rfl
  have g0 := he.free 0
  apply wpS_seq
  apply wpS_region
  simp [wpOpsS, go_sem, recoverD, hu, ha, Try.ntmps33, Exit.thenS]
  refine wpS_of_wp ?_
  simp [Array.replicate]
  go_wp2
  have hx' := (hx.set 0 (.slice none 0 0)).other ⟨q, 0, none⟩ (.int .i64 1) (Ne.symm hpq)
  have hC := ((Chg.refl [p, q] w).setNew p 0 (.slice none 0 0) (.inl (by simp))).setNew q 0 (.int .i64 1) (.inl (by simp))
  have he' := (he.other ⟨p, 0, none⟩ (.slice none 0 0) hpq).set 0 (.int .i64 1)
  simp only [List.setIfInBounds_toArray, List.set_cons_succ, List.set_cons_zero] at hx' he'
  exact ⟨rfl, _, rfl, _, results_none rfl _ _ _, rfl, rfl, hC, hx', he'⟩

set_option maxHeartbeats 1000000 in
theorem mput_door (b0 e0 : Value) (no : Int) (w W : World) (tmps : Array Value) (X : Option (List Int)) (hX : X = none) (hE : Below w.heap.size w W) (hx : Blk W (w.heap.size + 1) #[b0] 32) (he0 : Blk W (w.heap.size + 2) #[e0] 27)
    (hz : tmps[2]? = some (ptr (w.heap.size + 1))) (he : tmps[3]? = some (ptr (w.heap.size + 2))) :
    bodyPostD Try.prog Try.f27 (MPutOut X w) (.panic [{ v := errv no, recovered := false }]) { tmps := tmps, defers := [{ target := .fn (.func 33) #[ptr (w.heap.size + 1), ptr (w.heap.size + 2)], args := #[] }] } W := by
  subst hX
  refine leaves_cons (f := 33) (args := #[ptr (w.heap.size + 1), ptr (w.heap.size + 2)]) (by simp) (by simp [go_sem]) ?_
  refine (mput_catch _ _ b0 e0 no [] W hx he0 (by omega)).mono ?_
  rintro en u w2 ⟨rfl, rfl, hC, h1, h2⟩
  have x0 := h1.cell 0 rfl
  have y0 := h2.cell 0 rfl
  have hE2 : Ext w w2 := hC.below hE hE.size (by simp)
  simp at x0 y0
  simp [Leaves, settle, results, Try.results27, go_sem, hz, he, x0, y0]
  exact ⟨hE2, _, 1, rfl, rfl, rfl⟩

set_option maxHeartbeats 1000000 in
theorem mput_fin (v : Value) (bs : List Int) (w F : World) (tmps : Array Value) (X : Option (List Int)) (hX : X = some bs) (hE : Ext w F) (hx' : Blk F (w.heap.size + 1) #[v] 32) (he' : Blk F (w.heap.size + 2) #[.int .i64 0] 27)
    (hr : Rd F v (u8s bs)) (hf : From w.heap.size v) (hz : tmps[2]? = some (ptr (w.heap.size + 1))) (he : tmps[3]? = some (ptr (w.heap.size + 2))) :
    bodyPostD Try.prog Try.f27 (MPutOut X w) .ret { tmps := tmps, defers := [{ target := .fn (.func 33) #[ptr (w.heap.size + 1), ptr (w.heap.size + 2)], args := #[] }] } F := by
  subst hX
  have x0 := hx'.cell 0 rfl
  have y0 := he'.cell 0 rfl
  simp at x0 y0
  obtain ⟨b9, n9, c9, rfl⟩ := Rd.shape hr
  refine leaves_cons (f := 33) (args := #[ptr (w.heap.size + 1), ptr (w.heap.size + 2)]) (by simp) (by simp [go_sem]) ?_
  refine (mput_idle _ _ F).mono ?_
  rintro en u w2 ⟨rfl, rfl, rfl⟩
  simp [Leaves, settle, results, Try.results27, go_sem, hz, he, x0, y0]
  exact ⟨hE, _, 0, rfl, rfl, hr, hf⟩
set_option maxHeartbeats 4000000 in
theorem mput_c (v : Value) (M : Msg) (B0 : Nat) (w : World) (hv : MsgV w B0 v M) (hok : MsgOk M) : Calls Try.prog 27 #[v] w (MPutOut (wrM M) w) := by
  have hmf : ∀ (fn : Fn) (first cap : Array Value) (w : World), (Instr.makeFunc fn first cap).run Try.prog w = .ok (.func fn first cap) w := fun _ _ _ _ => rfl
  obtain ⟨X, hX⟩ : ∃ X, X = wrM M := ⟨_, rfl⟩
  rw [← hX]
  obtain ⟨ev, mv, iv, rfl, he, ⟨hms, _⟩, hi, _⟩ := hv
  obtain ⟨b9, n9, c9, rfl⟩ : ∃ a n c, ev = .slice a n c := by obtain ⟨_, cs, o, a, c, h, _⟩ := he; exact ⟨_, _, _, h⟩
  obtain ⟨b10, n10, c10, rfl⟩ := Rd.shape hms
  obtain ⟨b11, n11, c11, rfl⟩ := Rd.shape hi
  have HX := Lib.hid hX; have HE := Lib.hid (he.low (Nat.zero_le _)); have HMS := Lib.hid hms; have HI := Lib.hid hi; have HOK := Lib.hid hok
  clear hX he hms hi hok
  have hE0 : Ext w (((w.alloc (.cells #[.int .i64 M.kind, .int .u64 M.src, .int .u64 M.dst, .int .u64 M.term, .int .u64 M.index, .int .u64 M.logTerm, .int .u64 M.commit, .int .u64 M.stamp, .bool M.yes, .slice b9 n9 c9, .slice b10 n10 c10, .slice b11 n11 c11] 34)).alloc (.cells #[.slice none 0 0] 32)).alloc (.cells #[.int .i64 0] 27)) := ((Ext.alloc _ _).trans (Ext.alloc _ _)).trans (Ext.alloc _ _)
  have hK0 : Blk (((w.alloc (.cells #[.int .i64 M.kind, .int .u64 M.src, .int .u64 M.dst, .int .u64 M.term, .int .u64 M.index, .int .u64 M.logTerm, .int .u64 M.commit, .int .u64 M.stamp, .bool M.yes, .slice b9 n9 c9, .slice b10 n10 c10, .slice b11 n11 c11] 34)).alloc (.cells #[.slice none 0 0] 32)).alloc (.cells #[.int .i64 0] 27)) w.heap.size #[.int .i64 M.kind, .int .u64 M.src, .int .u64 M.dst, .int .u64 M.term, .int .u64 M.index, .int .u64 M.logTerm, .int .u64 M.commit, .int .u64 M.stamp, .bool M.yes, .slice b9 n9 c9, .slice b10 n10 c10, .slice b11 n11 c11] 34 := ((Blk.new w _ _).alloc _).alloc _
  have hK1 : Blk (((w.alloc (.cells #[.int .i64 M.kind, .int .u64 M.src, .int .u64 M.dst, .int .u64 M.term, .int .u64 M.index, .int .u64 M.logTerm, .int .u64 M.commit, .int .u64 M.stamp, .bool M.yes, .slice b9 n9 c9, .slice b10 n10 c10, .slice b11 n11 c11] 34)).alloc (.cells #[.slice none 0 0] 32)).alloc (.cells #[.int .i64 0] 27)) (w.heap.size + 1) #[.slice none 0 0] 32 := by
    have := (Blk.new (w.alloc (.cells #[.int .i64 M.kind, .int .u64 M.src, .int .u64 M.dst, .int .u64 M.term, .int .u64 M.index, .int .u64 M.logTerm, .int .u64 M.commit, .int .u64 M.stamp, .bool M.yes, .slice b9 n9 c9, .slice b10 n10 c10, .slice b11 n11 c11] 34)) #[.slice none 0 0] 32).alloc (.cells #[.int .i64 0] 27)
    simpa using this
  have hK2 : Blk (((w.alloc (.cells #[.int .i64 M.kind, .int .u64 M.src, .int .u64 M.dst, .int .u64 M.term, .int .u64 M.index, .int .u64 M.logTerm, .int .u64 M.commit, .int .u64 M.stamp, .bool M.yes, .slice b9 n9 c9, .slice b10 n10 c10, .slice b11 n11 c11] 34)).alloc (.cells #[.slice none 0 0] 32)).alloc (.cells #[.int .i64 0] 27)) (w.heap.size + 2) #[.int .i64 0] 27 := by
    have := Blk.new ((w.alloc (.cells #[.int .i64 M.kind, .int .u64 M.src, .int .u64 M.dst, .int .u64 M.term, .int .u64 M.index, .int .u64 M.logTerm, .int .u64 M.commit, .int .u64 M.stamp, .bool M.yes, .slice b9 n9 c9, .slice b10 n10 c10, .slice b11 n11 c11] 34)).alloc (.cells #[.slice none 0 0] 32)) #[.int .i64 0] 27
    simpa using this
  have hs0 : (((w.alloc (.cells #[.int .i64 M.kind, .int .u64 M.src, .int .u64 M.dst, .int .u64 M.term, .int .u64 M.index, .int .u64 M.logTerm, .int .u64 M.commit, .int .u64 M.stamp, .bool M.yes, .slice b9 n9 c9, .slice b10 n10 c10, .slice b11 n11 c11] 34)).alloc (.cells #[.slice none 0 0] 32)).alloc (.cells #[.int .i64 0] 27)).heap.size = w.heap.size + 3 := by simp
  have hwk : IntKind.u8.wrap M.kind = M.kind % 256 := IntKind.wrap_u8 _
  have HE0 := Lib.hid hE0; have HK0 := Lib.hid hK0; have HK1 := Lib.hid hK1; have HK2 := Lib.hid hK2; have HS0 := Lib.hid hs0
  clear hE0 hK0 hK1 hK2 hs0
  simp only [mCells]
  go_enter_defers Try.func27, Try.ntmps27
  go_upto_region 2 with fail
  generalize ((w.alloc (.cells #[.int .i64 M.kind, .int .u64 M.src, .int .u64 M.dst, .int .u64 M.term, .int .u64 M.index, .int .u64 M.logTerm, .int .u64 M.commit, .int .u64 M.stamp, .bool M.yes, .slice b9 n9 c9, .slice b10 n10 c10, .slice b11 n11 c11] 34)).alloc (.cells #[.slice none 0 0] 32)).alloc (.cells #[.int .i64 0] 27) = w0 at *
  have ck := HK0.out.cell 0 rfl
  have hs0 := HS0.out
  go_upto_region 3 with fail
  have hE1 : Ext w0 ((w0.alloc (.cells #[.int .u8 (M.kind % 256)] 5)).alloc (.cells #[.slice (some ⟨w.heap.size + 3, 0, none⟩) 1 1] 79)) := (Ext.alloc _ _).trans (Ext.alloc _ _)
  have hws : WS ((w0.alloc (.cells #[.int .u8 (M.kind % 256)] 5)).alloc (.cells #[.slice (some ⟨w.heap.size + 3, 0, none⟩) 1 1] 79)) (w.heap.size + 3) (w.heap.size + 3 + 1) [M.kind % 256] := by
    refine ⟨by omega, by simp; omega, .slice (some ⟨w.heap.size + 3, 0, none⟩) 1 1, ?_, ?_⟩
    · have := Blk.new (w0.alloc (.cells #[.int .u8 (M.kind % 256)] 5)) #[.slice (some ⟨w.heap.size + 3, 0, none⟩) 1 1] 79
      have hz : (w0.alloc (.cells #[.int .u8 (M.kind % 256)] 5)).heap.size = w.heap.size + 3 + 1 := by simp [hs0]
      rwa [hz] at this
    · have := own_ext (own_lit w0 [.int .u8 (M.kind % 256)] 5 (by unfold maxLen; simp)) (Ext.alloc _ (.cells #[.slice (some ⟨w.heap.size + 3, 0, none⟩) 1 1] 79))
      rw [hs0] at this
      exact this
  have HE1 := Lib.hid (HE0.out.trans hE1); have HWS := Lib.hid hws
  have HL1 := Lib.hid (HK0.out.ext hE1); have HL2 := Lib.hid (HK1.out.ext hE1); have HL3 := Lib.hid (HK2.out.ext hE1)
  clear hE1 hws ck hs0 hwk HK0 HK1 HK2 HE0 HS0
  generalize (w0.alloc (.cells #[.int .u8 (M.kind % 256)] 5)).alloc (.cells #[.slice (some ⟨w.heap.size + 3, 0, none⟩) 1 1] 79) = w1 at *
  have hsh : ∀ W, Below (w.heap.size + 3) w1 W → Ext w W := fun W hW => Below.trans (B := w.heap.size) HE1.out ⟨hW.os, hW.tape, hW.output, hW.size, fun k hk => hW.block k (by omega)⟩
  have HSH := Lib.hid hsh
  clear hsh
  go_wp2_with fail
  refine (walkW M b9 b10 b11 n9 c9 n10 c10 n11 c11 (w.heap.size + 3) (w.heap.size + 3 + 1) w.heap.size [M.kind % 256] w1 HWS.out (by omega) HL1.out (fun W hW => HE.out.ext (HSH.out W hW)) (fun W hW => HMS.out.ext (HSH.out W hW)) (fun W hW => HI.out.ext (HSH.out W hW)) HOK.out (by simp)).mono ?_
  rintro en w7 ⟨hB7, hm⟩
  have HE7 := Lib.hid (HSH.out w7 hB7)
  have HM7 := Lib.hid (HL1.out.below hB7 (by omega)); have HX7 := Lib.hid (HL2.out.below hB7 (by omega)); have HY7 := Lib.hid (HL3.out.below hB7 (by omega))
  clear hB7 HL1 HL2 HL3 HWS
  rcases hY : wBody M with _ | ys
  · rw [hY] at hm
    obtain ⟨no, rfl⟩ := hm
    have HZ : Hid (X = none) := Lib.hid (by rw [HX.out]; simp [wrM, hY])
    clear hY
    go_wp2_with fail
    exact mput_door _ _ no w _ _ _ HZ.out HE7.out HX7.out HY7.out rfl rfl
  rw [hY] at hm
  obtain ⟨rfl, _, hBW, wv, hb7, ho7⟩ := hm
  obtain ⟨va, vn, vc, rfl⟩ := own_shape ho7
  have hfine := wBody_fine M HOK.out hY
  have h8 : B8 (M.kind % 256 :: ys) := by
    intro z hz
    rcases List.mem_cons.1 hz with rfl | hz
    · omega
    · exact hfine.1 z hz
  have hlen : (M.kind % 256 :: ys).length ≤ 140737488355328 := by have := hfine.2; simp only [List.length_cons]; omega
  have HB7 := Lib.hid hb7; have HO7 := Lib.hid ho7; have HY := Lib.hid hY; have H8 := Lib.hid h8
  have cb := hb7.cell 0 rfl
  clear hb7 ho7 hY h8 hfine
  go_wp2_with fail
  refine (mget_c _ (M.kind % 256 :: ys) w7 (Rd.of_own HO7.out) H8.out hlen).mono ?_
  rintro en w8 ⟨hE8, gv, ge, x, rfl, ⟨hgv, -⟩, hgx⟩
  have HGV := Lib.hid hgv
  obtain ⟨ev', mv', iv', rfl, he', ⟨hm', _⟩, hi', _⟩ := hgv
  obtain ⟨d9, m9, e9, rfl⟩ : ∃ a n c, ev' = .slice a n c := by obtain ⟨_, cs, o, a, c, h, _⟩ := he'; exact ⟨_, _, _, h⟩
  obtain ⟨d10, m10, e10, rfl⟩ := Rd.shape hm'
  obtain ⟨d11, m11, e11, rfl⟩ := Rd.shape hi'
  have HE8 := Lib.hid hE8
  clear hE8 he' hm' hi' cb
  simp only [mCells]
  go_upto_region 5 with fail
  have hE9 := Ext.alloc w8 (.cells #[.int .i64 x.kind, .int .u64 x.src, .int .u64 x.dst, .int .u64 x.term, .int .u64 x.index, .int .u64 x.logTerm, .int .u64 x.commit, .int .u64 x.stamp, .bool x.yes, .slice d9 m9 e9, .slice d10 m10 e10, .slice d11 m11 e11] 34)
  have HB9 := Lib.hid (Blk.new w8 #[.int .i64 x.kind, .int .u64 x.src, .int .u64 x.dst, .int .u64 x.term, .int .u64 x.index, .int .u64 x.logTerm, .int .u64 x.commit, .int .u64 x.stamp, .bool x.yes, .slice d9 m9 e9, .slice d10 m10 e10, .slice d11 m11 e11] 34)
  generalize w8.alloc (.cells #[.int .i64 x.kind, .int .u64 x.src, .int .u64 x.dst, .int .u64 x.term, .int .u64 x.index, .int .u64 x.logTerm, .int .u64 x.commit, .int .u64 x.stamp, .bool x.yes, .slice d9 m9 e9, .slice d10 m10 e10, .slice d11 m11 e11] 34) = w9 at *
  have HE9 := Lib.hid (HE8.out.trans hE9)
  have HGV9 := Lib.hid hE9
  clear hE9
  go_wp2_with fail
  refine (mmust_c ge w9).mono ?_
  rintro en w10 ⟨rfl, hen⟩
  have HE10 := Lib.hid (HE7.out.trans HE9.out)
  have HX10 := Lib.hid (HX7.out.ext HE9.out); have HY10 := Lib.hid (HY7.out.ext HE9.out); have HM10 := Lib.hid (HM7.out.ext HE9.out); have HB10 := Lib.hid (HB7.out.ext HE9.out); have HO10 := Lib.hid (own_ext HO7.out HE9.out)
  rcases hG : getM (M.kind % 256 :: ys) with no | x'
  · rw [hG] at hgx
    obtain ⟨rfl, hne, _⟩ := hgx
    rw [if_neg hne] at hen
    subst hen
    have HZ : Hid (X = none) := Lib.hid (by rw [HX.out]; simp [wrM, HY.out, hG])
    clear hG
    go_wp2_with fail
    exact mput_door _ _ ge w _ _ _ HZ.out HE10.out HX10.out HY10.out rfl rfl
  rw [hG] at hgx
  obtain ⟨rfl, rfl⟩ := hgx
  rw [if_pos rfl] at hen
  subst hen
  have hxok := getM_ok H8.out hG
  have HG := Lib.hid hG; have HXOK := Lib.hid hxok
  clear hG hxok
  have ck10 := HM10.out.cell 0 rfl
  go_wp2_with (first | (refine wpList_load_row rfl 34 (.tmp 5) rfl w8.heap.size rfl 34 _ (0, 0) _ HB9.out Try.underlying34 rfl (by kernel_rfl) ?_) | (refine wpList_load_row rfl 34 (.tmp 1) rfl w.heap.size rfl 34 _ (0, 0) _ HM10.out Try.underlying34 rfl (by kernel_rfl) ?_))
  have hvx : MsgV w10 0 (.agg #[.int .i64 x.kind, .int .u64 x.src, .int .u64 x.dst, .int .u64 x.term, .int .u64 x.index, .int .u64 x.logTerm, .int .u64 x.commit, .int .u64 x.stamp, .bool x.yes, .slice d9 m9 e9, .slice d10 m10 e10, .slice d11 m11 e11]) x := by
    obtain ⟨_, _, _, heq, h1, ⟨h2, _⟩, h3, _⟩ := HGV.out
    simp only [mCells] at heq
    cases heq
    exact ⟨_, _, _, rfl, (h1.low (Nat.zero_le _)).ext HGV9.out, ⟨h2.ext HGV9.out, fun _ _ _ _ => Nat.zero_le _⟩, h3.ext HGV9.out, fun _ _ _ _ => Nat.zero_le _⟩
  have hvm : MsgV w10 0 (.agg #[.int .i64 M.kind, .int .u64 M.src, .int .u64 M.dst, .int .u64 M.term, .int .u64 M.index, .int .u64 M.logTerm, .int .u64 M.commit, .int .u64 M.stamp, .bool M.yes, .slice b9 n9 c9, .slice b10 n10 c10, .slice b11 n11 c11]) M := ⟨_, _, _, rfl, HE.out.ext HE10.out, ⟨HMS.out.ext HE10.out, fun _ _ _ _ => Nat.zero_le _⟩, HI.out.ext HE10.out, fun _ _ _ _ => Nat.zero_le _⟩
  refine (msame_ret _ _ x M 0 0 w10 hvx hvm HXOK.out HOK.out).mono ?_
  rintro e w11 ⟨rfl, hE11⟩
  have HE11 := Lib.hid (HE10.out.trans hE11)
  have HX11 := Lib.hid (HX10.out.ext hE11); have HY11 := Lib.hid (HY10.out.ext hE11); have HB11 := Lib.hid (HB10.out.ext hE11); have HO11 := Lib.hid (own_ext HO10.out hE11)
  clear hE11 ck10 hvx hvm
  by_cases hxm : x = M
  · rw [decide_eq_true hxm]
    have HZ : Hid (X = some (M.kind % 256 :: ys)) := Lib.hid (by rw [HX.out]; simp [wrM, HY.out, HG.out, hxm])
    clear hxm
    go_wp2_with fail
    refine (mought_c true 1 w11).mono ?_
    rintro en w12 ⟨rfl, rfl⟩
    have cb := HB11.out.cell 0 rfl
    have p1 := HX11.out.free 0; have p2 := HX11.out.cell 0 rfl; have q1 := HY11.out.free 0; have q2 := HY11.out.cell 0 rfl
    go_wp2_with fail
    have hx' := (HX11.out.set 0 (.slice va vn vc)).other ⟨w.heap.size + 2, 0, none⟩ (.int .i64 0) (by simp)
    have hy' := (HY11.out.other ⟨w.heap.size + 1, 0, none⟩ (.slice va vn vc) (by simp)).set 0 (.int .i64 0)
    simp only [List.setIfInBounds_toArray, List.set_cons_zero] at hx' hy'
    have hf := From.own HO11.out
    have hr := ((Rd.of_own HO11.out).chg (Chg.set (S := [w.heap.size + 1]) (w.heap.size + 1) 0 (.slice va vn vc) (by simp)) (hf.off (by intro t ht; simp at ht; omega))).chg (Chg.set (S := [w.heap.size + 2]) (w.heap.size + 2) 0 (.int .i64 0) (by simp)) (hf.off (by intro t ht; simp at ht; omega))
    exact mput_fin _ _ w _ _ X HZ.out (below_set (below_set HE11.out (w.heap.size + 1) 0 _ (by omega)) (w.heap.size + 2) 0 _ (by omega)) hx' hy' hr (hf.mono (by omega)) rfl rfl
  · rw [decide_eq_false hxm]
    have HZ : Hid (X = none) := Lib.hid (by rw [HX.out]; simp [wrM, HY.out, HG.out, hxm])
    clear hxm
    go_wp2_with fail
    refine (mought_c false 1 w11).mono ?_
    rintro en w12 ⟨rfl, rfl⟩
    go_wp2_with fail
    exact mput_door _ _ 1 w _ _ _ HZ.out HE11.out HX11.out HY11.out rfl rfl

/-- What Put answers in plain words. -/
theorem wrM_eq (M : Msg) (hok : MsgOk M) : wrM M = match wBody M with
  | none => none
  | some ys => if bareM M = M then some ((M.kind % 256) :: ys) else none := by
  unfold wrM
  cases h : wBody M with
  | none => rfl
  | some ys => simp only [getM_put M hok h]

end Go.Proofs.Ytjodgbabfhcilaa

/- tabellionlaw18: awake; messages in memory. -/
namespace Go.Proofs.Ytjodgbabfhcilaa
open Go Go.RowKit

/-- What the law's loop keeps: n bytes of the call's own, whatever they are. -/
def OwnAny (W W' : World) (g n : Nat) (e : TypeId) : Prop :=
  W.grownBy W' (some g) ∧ (n = 0 ∨ ∃ cur : Array Value, Blk W' g cur e ∧ n ≤ cur.size ∧ ∀ j, j < n → ∃ z, cur[j]? = some (.int .u8 z))
theorem OwnAny.get {W W' : World} {g n k : Nat} {e : TypeId} (h : OwnAny W W' g n e) (hk : k < n) : ∃ z, W'.cell? ⟨g, k, none⟩ = some (.int .u8 z) ∧ W'.frozen? ⟨g, k, none⟩ = false := by
  obtain ⟨_, h | ⟨cur, hb, hs, hc⟩⟩ := h
  · omega
  · obtain ⟨z, hz⟩ := hc k hk
    exact ⟨z, hb.cell k hz, hb.free k⟩
theorem OwnAny.store {W W' : World} {g n : Nat} {e : TypeId} (h : OwnAny W W' g n e) (k : Nat) (z : Int) (hk : k < n) : OwnAny W (W'.setCell ⟨g, k, none⟩ (.int .u8 z)) g n e := by
  obtain ⟨hg, h | ⟨cur, hb, hs, hc⟩⟩ := h
  · omega
  · refine ⟨grown_trans1 hg (grown_set _ _ _ _), .inr ⟨_, hb.set k _, by simpa using hs, fun j hj => ?_⟩⟩
    by_cases hjk : j = k
    · subst hjk; exact ⟨z, by rw [Array.getElem?_setIfInBounds_self_of_lt (by omega)]⟩
    · obtain ⟨y, hy⟩ := hc j hj
      exact ⟨y, by rw [Array.getElem?_setIfInBounds_ne (Ne.symm hjk)]; exact hy⟩
theorem OwnAny.of_own {w : World} {base : Nat} {e : TypeId} {a : Option Addr} {n c : Nat} {bs : List Int} (h : w.ownsRow base e 1 (.slice a n c) (u8s bs).length (u8s bs)) (hb : base < w.heap.size) :
    ∃ g, base ≤ g ∧ g < w.heap.size ∧ n = bs.length ∧ n ≤ c ∧ c ≤ maxLen ∧ (n ≠ 0 → a = some ⟨g, 0, none⟩) ∧ OwnAny w w g n e := by
  rcases h.2 with ⟨hv, hx⟩ | ⟨g, cap, cur, hv, hge, hg, h1, h2, h3, h4⟩
  · cases hv
    have hl := h.1
    rw [hx] at hl
    have hl0 : bs = [] := by simpa [u8s] using hx
    exact ⟨base, Nat.le_refl _, hb, by rw [hl0]; rfl, Nat.le_refl _, Nat.zero_le _, (fun h0 => absurd rfl h0), grown_refl _ _, .inl rfl⟩
  · cases hv
    refine ⟨g, hge, (Array.getElem?_eq_some_iff.1 hg).1, u8s_len bs, h1, h2, (fun _ => rfl), grown_refl _ _, .inr ⟨cur, hg, ?_, fun j hj => ?_⟩⟩
    · simp at h3; rw [u8s_len] at *; omega
    · refine ⟨bs.getD j 0, ?_⟩
      rw [u8s_len] at hj
      have h5 : (u8s bs)[j]? = some (.int .u8 (bs.getD j 0)) := by simp [u8s, List.getD, List.getElem?_eq_getElem hj]
      rw [← h4, List.getElem?_take] at h5
      split at h5
      · simpa using h5
      · cases h5

theorem Blk.twelve {w : World} {b : Nat} {e : TypeId} {c0 c1 c2 c3 c4 c5 c6 c7 c8 c9 c10 c11 : Value} (h : Blk w b #[c0, c1, c2, c3, c4, c5, c6, c7, c8, c9, c10, c11] e) :
    w.cell? ⟨b, 0, none⟩ = some c0 ∧ w.cell? ⟨b, 1, none⟩ = some c1 ∧ w.cell? ⟨b, 2, none⟩ = some c2 ∧ w.cell? ⟨b, 3, none⟩ = some c3 ∧ w.cell? ⟨b, 4, none⟩ = some c4 ∧ w.cell? ⟨b, 5, none⟩ = some c5 ∧
    w.cell? ⟨b, 6, none⟩ = some c6 ∧ w.cell? ⟨b, 7, none⟩ = some c7 ∧ w.cell? ⟨b, 8, none⟩ = some c8 ∧ w.cell? ⟨b, 9, none⟩ = some c9 ∧ w.cell? ⟨b, 10, none⟩ = some c10 ∧ w.cell? ⟨b, 11, none⟩ = some c11 :=
  ⟨h.cell 0 rfl, h.cell 1 rfl, h.cell 2 rfl, h.cell 3 rfl, h.cell 4 rfl, h.cell 5 rfl, h.cell 6 rfl, h.cell 7 rfl, h.cell 8 rfl, h.cell 9 rfl, h.cell 10 rfl, h.cell 11 rfl⟩
theorem MsgV.ext {w w' : World} {B : Nat} {v : Value} {m : Msg} (h : MsgV w B v m) (hE : Ext w w') : MsgV w' B v m := by
  obtain ⟨ev, mv, iv, hv, h1, ⟨h2, h3⟩, h4, h5⟩ := h
  exact ⟨ev, mv, iv, hv, h1.ext hE, ⟨h2.ext hE, h3⟩, h4.ext hE, h5⟩
theorem MsgV.chg {S : List Nat} {w w' : World} {B : Nat} {v : Value} {m : Msg} (h : MsgV w B v m) (hg : Chg S w w') (hS : ∀ t ∈ S, t < B) : MsgV w' B v m := by
  obtain ⟨ev, mv, iv, hv, h1, ⟨h2, h3⟩, h4, h5⟩ := h
  exact ⟨ev, mv, iv, hv, h1.chg hg hS, ⟨h2.chg hg (h3.off hS), h3⟩, h4.chg hg (h5.off hS), h5⟩
theorem MsgV.low {w : World} {B : Nat} {v : Value} {m : Msg} (h : MsgV w B v m) : MsgV w 0 v m := by
  obtain ⟨ev, mv, iv, hv, h1, ⟨h2, h3⟩, h4, h5⟩ := h
  exact ⟨ev, mv, iv, hv, h1.low (Nat.zero_le _), ⟨h2, fun _ _ _ _ => Nat.zero_le _⟩, h4, fun _ _ _ _ => Nat.zero_le _⟩
theorem MsgV.shape {w : World} {B : Nat} {v : Value} {m : Msg} (h : MsgV w B v m) : ∃ a9 m9 c9 a10 m10 c10 a11 m11 c11, v = .agg #[.int .i64 m.kind, .int .u64 m.src, .int .u64 m.dst, .int .u64 m.term, .int .u64 m.index, .int .u64 m.logTerm, .int .u64 m.commit, .int .u64 m.stamp, .bool m.yes, .slice a9 m9 c9, .slice a10 m10 c10, .slice a11 m11 c11] := by
  obtain ⟨ev, mv, iv, rfl, h9, ⟨h10, _⟩, h11, _⟩ := h
  obtain ⟨b9, n9, c9, rfl⟩ : ∃ a n c, ev = .slice a n c := by obtain ⟨_, cs, o, a, c, h, _⟩ := h9; exact ⟨_, _, _, h⟩
  obtain ⟨b10, n10, c10, rfl⟩ := Rd.shape h10
  obtain ⟨b11, n11, c11, rfl⟩ := Rd.shape h11
  exact ⟨_, _, _, _, _, _, _, _, _, rfl⟩
theorem MsgOk.zero : MsgOk Msg.zero := by
  constructor <;> first | (simp [Msg.zero, U64]; done) | (intro y hy; cases hy)

end Go.Proofs.Ytjodgbabfhcilaa
