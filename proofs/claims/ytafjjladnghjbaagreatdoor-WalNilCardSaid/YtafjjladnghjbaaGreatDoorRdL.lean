/- Plain: numbers and texts read from bytes. No program. -/
import Derived.Test.YtafjjladnghjbaaGreatDoorNums
namespace Go.Proofs.YtafjjladnghjbaaGreatDoor

/-- k digits; the first of all may not be 0. -/
def rdDig : Nat → Bool → Nat → List Int → Except Int (Nat × List Int)
  | 0, _, n, bs => .ok (n, bs)
  | _ + 1, _, _, [] => .error 2
  | k + 1, f, n, c :: r => if f && decide (c = 0) then .error 3 else rdDig k false (n * 256 + c.toNat) r
def rdNum : List Int → Except Int (Int × List Int)
  | [] => .error 2
  | k :: r => if 8 < k then .error 3 else match rdDig k.toNat true 0 r with
    | .error e => .error e
    | .ok (n, r') => .ok ((n : Int), r')
def rdByte : List Int → Except Int (Int × List Int)
  | [] => .error 2
  | c :: r => .ok (c, r)
def rdRaw (most : Int) (bs : List Int) : Except Int (List Int × List Int) :=
  match rdNum bs with
  | .error e => .error e
  | .ok (n, r) => if max most 0 < n then .error 4 else if (r.length : Int) < n then .error 2 else .ok (r.take n.toNat, r.drop n.toNat)

theorem rdDig_go : ∀ (xs r : List Int) (n : Nat), rdDig xs.length false n (xs ++ r) = .ok (xs.foldl (fun n x => n * 256 + x.toNat) n, r)
  | [], r, n => by simp [rdDig]
  | x :: xs, r, n => by simp [rdDig, rdDig_go xs r]
theorem rdDig_all (xs r : List Int) (h : ∀ x s, xs = x :: s → x ≠ 0) : rdDig xs.length true 0 (xs ++ r) = .ok (val xs, r) := by
  cases xs with
  | nil => simp [rdDig, val]
  | cons x s =>
    have hx := h x s rfl
    simp only [List.length_cons, List.cons_append, rdDig, Bool.true_and, decide_eq_true_eq, if_neg hx]
    rw [rdDig_go]; simp [val]
theorem rdNum_numB (n : Nat) (h : n < 2 ^ 64) (r : List Int) : rdNum (numB n ++ r) = .ok ((n : Int), r) := by
  have h8 := numK_le n
  have hd := rdDig_all (be (numK n) n) r (fun x s hx => by
    by_cases h0 : n = 0
    · subst h0; rw [numK_zero] at hx; simp [be] at hx
    · obtain ⟨y, r', hy, hne⟩ := be_head n h0 h
      rw [hy] at hx; cases hx; exact hne)
  rw [be_len, val_be_all n h] at hd
  simp only [numB, List.cons_append, rdNum]
  rw [if_neg (by omega), Int.toNat_natCast, hd]
theorem rdRaw_put (d r : List Int) (most : Int) (h : (d.length : Int) ≤ most) (hl : d.length < 2 ^ 64) : rdRaw most (numB d.length ++ d ++ r) = .ok (d, r) := by
  unfold rdRaw
  rw [List.append_assoc, rdNum_numB _ hl]
  simp only []
  rw [if_neg (by omega), if_neg (by simp; omega)]
  simp

/-- cut short -/
theorem rdDig_short : ∀ (xs : List Int) (k n : Nat), xs.length < k → rdDig k false n xs = .error 2
  | [], k + 1, n, _ => by simp [rdDig]
  | x :: xs, k + 1, n, h => by simp only [rdDig, Bool.false_and, Bool.false_eq_true, if_false]; exact rdDig_short xs k _ (by simpa using h)
theorem rdNum_cut (n : Nat) (h : n < 2 ^ 64) (j : Nat) (hj : j < (numB n).length) : rdNum ((numB n).take j) = .error 2 := by
  have h8 := numK_le n
  rw [numB_len] at hj
  cases j with
  | zero => simp [rdNum]
  | succ j =>
    simp only [numB, List.take_succ_cons, rdNum]
    rw [if_neg (by omega), Int.toNat_natCast]
    by_cases h0 : n = 0
    · subst h0; rw [numK_zero] at hj; omega
    · obtain ⟨y, r', hy, hne⟩ := be_head n h0 h
      have hl := be_len (numK n) n
      rw [hy] at hl ⊢
      simp only [List.length_cons] at hl
      cases j with
      | zero => rw [← hl]; simp [rdDig]
      | succ j =>
        rw [← hl]
        simp only [List.take_succ_cons, rdDig, Bool.true_and, decide_eq_true_eq, if_neg hne]
        rw [rdDig_short _ _ _ (by simp; omega)]

/-- what was read is just its bytes -/
theorem val_lt (ds : List Int) (hb : ∀ x ∈ ds, 0 ≤ x ∧ x ≤ 255) : val ds < 256 ^ ds.length := by
  have h : ∀ (ds : List Int) (n k : Nat), (∀ x ∈ ds, 0 ≤ x ∧ x ≤ 255) → n < 256 ^ k → ds.foldl (fun n x => n * 256 + x.toNat) n < 256 ^ (k + ds.length) := by
    intro ds
    induction ds with
    | nil => intro n k _ h; simpa using h
    | cons x ds ih =>
      intro n k hb h
      have hx := hb x (by simp)
      have := ih (n * 256 + x.toNat) (k + 1) (fun y hy => hb y (by simp [hy])) (by rw [Nat.pow_succ]; omega)
      simpa [Nat.add_assoc, Nat.add_comm 1] using this
  have := h ds 0 0 hb (by simp)
  simpa [val] using this
theorem val_ge (x : Int) (ds : List Int) (hx : 1 ≤ x) : 256 ^ ds.length ≤ val (x :: ds) := by
  have h : ∀ (ds : List Int) (n k : Nat), 256 ^ k ≤ n → 256 ^ (k + ds.length) ≤ ds.foldl (fun n x => n * 256 + x.toNat) n := by
    intro ds
    induction ds with
    | nil => intro n k h; simpa using h
    | cons y ds ih =>
      intro n k h
      have := ih (n * 256 + y.toNat) (k + 1) (by rw [Nat.pow_succ]; omega)
      simpa [Nat.add_assoc, Nat.add_comm 1] using this
  have := h ds (0 * 256 + x.toNat) 0 (by simp; omega)
  simpa [val] using this
theorem be_val : ∀ (k : Nat) (ds : List Int), ds.length = k → (∀ x ∈ ds, 0 ≤ x ∧ x ≤ 255) → be k (val ds) = ds := by
  intro k ds hl hb
  apply List.ext_getElem?
  intro j
  by_cases hj : j < k
  · rw [be_get k _ j hj]
    have hv : ∀ (ds : List Int) (j : Nat), j < ds.length → (∀ x ∈ ds, 0 ≤ x ∧ x ≤ 255) → ds[j]? = some ((val ds / 256 ^ (ds.length - 1 - j) % 256 : Nat) : Int) := by
      intro ds j hj hb
      have e : ds = ds.take (j + 1) ++ ds.drop (j + 1) := (List.take_append_drop _ _).symm
      have hval : ∀ (a b : List Int), (∀ x ∈ b, 0 ≤ x ∧ x ≤ 255) → val (a ++ b) / 256 ^ b.length = val a := by
        intro a b hb
        have hx : val (a ++ b) = val a * 256 ^ b.length + val b := by
          have g : ∀ (b : List Int) (n : Nat), b.foldl (fun n x => n * 256 + x.toNat) n = n * 256 ^ b.length + val b := by
            intro b
            induction b with
            | nil => intro n; simp [val]
            | cons y b ih =>
              intro n
              rw [List.foldl_cons, ih]
              have : val (y :: b) = (0 * 256 + y.toNat) * 256 ^ b.length + val b := by unfold val; rw [List.foldl_cons, ih]; rfl
              rw [this, List.length_cons, Nat.pow_succ]
              rw [Nat.add_mul, Nat.mul_assoc, Nat.mul_comm 256]; simp [Nat.add_assoc]
          unfold val
          rw [List.foldl_append, g]; rfl
        rw [hx, Nat.mul_comm, Nat.mul_add_div (Nat.pow_pos (by decide)), Nat.div_eq_of_lt (val_lt b hb), Nat.add_zero]
      have h1 := hval (ds.take (j + 1)) (ds.drop (j + 1)) (fun x hx => hb x (List.mem_of_mem_drop hx))
      rw [List.take_append_drop] at h1
      rw [show ds.length - 1 - j = (ds.drop (j + 1)).length by simp; omega, h1]
      have h2 : ds.take (j + 1) = ds.take j ++ [ds[j]] := by rw [List.take_add_one]; simp [hj]
      rw [h2, val_snoc]
      have hx := hb ds[j] (by simp)
      rw [List.getElem?_eq_getElem hj]
      congr 1
      omega
    have := hv ds j (by omega) hb
    rw [this, hl]
  · rw [List.getElem?_eq_none (by rw [be_len]; omega), List.getElem?_eq_none (by omega)]
theorem numK_val (x : Int) (ds : List Int) (hx : 1 ≤ x) (hb : ∀ y ∈ x :: ds, 0 ≤ y ∧ y ≤ 255) (hl : ds.length < 8) : numK (val (x :: ds)) = ds.length + 1 := by
  have h1 := val_lt (x :: ds) hb
  have h2 := val_ge x ds hx
  rw [List.length_cons] at h1
  have hp : (256 : Nat) ^ (ds.length + 1) ≤ 256 ^ 8 := Nat.pow_le_pow_right (by decide) (by omega)
  have h64 : val (x :: ds) < 2 ^ 64 := by have : (256 : Nat) ^ 8 = 2 ^ 64 := by decide
                                          omega
  have a := (div_zero_iff (val (x :: ds)) (ds.length + 1) h64).1 (Nat.div_eq_of_lt h1)
  have b : ¬ numK (val (x :: ds)) ≤ ds.length := fun h => by
    have := (div_zero_iff (val (x :: ds)) ds.length h64).2 h
    rw [Nat.div_eq_zero_iff] at this
    rcases this with h | h
    · have := Nat.pow_pos (n := ds.length) (show 0 < 256 by decide); omega
    · omega
  omega
theorem rdDig_inv : ∀ (k : Nat) (n m : Nat) (bs r : List Int), rdDig k false n bs = .ok (m, r) → ∃ ds, bs = ds ++ r ∧ ds.length = k ∧ m = ds.foldl (fun n x => n * 256 + x.toNat) n
  | 0, n, m, bs, r, h => by simp [rdDig] at h; exact ⟨[], by simp [h.2], rfl, by simp [h.1]⟩
  | k + 1, n, m, [], r, h => by simp [rdDig] at h
  | k + 1, n, m, c :: bs, r, h => by
    simp only [rdDig, Bool.false_and, Bool.false_eq_true, if_false] at h
    obtain ⟨ds, h1, h2, h3⟩ := rdDig_inv k _ m bs r h
    exact ⟨c :: ds, by simp [h1], by simp [h2], by simp [h3]⟩
theorem rdNum_inv (bs r : List Int) (n : Int) (hb : ∀ x ∈ bs, 0 ≤ x ∧ x ≤ 255) (h : rdNum bs = .ok (n, r)) : bs = numB n.toNat ++ r ∧ 0 ≤ n ∧ n.toNat < 2 ^ 64 := by
  cases bs with
  | nil => simp [rdNum] at h
  | cons k bs =>
    have hk := hb k (by simp)
    simp only [rdNum] at h
    by_cases h8 : 8 < k
    · rw [if_pos h8] at h; cases h
    · rw [if_neg h8] at h
      cases hd : rdDig k.toNat true 0 bs with
      | error e => rw [hd] at h; cases h
      | ok p =>
        obtain ⟨m, r'⟩ := p
        rw [hd] at h
        simp only [Except.ok.injEq, Prod.mk.injEq] at h
        obtain ⟨rfl, rfl⟩ := h
        rw [Int.toNat_natCast]
        cases hkn : k.toNat with
        | zero =>
          rw [hkn] at hd
          simp [rdDig] at hd
          obtain ⟨rfl, rfl⟩ := hd
          refine ⟨?_, by omega, by omega⟩
          simp [numB, numK_zero, be]; omega
        | succ j =>
          rw [hkn] at hd
          cases bs with
          | nil => simp [rdDig] at hd
          | cons c bs =>
            simp only [rdDig, Bool.true_and, decide_eq_true_eq] at hd
            by_cases hc : c = 0
            · rw [if_pos hc] at hd; cases hd
            · rw [if_neg hc] at hd
              obtain ⟨ds, h1, h2, h3⟩ := rdDig_inv j _ m bs r' hd
              have hcb := hb c (by simp)
              have hdb : ∀ y ∈ c :: ds, 0 ≤ y ∧ y ≤ 255 := fun y hy => hb y (by rw [h1]; simp at hy ⊢; rcases hy with hy | hy; exact .inr (.inl hy); exact .inr (.inr (.inl hy)))
              have hm : m = val (c :: ds) := by rw [h3]; rfl
              have hK := numK_val c ds (by omega) hdb (by omega)
              have hv := be_val (ds.length + 1) (c :: ds) (by simp) hdb
              have hlt := val_lt (c :: ds) hdb
              refine ⟨?_, by omega, ?_⟩
              · rw [hm, numB, hK, hv, h1]
                simp; omega
              · rw [hm]
                have hp : (256 : Nat) ^ (c :: ds).length ≤ 256 ^ 8 := Nat.pow_le_pow_right (by decide) (by simp; omega)
                have : (256 : Nat) ^ 8 = 2 ^ 64 := by decide
                omega
end Go.Proofs.YtafjjladnghjbaaGreatDoor
