/- Plain laws on the bytes of numbers. No program. -/
import Derived.Lib.BitFns
namespace Go.Proofs.YtafjjladnghjbaaGreatDoor

/-- big-endian, k bytes -/
def be : Nat → Nat → List Int
  | 0, _ => []
  | k + 1, n => ((n / 256 ^ k % 256 : Nat) : Int) :: be k n
/-- how many bytes -/
def numK (n : Nat) : Nat := (Lib.bitLen n + 7) / 8
def numB (n : Nat) : List Int := (numK n : Int) :: be (numK n) n
theorem be_len : ∀ k n, (be k n).length = k
  | 0, _ => rfl
  | k + 1, n => by simp [be, be_len k n]
theorem be_get : ∀ (k n j : Nat), j < k → (be k n)[j]? = some ((n / 256 ^ (k - 1 - j) % 256 : Nat) : Int)
  | k + 1, n, 0, _ => by simp [be]
  | k + 1, n, j + 1, h => by
    simp only [be, List.getElem?_cons_succ]
    rw [be_get k n j (by omega)]
    simp only [show k - 1 - j = k + 1 - 1 - (j + 1) by omega]
theorem be_take (k n j : Nat) (h : j < k) : (be k n).take (j + 1) = (be k n).take j ++ [((n / 256 ^ (k - 1 - j) % 256 : Nat) : Int)] := by
  rw [List.take_add_one, be_get k n j h]; rfl

theorem bitLen_le (n : Nat) : Lib.bitLen n ≤ 64 := by
  have h : ∀ f x, Lib.bitLenAux f x ≤ f := by
    intro f
    induction f with
    | zero => intro x; simp [Lib.bitLenAux]
    | succ f ih => intro x; unfold Lib.bitLenAux; split; omega; have := ih (x / 2); omega
  exact h 64 n
theorem numK_le (n : Nat) : numK n ≤ 8 := by have := bitLen_le n; unfold numK; omega
theorem numB_len (n : Nat) : (numB n).length = numK n + 1 := by simp [numB, be_len]

theorem shr_byte (n k j : Nat) (h : j < k) : (n : Int) / 2 ^ (8 * k - 8 - 8 * j) % 256 = ((n / 256 ^ (k - 1 - j) % 256 : Nat) : Int) := by
  rw [show 8 * k - 8 - 8 * j = 8 * (k - 1 - j) by omega]
  have : (256 : Nat) ^ (k - 1 - j) = 2 ^ (8 * (k - 1 - j)) := by rw [show (256 : Nat) = 2 ^ 8 from rfl, ← Nat.pow_mul]
  rw [this]
  simp

/-- little-endian, k bytes -/
def le : Nat → Nat → List Int
  | 0, _ => []
  | k + 1, n => le k n ++ [((n / 256 ^ k % 256 : Nat) : Int)]
theorem le_len : ∀ k n, (le k n).length = k
  | 0, _ => rfl
  | k + 1, n => by simp [le, le_len k n]
theorem be_le : ∀ k n, be k n = (le k n).reverse
  | 0, _ => rfl
  | k + 1, n => by simp [be, le, be_le k n]
theorem le_get : ∀ (k n j : Nat), j < k → (le k n)[j]? = some ((n / 256 ^ j % 256 : Nat) : Int)
  | k + 1, n, j, h => by
    rw [le, List.getElem?_append, le_len]
    by_cases hj : j < k
    · rw [if_pos hj, le_get k n j hj]
    · obtain rfl : j = k := by omega
      simp
theorem le_getD (k n j : Nat) (h : j < k) : (le k n).getD j 0 = ((n / 256 ^ j % 256 : Nat) : Int) := by
  simp [List.getD, le_get k n j h]

theorem bitLen_pos (n : Nat) (h : n ≠ 0) (hn : n < 2 ^ 64) : 1 ≤ Lib.bitLen n := by
  rw [Lib.bitLen_half n h hn]; omega
theorem numK_zero : numK 0 = 0 := by decide
theorem numK_rec (n : Nat) (h : n ≠ 0) (hn : n < 2 ^ 64) : numK n = numK (n / 256) + 1 := by
  unfold numK
  by_cases h8 : 256 ≤ n
  · rw [Lib.bitLen_shift8 n h8 (by omega)]; omega
  · have h1 := bitLen_pos n h hn
    have h2 := Lib.bitLen_le n 8 (by omega) (by omega)
    rw [show n / 256 = 0 by omega]
    have : Lib.bitLen 0 = 0 := by decide
    omega
theorem numK_div : ∀ (j n : Nat), n < 2 ^ 64 → numK (n / 256 ^ j) = numK n - j
  | 0, n, _ => by simp
  | j + 1, n, h => by
    rw [Nat.pow_succ, ← Nat.div_div_eq_div_mul]
    have hd : n / 256 ^ j < 2 ^ 64 := Nat.lt_of_le_of_lt (Nat.div_le_self _ _) h
    have ih := numK_div j n h
    by_cases h0 : n / 256 ^ j = 0
    · rw [h0] at ih ⊢
      rw [numK_zero] at ih
      rw [Nat.zero_div, numK_zero]; omega
    · have := numK_rec _ h0 hd
      omega
theorem div_zero_iff (n j : Nat) (h : n < 2 ^ 64) : n / 256 ^ j = 0 ↔ numK n ≤ j := by
  have hd : n / 256 ^ j < 2 ^ 64 := Nat.lt_of_le_of_lt (Nat.div_le_self _ _) h
  have ih := numK_div j n h
  constructor
  · intro h0; rw [h0, numK_zero] at ih; omega
  · intro hj
    by_cases h0 : n / 256 ^ j = 0
    · exact h0
    · have := numK_rec _ h0 hd; omega
theorem lt_pow_numK (n : Nat) (h : n < 2 ^ 64) : n < 256 ^ numK n := by
  have := (div_zero_iff n (numK n) h).2 (Nat.le_refl _)
  exact (Nat.div_eq_zero_iff_lt (Nat.pow_pos (by decide))).1 this

theorem be_bound : ∀ k n, ∀ x ∈ be k n, 0 ≤ x ∧ x ≤ 255
  | k + 1, n, x, h => by
    simp only [be, List.mem_cons] at h
    rcases h with rfl | h
    · omega
    · exact be_bound k n x h
theorem numB_bound (n : Nat) : ∀ x ∈ numB n, 0 ≤ x ∧ x ≤ 255 := by
  intro x h
  simp only [numB, List.mem_cons] at h
  rcases h with rfl | h
  · have := numK_le n; omega
  · exact be_bound _ _ x h

/-- the number that bytes are, the highest first -/
def val (xs : List Int) : Nat := xs.foldl (fun n x => n * 256 + x.toNat) 0
theorem val_snoc (xs : List Int) (x : Int) : val (xs ++ [x]) = val xs * 256 + x.toNat := by simp [val]
theorem val_nil : val [] = 0 := rfl
theorem val_be : ∀ k n j, j ≤ k → val ((be k n).take j) = n / 256 ^ (k - j) % 256 ^ j
  | k, n, 0, _ => by simp [val, Nat.mod_one]
  | k, n, j + 1, h => by
    rw [be_take k n j (by omega), val_snoc, val_be k n j (by omega)]
    have e : n / 256 ^ (k - j) = n / 256 ^ (k - (j + 1)) / 256 := by
      rw [Nat.div_div_eq_div_mul, ← Nat.pow_succ, show (k - (j + 1)).succ = k - j by omega]
    rw [e, show k - 1 - j = k - (j + 1) by omega]
    generalize n / 256 ^ (k - (j + 1)) = m
    simp only [Int.toNat_natCast]
    rw [Nat.pow_succ, Nat.mul_comm (256 ^ j) 256, Nat.mod_mul]
    omega
theorem val_be_all (n : Nat) (h : n < 2 ^ 64) : val (be (numK n) n) = n := by
  have := val_be (numK n) n (numK n) (Nat.le_refl _)
  rw [List.take_of_length_le (by rw [be_len]; exact Nat.le_refl _), Nat.sub_self, Nat.pow_zero, Nat.div_one, Nat.mod_eq_of_lt (lt_pow_numK n h)] at this
  exact this
theorem be_head (n : Nat) (h : n ≠ 0) (hn : n < 2 ^ 64) : ∃ x r, be (numK n) n = x :: r ∧ x ≠ 0 := by
  have h1 := numK_rec n h hn
  rw [h1]
  refine ⟨_, _, rfl, ?_⟩
  have h2 : ¬ n / 256 ^ numK (n / 256) = 0 := by rw [div_zero_iff n _ hn]; omega
  have h3 := lt_pow_numK n hn
  rw [h1, Nat.pow_succ, Nat.mul_comm] at h3
  have : n / 256 ^ numK (n / 256) < 256 := by
    rw [Nat.div_lt_iff_lt_mul (Nat.pow_pos (by decide))]; exact h3
  generalize n / 256 ^ numK (n / 256) = q at *
  omega
end Go.Proofs.YtafjjladnghjbaaGreatDoor
