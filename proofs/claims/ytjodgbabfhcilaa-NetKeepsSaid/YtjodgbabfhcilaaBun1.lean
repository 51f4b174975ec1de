/- Parts of the proof, in plain words at the head of each: Nums, Shelf, EntL, RdL, CmdL, CutL. -/
import Derived.Lib.BitFns
import Derived.Shelf.Strconv.Itoa0
import Derived.Shelf.Bytes.SlSearch0
import Derived.Shelf.Bytes.SlEqualAll
import Derived.Shelf.Bytes.Small
import Derived.Test.YtjodgbabfhcilaaProg
set_option linter.unusedSimpArgs false
set_option linter.unusedVariables false
/- Plain laws on the bytes of numbers. No program. -/
namespace Go.Proofs.Ytjodgbabfhcilaa

/-- big-endian, k bytes -/
def be : Nat → Nat → List Int
  | 0, _ => []
  | k + 1, n => ((n / 256 ^ k % 256 : Nat) : Int) :: be k n
/-- how many bytes -/
def numK (n : Nat) : Nat := (Lib.bitLen n + 7) / 8
def numB (n : Nat) : List Int := (numK n : Int) :: be (numK n) n
theorem be_len : ∀ k n, (be k n).length = k
  | 0, _ => rfl
  | k + 1, n => by simp [be, be_len k n]
theorem be_get : ∀ (k n j : Nat), j < k → (be k n)[j]? = some ((n / 256 ^ (k - 1 - j) % 256 : Nat) : Int)
  | k + 1, n, 0, _ => by simp [be]
  | k + 1, n, j + 1, h => by
    simp only [be, List.getElem?_cons_succ]
    rw [be_get k n j (by omega)]
    simp only [show k - 1 - j = k + 1 - 1 - (j + 1) by omega]
theorem be_take (k n j : Nat) (h : j < k) : (be k n).take (j + 1) = (be k n).take j ++ [((n / 256 ^ (k - 1 - j) % 256 : Nat) : Int)] := by
  rw [List.take_add_one, be_get k n j h]; rfl

theorem bitLen_le (n : Nat) : Lib.bitLen n ≤ 64 := by
  have h : ∀ f x, Lib.bitLenAux f x ≤ f := by
    intro f
    induction f with
    | zero => intro x; simp [Lib.bitLenAux]
    | succ f ih => intro x; unfold Lib.bitLenAux; split; omega; have := ih (x / 2); omega
  exact h 64 n
theorem numK_le (n : Nat) : numK n ≤ 8 := by have := bitLen_le n; unfold numK; omega
theorem numB_len (n : Nat) : (numB n).length = numK n + 1 := by simp [numB, be_len]

theorem shr_byte (n k j : Nat) (h : j < k) : (n : Int) / 2 ^ (8 * k - 8 - 8 * j) % 256 = ((n / 256 ^ (k - 1 - j) % 256 : Nat) : Int) := by
  rw [show 8 * k - 8 - 8 * j = 8 * (k - 1 - j) by omega]
  have : (256 : Nat) ^ (k - 1 - j) = 2 ^ (8 * (k - 1 - j)) := by rw [show (256 : Nat) = 2 ^ 8 from rfl, ← Nat.pow_mul]
  rw [this]
  simp

/-- little-endian, k bytes -/
def le : Nat → Nat → List Int
  | 0, _ => []
  | k + 1, n => le k n ++ [((n / 256 ^ k % 256 : Nat) : Int)]
theorem le_len : ∀ k n, (le k n).length = k
  | 0, _ => rfl
  | k + 1, n => by simp [le, le_len k n]
theorem be_le : ∀ k n, be k n = (le k n).reverse
  | 0, _ => rfl
  | k + 1, n => by simp [be, le, be_le k n]
theorem le_get : ∀ (k n j : Nat), j < k → (le k n)[j]? = some ((n / 256 ^ j % 256 : Nat) : Int)
  | k + 1, n, j, h => by
    rw [le, List.getElem?_append, le_len]
    by_cases hj : j < k
    · rw [if_pos hj, le_get k n j hj]
    · obtain rfl : j = k := by omega
      simp
theorem le_getD (k n j : Nat) (h : j < k) : (le k n).getD j 0 = ((n / 256 ^ j % 256 : Nat) : Int) := by
  simp [List.getD, le_get k n j h]

theorem bitLen_pos (n : Nat) (h : n ≠ 0) (hn : n < 2 ^ 64) : 1 ≤ Lib.bitLen n := by
  rw [Lib.bitLen_half n h hn]; omega
theorem numK_zero : numK 0 = 0 := by decide
theorem numK_rec (n : Nat) (h : n ≠ 0) (hn : n < 2 ^ 64) : numK n = numK (n / 256) + 1 := by
  unfold numK
  by_cases h8 : 256 ≤ n
  · rw [Lib.bitLen_shift8 n h8 (by omega)]; omega
  · have h1 := bitLen_pos n h hn
    have h2 := Lib.bitLen_le n 8 (by omega) (by omega)
    rw [show n / 256 = 0 by omega]
    have : Lib.bitLen 0 = 0 := by decide
    omega
theorem numK_div : ∀ (j n : Nat), n < 2 ^ 64 → numK (n / 256 ^ j) = numK n - j
  | 0, n, _ => by simp
  | j + 1, n, h => by
    rw [Nat.pow_succ, ← Nat.div_div_eq_div_mul]
    have hd : n / 256 ^ j < 2 ^ 64 := Nat.lt_of_le_of_lt (Nat.div_le_self _ _) h
    have ih := numK_div j n h
    by_cases h0 : n / 256 ^ j = 0
    · rw [h0] at ih ⊢
      rw [numK_zero] at ih
      rw [Nat.zero_div, numK_zero]; omega
    · have := numK_rec _ h0 hd
      omega
theorem div_zero_iff (n j : Nat) (h : n < 2 ^ 64) : n / 256 ^ j = 0 ↔ numK n ≤ j := by
  have hd : n / 256 ^ j < 2 ^ 64 := Nat.lt_of_le_of_lt (Nat.div_le_self _ _) h
  have ih := numK_div j n h
  constructor
  · intro h0; rw [h0, numK_zero] at ih; omega
  · intro hj
    by_cases h0 : n / 256 ^ j = 0
    · exact h0
    · have := numK_rec _ h0 hd; omega
theorem lt_pow_numK (n : Nat) (h : n < 2 ^ 64) : n < 256 ^ numK n := by
  have := (div_zero_iff n (numK n) h).2 (Nat.le_refl _)
  exact (Nat.div_eq_zero_iff_lt (Nat.pow_pos (by decide))).1 this

theorem be_bound : ∀ k n, ∀ x ∈ be k n, 0 ≤ x ∧ x ≤ 255
  | k + 1, n, x, h => by
    simp only [be, List.mem_cons] at h
    rcases h with rfl | h
    · omega
    · exact be_bound k n x h
theorem numB_bound (n : Nat) : ∀ x ∈ numB n, 0 ≤ x ∧ x ≤ 255 := by
  intro x h
  simp only [numB, List.mem_cons] at h
  rcases h with rfl | h
  · have := numK_le n; omega
  · exact be_bound _ _ x h

/-- the number that bytes are, the highest first -/
def val (xs : List Int) : Nat := xs.foldl (fun n x => n * 256 + x.toNat) 0
theorem val_snoc (xs : List Int) (x : Int) : val (xs ++ [x]) = val xs * 256 + x.toNat := by simp [val]
theorem val_nil : val [] = 0 := rfl
theorem val_be : ∀ k n j, j ≤ k → val ((be k n).take j) = n / 256 ^ (k - j) % 256 ^ j
  | k, n, 0, _ => by simp [val, Nat.mod_one]
  | k, n, j + 1, h => by
    rw [be_take k n j (by omega), val_snoc, val_be k n j (by omega)]
    have e : n / 256 ^ (k - j) = n / 256 ^ (k - (j + 1)) / 256 := by
      rw [Nat.div_div_eq_div_mul, ← Nat.pow_succ, show (k - (j + 1)).succ = k - j by omega]
    rw [e, show k - 1 - j = k - (j + 1) by omega]
    generalize n / 256 ^ (k - (j + 1)) = m
    simp only [Int.toNat_natCast]
    rw [Nat.pow_succ, Nat.mul_comm (256 ^ j) 256, Nat.mod_mul]
    omega
theorem val_be_all (n : Nat) (h : n < 2 ^ 64) : val (be (numK n) n) = n := by
  have := val_be (numK n) n (numK n) (Nat.le_refl _)
  rw [List.take_of_length_le (by rw [be_len]; exact Nat.le_refl _), Nat.sub_self, Nat.pow_zero, Nat.div_one, Nat.mod_eq_of_lt (lt_pow_numK n h)] at this
  exact this
theorem be_head (n : Nat) (h : n ≠ 0) (hn : n < 2 ^ 64) : ∃ x r, be (numK n) n = x :: r ∧ x ≠ 0 := by
  have h1 := numK_rec n h hn
  rw [h1]
  refine ⟨_, _, rfl, ?_⟩
  have h2 : ¬ n / 256 ^ numK (n / 256) = 0 := by rw [div_zero_iff n _ hn]; omega
  have h3 := lt_pow_numK n hn
  rw [h1, Nat.pow_succ, Nat.mul_comm] at h3
  have : n / 256 ^ numK (n / 256) < 256 := by
    rw [Nat.div_lt_iff_lt_mul (Nat.pow_pos (by decide))]; exact h3
  generalize n / 256 ^ numK (n / 256) = q at *
  omega
end Go.Proofs.Ytjodgbabfhcilaa

/-
  Contracts of library functions at this program, laid by the kit's lay-shelf and lay-plain.
-/
namespace Go.Proofs
open Go.Shelf
def Try.lays129_ren : Go.Shelf.Ren := ⟨fun | 129 => 82 | n => n, fun | 53 => 29 | 3 => 3 | 4 => 4 | 46 => 35 | 5 => 5 | 9 => 9 | n => n, fun | n => n⟩
theorem Try.lays129 : Go.Proofs.Lays.n129 Try.prog Try.lays129_ren := {
  mixed := by kernel_rfl
  f129 := Try.func82.trans (congrArg some (by kernel_rfl))
  t3 := Try.underlying3
  a3 := Try.isAgg3
  z3 := Try.sizeOf3
  v3 := Try.zeroValue3
  t4 := Try.underlying4
  a4 := Try.isAgg4
  z4 := Try.sizeOf4
  v4 := Try.zeroValue4
  t5 := Try.underlying5
  a5 := Try.isAgg5
  z5 := Try.sizeOf5
  v5 := Try.zeroValue5
  t9 := Try.underlying9
  a9 := Try.isAgg9
  z9 := Try.sizeOf9
  v9 := Try.zeroValue9
  t46 := Try.underlying35
  a46 := Try.isAgg35
  z46 := Try.sizeOf35
  v46 := Try.zeroValue35
  t53 := Try.underlying29
  a53 := Try.isAgg29
  z53 := Try.sizeOf29
  v53 := Try.zeroValue29 }
/-- bits.Len64: "Len64 returns the minimum number of bits required to represent x; the result is 0 for x == 0.": IT RETURNS 'Lib.bitLen x'; the world is as it was. ('h0', 'h1': x is a uint64.) (LAID: no walk: one application.) -/
theorem Try.bits_Len64 (x : Int) (w : World) (h0 : 0 ≤ x) (h1 : x ≤ 18446744073709551615) :
    Calls Try.prog 82 #[.int .u64 x] w fun e w' => e = .returned (.int .i64 (Lib.bitLen x.toNat)) ∧ w' = w := Any.bits_Len64 Try.lays129 x w h0 h1
def Try.lays115_ren : Go.Shelf.Ren := ⟨fun | 115 => 49 | n => n, fun | 37 => 32 | 4 => 4 | 9 => 9 | 5 => 5 | n => n, fun | n => n⟩
theorem Try.lays115 : Go.Proofs.Lays.n115 Try.prog Try.lays115_ren := {
  mixed := by kernel_rfl
  f115 := Try.func49.trans (congrArg some (by kernel_rfl))
  t4 := Try.underlying4
  a4 := Try.isAgg4
  z4 := Try.sizeOf4
  v4 := Try.zeroValue4
  t9 := Try.underlying9
  a9 := Try.isAgg9
  z9 := Try.sizeOf9
  v9 := Try.zeroValue9
  t37 := Try.underlying32
  a37 := Try.isAgg32
  z37 := Try.sizeOf32
  v37 := Try.zeroValue32 }
open Go.Proofs Go.RowKit Go.Lib in
/-- bytes.Equal, each argument with what 'string(..)' of it gives. (LAID: no walk: one application.) -/
theorem Try.bytes_Equal_strs (v1 v2 : Value) (t1 t2 : ByteArray) (w : World) (h1 : (convert 32 9 v1).run Try.prog w = .ok (.string t1) w) (h2 : (convert 32 9 v2).run Try.prog w = .ok (.string t2) w) :
    Calls Try.prog 49 #[v1, v2] w fun e w' => e = .returned (.bool (t1.toList == t2.toList)) ∧ w' = w := Any.bytes_Equal_strs Try.lays115 v1 v2 t1 t2 w h1 h2
def Try.laysnb115_ren : Go.Shelf.Ren := ⟨fun | 115 => 49 | n => n, fun | 37 => 32 | 4 => 4 | 9 => 9 | 5 => 5 | n => n, fun | n => n⟩
theorem Try.laysnb115 : Go.Proofs.Lays.nb115 Try.prog Try.laysnb115_ren := {
  mixed := by kernel_rfl
  f115 := Try.func49.trans (congrArg some (by kernel_rfl))
  t4 := Try.underlying4
  a4 := Try.isAgg4
  z4 := Try.sizeOf4
  v4 := Try.zeroValue4
  t9 := Try.underlying9
  a9 := Try.isAgg9
  z9 := Try.sizeOf9
  v9 := Try.zeroValue9
  t37 := Try.underlying32
  a37 := Try.isAgg32
  z37 := Try.sizeOf32
  v37 := Try.zeroValue32
  t5 := Try.underlying5
  a5 := Try.isAgg5
  z5 := Try.sizeOf5
  v5 := Try.zeroValue5 }
/-- bytes.Equal: WHOLE. (LAID: no walk: one application.) -/
theorem Try.bytes_Equal_all (p1 p2 : Option Addr) (n c m d : Nat) (xs ys : List Int) (w : World) (hx : xs.length = n) (hy : ys.length = m) (h1 : Lib.BytesIn w p1 n xs) (h2 : Lib.BytesIn w p2 m ys) :
    Calls Try.prog 49 #[.slice p1 n c, .slice p2 m d] w fun e w' => e = .returned (.bool (Lib.bytesOf xs == Lib.bytesOf ys)) ∧ w' = w := Any.bytes_Equal_all Try.laysnb115 p1 p2 n c m d xs ys w hx hy h1 h2
/-- bytes.Equal: "Equal reports whether a and b are the same length and contain the same bytes. A nil argument is equivalent to an empty slice.": IT RETURNS 'the bytes of the one == the bytes of the other'; the world is as it was. THE TWO ARGUMENTS COME AS WHATEVER VALUES, each with the one fact that the walk wants of it: what 'string(..)' of it gives: for a slice whose cells you know: 'run_convert_bytes_arg' (Derived/Laws/BytesArg.lean) hands that fact; for a nil one: 'run_convert_bytes_nil' (with xs := []). (LAID: no walk: one application.) -/
theorem Try.bytes_Equal (v1 v2 : Value) (xs ys : List Int) (w : World) (h1 : (convert 32 9 v1).run Try.prog w = .ok (.string (strOfNums xs)) w) (h2 : (convert 32 9 v2).run Try.prog w = .ok (.string (strOfNums ys)) w) :
    Calls Try.prog 49 #[v1, v2] w fun e w' => e = .returned (.bool (Lib.bytesOf xs == Lib.bytesOf ys)) ∧ w' = w := Any.bytes_Equal Try.lays115 v1 v2 xs ys w h1 h2
end Go.Proofs

/- Plain words for entries of the log. No program. -/
namespace Go.Proofs.Ytjodgbabfhcilaa

structure Ent where
  term : Int
  kind : Int
  client : Int
  seq : Int
  data : List Int
  members : List Int

/-- Strictly rising from 'last' on, none above 7; the last of all above 0. -/
def memGo (last : Int) : List Int → Bool
  | [] => decide (0 < last)
  | x :: r => !(decide (x ≤ last) || decide (7 < x)) && memGo x r
def membersB (xs : List Int) : Bool := memGo 0 xs

def formedB (x : Ent) : Bool :=
  decide (1 ≤ x.term ∧ x.term ≤ 4611686018427387904) &&
  (if x.kind = 2 then decide (x.data.length ≤ 64) && decide (x.members.length = 0)
   else if x.kind = 1 then decide (x.client = 0) && decide (x.seq = 0) && decide (x.data.length = 0) && decide (x.members.length = 0)
   else if x.kind = 3 then decide (x.client = 0) && decide (x.seq = 0) && decide (x.data.length = 0) && membersB x.members
   else false)

/-- The bytes of a formed entry. -/
def putB (x : Ent) : List Int :=
  numB x.term.toNat ++ [x.kind % 256] ++
  (if x.kind = 2 then numB x.client.toNat ++ numB x.seq.toNat ++ (numB x.data.length ++ x.data)
   else if x.kind = 3 then numB x.members.length ++ x.members.flatMap (fun m => numB m.toNat)
   else [])

theorem memGo_len : ∀ (xs : List Int) (last : Int), 0 ≤ last → memGo last xs = true → last + xs.length ≤ 7 ∨ xs = []
  | [], _, _, _ => .inr rfl
  | x :: r, last, h0, h => by
    simp only [memGo, Bool.and_eq_true, Bool.not_eq_true', Bool.or_eq_false_iff, decide_eq_false_iff_not] at h
    left
    rcases memGo_len r x (by omega) h.2 with h1 | h1
    · simp only [List.length_cons]; omega
    · subst h1; simp only [List.length_cons, List.length_nil]; omega
theorem formed_cases (x : Ent) (h : formedB x = true) : (1 ≤ x.term ∧ x.term ≤ 4611686018427387904) ∧
    ((x.kind = 1 ∧ x.client = 0 ∧ x.seq = 0 ∧ x.data = [] ∧ x.members = []) ∨ (x.kind = 2 ∧ x.data.length ≤ 64 ∧ x.members = []) ∨ (x.kind = 3 ∧ x.client = 0 ∧ x.seq = 0 ∧ x.data = [] ∧ membersB x.members = true)) := by
  simp only [formedB, Bool.and_eq_true, decide_eq_true_eq] at h
  refine ⟨h.1, ?_⟩
  have h2 := h.2
  by_cases k2 : x.kind = 2
  · rw [if_pos k2] at h2; simp at h2; exact .inr (.inl ⟨k2, h2⟩)
  · rw [if_neg k2] at h2
    by_cases k1 : x.kind = 1
    · rw [if_pos k1] at h2; simp at h2; exact .inl ⟨k1, h2.1.1.1, h2.1.1.2, h2.1.2, h2.2⟩
    · rw [if_neg k1] at h2
      by_cases k3 : x.kind = 3
      · rw [if_pos k3] at h2; simp at h2; exact .inr (.inr ⟨k3, h2.1.1.1, h2.1.1.2, h2.1.2, h2.2⟩)
      · rw [if_neg k3] at h2; cases h2
end Go.Proofs.Ytjodgbabfhcilaa

/- Plain: numbers and texts read from bytes. No program. -/
namespace Go.Proofs.Ytjodgbabfhcilaa

/-- k digits; the first of all may not be 0. -/
def rdDig : Nat → Bool → Nat → List Int → Except Int (Nat × List Int)
  | 0, _, n, bs => .ok (n, bs)
  | _ + 1, _, _, [] => .error 2
  | k + 1, f, n, c :: r => if f && decide (c = 0) then .error 3 else rdDig k false (n * 256 + c.toNat) r
def rdNum : List Int → Except Int (Int × List Int)
  | [] => .error 2
  | k :: r => if 8 < k then .error 3 else match rdDig k.toNat true 0 r with
    | .error e => .error e
    | .ok (n, r') => .ok ((n : Int), r')
def rdByte : List Int → Except Int (Int × List Int)
  | [] => .error 2
  | c :: r => .ok (c, r)
def rdRaw (most : Int) (bs : List Int) : Except Int (List Int × List Int) :=
  match rdNum bs with
  | .error e => .error e
  | .ok (n, r) => if max most 0 < n then .error 4 else if (r.length : Int) < n then .error 2 else .ok (r.take n.toNat, r.drop n.toNat)

theorem rdDig_go : ∀ (xs r : List Int) (n : Nat), rdDig xs.length false n (xs ++ r) = .ok (xs.foldl (fun n x => n * 256 + x.toNat) n, r)
  | [], r, n => by simp [rdDig]
  | x :: xs, r, n => by simp [rdDig, rdDig_go xs r]
theorem rdDig_all (xs r : List Int) (h : ∀ x s, xs = x :: s → x ≠ 0) : rdDig xs.length true 0 (xs ++ r) = .ok (val xs, r) := by
  cases xs with
  | nil => simp [rdDig, val]
  | cons x s =>
    have hx := h x s rfl
    simp only [List.length_cons, List.cons_append, rdDig, Bool.true_and, decide_eq_true_eq, if_neg hx]
    rw [rdDig_go]; simp [val]
theorem rdNum_numB (n : Nat) (h : n < 2 ^ 64) (r : List Int) : rdNum (numB n ++ r) = .ok ((n : Int), r) := by
  have h8 := numK_le n
  have hd := rdDig_all (be (numK n) n) r (fun x s hx => by
    by_cases h0 : n = 0
    · subst h0; rw [numK_zero] at hx; simp [be] at hx
    · obtain ⟨y, r', hy, hne⟩ := be_head n h0 h
      rw [hy] at hx; cases hx; exact hne)
  rw [be_len, val_be_all n h] at hd
  simp only [numB, List.cons_append, rdNum]
  rw [if_neg (by omega), Int.toNat_natCast, hd]
theorem rdRaw_put (d r : List Int) (most : Int) (h : (d.length : Int) ≤ most) (hl : d.length < 2 ^ 64) : rdRaw most (numB d.length ++ d ++ r) = .ok (d, r) := by
  unfold rdRaw
  rw [List.append_assoc, rdNum_numB _ hl]
  simp only []
  rw [if_neg (by omega), if_neg (by simp; omega)]
  simp

/-- cut short -/
theorem rdDig_short : ∀ (xs : List Int) (k n : Nat), xs.length < k → rdDig k false n xs = .error 2
  | [], k + 1, n, _ => by simp [rdDig]
  | x :: xs, k + 1, n, h => by simp only [rdDig, Bool.false_and, Bool.false_eq_true, if_false]; exact rdDig_short xs k _ (by simpa using h)
theorem rdNum_cut (n : Nat) (h : n < 2 ^ 64) (j : Nat) (hj : j < (numB n).length) : rdNum ((numB n).take j) = .error 2 := by
  have h8 := numK_le n
  rw [numB_len] at hj
  cases j with
  | zero => simp [rdNum]
  | succ j =>
    simp only [numB, List.take_succ_cons, rdNum]
    rw [if_neg (by omega), Int.toNat_natCast]
    by_cases h0 : n = 0
    · subst h0; rw [numK_zero] at hj; omega
    · obtain ⟨y, r', hy, hne⟩ := be_head n h0 h
      have hl := be_len (numK n) n
      rw [hy] at hl ⊢
      simp only [List.length_cons] at hl
      cases j with
      | zero => rw [← hl]; simp [rdDig]
      | succ j =>
        rw [← hl]
        simp only [List.take_succ_cons, rdDig, Bool.true_and, decide_eq_true_eq, if_neg hne]
        rw [rdDig_short _ _ _ (by simp; omega)]

/-- what was read is just its bytes -/
theorem val_lt (ds : List Int) (hb : ∀ x ∈ ds, 0 ≤ x ∧ x ≤ 255) : val ds < 256 ^ ds.length := by
  have h : ∀ (ds : List Int) (n k : Nat), (∀ x ∈ ds, 0 ≤ x ∧ x ≤ 255) → n < 256 ^ k → ds.foldl (fun n x => n * 256 + x.toNat) n < 256 ^ (k + ds.length) := by
    intro ds
    induction ds with
    | nil => intro n k _ h; simpa using h
    | cons x ds ih =>
      intro n k hb h
      have hx := hb x (by simp)
      have := ih (n * 256 + x.toNat) (k + 1) (fun y hy => hb y (by simp [hy])) (by rw [Nat.pow_succ]; omega)
      simpa [Nat.add_assoc, Nat.add_comm 1] using this
  have := h ds 0 0 hb (by simp)
  simpa [val] using this
theorem val_ge (x : Int) (ds : List Int) (hx : 1 ≤ x) : 256 ^ ds.length ≤ val (x :: ds) := by
  have h : ∀ (ds : List Int) (n k : Nat), 256 ^ k ≤ n → 256 ^ (k + ds.length) ≤ ds.foldl (fun n x => n * 256 + x.toNat) n := by
    intro ds
    induction ds with
    | nil => intro n k h; simpa using h
    | cons y ds ih =>
      intro n k h
      have := ih (n * 256 + y.toNat) (k + 1) (by rw [Nat.pow_succ]; omega)
      simpa [Nat.add_assoc, Nat.add_comm 1] using this
  have := h ds (0 * 256 + x.toNat) 0 (by simp; omega)
  simpa [val] using this
theorem be_val : ∀ (k : Nat) (ds : List Int), ds.length = k → (∀ x ∈ ds, 0 ≤ x ∧ x ≤ 255) → be k (val ds) = ds := by
  intro k ds hl hb
  apply List.ext_getElem?
  intro j
  by_cases hj : j < k
  · rw [be_get k _ j hj]
    have hv : ∀ (ds : List Int) (j : Nat), j < ds.length → (∀ x ∈ ds, 0 ≤ x ∧ x ≤ 255) → ds[j]? = some ((val ds / 256 ^ (ds.length - 1 - j) % 256 : Nat) : Int) := by
      intro ds j hj hb
      have e : ds = ds.take (j + 1) ++ ds.drop (j + 1) := (List.take_append_drop _ _).symm
      have hval : ∀ (a b : List Int), (∀ x ∈ b, 0 ≤ x ∧ x ≤ 255) → val (a ++ b) / 256 ^ b.length = val a := by
        intro a b hb
        have hx : val (a ++ b) = val a * 256 ^ b.length + val b := by
          have g : ∀ (b : List Int) (n : Nat), b.foldl (fun n x => n * 256 + x.toNat) n = n * 256 ^ b.length + val b := by
            intro b
            induction b with
            | nil => intro n; simp [val]
            | cons y b ih =>
              intro n
              rw [List.foldl_cons, ih]
              have : val (y :: b) = (0 * 256 + y.toNat) * 256 ^ b.length + val b := by unfold val; rw [List.foldl_cons, ih]; rfl
              rw [this, List.length_cons, Nat.pow_succ]
              rw [Nat.add_mul, Nat.mul_assoc, Nat.mul_comm 256]; simp [Nat.add_assoc]
          unfold val
          rw [List.foldl_append, g]; rfl
        rw [hx, Nat.mul_comm, Nat.mul_add_div (Nat.pow_pos (by decide)), Nat.div_eq_of_lt (val_lt b hb), Nat.add_zero]
      have h1 := hval (ds.take (j + 1)) (ds.drop (j + 1)) (fun x hx => hb x (List.mem_of_mem_drop hx))
      rw [List.take_append_drop] at h1
      rw [show ds.length - 1 - j = (ds.drop (j + 1)).length by simp; omega, h1]
      have h2 : ds.take (j + 1) = ds.take j ++ [ds[j]] := by rw [List.take_add_one]; simp [hj]
      rw [h2, val_snoc]
      have hx := hb ds[j] (by simp)
      rw [List.getElem?_eq_getElem hj]
      congr 1
      omega
    have := hv ds j (by omega) hb
    rw [this, hl]
  · rw [List.getElem?_eq_none (by rw [be_len]; omega), List.getElem?_eq_none (by omega)]
theorem numK_val (x : Int) (ds : List Int) (hx : 1 ≤ x) (hb : ∀ y ∈ x :: ds, 0 ≤ y ∧ y ≤ 255) (hl : ds.length < 8) : numK (val (x :: ds)) = ds.length + 1 := by
  have h1 := val_lt (x :: ds) hb
  have h2 := val_ge x ds hx
  rw [List.length_cons] at h1
  have hp : (256 : Nat) ^ (ds.length + 1) ≤ 256 ^ 8 := Nat.pow_le_pow_right (by decide) (by omega)
  have h64 : val (x :: ds) < 2 ^ 64 := by have : (256 : Nat) ^ 8 = 2 ^ 64 := by decide
                                          omega
  have a := (div_zero_iff (val (x :: ds)) (ds.length + 1) h64).1 (Nat.div_eq_of_lt h1)
  have b : ¬ numK (val (x :: ds)) ≤ ds.length := fun h => by
    have := (div_zero_iff (val (x :: ds)) ds.length h64).2 h
    rw [Nat.div_eq_zero_iff] at this
    rcases this with h | h
    · have := Nat.pow_pos (n := ds.length) (show 0 < 256 by decide); omega
    · omega
  omega
theorem rdDig_inv : ∀ (k : Nat) (n m : Nat) (bs r : List Int), rdDig k false n bs = .ok (m, r) → ∃ ds, bs = ds ++ r ∧ ds.length = k ∧ m = ds.foldl (fun n x => n * 256 + x.toNat) n
  | 0, n, m, bs, r, h => by simp [rdDig] at h; exact ⟨[], by simp [h.2], rfl, by simp [h.1]⟩
  | k + 1, n, m, [], r, h => by simp [rdDig] at h
  | k + 1, n, m, c :: bs, r, h => by
    simp only [rdDig, Bool.false_and, Bool.false_eq_true, if_false] at h
    obtain ⟨ds, h1, h2, h3⟩ := rdDig_inv k _ m bs r h
    exact ⟨c :: ds, by simp [h1], by simp [h2], by simp [h3]⟩
theorem rdNum_inv (bs r : List Int) (n : Int) (hb : ∀ x ∈ bs, 0 ≤ x ∧ x ≤ 255) (h : rdNum bs = .ok (n, r)) : bs = numB n.toNat ++ r ∧ 0 ≤ n ∧ n.toNat < 2 ^ 64 := by
  cases bs with
  | nil => simp [rdNum] at h
  | cons k bs =>
    have hk := hb k (by simp)
    simp only [rdNum] at h
    by_cases h8 : 8 < k
    · rw [if_pos h8] at h; cases h
    · rw [if_neg h8] at h
      cases hd : rdDig k.toNat true 0 bs with
      | error e => rw [hd] at h; cases h
      | ok p =>
        obtain ⟨m, r'⟩ := p
        rw [hd] at h
        simp only [Except.ok.injEq, Prod.mk.injEq] at h
        obtain ⟨rfl, rfl⟩ := h
        rw [Int.toNat_natCast]
        cases hkn : k.toNat with
        | zero =>
          rw [hkn] at hd
          simp [rdDig] at hd
          obtain ⟨rfl, rfl⟩ := hd
          refine ⟨?_, by omega, by omega⟩
          simp [numB, numK_zero, be]; omega
        | succ j =>
          rw [hkn] at hd
          cases bs with
          | nil => simp [rdDig] at hd
          | cons c bs =>
            simp only [rdDig, Bool.true_and, decide_eq_true_eq] at hd
            by_cases hc : c = 0
            · rw [if_pos hc] at hd; cases hd
            · rw [if_neg hc] at hd
              obtain ⟨ds, h1, h2, h3⟩ := rdDig_inv j _ m bs r' hd
              have hcb := hb c (by simp)
              have hdb : ∀ y ∈ c :: ds, 0 ≤ y ∧ y ≤ 255 := fun y hy => hb y (by rw [h1]; simp at hy ⊢; rcases hy with hy | hy; exact .inr (.inl hy); exact .inr (.inr (.inl hy)))
              have hm : m = val (c :: ds) := by rw [h3]; rfl
              have hK := numK_val c ds (by omega) hdb (by omega)
              have hv := be_val (ds.length + 1) (c :: ds) (by simp) hdb
              have hlt := val_lt (c :: ds) hdb
              refine ⟨?_, by omega, ?_⟩
              · rw [hm, numB, hK, hv, h1]
                simp; omega
              · rw [hm]
                have hp : (256 : Nat) ^ (c :: ds).length ≤ 256 ^ 8 := Nat.pow_le_pow_right (by decide) (by simp; omega)
                have : (256 : Nat) ^ 8 = 2 ^ 64 := by decide
                omega
end Go.Proofs.Ytjodgbabfhcilaa

/- Plain: entries read from bytes. No program. -/
namespace Go.Proofs.Ytjodgbabfhcilaa

/-- so many members behind those that were read -/
def rdIds : Nat → List Int → List Int → Except Int (List Int × List Int)
  | 0, acc, bs => .ok (acc, bs)
  | n + 1, acc, bs => match rdNum bs with
    | .error e => .error e
    | .ok (m, r) => if membersB (acc ++ [m]) then rdIds n (acc ++ [m]) r else .error 3

/-- an entry, and what is left -/
def rdEnt (bs : List Int) : Except Int (Ent × List Int) :=
  match rdNum bs with
  | .error e => .error e
  | .ok (t, r) => if t < 1 ∨ 4611686018427387904 < t then .error 3 else match rdByte r with
    | .error e => .error e
    | .ok (k, r) =>
      if k = 1 then .ok (⟨t, 1, 0, 0, [], []⟩, r)
      else if k = 2 then match rdNum r with
        | .error e => .error e
        | .ok (c, r) => match rdNum r with
          | .error e => .error e
          | .ok (s, r) => match rdRaw 64 r with
            | .error e => .error e
            | .ok (d, r) => .ok (⟨t, 2, c, s, d, []⟩, r)
      else if k = 3 then match rdNum r with
        | .error e => .error e
        | .ok (n, r) => if n < 1 ∨ 7 < n then .error 3 else match rdIds n.toNat [] r with
          | .error e => .error e
          | .ok (ms, r) => .ok (⟨t, 3, 0, 0, [], ms⟩, r)
      else .error 3
def getB (bs : List Int) : Except Int Ent :=
  match rdEnt bs with
  | .error e => .error e
  | .ok (x, r) => if r = [] then .ok x else .error 5

/-- the numbers of a formed entry are such that 64 bits hold them -/
structure EntFit (x : Ent) : Prop where
  client : 0 ≤ x.client ∧ x.client.toNat < 2 ^ 64
  seq : 0 ≤ x.seq ∧ x.seq.toNat < 2 ^ 64

theorem memGo_split : ∀ (a b : List Int) (last : Int), 0 ≤ last → memGo last (a ++ b) = true → b ≠ [] → (a = [] ∨ memGo last a = true)
  | [], b, last, _, _, _ => .inl rfl
  | x :: a, b, last, h0, h, hb => by
    right
    simp only [List.cons_append, memGo, Bool.and_eq_true, Bool.not_eq_true', Bool.or_eq_false_iff, decide_eq_false_iff_not] at h ⊢
    refine ⟨h.1, ?_⟩
    rcases memGo_split a b x (by omega) h.2 hb with h1 | h1
    · subst h1; simp [memGo]; omega
    · exact h1
theorem memGo_mem : ∀ (a : List Int) (last : Int), 0 ≤ last → memGo last a = true → ∀ x ∈ a, 1 ≤ x ∧ x ≤ 7
  | x :: a, last, h0, h, y, hy => by
    simp only [memGo, Bool.and_eq_true, Bool.not_eq_true', Bool.or_eq_false_iff, decide_eq_false_iff_not] at h
    rcases List.mem_cons.1 hy with rfl | hy
    · omega
    · exact memGo_mem a x (by omega) h.2 y hy

theorem rdIds_put : ∀ (ms acc r : List Int), membersB (acc ++ ms) = true → rdIds ms.length acc (ms.flatMap (fun m => numB m.toNat) ++ r) = .ok (acc ++ ms, r)
  | [], acc, r, _ => by simp [rdIds]
  | m :: ms, acc, r, h => by
    have hm := memGo_mem (acc ++ m :: ms) 0 (by omega) h m (by simp)
    simp only [List.length_cons, rdIds, List.flatMap_cons, List.append_assoc]
    rw [rdNum_numB _ (by omega)]
    have e : ((m.toNat : Nat) : Int) = m := by omega
    simp only [e]
    have h1 : membersB (acc ++ [m]) = true := by
      cases hms : ms with
      | nil => rw [hms] at h; exact h
      | cons y ys =>
        have := memGo_split (acc ++ [m]) ms 0 (by omega) (by simpa [membersB] using h) (by rw [hms]; simp)
        rcases this with h2 | h2
        · simp at h2
        · exact h2
    rw [if_pos h1]
    have := rdIds_put ms (acc ++ [m]) r (by simpa using h)
    simpa using this

/-- what was laid is read -/
theorem rdEnt_put (x : Ent) (hf : formedB x = true) (hx : EntFit x) (r : List Int) : rdEnt (putB x ++ r) = .ok (x, r) := by
  obtain ⟨⟨t1, t2⟩, hc⟩ := formed_cases x hf
  obtain ⟨t, k, c, s, d, ms⟩ := x
  simp only at t1 t2 hc
  have ht : t.toNat < 2 ^ 64 := by omega
  have et : ((t.toNat : Nat) : Int) = t := by omega
  unfold putB rdEnt
  simp only [List.append_assoc]
  rw [rdNum_numB _ ht]
  simp only [et]
  rw [if_neg (by omega)]
  simp only [List.cons_append, List.nil_append, rdByte]
  rcases hc with ⟨rfl, rfl, rfl, rfl, rfl⟩ | ⟨rfl, hd, rfl⟩ | ⟨rfl, rfl, rfl, rfl, hm⟩
  · simp
  · obtain ⟨⟨c0, c1⟩, s0, s1⟩ := hx
    simp only at c0 c1 s0 s1
    have ec : ((c.toNat : Nat) : Int) = c := by omega
    have es : ((s.toNat : Nat) : Int) = s := by omega
    simp only [show ((2 : Int) % 256 = 1) = False by simp, show ((2 : Int) % 256 = 2) = True by simp, if_true, if_false, List.append_assoc]
    rw [rdNum_numB _ c1]
    simp only [ec]
    rw [rdNum_numB _ s1]
    simp only [es]
    rw [← List.append_assoc, rdRaw_put d r 64 (by omega) (by omega)]
  · simp only [show ((3 : Int) % 256 = 1) = False by simp, show ((3 : Int) % 256 = 2) = False by simp, show ((3 : Int) % 256 = 3) = True by simp, if_true, if_false]
    simp only [show ((3 : Int) = 2) = False by simp, if_false]
    rcases memGo_len ms 0 (by omega) hm with h | h
    · have hne : 1 ≤ ms.length := by
        cases ms with
        | nil => simp [membersB, memGo] at hm
        | cons y ys => simp
      rw [List.append_assoc, rdNum_numB _ (by omega)]
      simp only []
      rw [if_neg (by omega), Int.toNat_natCast, rdIds_put ms [] r (by simpa using hm)]
      simp
    · subst h; simp [membersB, memGo] at hm
theorem getB_put (x : Ent) (hf : formedB x = true) (hx : EntFit x) : getB (putB x) = .ok x := by
  have := rdEnt_put x hf hx []
  rw [List.append_nil] at this
  simp [getB, this]
theorem putB_inj (x y : Ent) (hf : formedB x = true) (hg : formedB y = true) (hx : EntFit x) (hy : EntFit y) (h : putB x = putB y) : x = y := by
  have a := getB_put x hf hx
  rw [h, getB_put y hg hy] at a
  exact (Except.ok.inj a).symm
/-- with a byte more there is a tail -/
theorem getB_tail (x : Ent) (hf : formedB x = true) (hx : EntFit x) (m : Int) : getB (putB x ++ [m]) = .error 5 := by
  simp [getB, rdEnt_put x hf hx [m]]

theorem rdIds_inv : ∀ (n : Nat) (acc bs ms r : List Int), (∀ x ∈ bs, 0 ≤ x ∧ x ≤ 255) → rdIds n acc bs = .ok (ms, r) → ∃ ns, ms = acc ++ ns ∧ ns.length = n ∧ bs = ns.flatMap (fun m => numB m.toNat) ++ r ∧ (n ≠ 0 → membersB ms = true)
  | 0, acc, bs, ms, r, _, h => by
    simp [rdIds] at h
    exact ⟨[], by simp [h.1], rfl, by simp [h.2], by simp⟩
  | n + 1, acc, bs, ms, r, hb, h => by
    simp only [rdIds] at h
    cases hn : rdNum bs with
    | error e => rw [hn] at h; cases h
    | ok p =>
      obtain ⟨m, r'⟩ := p
      rw [hn] at h
      simp only at h
      by_cases hm : membersB (acc ++ [m]) = true
      · rw [if_pos hm] at h
        obtain ⟨h1, h2, h3⟩ := rdNum_inv bs r' m hb hn
        obtain ⟨ns, g1, g2, g3, g4⟩ := rdIds_inv n (acc ++ [m]) r' ms r (fun x hx => hb x (by rw [h1]; simp [hx])) h
        refine ⟨m :: ns, by simp [g1], by simp [g2], by simp [h1, g3], fun _ => ?_⟩
        cases n with
        | zero =>
          have : ns = [] := List.eq_nil_of_length_eq_zero g2
          rw [g1, this]; simpa using hm
        | succ n => exact g4 (by omega)
      · rw [if_neg hm] at h; cases h

/-- what is read is formed, and the bytes are its own -/
theorem rdEnt_inv (bs r : List Int) (x : Ent) (hb : ∀ y ∈ bs, 0 ≤ y ∧ y ≤ 255) (h : rdEnt bs = .ok (x, r)) : bs = putB x ++ r ∧ formedB x = true ∧ EntFit x := by
  unfold rdEnt at h
  cases h1 : rdNum bs with
  | error e => rw [h1] at h; cases h
  | ok p =>
    obtain ⟨t, r1⟩ := p
    rw [h1] at h
    simp only at h
    obtain ⟨e1, t0, t1⟩ := rdNum_inv bs r1 t hb h1
    have hb1 : ∀ y ∈ r1, 0 ≤ y ∧ y ≤ 255 := fun y hy => hb y (by rw [e1]; simp [hy])
    by_cases ht : t < 1 ∨ 4611686018427387904 < t
    · rw [if_pos ht] at h; cases h
    · rw [if_neg ht] at h
      cases r1 with
      | nil => simp [rdByte] at h
      | cons k r2 =>
        have hb2 : ∀ y ∈ r2, 0 ≤ y ∧ y ≤ 255 := fun y hy => hb1 y (by simp [hy])
        simp only [rdByte] at h
        have htt : decide (1 ≤ t ∧ t ≤ 4611686018427387904) = true := by simp; omega
        by_cases k1 : k = 1
        · subst k1
          simp only [if_true, Except.ok.injEq, Prod.mk.injEq] at h
          obtain ⟨rfl, rfl⟩ := h
          refine ⟨by rw [e1]; simp [putB], by simp only [formedB, htt]; simp, ⟨by simp, by simp⟩⟩
        · rw [if_neg k1] at h
          by_cases k2 : k = 2
          · subst k2
            simp only [if_true] at h
            cases h3 : rdNum r2 with
            | error e => rw [h3] at h; cases h
            | ok p =>
              obtain ⟨c, r3⟩ := p
              rw [h3] at h
              simp only at h
              obtain ⟨e3, c0, c1⟩ := rdNum_inv r2 r3 c hb2 h3
              have hb3 : ∀ y ∈ r3, 0 ≤ y ∧ y ≤ 255 := fun y hy => hb2 y (by rw [e3]; simp [hy])
              cases h4 : rdNum r3 with
              | error e => rw [h4] at h; cases h
              | ok p =>
                obtain ⟨s, r4⟩ := p
                rw [h4] at h
                simp only at h
                obtain ⟨e4, s0, s1⟩ := rdNum_inv r3 r4 s hb3 h4
                have hb4 : ∀ y ∈ r4, 0 ≤ y ∧ y ≤ 255 := fun y hy => hb3 y (by rw [e4]; simp [hy])
                cases h5 : rdRaw 64 r4 with
                | error e => rw [h5] at h; cases h
                | ok p =>
                  obtain ⟨d, r5⟩ := p
                  rw [h5] at h
                  simp only [Except.ok.injEq, Prod.mk.injEq] at h
                  obtain ⟨rfl, rfl⟩ := h
                  unfold rdRaw at h5
                  cases h6 : rdNum r4 with
                  | error e => rw [h6] at h5; cases h5
                  | ok p =>
                    obtain ⟨n, r6⟩ := p
                    rw [h6] at h5
                    simp only at h5
                    obtain ⟨e6, n0, n1⟩ := rdNum_inv r4 r6 n hb4 h6
                    by_cases hn : max 64 0 < n
                    · rw [if_pos hn] at h5; cases h5
                    · rw [if_neg hn] at h5
                      by_cases hl : (r6.length : Int) < n
                      · rw [if_pos hl] at h5; cases h5
                      · rw [if_neg hl] at h5
                        simp only [Except.ok.injEq, Prod.mk.injEq] at h5
                        obtain ⟨rfl, rfl⟩ := h5
                        have hlen : (r6.take n.toNat).length = n.toNat := by simp; omega
                        refine ⟨?_, ?_, ⟨⟨c0, c1⟩, s0, s1⟩⟩
                        · rw [e1, e3, e4, e6]
                          simp only [putB, if_true, hlen]
                          simp
                        · simp only [formedB, htt, Bool.true_and, if_true, hlen]
                          simp; omega
          · rw [if_neg k2] at h
            by_cases k3 : k = 3
            · subst k3
              simp only [if_true] at h
              cases h3 : rdNum r2 with
              | error e => rw [h3] at h; cases h
              | ok p =>
                obtain ⟨n, r3⟩ := p
                rw [h3] at h
                simp only at h
                obtain ⟨e3, n0, n1⟩ := rdNum_inv r2 r3 n hb2 h3
                have hb3 : ∀ y ∈ r3, 0 ≤ y ∧ y ≤ 255 := fun y hy => hb2 y (by rw [e3]; simp [hy])
                by_cases hn : n < 1 ∨ 7 < n
                · rw [if_pos hn] at h; cases h
                · rw [if_neg hn] at h
                  cases h4 : rdIds n.toNat [] r3 with
                  | error e => rw [h4] at h; cases h
                  | ok p =>
                    obtain ⟨ms, r4⟩ := p
                    rw [h4] at h
                    simp only [Except.ok.injEq, Prod.mk.injEq] at h
                    obtain ⟨rfl, rfl⟩ := h
                    obtain ⟨ns, g1, g2, g3, g4⟩ := rdIds_inv n.toNat [] r3 ms r4 hb3 h4
                    rw [List.nil_append] at g1
                    subst g1
                    refine ⟨?_, ?_, ⟨by simp, by simp⟩⟩
                    · rw [e1, e3, g3]
                      simp only [putB, g2]
                      simp
                    · simp only [formedB, htt]
                      simp [g4 (by omega)]
            · rw [if_neg k3] at h; cases h
theorem getB_inv (bs : List Int) (x : Ent) (hb : ∀ y ∈ bs, 0 ≤ y ∧ y ≤ 255) (h : getB bs = .ok x) : putB x = bs ∧ formedB x = true ∧ EntFit x := by
  unfold getB at h
  cases h1 : rdEnt bs with
  | error e => rw [h1] at h; cases h
  | ok p =>
    obtain ⟨y, r⟩ := p
    rw [h1] at h
    simp only at h
    by_cases hr : r = []
    · rw [if_pos hr] at h
      cases h
      obtain ⟨e, f, g⟩ := rdEnt_inv bs r x hb h1
      exact ⟨by rw [e, hr, List.append_nil], f, g⟩
    · rw [if_neg hr] at h; cases h
end Go.Proofs.Ytjodgbabfhcilaa

/- Plain: an entry's bytes, cut off. No program. -/
namespace Go.Proofs.Ytjodgbabfhcilaa

theorem rdNum_take (n : Nat) (h : n < 2 ^ 64) (r : List Int) (j : Nat) : rdNum ((numB n ++ r).take j) = if j < (numB n).length then .error 2 else .ok ((n : Int), r.take (j - (numB n).length)) := by
  rw [List.take_append]
  split
  · rename_i hj
    rw [show j - (numB n).length = 0 by omega]
    simp only [List.take_zero, List.append_nil]
    exact rdNum_cut n h j hj
  · rename_i hj
    rw [List.take_of_length_le (by omega)]
    exact rdNum_numB n h _
theorem rdRaw_cut (d : List Int) (j : Nat) (most : Int) (h : (d.length : Int) ≤ most) (hl : d.length < 2 ^ 64) (hj : j < (numB d.length ++ d).length) : rdRaw most ((numB d.length ++ d).take j) = .error 2 := by
  unfold rdRaw
  rw [rdNum_take _ hl]
  simp only [List.length_append] at hj
  split
  · rename_i e he
    split at he
    · cases he; rfl
    · cases he
  · rename_i n r he
    split at he
    · cases he
    · simp only [Except.ok.injEq, Prod.mk.injEq] at he
      obtain ⟨rfl, rfl⟩ := he
      rw [if_neg (by omega), if_pos (by simp; omega)]
theorem rdIds_cut : ∀ (ms acc : List Int) (j : Nat), membersB (acc ++ ms) = true → j < (ms.flatMap (fun m => numB m.toNat)).length → rdIds ms.length acc ((ms.flatMap (fun m => numB m.toNat)).take j) = .error 2
  | [], acc, j, _, hj => by simp at hj
  | m :: ms, acc, j, h, hj => by
    have hm := memGo_mem (acc ++ m :: ms) 0 (by omega) h m (by simp)
    simp only [List.length_cons, rdIds, List.flatMap_cons]
    rw [rdNum_take _ (by omega)]
    have e : ((m.toNat : Nat) : Int) = m := by omega
    by_cases hjn : j < (numB m.toNat).length
    · rw [if_pos hjn]
    · rw [if_neg hjn]
      simp only [e]
      have h1 : membersB (acc ++ [m]) = true := by
        cases hms : ms with
        | nil => rw [hms] at h; exact h
        | cons y ys =>
          have := memGo_split (acc ++ [m]) ms 0 (by omega) (by simpa [membersB] using h) (by rw [hms]; simp)
          rcases this with h2 | h2
          · simp at h2
          · exact h2
      rw [if_pos h1]
      simp only [List.flatMap_cons, List.length_append] at hj
      exact rdIds_cut ms (acc ++ [m]) (j - (numB m.toNat).length) (by simpa using h) (by omega)

theorem getB_cut (x : Ent) (hf : formedB x = true) (hx : EntFit x) (j : Nat) (hj : j < (putB x).length) : getB ((putB x).take j) = .error 2 := by
  have key : rdEnt ((putB x).take j) = .error 2 := by
    obtain ⟨⟨t1, t2⟩, hc⟩ := formed_cases x hf
    obtain ⟨t, k, c, s, d, ms⟩ := x
    simp only at t1 t2 hc
    have ht : t.toNat < 2 ^ 64 := by omega
    have et : ((t.toNat : Nat) : Int) = t := by omega
    unfold putB at hj ⊢
    unfold rdEnt
    simp only [List.append_assoc] at hj ⊢
    rw [rdNum_take _ ht]
    by_cases h1 : j < (numB t.toNat).length
    · rw [if_pos h1]
    · rw [if_neg h1]
      simp only [et]
      rw [if_neg (by omega)]
      simp only [List.length_append] at hj
      obtain ⟨i, hi⟩ : ∃ i, i = j - (numB t.toNat).length := ⟨_, rfl⟩
      rw [← hi]
      cases i with
      | zero => simp [rdByte]
      | succ i =>
        simp only [List.cons_append, List.nil_append, List.take_succ_cons, rdByte]
        rcases hc with ⟨rfl, rfl, rfl, rfl, rfl⟩ | ⟨rfl, hd, rfl⟩ | ⟨rfl, rfl, rfl, rfl, hm⟩
        · simp at hj; omega
        · obtain ⟨⟨c0, c1⟩, s0, s1⟩ := hx
          simp only at c0 c1 s0 s1
          have ec : ((c.toNat : Nat) : Int) = c := by omega
          have es : ((s.toNat : Nat) : Int) = s := by omega
          simp only [show ((2 : Int) % 256 = 1) = False by simp, show ((2 : Int) % 256 = 2) = True by simp, if_true, if_false, List.append_assoc, List.length_append, List.length_singleton] at hj ⊢
          rw [rdNum_take _ c1]
          by_cases h2 : i < (numB c.toNat).length
          · rw [if_pos h2]
          · rw [if_neg h2]
            simp only [ec]
            rw [rdNum_take _ s1]
            by_cases h3 : i - (numB c.toNat).length < (numB s.toNat).length
            · rw [if_pos h3]
            · rw [if_neg h3]
              simp only [es]
              rw [rdRaw_cut d _ 64 (by omega) (by omega) (by simp only [List.length_append]; omega)]
        · simp only [show ((3 : Int) % 256 = 1) = False by simp, show ((3 : Int) % 256 = 2) = False by simp, show ((3 : Int) % 256 = 3) = True by simp, show ((3 : Int) = 2) = False by simp, if_true, if_false, List.append_assoc, List.length_append, List.length_singleton] at hj ⊢
          rcases memGo_len ms 0 (by omega) hm with h | h
          · have hne : 1 ≤ ms.length := by
              cases ms with
              | nil => simp [membersB, memGo] at hm
              | cons y ys => simp
            rw [rdNum_take _ (by omega)]
            by_cases h2 : i < (numB ms.length).length
            · rw [if_pos h2]
            · rw [if_neg h2]
              simp only []
              rw [if_neg (by omega), Int.toNat_natCast, rdIds_cut ms [] _ (by simpa using hm) (by omega)]
          · subst h; simp [membersB, memGo] at hm
  unfold getB
  rw [key]
end Go.Proofs.Ytjodgbabfhcilaa
