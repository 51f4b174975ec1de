/- Parts of the proof, in plain words at the head of each: Nums, Sh0, EntL, RdL. -/
import Derived.Lib.BitFns
import Derived.Laws.BitsAllLaws
set_option linter.unusedSimpArgs false
set_option linter.unusedVariables false
/- Plain laws on the bytes of numbers. No program. -/
namespace Go.Proofs.YtgefphfnicjbiaaDoor

/-- big-endian, k bytes -/
def be : Nat → Nat → List Int
  | 0, _ => []
  | k + 1, n => ((n / 256 ^ k % 256 : Nat) : Int) :: be k n
/-- how many bytes -/
def numK (n : Nat) : Nat := (Lib.bitLen n + 7) / 8
def numB (n : Nat) : List Int := (numK n : Int) :: be (numK n) n
theorem be_len : ∀ k n, (be k n).length = k
  | 0, _ => rfl
  | k + 1, n => by simp [be, be_len k n]
theorem be_get : ∀ (k n j : Nat), j < k → (be k n)[j]? = some ((n / 256 ^ (k - 1 - j) % 256 : Nat) : Int)
  | k + 1, n, 0, _ => by simp [be]
  | k + 1, n, j + 1, h => by
    simp only [be, List.getElem?_cons_succ]
    rw [be_get k n j (by omega)]
    simp only [show k - 1 - j = k + 1 - 1 - (j + 1) by omega]
theorem be_take (k n j : Nat) (h : j < k) : (be k n).take (j + 1) = (be k n).take j ++ [((n / 256 ^ (k - 1 - j) % 256 : Nat) : Int)] := by
  rw [List.take_add_one, be_get k n j h]; rfl

theorem bitLen_le (n : Nat) : Lib.bitLen n ≤ 64 := by
  have h : ∀ f x, Lib.bitLenAux f x ≤ f := by
    intro f
    induction f with
    | zero => intro x; simp [Lib.bitLenAux]
    | succ f ih => intro x; unfold Lib.bitLenAux; split; omega; have := ih (x / 2); omega
  exact h 64 n
theorem numK_le (n : Nat) : numK n ≤ 8 := by have := bitLen_le n; unfold numK; omega
theorem numB_len (n : Nat) : (numB n).length = numK n + 1 := by simp [numB, be_len]

theorem shr_byte (n k j : Nat) (h : j < k) : (n : Int) / 2 ^ (8 * k - 8 - 8 * j) % 256 = ((n / 256 ^ (k - 1 - j) % 256 : Nat) : Int) := by
  rw [show 8 * k - 8 - 8 * j = 8 * (k - 1 - j) by omega]
  have : (256 : Nat) ^ (k - 1 - j) = 2 ^ (8 * (k - 1 - j)) := by rw [show (256 : Nat) = 2 ^ 8 from rfl, ← Nat.pow_mul]
  rw [this]
  simp

/-- little-endian, k bytes -/
def le : Nat → Nat → List Int
  | 0, _ => []
  | k + 1, n => le k n ++ [((n / 256 ^ k % 256 : Nat) : Int)]
theorem le_len : ∀ k n, (le k n).length = k
  | 0, _ => rfl
  | k + 1, n => by simp [le, le_len k n]
theorem be_le : ∀ k n, be k n = (le k n).reverse
  | 0, _ => rfl
  | k + 1, n => by simp [be, le, be_le k n]
theorem le_get : ∀ (k n j : Nat), j < k → (le k n)[j]? = some ((n / 256 ^ j % 256 : Nat) : Int)
  | k + 1, n, j, h => by
    rw [le, List.getElem?_append, le_len]
    by_cases hj : j < k
    · rw [if_pos hj, le_get k n j hj]
    · obtain rfl : j = k := by omega
      simp
theorem le_getD (k n j : Nat) (h : j < k) : (le k n).getD j 0 = ((n / 256 ^ j % 256 : Nat) : Int) := by
  simp [List.getD, le_get k n j h]

theorem bitLen_pos (n : Nat) (h : n ≠ 0) (hn : n < 2 ^ 64) : 1 ≤ Lib.bitLen n := by
  rw [Lib.bitLen_half n h hn]; omega
theorem numK_zero : numK 0 = 0 := by decide
theorem numK_rec (n : Nat) (h : n ≠ 0) (hn : n < 2 ^ 64) : numK n = numK (n / 256) + 1 := by
  unfold numK
  by_cases h8 : 256 ≤ n
  · rw [Lib.bitLen_shift8 n h8 (by omega)]; omega
  · have h1 := bitLen_pos n h hn
    have h2 := Lib.bitLen_le n 8 (by omega) (by omega)
    rw [show n / 256 = 0 by omega]
    have : Lib.bitLen 0 = 0 := by decide
    omega
theorem numK_div : ∀ (j n : Nat), n < 2 ^ 64 → numK (n / 256 ^ j) = numK n - j
  | 0, n, _ => by simp
  | j + 1, n, h => by
    rw [Nat.pow_succ, ← Nat.div_div_eq_div_mul]
    have hd : n / 256 ^ j < 2 ^ 64 := Nat.lt_of_le_of_lt (Nat.div_le_self _ _) h
    have ih := numK_div j n h
    by_cases h0 : n / 256 ^ j = 0
    · rw [h0] at ih ⊢
      rw [numK_zero] at ih
      rw [Nat.zero_div, numK_zero]; omega
    · have := numK_rec _ h0 hd
      omega
theorem div_zero_iff (n j : Nat) (h : n < 2 ^ 64) : n / 256 ^ j = 0 ↔ numK n ≤ j := by
  have hd : n / 256 ^ j < 2 ^ 64 := Nat.lt_of_le_of_lt (Nat.div_le_self _ _) h
  have ih := numK_div j n h
  constructor
  · intro h0; rw [h0, numK_zero] at ih; omega
  · intro hj
    by_cases h0 : n / 256 ^ j = 0
    · exact h0
    · have := numK_rec _ h0 hd; omega
theorem lt_pow_numK (n : Nat) (h : n < 2 ^ 64) : n < 256 ^ numK n := by
  have := (div_zero_iff n (numK n) h).2 (Nat.le_refl _)
  exact (Nat.div_eq_zero_iff_lt (Nat.pow_pos (by decide))).1 this

theorem be_bound : ∀ k n, ∀ x ∈ be k n, 0 ≤ x ∧ x ≤ 255
  | k + 1, n, x, h => by
    simp only [be, List.mem_cons] at h
    rcases h with rfl | h
    · omega
    · exact be_bound k n x h
theorem numB_bound (n : Nat) : ∀ x ∈ numB n, 0 ≤ x ∧ x ≤ 255 := by
  intro x h
  simp only [numB, List.mem_cons] at h
  rcases h with rfl | h
  · have := numK_le n; omega
  · exact be_bound _ _ x h

/-- the number that bytes are, the highest first -/
def val (xs : List Int) : Nat := xs.foldl (fun n x => n * 256 + x.toNat) 0
theorem val_snoc (xs : List Int) (x : Int) : val (xs ++ [x]) = val xs * 256 + x.toNat := by simp [val]
theorem val_nil : val [] = 0 := rfl
theorem val_be : ∀ k n j, j ≤ k → val ((be k n).take j) = n / 256 ^ (k - j) % 256 ^ j
  | k, n, 0, _ => by simp [val, Nat.mod_one]
  | k, n, j + 1, h => by
    rw [be_take k n j (by omega), val_snoc, val_be k n j (by omega)]
    have e : n / 256 ^ (k - j) = n / 256 ^ (k - (j + 1)) / 256 := by
      rw [Nat.div_div_eq_div_mul, ← Nat.pow_succ, show (k - (j + 1)).succ = k - j by omega]
    rw [e, show k - 1 - j = k - (j + 1) by omega]
    generalize n / 256 ^ (k - (j + 1)) = m
    simp only [Int.toNat_natCast]
    rw [Nat.pow_succ, Nat.mul_comm (256 ^ j) 256, Nat.mod_mul]
    omega
theorem val_be_all (n : Nat) (h : n < 2 ^ 64) : val (be (numK n) n) = n := by
  have := val_be (numK n) n (numK n) (Nat.le_refl _)
  rw [List.take_of_length_le (by rw [be_len]; exact Nat.le_refl _), Nat.sub_self, Nat.pow_zero, Nat.div_one, Nat.mod_eq_of_lt (lt_pow_numK n h)] at this
  exact this
theorem be_head (n : Nat) (h : n ≠ 0) (hn : n < 2 ^ 64) : ∃ x r, be (numK n) n = x :: r ∧ x ≠ 0 := by
  have h1 := numK_rec n h hn
  rw [h1]
  refine ⟨_, _, rfl, ?_⟩
  have h2 : ¬ n / 256 ^ numK (n / 256) = 0 := by rw [div_zero_iff n _ hn]; omega
  have h3 := lt_pow_numK n hn
  rw [h1, Nat.pow_succ, Nat.mul_comm] at h3
  have : n / 256 ^ numK (n / 256) < 256 := by
    rw [Nat.div_lt_iff_lt_mul (Nat.pow_pos (by decide))]; exact h3
  generalize n / 256 ^ numK (n / 256) = q at *
  omega
end Go.Proofs.YtgefphfnicjbiaaDoor

/- Layer 3 (sha): SHA-256 plainly, on words of 32 bits. No program. PRINTED BY gen/sh1.py -/
namespace Go.Proofs.YtgefphfnicjbiaaDoor
open Go

abbrev Wd := BitVec 32
def rr (x : Wd) (k : Nat) : Wd := (x >>> k) ||| (x <<< (32 - k))
def bS1 (e : Wd) : Wd := rr e 6 ^^^ rr e 11 ^^^ rr e 25
def bS0 (a : Wd) : Wd := rr a 2 ^^^ rr a 13 ^^^ rr a 22
def sS0 (x : Wd) : Wd := rr x 7 ^^^ rr x 18 ^^^ (x >>> 3)
def sS1 (x : Wd) : Wd := rr x 17 ^^^ rr x 19 ^^^ (x >>> 10)
def chW (e f g : Wd) : Wd := (e &&& f) ^^^ (~~~e &&& g)
def majW (a b c : Wd) : Wd := (a &&& b) ^^^ (a &&& c) ^^^ (b &&& c)
/-- The schedule of a block's words. -/
def schW (m : Nat → Wd) (t : Nat) : Wd := if t < 16 then m t else sS1 (schW m (t - 2)) + schW m (t - 7) + sS0 (schW m (t - 15)) + schW m (t - 16)
termination_by t
decreasing_by all_goals omega
theorem schW_lo (m : Nat → Wd) {t : Nat} (h : t < 16) : schW m t = m t := by rw [schW, if_pos h]
theorem schW_hi (m : Nat → Wd) (t : Nat) : schW m (t + 16) = sS1 (schW m (t + 14)) + schW m (t + 9) + sS0 (schW m (t + 1)) + schW m t := by
  rw [schW, if_neg (by omega)]
  rfl
structure H8 where
  a : Wd
  b : Wd
  c : Wd
  d : Wd
  e : Wd
  f : Wd
  g : Wd
  h : Wd
def rndW (s : H8) (k w : Wd) : H8 := ⟨(s.h + bS1 s.e + chW s.e s.f s.g + k + w) + (bS0 s.a + majW s.a s.b s.c), s.a, s.b, s.c, s.d + (s.h + bS1 s.e + chW s.e s.f s.g + k + w), s.e, s.f, s.g⟩
def rndsW (K m : Nat → Wd) (s : H8) : Nat → H8
  | 0 => s
  | t + 1 => rndW (rndsW K m s t) (K t) (schW m t)
def addH (s r : H8) : H8 := ⟨s.a + r.a, s.b + r.b, s.c + r.c, s.d + r.d, s.e + r.e, s.f + r.f, s.g + r.g, s.h + r.h⟩
/-- One block. -/
def blkW (K : Nat → Wd) (s : H8) (m : Nat → Wd) : H8 := addH s (rndsW K m s 64)
/-- The program's ways to say ch and maj. -/
theorem ch_alt (e f g : Wd) : g ^^^ (e &&& (f ^^^ g)) = chW e f g := by
  unfold chW
  ext i hi
  simp only [BitVec.getElem_xor, BitVec.getElem_and, BitVec.getElem_not]
  cases e[i] <;> cases f[i] <;> cases g[i] <;> rfl
theorem maj_alt (a b c : Wd) : (a &&& b) ||| (c &&& (a ||| b)) = majW a b c := by
  unfold majW
  ext i hi
  simp only [BitVec.getElem_xor, BitVec.getElem_and, BitVec.getElem_or]
  cases a[i] <;> cases b[i] <;> cases c[i] <;> rfl
/-! ### Words as values -/
def iw (x : Wd) : Int := (x.toNat : Int)
theorem iw_lo (x : Wd) : 0 ≤ iw x := by unfold iw; omega
theorem iw_hi (x : Wd) : iw x < 4294967296 := by unfold iw; have := x.isLt; omega
theorem iw_toNat (x : Wd) : (iw x).toNat = x.toNat := by unfold iw; simp
theorem iw_inj {x y : Wd} (h : iw x = iw y) : x = y := by unfold iw at h; exact BitVec.eq_of_toNat_eq (by omega)
theorem iw_ofNat (n : Nat) (h : n < 4294967296) : iw (BitVec.ofNat 32 n) = (n : Int) := by unfold iw; rw [BitVec.toNat_ofNat, Nat.mod_eq_of_lt (by omega)]
theorem iw_add (x y : Wd) : IntKind.u32.wrap (iw x + iw y) = iw (x + y) := by
  rw [IntKind.wrap_u32']; unfold iw; rw [BitVec.toNat_add]; have := x.isLt; have := y.isLt; omega
theorem iw_add4 (a b c d : Wd) : (iw a + iw b + iw c + iw d) % 4294967296 = iw (a + b + c + d) := by
  unfold iw; simp only [BitVec.toNat_add]; omega
theorem iw_xor (x y : Wd) : bits .xor .u32 (iw x) (iw y) = iw (x ^^^ y) := by
  unfold iw; rw [u32_xor_nat _ _ x.isLt y.isLt, BitVec.toNat_xor]
theorem iw_or (x y : Wd) : bits .or .u32 (iw x) (iw y) = iw (x ||| y) := by
  unfold iw; rw [u32_or_nat _ _ x.isLt y.isLt, BitVec.toNat_or]
theorem iw_and (x y : Wd) : bits .and .u32 (iw x) (iw y) = iw (x &&& y) := by
  unfold iw; rw [u32_and_nat _ _ x.isLt y.isLt, BitVec.toNat_and]
theorem iw_shr (x : Wd) (k : Nat) : iw x / (2 ^ k : Nat) = iw (x >>> k) := by
  unfold iw; rw [BitVec.toNat_ushiftRight, Nat.shiftRight_eq_div_pow]; omega
theorem iw_shr8 (x : Wd) : iw x / (8 : Int) = iw (x >>> 3) := iw_shr x 3
theorem iw_shr1024 (x : Wd) : iw x / (1024 : Int) = iw (x >>> 10) := iw_shr x 10
theorem iw_shl (x : Wd) (k : Nat) : iw x * (2 ^ k : Nat) % 4294967296 = iw (x <<< k) := by
  unfold iw; rw [BitVec.toNat_shiftLeft, Nat.shiftLeft_eq]; omega
end Go.Proofs.YtgefphfnicjbiaaDoor

/- Plain words for entries of the log. No program. -/
namespace Go.Proofs.YtgefphfnicjbiaaDoor

structure Ent where
  term : Int
  kind : Int
  client : Int
  seq : Int
  data : List Int
  members : List Int

/-- Strictly rising from 'last' on, none above 7; the last of all above 0. -/
def memGo (last : Int) : List Int → Bool
  | [] => decide (0 < last)
  | x :: r => !(decide (x ≤ last) || decide (7 < x)) && memGo x r
def membersB (xs : List Int) : Bool := memGo 0 xs

def formedB (x : Ent) : Bool :=
  decide (1 ≤ x.term ∧ x.term ≤ 4611686018427387904) &&
  (if x.kind = 2 then decide (x.data.length ≤ 64) && decide (x.members.length = 0)
   else if x.kind = 1 then decide (x.client = 0) && decide (x.seq = 0) && decide (x.data.length = 0) && decide (x.members.length = 0)
   else if x.kind = 3 then decide (x.client = 0) && decide (x.seq = 0) && decide (x.data.length = 0) && membersB x.members
   else false)

/-- The bytes of a formed entry. -/
def putB (x : Ent) : List Int :=
  numB x.term.toNat ++ [x.kind % 256] ++
  (if x.kind = 2 then numB x.client.toNat ++ numB x.seq.toNat ++ (numB x.data.length ++ x.data)
   else if x.kind = 3 then numB x.members.length ++ x.members.flatMap (fun m => numB m.toNat)
   else [])

theorem memGo_len : ∀ (xs : List Int) (last : Int), 0 ≤ last → memGo last xs = true → last + xs.length ≤ 7 ∨ xs = []
  | [], _, _, _ => .inr rfl
  | x :: r, last, h0, h => by
    simp only [memGo, Bool.and_eq_true, Bool.not_eq_true', Bool.or_eq_false_iff, decide_eq_false_iff_not] at h
    left
    rcases memGo_len r x (by omega) h.2 with h1 | h1
    · simp only [List.length_cons]; omega
    · subst h1; simp only [List.length_cons, List.length_nil]; omega
theorem formed_cases (x : Ent) (h : formedB x = true) : (1 ≤ x.term ∧ x.term ≤ 4611686018427387904) ∧
    ((x.kind = 1 ∧ x.client = 0 ∧ x.seq = 0 ∧ x.data = [] ∧ x.members = []) ∨ (x.kind = 2 ∧ x.data.length ≤ 64 ∧ x.members = []) ∨ (x.kind = 3 ∧ x.client = 0 ∧ x.seq = 0 ∧ x.data = [] ∧ membersB x.members = true)) := by
  simp only [formedB, Bool.and_eq_true, decide_eq_true_eq] at h
  refine ⟨h.1, ?_⟩
  have h2 := h.2
  by_cases k2 : x.kind = 2
  · rw [if_pos k2] at h2; simp at h2; exact .inr (.inl ⟨k2, h2⟩)
  · rw [if_neg k2] at h2
    by_cases k1 : x.kind = 1
    · rw [if_pos k1] at h2; simp at h2; exact .inl ⟨k1, h2.1.1.1, h2.1.1.2, h2.1.2, h2.2⟩
    · rw [if_neg k1] at h2
      by_cases k3 : x.kind = 3
      · rw [if_pos k3] at h2; simp at h2; exact .inr (.inr ⟨k3, h2.1.1.1, h2.1.1.2, h2.1.2, h2.2⟩)
      · rw [if_neg k3] at h2; cases h2
end Go.Proofs.YtgefphfnicjbiaaDoor

/- Plain: numbers and texts read from bytes. No program. -/
namespace Go.Proofs.YtgefphfnicjbiaaDoor

/-- k digits; the first of all may not be 0. -/
def rdDig : Nat → Bool → Nat → List Int → Except Int (Nat × List Int)
  | 0, _, n, bs => .ok (n, bs)
  | _ + 1, _, _, [] => .error 2
  | k + 1, f, n, c :: r => if f && decide (c = 0) then .error 3 else rdDig k false (n * 256 + c.toNat) r
def rdNum : List Int → Except Int (Int × List Int)
  | [] => .error 2
  | k :: r => if 8 < k then .error 3 else match rdDig k.toNat true 0 r with
    | .error e => .error e
    | .ok (n, r') => .ok ((n : Int), r')
def rdByte : List Int → Except Int (Int × List Int)
  | [] => .error 2
  | c :: r => .ok (c, r)
def rdRaw (most : Int) (bs : List Int) : Except Int (List Int × List Int) :=
  match rdNum bs with
  | .error e => .error e
  | .ok (n, r) => if max most 0 < n then .error 4 else if (r.length : Int) < n then .error 2 else .ok (r.take n.toNat, r.drop n.toNat)

theorem rdDig_go : ∀ (xs r : List Int) (n : Nat), rdDig xs.length false n (xs ++ r) = .ok (xs.foldl (fun n x => n * 256 + x.toNat) n, r)
  | [], r, n => by simp [rdDig]
  | x :: xs, r, n => by simp [rdDig, rdDig_go xs r]
theorem rdDig_all (xs r : List Int) (h : ∀ x s, xs = x :: s → x ≠ 0) : rdDig xs.length true 0 (xs ++ r) = .ok (val xs, r) := by
  cases xs with
  | nil => simp [rdDig, val]
  | cons x s =>
    have hx := h x s rfl
    simp only [List.length_cons, List.cons_append, rdDig, Bool.true_and, decide_eq_true_eq, if_neg hx]
    rw [rdDig_go]; simp [val]
theorem rdNum_numB (n : Nat) (h : n < 2 ^ 64) (r : List Int) : rdNum (numB n ++ r) = .ok ((n : Int), r) := by
  have h8 := numK_le n
  have hd := rdDig_all (be (numK n) n) r (fun x s hx => by
    by_cases h0 : n = 0
    · subst h0; rw [numK_zero] at hx; simp [be] at hx
    · obtain ⟨y, r', hy, hne⟩ := be_head n h0 h
      rw [hy] at hx; cases hx; exact hne)
  rw [be_len, val_be_all n h] at hd
  simp only [numB, List.cons_append, rdNum]
  rw [if_neg (by omega), Int.toNat_natCast, hd]
theorem rdRaw_put (d r : List Int) (most : Int) (h : (d.length : Int) ≤ most) (hl : d.length < 2 ^ 64) : rdRaw most (numB d.length ++ d ++ r) = .ok (d, r) := by
  unfold rdRaw
  rw [List.append_assoc, rdNum_numB _ hl]
  simp only []
  rw [if_neg (by omega), if_neg (by simp; omega)]
  simp

/-- cut short -/
theorem rdDig_short : ∀ (xs : List Int) (k n : Nat), xs.length < k → rdDig k false n xs = .error 2
  | [], k + 1, n, _ => by simp [rdDig]
  | x :: xs, k + 1, n, h => by simp only [rdDig, Bool.false_and, Bool.false_eq_true, if_false]; exact rdDig_short xs k _ (by simpa using h)
theorem rdNum_cut (n : Nat) (h : n < 2 ^ 64) (j : Nat) (hj : j < (numB n).length) : rdNum ((numB n).take j) = .error 2 := by
  have h8 := numK_le n
  rw [numB_len] at hj
  cases j with
  | zero => simp [rdNum]
  | succ j =>
    simp only [numB, List.take_succ_cons, rdNum]
    rw [if_neg (by omega), Int.toNat_natCast]
    by_cases h0 : n = 0
    · subst h0; rw [numK_zero] at hj; omega
    · obtain ⟨y, r', hy, hne⟩ := be_head n h0 h
      have hl := be_len (numK n) n
      rw [hy] at hl ⊢
      simp only [List.length_cons] at hl
      cases j with
      | zero => rw [← hl]; simp [rdDig]
      | succ j =>
        rw [← hl]
        simp only [List.take_succ_cons, rdDig, Bool.true_and, decide_eq_true_eq, if_neg hne]
        rw [rdDig_short _ _ _ (by simp; omega)]

/-- what was read is just its bytes -/
theorem val_lt (ds : List Int) (hb : ∀ x ∈ ds, 0 ≤ x ∧ x ≤ 255) : val ds < 256 ^ ds.length := by
  have h : ∀ (ds : List Int) (n k : Nat), (∀ x ∈ ds, 0 ≤ x ∧ x ≤ 255) → n < 256 ^ k → ds.foldl (fun n x => n * 256 + x.toNat) n < 256 ^ (k + ds.length) := by
    intro ds
    induction ds with
    | nil => intro n k _ h; simpa using h
    | cons x ds ih =>
      intro n k hb h
      have hx := hb x (by simp)
      have := ih (n * 256 + x.toNat) (k + 1) (fun y hy => hb y (by simp [hy])) (by rw [Nat.pow_succ]; omega)
      simpa [Nat.add_assoc, Nat.add_comm 1] using this
  have := h ds 0 0 hb (by simp)
  simpa [val] using this
theorem val_ge (x : Int) (ds : List Int) (hx : 1 ≤ x) : 256 ^ ds.length ≤ val (x :: ds) := by
  have h : ∀ (ds : List Int) (n k : Nat), 256 ^ k ≤ n → 256 ^ (k + ds.length) ≤ ds.foldl (fun n x => n * 256 + x.toNat) n := by
    intro ds
    induction ds with
    | nil => intro n k h; simpa using h
    | cons y ds ih =>
      intro n k h
      have := ih (n * 256 + y.toNat) (k + 1) (by rw [Nat.pow_succ]; omega)
      simpa [Nat.add_assoc, Nat.add_comm 1] using this
  have := h ds (0 * 256 + x.toNat) 0 (by simp; omega)
  simpa [val] using this
theorem be_val : ∀ (k : Nat) (ds : List Int), ds.length = k → (∀ x ∈ ds, 0 ≤ x ∧ x ≤ 255) → be k (val ds) = ds := by
  intro k ds hl hb
  apply List.ext_getElem?
  intro j
  by_cases hj : j < k
  · rw [be_get k _ j hj]
    have hv : ∀ (ds : List Int) (j : Nat), j < ds.length → (∀ x ∈ ds, 0 ≤ x ∧ x ≤ 255) → ds[j]? = some ((val ds / 256 ^ (ds.length - 1 - j) % 256 : Nat) : Int) := by
      intro ds j hj hb
      have e : ds = ds.take (j + 1) ++ ds.drop (j + 1) := (List.take_append_drop _ _).symm
      have hval : ∀ (a b : List Int), (∀ x ∈ b, 0 ≤ x ∧ x ≤ 255) → val (a ++ b) / 256 ^ b.length = val a := by
        intro a b hb
        have hx : val (a ++ b) = val a * 256 ^ b.length + val b := by
          have g : ∀ (b : List Int) (n : Nat), b.foldl (fun n x => n * 256 + x.toNat) n = n * 256 ^ b.length + val b := by
            intro b
            induction b with
            | nil => intro n; simp [val]
            | cons y b ih =>
              intro n
              rw [List.foldl_cons, ih]
              have : val (y :: b) = (0 * 256 + y.toNat) * 256 ^ b.length + val b := by unfold val; rw [List.foldl_cons, ih]; rfl
              rw [this, List.length_cons, Nat.pow_succ]
              rw [Nat.add_mul, Nat.mul_assoc, Nat.mul_comm 256]; simp [Nat.add_assoc]
          unfold val
          rw [List.foldl_append, g]; rfl
        rw [hx, Nat.mul_comm, Nat.mul_add_div (Nat.pow_pos (by decide)), Nat.div_eq_of_lt (val_lt b hb), Nat.add_zero]
      have h1 := hval (ds.take (j + 1)) (ds.drop (j + 1)) (fun x hx => hb x (List.mem_of_mem_drop hx))
      rw [List.take_append_drop] at h1
      rw [show ds.length - 1 - j = (ds.drop (j + 1)).length by simp; omega, h1]
      have h2 : ds.take (j + 1) = ds.take j ++ [ds[j]] := by rw [List.take_add_one]; simp [hj]
      rw [h2, val_snoc]
      have hx := hb ds[j] (by simp)
      rw [List.getElem?_eq_getElem hj]
      congr 1
      omega
    have := hv ds j (by omega) hb
    rw [this, hl]
  · rw [List.getElem?_eq_none (by rw [be_len]; omega), List.getElem?_eq_none (by omega)]
theorem numK_val (x : Int) (ds : List Int) (hx : 1 ≤ x) (hb : ∀ y ∈ x :: ds, 0 ≤ y ∧ y ≤ 255) (hl : ds.length < 8) : numK (val (x :: ds)) = ds.length + 1 := by
  have h1 := val_lt (x :: ds) hb
  have h2 := val_ge x ds hx
  rw [List.length_cons] at h1
  have hp : (256 : Nat) ^ (ds.length + 1) ≤ 256 ^ 8 := Nat.pow_le_pow_right (by decide) (by omega)
  have h64 : val (x :: ds) < 2 ^ 64 := by have : (256 : Nat) ^ 8 = 2 ^ 64 := by decide
                                          omega
  have a := (div_zero_iff (val (x :: ds)) (ds.length + 1) h64).1 (Nat.div_eq_of_lt h1)
  have b : ¬ numK (val (x :: ds)) ≤ ds.length := fun h => by
    have := (div_zero_iff (val (x :: ds)) ds.length h64).2 h
    rw [Nat.div_eq_zero_iff] at this
    rcases this with h | h
    · have := Nat.pow_pos (n := ds.length) (show 0 < 256 by decide); omega
    · omega
  omega
theorem rdDig_inv : ∀ (k : Nat) (n m : Nat) (bs r : List Int), rdDig k false n bs = .ok (m, r) → ∃ ds, bs = ds ++ r ∧ ds.length = k ∧ m = ds.foldl (fun n x => n * 256 + x.toNat) n
  | 0, n, m, bs, r, h => by simp [rdDig] at h; exact ⟨[], by simp [h.2], rfl, by simp [h.1]⟩
  | k + 1, n, m, [], r, h => by simp [rdDig] at h
  | k + 1, n, m, c :: bs, r, h => by
    simp only [rdDig, Bool.false_and, Bool.false_eq_true, if_false] at h
    obtain ⟨ds, h1, h2, h3⟩ := rdDig_inv k _ m bs r h
    exact ⟨c :: ds, by simp [h1], by simp [h2], by simp [h3]⟩
theorem rdNum_inv (bs r : List Int) (n : Int) (hb : ∀ x ∈ bs, 0 ≤ x ∧ x ≤ 255) (h : rdNum bs = .ok (n, r)) : bs = numB n.toNat ++ r ∧ 0 ≤ n ∧ n.toNat < 2 ^ 64 := by
  cases bs with
  | nil => simp [rdNum] at h
  | cons k bs =>
    have hk := hb k (by simp)
    simp only [rdNum] at h
    by_cases h8 : 8 < k
    · rw [if_pos h8] at h; cases h
    · rw [if_neg h8] at h
      cases hd : rdDig k.toNat true 0 bs with
      | error e => rw [hd] at h; cases h
      | ok p =>
        obtain ⟨m, r'⟩ := p
        rw [hd] at h
        simp only [Except.ok.injEq, Prod.mk.injEq] at h
        obtain ⟨rfl, rfl⟩ := h
        rw [Int.toNat_natCast]
        cases hkn : k.toNat with
        | zero =>
          rw [hkn] at hd
          simp [rdDig] at hd
          obtain ⟨rfl, rfl⟩ := hd
          refine ⟨?_, by omega, by omega⟩
          simp [numB, numK_zero, be]; omega
        | succ j =>
          rw [hkn] at hd
          cases bs with
          | nil => simp [rdDig] at hd
          | cons c bs =>
            simp only [rdDig, Bool.true_and, decide_eq_true_eq] at hd
            by_cases hc : c = 0
            · rw [if_pos hc] at hd; cases hd
            · rw [if_neg hc] at hd
              obtain ⟨ds, h1, h2, h3⟩ := rdDig_inv j _ m bs r' hd
              have hcb := hb c (by simp)
              have hdb : ∀ y ∈ c :: ds, 0 ≤ y ∧ y ≤ 255 := fun y hy => hb y (by rw [h1]; simp at hy ⊢; rcases hy with hy | hy; exact .inr (.inl hy); exact .inr (.inr (.inl hy)))
              have hm : m = val (c :: ds) := by rw [h3]; rfl
              have hK := numK_val c ds (by omega) hdb (by omega)
              have hv := be_val (ds.length + 1) (c :: ds) (by simp) hdb
              have hlt := val_lt (c :: ds) hdb
              refine ⟨?_, by omega, ?_⟩
              · rw [hm, numB, hK, hv, h1]
                simp; omega
              · rw [hm]
                have hp : (256 : Nat) ^ (c :: ds).length ≤ 256 ^ 8 := Nat.pow_le_pow_right (by decide) (by simp; omega)
                have : (256 : Nat) ^ 8 = 2 ^ 64 := by decide
                omega
end Go.Proofs.YtgefphfnicjbiaaDoor
