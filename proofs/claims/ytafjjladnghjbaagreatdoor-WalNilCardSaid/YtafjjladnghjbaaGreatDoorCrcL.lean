/- Layer 2 (crc): sums of texts that are joined: plain. No program. -/
import Derived.Test.YtafjjladnghjbaaGreatDoorCrc0
namespace Go.Proofs.YtafjjladnghjbaaGreatDoor
open Go

/-! ### Linear -/
def Lin (f : Wd → Wd) : Prop := ∀ x y, f (x ^^^ y) = f x ^^^ f y
theorem Lin.zero {f : Wd → Wd} (h : Lin f) : f 0#32 = 0#32 := by
  have := h 0#32 0#32
  rw [BitVec.xor_self, BitVec.xor_self] at this; exact this
theorem Lin.comp {f g : Wd → Wd} (hf : Lin f) (hg : Lin g) : Lin fun x => f (g x) := fun x y => by show f (g (x ^^^ y)) = f (g x) ^^^ f (g y); rw [hg, hf]
theorem and1_two (c : Wd) : c &&& 1#32 = 0#32 ∨ c &&& 1#32 = 1#32 := by
  have h : (c &&& 1#32).toNat = c.toNat % 2 := by
    rw [BitVec.toNat_and]; exact Nat.and_one_is_mod _
  rcases Nat.mod_two_eq_zero_or_one c.toNat with h0 | h0
  · exact .inl (BitVec.eq_of_toNat_eq (by rw [h, h0]; rfl))
  · exact .inr (BitVec.eq_of_toNat_eq (by rw [h, h0]; rfl))
theorem and_xor (m x y : Wd) : (x ^^^ y) &&& m = (x &&& m) ^^^ (y &&& m) := by
  apply BitVec.eq_of_getLsbD_eq
  intro i hi
  simp only [BitVec.getLsbD_and, BitVec.getLsbD_xor]
  cases x.getLsbD i <;> cases y.getLsbD i <;> cases m.getLsbD i <;> rfl
theorem xor4 (a b c d : Wd) : (a ^^^ b) ^^^ (c ^^^ d) = (a ^^^ c) ^^^ (b ^^^ d) := by
  rw [BitVec.xor_assoc, BitVec.xor_assoc, ← BitVec.xor_assoc b c d, BitVec.xor_comm b c, BitVec.xor_assoc c b d]
theorem lin_stp : Lin stpW := by
  intro x y
  unfold stpW
  rw [BitVec.ushiftRight_xor_distrib, and_xor]
  have h : ∀ p q : Wd, (p = 0#32 ∨ p = 1#32) → (q = 0#32 ∨ q = 1#32) → (0x82f63b78#32 &&& (0#32 - (p ^^^ q))) = (0x82f63b78#32 &&& (0#32 - p)) ^^^ (0x82f63b78#32 &&& (0#32 - q)) := by
    rintro p q (rfl | rfl) (rfl | rfl) <;> decide
  rw [h _ _ (and1_two x) (and1_two y), xor4]
theorem lin_stpN : ∀ (k : Nat) (x y : Wd), stpN (x ^^^ y) k = stpN x k ^^^ stpN y k
  | 0 => fun _ _ => rfl
  | k + 1 => fun x y => by rw [stpN, lin_stpN k x y, lin_stp]; rfl
theorem nib_and (c : Wd) : nibW (c &&& 15#32).toNat = stpN (c &&& 15#32) 4 := by
  unfold nibW; rw [BitVec.ofNat_toNat, BitVec.setWidth_eq]
theorem lin_hlf : Lin hlfW := by
  intro x y
  unfold hlfW
  rw [nib_and, nib_and, nib_and, BitVec.ushiftRight_xor_distrib, and_xor, lin_stpN 4, xor4]
theorem lin_byt : Lin bytW := lin_hlf.comp lin_hlf
/-- So many steps. -/
def itW (f : Wd → Wd) : Nat → Wd → Wd
  | 0, c => c
  | n + 1, c => itW f n (f c)
theorem crcM_xor (l : List Int) : ∀ c d, crcM (c ^^^ d) l = crcM c l ^^^ itW bytW l.length d := by
  induction l with
  | nil => intro c d; rfl
  | cons x l ih =>
    intro c d
    rw [crcM, crcM, List.length_cons, itW]
    rw [show c ^^^ d ^^^ BitVec.ofNat 32 x.toNat = (c ^^^ BitVec.ofNat 32 x.toNat) ^^^ d by rw [BitVec.xor_assoc, BitVec.xor_comm d, ← BitVec.xor_assoc], lin_byt, ih]
/-- A linear step's grid. -/
def grdW (f : Wd → Wd) : List Wd := (List.range 32).map fun i => f (1#32 <<< i)
theorem grdW_get (f : Wd → Wd) {i : Nat} (h : i < 32) : (grdW f).getD i 0#32 = f (1#32 <<< i) := by
  unfold grdW
  rw [List.getD_eq_getElem?_getD, List.getElem?_map, List.getElem?_range h]; rfl
theorem bit_split (c : Wd) (i : Nat) : c <<< i = ((c &&& 1#32) <<< i) ^^^ ((c >>> 1) <<< (i + 1)) := by
  apply BitVec.eq_of_getLsbD_eq
  intro j hj
  simp only [BitVec.getLsbD_xor, BitVec.getLsbD_shiftLeft, BitVec.getLsbD_and, BitVec.getLsbD_ushiftRight, BitVec.getLsbD_one]
  by_cases h1 : j < i
  · simp [h1, show j < i + 1 by omega]
  · by_cases h2 : j = i
    · subst h2; simp [hj]
    · have h3 : ¬ j < i + 1 := by omega
      have h4 : j - i ≠ 0 := by omega
      simp [h1, h3, hj, h4, show 1 + (j - (i + 1)) = j - i by omega]
theorem gof_lin {f : Wd → Wd} (hf : Lin f) : ∀ k c i out, i + k = 32 → gofW (grdW f) c i out k = out ^^^ f (c <<< i)
  | 0, c, i, out, h => by
    have : c <<< i = 0#32 := by
      obtain rfl : i = 32 := by omega
      apply BitVec.eq_of_getLsbD_eq
      intro j hj; simp [hj]
    rw [gofW, this, hf.zero, BitVec.xor_zero]
  | k + 1, c, i, out, h => by
    rw [gofW]
    split
    · rename_i h0; subst h0; rw [BitVec.zero_shiftLeft, hf.zero, BitVec.xor_zero]
    · rw [gof_lin hf k _ _ _ (by omega), grdW_get f (by omega), bit_split c i, hf]
      rcases and1_two c with h1 | h1
      · rw [h1, if_neg (by decide), BitVec.zero_shiftLeft, hf.zero, BitVec.zero_xor]
      · rw [h1, if_pos rfl, BitVec.xor_assoc]
theorem grid_lin {f : Wd → Wd} (hf : Lin f) (c : Wd) : gridW (grdW f) c = f c := by
  unfold gridW
  rw [gof_lin hf 32 c 0 _ rfl, BitVec.zero_xor]
  simp
theorem itW_add (f : Wd → Wd) : ∀ m n c, itW f (m + n) c = itW f n (itW f m c)
  | 0, n, c => by rw [Nat.zero_add]; rfl
  | m + 1, n, c => by rw [show m + 1 + n = (m + n) + 1 by omega, itW, itW_add f m n, itW]
theorem itW_two (f : Wd → Wd) : ∀ n c, itW (fun x => f (f x)) n c = itW f (2 * n) c
  | 0, c => rfl
  | n + 1, c => by rw [itW, itW_two f n, show 2 * (n + 1) = (2 * n + 1) + 1 by omega, itW, itW]
theorem join_lin : ∀ (n : Nat) (f : Wd → Wd) (a : Wd), Lin f → joinL a (grdW f) n = itW f n a := by
  intro n
  induction n using Nat.strongRecOn with
  | ind n ih =>
    intro f a hf
    rw [joinL]
    split
    · rename_i h; subst h; rfl
    · rename_i h
      have hg : (grdW f).map (gridW (grdW f)) = grdW fun x => f (f x) := by
        unfold grdW
        rw [List.map_map]
        apply List.map_congr_left
        intro i _
        exact grid_lin hf _
      rw [hg, ih (n / 2) (by omega) _ _ (hf.comp hf), itW_two, grid_lin hf]
      split
      · rename_i h1
        rw [show itW f (2 * (n / 2)) (f a) = itW f (2 * (n / 2) + 1) a from rfl, show 2 * (n / 2) + 1 = n by omega]
      · rw [show 2 * (n / 2) = n by omega]
theorem itW_lin {f : Wd → Wd} (hf : Lin f) : ∀ n, Lin (itW f n)
  | 0 => fun _ _ => rfl
  | n + 1 => fun x y => by rw [itW, hf, itW_lin hf n]; rfl
/-- The sum of two texts, joined. -/
theorem crc_join (l m : List Int) : crcJoin (crcSum l) (crcSum m) m.length = crcSum (l ++ m) := by
  unfold crcJoin
  rw [show grid0 = grdW bytW from rfl, join_lin _ _ _ lin_byt]
  unfold crcSum crcMore
  rw [crcM_append]
  generalize crcM (~~~0#32) l = A
  have h : A = ~~~0#32 ^^^ ~~~A := by
    apply BitVec.eq_of_getLsbD_eq
    intro i hi; simp only [BitVec.getLsbD_xor, BitVec.getLsbD_not, BitVec.getLsbD_zero, hi, decide_true, Bool.true_and]; cases A.getLsbD i <;> rfl
  conv => rhs; rw [h, crcM_xor]
  generalize itW bytW m.length (~~~A) = X
  generalize crcM (~~~0#32) m = Y
  apply BitVec.eq_of_getLsbD_eq
  intro i hi
  simp only [BitVec.getLsbD_xor, BitVec.getLsbD_not, hi, decide_true, Bool.true_and]
  cases X.getLsbD i <;> cases Y.getLsbD i <;> rfl
end Go.Proofs.YtafjjladnghjbaaGreatDoor
