/- Layer 3 (sha): SHA-256 plainly, on words of 32 bits. No program. PRINTED BY gen/sh1.py -/
import Derived.Laws.BitsAllLaws
namespace Go.Proofs.YtafjjladnghjbaaGreatDoor
open Go

abbrev Wd := BitVec 32
def rr (x : Wd) (k : Nat) : Wd := (x >>> k) ||| (x <<< (32 - k))
def bS1 (e : Wd) : Wd := rr e 6 ^^^ rr e 11 ^^^ rr e 25
def bS0 (a : Wd) : Wd := rr a 2 ^^^ rr a 13 ^^^ rr a 22
def sS0 (x : Wd) : Wd := rr x 7 ^^^ rr x 18 ^^^ (x >>> 3)
def sS1 (x : Wd) : Wd := rr x 17 ^^^ rr x 19 ^^^ (x >>> 10)
def chW (e f g : Wd) : Wd := (e &&& f) ^^^ (~~~e &&& g)
def majW (a b c : Wd) : Wd := (a &&& b) ^^^ (a &&& c) ^^^ (b &&& c)
/-- The schedule of a block's words. -/
def schW (m : Nat → Wd) (t : Nat) : Wd := if t < 16 then m t else sS1 (schW m (t - 2)) + schW m (t - 7) + sS0 (schW m (t - 15)) + schW m (t - 16)
termination_by t
decreasing_by all_goals omega
theorem schW_lo (m : Nat → Wd) {t : Nat} (h : t < 16) : schW m t = m t := by rw [schW, if_pos h]
theorem schW_hi (m : Nat → Wd) (t : Nat) : schW m (t + 16) = sS1 (schW m (t + 14)) + schW m (t + 9) + sS0 (schW m (t + 1)) + schW m t := by
  rw [schW, if_neg (by omega)]
  rfl
structure H8 where
  a : Wd
  b : Wd
  c : Wd
  d : Wd
  e : Wd
  f : Wd
  g : Wd
  h : Wd
def rndW (s : H8) (k w : Wd) : H8 := ⟨(s.h + bS1 s.e + chW s.e s.f s.g + k + w) + (bS0 s.a + majW s.a s.b s.c), s.a, s.b, s.c, s.d + (s.h + bS1 s.e + chW s.e s.f s.g + k + w), s.e, s.f, s.g⟩
def rndsW (K m : Nat → Wd) (s : H8) : Nat → H8
  | 0 => s
  | t + 1 => rndW (rndsW K m s t) (K t) (schW m t)
def addH (s r : H8) : H8 := ⟨s.a + r.a, s.b + r.b, s.c + r.c, s.d + r.d, s.e + r.e, s.f + r.f, s.g + r.g, s.h + r.h⟩
/-- One block. -/
def blkW (K : Nat → Wd) (s : H8) (m : Nat → Wd) : H8 := addH s (rndsW K m s 64)
/-- The program's ways to say ch and maj. -/
theorem ch_alt (e f g : Wd) : g ^^^ (e &&& (f ^^^ g)) = chW e f g := by
  unfold chW
  ext i hi
  simp only [BitVec.getElem_xor, BitVec.getElem_and, BitVec.getElem_not]
  cases e[i] <;> cases f[i] <;> cases g[i] <;> rfl
theorem maj_alt (a b c : Wd) : (a &&& b) ||| (c &&& (a ||| b)) = majW a b c := by
  unfold majW
  ext i hi
  simp only [BitVec.getElem_xor, BitVec.getElem_and, BitVec.getElem_or]
  cases a[i] <;> cases b[i] <;> cases c[i] <;> rfl
/-! ### Words as values -/
def iw (x : Wd) : Int := (x.toNat : Int)
theorem iw_lo (x : Wd) : 0 ≤ iw x := by unfold iw; omega
theorem iw_hi (x : Wd) : iw x < 4294967296 := by unfold iw; have := x.isLt; omega
theorem iw_toNat (x : Wd) : (iw x).toNat = x.toNat := by unfold iw; simp
theorem iw_inj {x y : Wd} (h : iw x = iw y) : x = y := by unfold iw at h; exact BitVec.eq_of_toNat_eq (by omega)
theorem iw_ofNat (n : Nat) (h : n < 4294967296) : iw (BitVec.ofNat 32 n) = (n : Int) := by unfold iw; rw [BitVec.toNat_ofNat, Nat.mod_eq_of_lt (by omega)]
theorem iw_add (x y : Wd) : IntKind.u32.wrap (iw x + iw y) = iw (x + y) := by
  rw [IntKind.wrap_u32']; unfold iw; rw [BitVec.toNat_add]; have := x.isLt; have := y.isLt; omega
theorem iw_add4 (a b c d : Wd) : (iw a + iw b + iw c + iw d) % 4294967296 = iw (a + b + c + d) := by
  unfold iw; simp only [BitVec.toNat_add]; omega
theorem iw_xor (x y : Wd) : bits .xor .u32 (iw x) (iw y) = iw (x ^^^ y) := by
  unfold iw; rw [u32_xor_nat _ _ x.isLt y.isLt, BitVec.toNat_xor]
theorem iw_or (x y : Wd) : bits .or .u32 (iw x) (iw y) = iw (x ||| y) := by
  unfold iw; rw [u32_or_nat _ _ x.isLt y.isLt, BitVec.toNat_or]
theorem iw_and (x y : Wd) : bits .and .u32 (iw x) (iw y) = iw (x &&& y) := by
  unfold iw; rw [u32_and_nat _ _ x.isLt y.isLt, BitVec.toNat_and]
theorem iw_shr (x : Wd) (k : Nat) : iw x / (2 ^ k : Nat) = iw (x >>> k) := by
  unfold iw; rw [BitVec.toNat_ushiftRight, Nat.shiftRight_eq_div_pow]; omega
theorem iw_shr8 (x : Wd) : iw x / (8 : Int) = iw (x >>> 3) := iw_shr x 3
theorem iw_shr1024 (x : Wd) : iw x / (1024 : Int) = iw (x >>> 10) := iw_shr x 10
theorem iw_shl (x : Wd) (k : Nat) : iw x * (2 ^ k : Nat) % 4294967296 = iw (x <<< k) := by
  unfold iw; rw [BitVec.toNat_shiftLeft, Nat.shiftLeft_eq]; omega
end Go.Proofs.YtafjjladnghjbaaGreatDoor
