/- Layer 2 (crc): the sums plainly, on words of 32 bits. No program. -/
import Derived.Test.YtafjjladnghjbaaGreatDoorSh0
namespace Go.Proofs.YtafjjladnghjbaaGreatDoor
open Go

/-- One step of a register. -/
def stpW (c : Wd) : Wd := (c >>> 1) ^^^ (0x82f63b78#32 &&& (0#32 - (c &&& 1#32)))
def stpN (c : Wd) : Nat → Wd
  | 0 => c
  | k + 1 => stpW (stpN c k)
def nibW (i : Nat) : Wd := stpN (BitVec.ofNat 32 i) 4
/-- Four steps by the table. -/
def hlfW (c : Wd) : Wd := (c >>> 4) ^^^ nibW (c &&& 15#32).toNat
def bytW (c : Wd) : Wd := hlfW (hlfW c)
def crcM (c : Wd) : List Int → Wd
  | [] => c
  | x :: l => crcM (bytW (c ^^^ BitVec.ofNat 32 x.toNat)) l
/-- crc.More. -/
def crcMore (s : Wd) (l : List Int) : Wd := ~~~ crcM (~~~ s) l
def crcSum (l : List Int) : Wd := crcMore 0#32 l
theorem crcM_append (c : Wd) : ∀ (l m : List Int), crcM c (l ++ m) = crcM (crcM c l) m
  | [], _ => rfl
  | x :: l, m => by rw [List.cons_append, crcM, crcM, crcM_append]
/-- A grid's image of a register: the places from i on. -/
def gofW (g : List Wd) (c : Wd) (i : Nat) (out : Wd) : Nat → Wd
  | 0 => out
  | k + 1 => if c = 0#32 then out else gofW g (c >>> 1) (i + 1) (if c &&& 1#32 = 1#32 then out ^^^ g.getD i 0#32 else out) k
def gridW (g : List Wd) (c : Wd) : Wd := gofW g c 0 0#32 32
def grid0 : List Wd := (List.range 32).map fun i => bytW (1#32 <<< i)
/-- crc.Join's loop. -/
def joinL (a : Wd) (g : List Wd) (n : Nat) : Wd :=
  if h : n = 0 then a else joinL (if n % 2 = 1 then gridW g a else a) (g.map (gridW g)) (n / 2)
termination_by n
decreasing_by omega
def crcJoin (a b : Wd) (n : Nat) : Wd := joinL a grid0 n ^^^ b
/-! ### Negation, complement as values -/
theorem iw_neg (x : Wd) : IntKind.u32.wrap (-iw x) = iw (0#32 - x) := by
  rw [IntKind.wrap_u32']; unfold iw; rw [BitVec.toNat_sub]; have := x.isLt; simp; omega
theorem iw_half (x : Wd) : iw x / (2 : Int) = iw (x >>> 1) := iw_shr x 1
theorem iw_16th (x : Wd) : iw x / (16 : Int) = iw (x >>> 4) := iw_shr x 4
theorem iw_and1 (x : Wd) : bits .and .u32 (iw x) 1 = iw (x &&& 1#32) := iw_and x 1#32
theorem iw_poly (x : Wd) : bits .and .u32 2197175160 (iw x) = iw (0x82f63b78#32 &&& x) := iw_and 0x82f63b78#32 x
theorem iw_low4 (x : Wd) : bits .and .u32 (iw x) 15 = (((x &&& 15#32).toNat : Nat) : Int) := iw_and x 15#32
theorem low4_lt (x : Wd) : (x &&& 15#32).toNat < 16 := by
  rw [BitVec.toNat_and]
  exact Nat.lt_of_le_of_lt Nat.and_le_right (by decide)
end Go.Proofs.YtafjjladnghjbaaGreatDoor
