/- cell: read. -/
import Derived.Test.YtafjjladnghjbaaGreatDoorCel2
import Derived.Laws.ResultCell
namespace Go.Proofs.YtafjjladnghjbaaGreatDoor
open Go Go.RowKit Go.Maps

/-- What has been read of word j behind i bytes. -/
def seg (b : List Int) (j i : Nat) : List Int := (b.drop (8 * j)).take (min 8 (i - 8 * j))
theorem seg_zero (b : List Int) (j : Nat) : seg b j 0 = [] := by simp [seg]
theorem seg_other (b : List Int) {q r j : Nat} (hr : r < 8) (hj : j ≠ q) : seg b j (8 * q + r + 1) = seg b j (8 * q + r) := by
  unfold seg; congr 1; omega
theorem seg_same (b : List Int) {q r : Nat} {x : Int} (hr : r < 8) (hx : b[8 * q + r]? = some x) : seg b q (8 * q + r + 1) = seg b q (8 * q + r) ++ [x] := by
  unfold seg
  rw [show min 8 (8 * q + r + 1 - 8 * q) = r + 1 by omega, show min 8 (8 * q + r - 8 * q) = r by omega, List.take_add_one, List.getElem?_drop, hx]; rfl
theorem seg_len (b : List Int) {q r : Nat} (hr : r ≤ 8) (hl : 8 * q + r ≤ b.length) : (seg b q (8 * q + r)).length = r := by
  unfold seg
  rw [List.length_take, List.length_drop]; omega
theorem val_aux : ∀ (xs : List Int) (acc k : Nat), B8 xs → acc < 256 ^ k → xs.foldl (fun n x => n * 256 + x.toNat) acc < 256 ^ (k + xs.length)
  | [], acc, k, _, h => by simpa using h
  | x :: r, acc, k, hb, h => by
    have h2 := hb x (by simp)
    have := val_aux r (acc * 256 + x.toNat) (k + 1) (fun z hz => hb z (by simp [hz])) (by rw [Nat.pow_succ]; omega)
    rw [List.foldl_cons, List.length_cons, show k + (r.length + 1) = k + 1 + r.length by omega]; exact this
theorem val_lt8 {xs : List Int} (h : B8 xs) : val xs < 256 ^ xs.length := by
  have := val_aux xs 0 0 h (by decide)
  rwa [Nat.zero_add] at this
theorem seg_b8 {b : List Int} (h : B8 b) (j i : Nat) : B8 (seg b j i) := fun x hx => h x (List.mem_of_mem_drop (List.mem_of_mem_take hx))
theorem shl_or8 (acc : Nat) (c : Int) (j : Nat) (hj : j < 8) (ha : acc < 256 ^ j) (h0 : 0 ≤ c) (h1 : c ≤ 255) : bits BinOp.or IntKind.u64 (IntKind.u64.wrap ((acc : Int) * 256)) c = ((acc * 256 + c.toNat : Nat) : Int) := by
  have h7 : 256 ^ j ≤ 256 ^ 7 := Nat.pow_le_pow_right (by decide) (by omega)
  have hb : acc < 72057594037927936 := by simpa using Nat.lt_of_lt_of_le ha h7
  obtain ⟨n, rfl⟩ := Int.eq_ofNat_of_zero_le h0
  have hn : n < 2 ^ 8 := by omega
  rw [IntKind.wrap_u64, show ((acc : Int) * 256) % 18446744073709551616 = ((2 ^ 8 * acc : Nat) : Int) by omega, bits_or_u64_nat _ _ (by omega) (by omega), ← Nat.two_pow_add_eq_or_of_lt hn]
  simp; omega
theorem words_seg (b : List Int) : words3 b = (val (seg b 0 24), val (seg b 1 24), val (seg b 2 24)) := rfl
theorem layC_b8 (c t v : Nat) : B8 (layC c t v) := by
  have h8 : B8 (lay24 c t v) := by
    intro x hx
    simp only [lay24, List.mem_append] at hx
    rcases hx with (hx | hx) | hx <;> exact be_bound _ _ x hx
  intro x hx
  simp only [layC, List.mem_append] at hx
  rcases hx with hx | hx
  · exact h8 x hx
  · obtain ⟨y, hy, rfl⟩ := List.mem_map.1 hx
    have := h8 y hy; omega
end Go.Proofs.YtafjjladnghjbaaGreatDoor
