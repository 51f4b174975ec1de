/- Parts of the proof, in plain words at the head of each: Rdn, Sh2, SkM, Rdm, Rde, Rdt. -/
import Derived.Test.YtgefphfnicjbiaaDoorRdr
import Derived.Test.YtgefphfnicjbiaaDoorSh1
import Derived.Test.YtgefphfnicjbiaaDoorBun3
set_option linter.unusedSimpArgs false
set_option linter.unusedVariables false
/- bin.Reader: number. -/
namespace Go.Proofs.YtgefphfnicjbiaaDoor
open Go Go.RowKit

theorem shl_or (acc : Nat) (c : Int) (j : Nat) (hj : j < 8) (ha : acc < 256 ^ j) (h0 : 0 ≤ c) (h1 : c ≤ 255) : bits BinOp.or IntKind.u64 (IntKind.u64.wrap ((acc : Int) * 256)) c = ((acc * 256 + c.toNat : Nat) : Int) := by
  have h7 : 256 ^ j ≤ 256 ^ 7 := Nat.pow_le_pow_right (by decide) (by omega)
  have hb : acc < 72057594037927936 := by simpa using Nat.lt_of_lt_of_le ha h7
  obtain ⟨n, rfl⟩ := Int.eq_ofNat_of_zero_le h0
  have hn : n < 2 ^ 8 := by omega
  rw [IntKind.wrap_u64, show ((acc : Int) * 256) % 18446744073709551616 = ((2 ^ 8 * acc : Nat) : Int) by omega, u64_or_nat _ _ (by omega) (by omega), ← Nat.two_pow_add_eq_or_of_lt hn]
  simp; omega
theorem rdDig_step (n j acc K : Nat) (c : Int) (r r0 : List Int) (hn : K - j = n + 1) (h : rdDig (n + 1) (decide (j = 0)) acc (c :: r) = rdDig K true 0 r0) (hc : ¬ (j = 0 ∧ c = 0)) :
    rdDig (K - (j + 1)) (decide (j + 1 = 0)) (acc * 256 + c.toNat) r = rdDig K true 0 r0 := by
  rw [← h]
  simp only [rdDig]
  rw [if_neg (by simpa using hc), show K - (j + 1) = n by omega]
  simp
theorem acc_step (acc j : Nat) (c : Int) (ha : acc < 256 ^ j) (h0 : 0 ≤ c) (h1 : c ≤ 255) : acc * 256 + c.toNat < 256 ^ (j + 1) := by
  rw [Nat.pow_succ]; omega

end Go.Proofs.YtgefphfnicjbiaaDoor

/- Layer 3 (sha): word; the state in memory. -/
namespace Go.Proofs.YtgefphfnicjbiaaDoor
open Go Go.RowKit

def bW (b : Int) : Wd := BitVec.ofNat 32 b.toNat
theorem iw_bW {b : Int} (h : 0 ≤ b ∧ b ≤ 255) : iw (bW b) = b := by unfold bW; rw [iw_ofNat _ (by omega)]; omega
/-- The word of four bytes, the highest first. -/
def wdB (b0 b1 b2 b3 : Int) : Wd := ((bW b0 <<< 24) ||| (bW b1 <<< 16)) ||| (bW b2 <<< 8) ||| bW b3
/-- .. of a text, from a place on. -/
def wdAt (bs : List Int) (i : Nat) : Wd := wdB (bs.getD i 0) (bs.getD (i + 1) 0) (bs.getD (i + 2) 0) (bs.getD (i + 3) 0)
abbrev wC (x : Wd) : Value := .int .u32 (iw x)
theorem bW_shl {b : Int} (h : 0 ≤ b ∧ b ≤ 255) (k : Nat) (hk : k ≤ 24) : b * (2 ^ k : Nat) = iw (bW b <<< k) := by
  rw [← iw_shl, iw_bW h]
  have h1 : (2 ^ k : Nat) ≤ 16777216 := Nat.le_trans (Nat.pow_le_pow_right (by omega) hk) (by decide)
  generalize (2 ^ k : Nat) = K at *
  have hK : (0 : Int) ≤ (K : Int) := Int.natCast_nonneg K
  have h2 : b * (K : Int) ≤ 255 * (K : Int) := Int.mul_le_mul_of_nonneg_right h.2 hK
  exact (Int.emod_eq_of_lt (Int.mul_nonneg h.1 hK) (by omega)).symm
theorem wd_val {b0 b1 b2 b3 : Int} (h0 : 0 ≤ b0 ∧ b0 ≤ 255) (h1 : 0 ≤ b1 ∧ b1 ≤ 255) (h2 : 0 ≤ b2 ∧ b2 ≤ 255) (h3 : 0 ≤ b3 ∧ b3 ≤ 255) :
    bits .or .u32 (bits .or .u32 (bits .or .u32 (b0 * 16777216) (b1 * 65536)) (b2 * 256)) b3 = iw (wdB b0 b1 b2 b3) := by
  have e0 := bW_shl h0 24 (by omega); have e1 := bW_shl h1 16 (by omega); have e2 := bW_shl h2 8 (by omega)
  simp only [show ((2 ^ 24 : Nat) : Int) = 16777216 by decide, show ((2 ^ 16 : Nat) : Int) = 65536 by decide, show ((2 ^ 8 : Nat) : Int) = 256 by decide] at e0 e1 e2
  have e3 := iw_bW h3
  rw [e0, e1, e2, ← e3, iw_or, iw_or, iw_or, e3]
  rfl
set_option maxRecDepth 100000 in
set_option maxHeartbeats 1000000 in
theorem word_c (g o n c : Nat) (b0 b1 b2 b3 : Int) (w : World) (hn : 4 ≤ n) (hc : n ≤ c) (hc2 : c ≤ 9223372036854775807) (h0 : 0 ≤ b0 ∧ b0 ≤ 255) (h1 : 0 ≤ b1 ∧ b1 ≤ 255) (h2 : 0 ≤ b2 ∧ b2 ≤ 255) (h3 : 0 ≤ b3 ∧ b3 ≤ 255)
    (k0 : w.cell? ⟨g, o, none⟩ = some (.int .u8 b0)) (k1 : w.cell? ⟨g, o + 1, none⟩ = some (.int .u8 b1)) (k2 : w.cell? ⟨g, o + 2, none⟩ = some (.int .u8 b2)) (k3 : w.cell? ⟨g, o + 3, none⟩ = some (.int .u8 b3)) :
    Calls Tryd.prog 63 #[.slice (some ⟨g, o, none⟩) n c] w fun e w' => e = .returned (wC (wdB b0 b1 b2 b3)) ∧ ∃ m, w' = w.drewN m := by
  obtain ⟨x0, e0⟩ : ∃ x : Wd, iw x = b0 := ⟨_, iw_bW h0⟩
  obtain ⟨x1, e1⟩ : ∃ x : Wd, iw x = b1 := ⟨_, iw_bW h1⟩
  obtain ⟨x2, e2⟩ : ∃ x : Wd, iw x = b2 := ⟨_, iw_bW h2⟩
  obtain ⟨x3, e3⟩ : ∃ x : Wd, iw x = b3 := ⟨_, iw_bW h3⟩
  have n0 : (0 : Int) < (n : Int) := by omega
  have n1 : (1 : Int) < (n : Int) := by omega
  have n2 : (2 : Int) < (n : Int) := by omega
  have n3 : (3 : Int) < (n : Int) := by omega
  go_enter Tryd.func63, Tryd.ntmps63
  go_wp2_with fail
  go_big_quiet (fail)
  go_wp2_with fail
  go_ret
  exact ⟨by rw [wd_val h0 h1 h2 h3]; rfl, nq, rfl⟩
end Go.Proofs.YtgefphfnicjbiaaDoor

/- seq's must and ought. PRINTED BY gen/rdt.py -/
namespace Go.Proofs.YtgefphfnicjbiaaDoor
open Go Go.RowKit
end Go.Proofs.YtgefphfnicjbiaaDoor

/- bin.Reader: Num, Byte, Raw, End; New. -/
namespace Go.Proofs.YtgefphfnicjbiaaDoor
open Go Go.RowKit

/-- What a reading call brings: X, or the reader's error if it is stuck. -/
def stuck? {α : Type} (e : Int) (X : Except Int α) : Except Int α := if e = 0 then X else .error e
theorem grown_new {w w' : World} {r : Option Nat} (h : w.grownBy w' r) {p : Nat} (hp : w.heap.size ≤ p) (j : Nat) (v : Value) : w.grownBy (w'.setCell ⟨p, j, none⟩ v) r :=
  grown_trans h (grown_set w' p j v) (.inr fun i hi => by cases hi; exact hp)
end Go.Proofs.YtgefphfnicjbiaaDoor

/- bin.Reader: End; New. -/
namespace Go.Proofs.YtgefphfnicjbiaaDoor
open Go Go.RowKit

def endE (e : Int) (bs : List Int) : Int := if e = 0 ∧ bs ≠ [] then 5 else e

end Go.Proofs.YtgefphfnicjbiaaDoor

/- bin.Reader: Raw. -/
namespace Go.Proofs.YtgefphfnicjbiaaDoor
open Go Go.RowKit
/-- A slice of bytes in memory that w had not. -/
def NewRd (w : World) (xs : List Int) (v : Value) (w' : World) : Prop := Rd w' v (u8s xs) ∧ (∀ a n c, v = .slice (some a) n c → w.heap.size ≤ a.block) ∧ UnT w' v
theorem NewRd.grown {w w1 w2 : World} {xs : List Int} {v : Value} {b : Nat} (h : NewRd w xs v w1) (hb : b < w.heap.size) (hg : w1.grownBy w2 (some b)) : NewRd w xs v w2 :=
  ⟨h.1.grown hg fun a n c hv _ he => by have := h.2.1 a n c hv; cases he; omega, h.2.1, h.2.2.grown hg fun a n c hv _ he => by have := h.2.1 a n c hv; cases he; omega⟩
theorem NewRd.set {w w1 : World} {xs : List Int} {v : Value} {p : Nat} {ds : Array Value} {T : TypeId} (h : NewRd w xs v w1) (j : Nat) (u : Value) (hb : Blk w1 p ds T) (hd : ∀ x ∈ ds, ∀ y, x ≠ .int .u8 y) : NewRd w xs v (w1.setCell ⟨p, j, none⟩ u) :=
  ⟨h.1.grown (grown_set w1 p j u) (Rd.off h.1 hb fun x hx hm => by obtain ⟨y, _, rfl⟩ := List.mem_map.1 hm; exact hd _ hx y rfl), h.2.1, h.2.2.set p j u⟩
theorem rdNum_ok {bs r : List Int} {x : Int} (h : rdNum bs = .ok (x, r)) : 0 ≤ x ∧ r.length ≤ bs.length := by
  have hd : ∀ (k : Nat) (f : Bool) (n : Nat) (bs r : List Int) (m : Nat), rdDig k f n bs = .ok (m, r) → r.length ≤ bs.length := by
    intro k
    induction k with
    | zero => intro f n bs r m h; simp [rdDig] at h; rw [h.2]; exact Nat.le_refl _
    | succ k ih =>
      intro f n bs r m h
      cases bs with
      | nil => simp [rdDig] at h
      | cons c s =>
        simp only [rdDig] at h
        split at h
        · cases h
        · have := ih _ _ _ _ _ h; simp; omega
  cases bs with
  | nil => simp [rdNum] at h
  | cons k s =>
    simp only [rdNum] at h
    split at h
    · cases h
    · split at h
      · cases h
      · rename_i n r' heq
        cases h
        have := hd _ _ _ _ _ _ heq
        simp; omega

theorem Rd.take {w : World} {a : Option Addr} {n c : Nat} {r : List Int} (h : Rd w (.slice a n c) (u8s r)) {N : Nat} (hN : N ≤ r.length) : Rd w (.slice a N c) (u8s (r.take N)) := by
  obtain ⟨a', c', hv, h1, h2, h3⟩ := h
  cases hv
  rw [u8s_len] at h1
  refine ⟨a, c, by rw [u8s_len, List.length_take, Nat.min_eq_left hN], by rw [u8s_len, List.length_take]; omega, h2, ?_⟩
  rcases h3 with h3 | ⟨b, o, rfl, hc⟩
  · left
    have : r = [] := by simpa [u8s] using h3
    subst this; simp [u8s]
  · refine .inr ⟨b, o, rfl, fun j u hj => hc j u ?_⟩
    simp only [u8s, List.map_take] at hj ⊢
    rw [List.getElem?_take] at hj
    split at hj
    · exact hj
    · cases hj

theorem Rd.drop {w : World} {a : Option Addr} {c : Nat} {r : List Int} {n : Nat} (h : Rd w (.slice a n c) (u8s r)) {N : Nat} (hN : N ≤ r.length) : Rd w (.slice (if c = N then a else a.map (·.add N)) (r.length - N) (c - N)) (u8s (r.drop N)) := by
  obtain ⟨a', c', hv, h1, h2, h3⟩ := h
  cases hv
  rw [u8s_len] at h1
  refine ⟨_, _, by rw [u8s_len, List.length_drop], by rw [u8s_len, List.length_drop]; omega, by omega, ?_⟩
  by_cases hn : r.length ≤ N
  · left; rw [List.drop_eq_nil_of_le hn]; rfl
  · rcases h3 with h3 | ⟨b, o, rfl, hc⟩
    · have : r = [] := by simpa [u8s] using h3
      subst this; simp at hn
    · right
      rw [if_neg (by omega)]
      refine ⟨b, o + N, by simp [Addr.add], fun j u hj => ?_⟩
      have := hc (N + j) u (by simpa [u8s] using hj)
      rw [← Nat.add_assoc] at this
      exact this
theorem Off.drop {a : Option Addr} {c : Nat} {r : List Int} {n : Nat} {b : Option Nat} (h : Off (.slice a n c) (u8s r) b) {N : Nat} (hN : N ≤ r.length) : Off (.slice (if c = N then a else a.map (·.add N)) (r.length - N) (c - N)) (u8s (r.drop N)) b := by
  intro a' n' c' hv hne
  have hr : u8s r ≠ [] := by intro e; apply hne; simp [u8s] at e ⊢; rw [e]; simp
  cases a with
  | none => simp at hv
  | some a0 =>
    have h0 := h a0 n c rfl hr
    simp only [Value.slice.injEq] at hv
    have : a'.block = a0.block := by
      have := hv.1
      split at this
      · cases this; rfl
      · simp at this; rw [← this]; simp only [Addr.add]; split <;> rfl
    rw [this]; exact h0
theorem Bef.drop {a : Option Addr} {n c m q N : Nat} {b : Nat} (h : Bef (.slice a n c) b) : Bef (.slice (if c = N then a else a.map (·.add N)) m q) b := by
  intro a' n' c' hv
  cases a with
  | none => simp at hv
  | some a0 =>
    have h0 := h a0 n c rfl
    simp only [Value.slice.injEq] at hv
    have : a'.block = a0.block := by
      have := hv.1
      split at this
      · cases this; rfl
      · simp at this; rw [← this]; simp only [Addr.add]; split <;> rfl
    omega
theorem newRd_own {w w1 : World} {base : Nat} {v : Value} {xs : List Int} {n : Nat} (h : w1.ownsRow base 5 1 v n (u8s xs)) (hb : w.heap.size ≤ base) : NewRd w xs v w1 := by
  refine ⟨Rd.of_own h, fun a n c hv => ?_, UnT.own h⟩
  rcases h.2 with ⟨hn, _⟩ | ⟨g, cap, cur, hv', hg, _⟩
  · rw [hn] at hv; cases hv
  · rw [hv'] at hv; cases hv; simp; omega

end Go.Proofs.YtgefphfnicjbiaaDoor
