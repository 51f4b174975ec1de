/- Layer 3 (sha): mix. -/
import Derived.Test.YtgefphfnicjbiaaDoorBun4
import Derived.Laws.Bits128
set_option linter.unusedSimpArgs false
set_option linter.unusedVariables false
namespace Go.Proofs.YtgefphfnicjbiaaDoor
open Go Go.RowKit

/-- The constants. -/
def ksL : List Nat := [0x428a2f98, 0x71374491, 0xb5c0fbcf, 0xe9b5dba5, 0x3956c25b, 0x59f111f1, 0x923f82a4, 0xab1c5ed5, 0xd807aa98, 0x12835b01, 0x243185be, 0x550c7dc3, 0x72be5d74, 0x80deb1fe, 0x9bdc06a7, 0xc19bf174, 0xe49b69c1, 0xefbe4786, 0x0fc19dc6, 0x240ca1cc, 0x2de92c6f, 0x4a7484aa, 0x5cb0a9dc, 0x76f988da, 0x983e5152, 0xa831c66d, 0xb00327c8, 0xbf597fc7, 0xc6e00bf3, 0xd5a79147, 0x06ca6351, 0x14292967, 0x27b70a85, 0x2e1b2138, 0x4d2c6dfc, 0x53380d13, 0x650a7354, 0x766a0abb, 0x81c2c92e, 0x92722c85, 0xa2bfe8a1, 0xa81a664b, 0xc24b8b70, 0xc76c51a3, 0xd192e819, 0xd6990624, 0xf40e3585, 0x106aa070, 0x19a4c116, 0x1e376c08, 0x2748774c, 0x34b0bcb5, 0x391c0cb3, 0x4ed8aa4a, 0x5b9cca4f, 0x682e6ff3, 0x748f82ee, 0x78a5636f, 0x84c87814, 0x8cc70208, 0x90befffa, 0xa4506ceb, 0xbef9a3f7, 0xc67178f2]
def bgL : List Nat := [0x6a09e667, 0xbb67ae85, 0x3c6ef372, 0xa54ff53a, 0x510e527f, 0x9b05688c, 0x1f83d9ab, 0x5be0cd19]
def kW (t : Nat) : Wd := BitVec.ofNat 32 (ksL.getD t 0)
def gW (t : Nat) : Wd := BitVec.ofNat 32 (bgL.getD t 0)
/-- The tables lie in the world. -/
structure Tabs (w : World) : Prop where
  bg : ∀ i, i < 8 → w.cell? ⟨0, i, none⟩ = some (wC (gW i))
  ks : ∀ i, i < 64 → w.cell? ⟨1, i, none⟩ = some (wC (kW i))
  cs : ∀ i, i < 64 → w.cell? ⟨2, i, none⟩ = some (wC (kW i))
theorem Tabs.ext {w w' : World} (h : Tabs w) (hE : Ext w w') : Tabs w' := ⟨fun i hi => hE.cell (h.bg i hi), fun i hi => hE.cell (h.ks i hi), fun i hi => hE.cell (h.cs i hi)⟩
/-- A state's cells: the words less those at first, what is not yet mixed in, how much was written. -/
def stC (o : List Wd) (r : List Int) (n : Int) : Array Value := (o.map wC ++ u8s r ++ [Value.int .u64 n]).toArray
section
variable {w : World} {b j : Nat} {ws : List Wd} {e : TypeId} {x : Wd}
theorem wblk_cell (h : Blk w b (ws.map wC).toArray e) (hj : ws[j]? = some x) : w.cell? ⟨b, j, none⟩ = some (.int .u32 (iw x)) := h.cell j (by simp [hj])
theorem wblk_set (h : Blk w b (ws.map wC).toArray e) (j : Nat) (x : Wd) : Blk (w.setCell ⟨b, j, none⟩ (.int .u32 (iw x))) b ((ws.set j x).map wC).toArray e := by
  have := h.set j (.int .u32 (iw x))
  rwa [List.setIfInBounds_toArray, show (ws.map wC).set j (Value.int .u32 (iw x)) = (ws.set j x).map wC by rw [List.map_set]] at this
end
theorem stc_cell {w : World} {b j : Nat} {os : List Wd} {r : List Int} {n : Int} {e : TypeId} {x : Wd} (h : Blk w b (stC os r n) e) (hj : os[j]? = some x) : w.cell? ⟨b, j, none⟩ = some (.int .u32 (iw x)) := by
  have hl := (List.getElem?_eq_some_iff.1 hj).1
  refine h.cell j ?_
  unfold stC
  rw [List.getElem?_toArray, List.append_assoc, List.getElem?_append_left (by rw [List.length_map]; exact hl), List.getElem?_map, hj]; rfl
theorem stc_set {w : World} {b j : Nat} {os : List Wd} {r : List Int} {n : Int} {e : TypeId} {x y : Wd} (h : Blk w b (stC os r n) e) (hj : os[j]? = some y) : Blk (w.setCell ⟨b, j, none⟩ (.int .u32 (iw x))) b (stC (os.set j x) r n) e := by
  have hl := (List.getElem?_eq_some_iff.1 hj).1
  have := h.set j (.int .u32 (iw x))
  unfold stC at this ⊢
  rw [List.setIfInBounds_toArray, List.append_assoc, List.set_append_left _ _ (by rw [List.length_map]; exact hl), ← List.append_assoc] at this
  rwa [show (os.map wC).set j (Value.int .u32 (iw x)) = (os.set j x).map wC by rw [List.map_set]] at this
/-- A state's words behind a block. -/
def mixO (o : List Wd) (bs : List Int) : List Wd :=
  let S := rndsW kW (fun t => wdAt bs (4 * t)) ⟨gW 0 + o.getD 0 0, gW 1 + o.getD 1 0, gW 2 + o.getD 2 0, gW 3 + o.getD 3 0, gW 4 + o.getD 4 0, gW 5 + o.getD 5 0, gW 6 + o.getD 6 0, gW 7 + o.getD 7 0⟩ 64
  List.zipWith (· + ·) o [S.a, S.b, S.c, S.d, S.e, S.f, S.g, S.h]
/-- The window of the schedule that 16 words hold at round t. -/
def Win (ws : List Wd) (m : Nat → Wd) (t : Nat) : Prop := ws.length = 16 ∧ ∀ j, j < 16 → ws[(t + j) % 16]? = some (schW m (t + j))
theorem Win.start {ws : List Wd} {m : Nat → Wd} (hl : ws.length = 16) (h : ∀ j, j < 16 → ws[j]? = some (m j)) : Win ws m 0 := ⟨hl, fun j hj => by rw [Nat.zero_add, Nat.mod_eq_of_lt hj, h j hj, schW_lo m hj]⟩
theorem Win.step {ws : List Wd} {m : Nat → Wd} {t : Nat} (h : Win ws m t) : Win (ws.set (t % 16) (schW m (t + 16))) m (t + 1) := by
  refine ⟨by rw [List.length_set]; exact h.1, fun j hj => ?_⟩
  by_cases h15 : j = 15
  · subst h15
    rw [show t + 1 + 15 = t + 16 by omega, show (t + 16) % 16 = t % 16 by omega, List.getElem?_set_self (by rw [h.1]; omega)]
  · rw [List.getElem?_set_ne (by omega), show t + 1 + j = t + (j + 1) by omega]
    exact h.2 (j + 1) (by omega)
theorem i64_and15 (n : Nat) (hn : n < 1000) : bits .and .i64 (n : Int) 15 = ((n % 16 : Nat) : Int) := by
  have h127 : (BitVec.ofInt 64 15).toNat = 2 ^ 4 - 1 := by decide
  have key : (BitVec.ofInt 64 (n : Int) &&& BitVec.ofInt 64 15).toNat = ((n : Int) % ((2 ^ 64 : Nat) : Int)).toNat % 2 ^ 4 := by
    rw [BitVec.toNat_and, BitVec.toNat_ofInt, h127, Nat.and_two_pow_sub_one_eq_mod]
  show IntKind.i64.wrap ((BitVec.ofInt 64 (n : Int) &&& BitVec.ofInt 64 15).toNat : Nat) = ((n % 16 : Nat) : Int)
  rw [key, IntKind.wrap_i64]
  omega
set_option maxRecDepth 100000 in
set_option maxHeartbeats 8000000 in
theorem mix_c (sb g oo n c : Nat) (o0 o1 o2 o3 o4 o5 o6 o7 : Wd) (r : List Int) (nn : Int) (bs : List Int) (w : World) (hS : Blk w sb (stC [o0, o1, o2, o3, o4, o5, o6, o7] r nn) 82) (hn : 64 ≤ n) (hc : n ≤ c) (hc2 : c ≤ 9223372036854775807)
    (hb : ∀ j, j < 64 → w.cell? ⟨g, oo + j, none⟩ = some (.int .u8 (bs.getD j 0))) (hb8 : ∀ j, j < 64 → 0 ≤ bs.getD j 0 ∧ bs.getD j 0 ≤ 255) (hT : Tabs w) :
    Calls Tryd.prog 54 #[.pointer (some ⟨sb, 0, none⟩), .slice (some ⟨g, oo, none⟩) n c] w fun e w' => e = .returned (.tuple #[]) ∧ Chg [sb] w w' ∧ Blk w' sb (stC (mixO [o0, o1, o2, o3, o4, o5, o6, o7] bs) r nn) 82 := by
  have HS := Lib.hid hS; have HB := Lib.hid hb; have HB8 := Lib.hid hb8; have HT := Lib.hid hT
  clear hS hb hb8 hT
  go_enter Tryd.func54, Tryd.ntmps54
  go_upto_region 1 with fail
  obtain ⟨T4, hT4⟩ : ∃ T, T = w.heap.size := ⟨_, rfl⟩
  have hB4 := Blk.new w ((List.replicate 16 (0 : Wd)).map wC).toArray 103
  have hE0 := Ext.alloc w (.cells ((List.replicate 16 (0 : Wd)).map wC).toArray 103)
  rw [show #[Value.int IntKind.u32 0, Value.int IntKind.u32 0, Value.int IntKind.u32 0, Value.int IntKind.u32 0, Value.int IntKind.u32 0, Value.int IntKind.u32 0, Value.int IntKind.u32 0, Value.int IntKind.u32 0, Value.int IntKind.u32 0, Value.int IntKind.u32 0, Value.int IntKind.u32 0, Value.int IntKind.u32 0, Value.int IntKind.u32 0, Value.int IntKind.u32 0, Value.int IntKind.u32 0, Value.int IntKind.u32 0] = ((List.replicate 16 (0 : Wd)).map wC).toArray from rfl]
  rw [← hT4] at hB4 ⊢
  generalize w.alloc (.cells ((List.replicate 16 (0 : Wd)).map wC).toArray 103) = W0 at *
  have HE0 := Lib.hid hE0; have HB4 := Lib.hid hB4; have HT4 := Lib.hid hT4
  clear hE0 hB4 hT4
  go_wp2_with fail
  go_loopg [22] 16 (fun g0 v22 wr => ∃ (i : Nat) (ws : List Wd), v22 = .int .i64 (i : Int) ∧ i + g0 = 16 ∧ Ext w wr ∧ Blk wr T4 (ws.map wC).toArray 103 ∧ ws.length = 16 ∧ ∀ j, j < i → ws[j]? = some (wdAt bs (4 * j)))
  case atStart => exact ⟨0, _, rfl, by omega, HE0.out, HB4.out, rfl, fun j hj => by omega⟩
  case round =>
    obtain ⟨i, ws, rfl, hi16, hE, hB, hwl, hws⟩ := hrel
    have HE := Lib.hid hE; have HB5 := Lib.hid hB; have HWL := Lib.hid hwl; have HWS := Lib.hid hws
    clear hE hB hwl hws
    by_cases hi : i < 16
    · have hi' : (i : Int) < 16 := by omega
      obtain ⟨q, hq⟩ : ∃ q, q = 4 * i := ⟨_, rfl⟩
      have hq1 : (4 : Int) * (i : Int) = (q : Int) := by omega
      have hq2 : (q : Int) ≤ (n : Int) := by omega
      have hq3 : (q : Int) ≤ (c : Int) := by omega
      have hq4 : ¬ (c = q) := by omega
      have hq5 : (n : Int) ≤ (c : Int) := by omega
      have HQ := Lib.hid hq
      have HWD := Lib.hid (fun W (hE : Ext wr W) => word_c g (oo + q) (n - q) (c - q) (bs.getD q 0) (bs.getD (q + 1) 0) (bs.getD (q + 2) 0) (bs.getD (q + 3) 0) W (by omega) (by omega) (by omega) (HB8.out _ (by omega)) (HB8.out _ (by omega)) (HB8.out _ (by omega)) (HB8.out _ (by omega))
        (hE.cell (HE.out.cell (HB.out q (by omega)))) (hE.cell (HE.out.cell (HB.out (q + 1) (by omega)))) (hE.cell (HE.out.cell (HB.out (q + 2) (by omega)))) (hE.cell (HE.out.cell (HB.out (q + 3) (by omega)))))
      clear hq hi
      go_wp2_with fail
      refine (HWD.out _ (Ext.refl _)).mono ?_
      rintro e w2 ⟨rfl, m, rfl⟩
      have hB6 := HB5.out.ext (Ext.drewN wr m)
      obtain ⟨old, hold⟩ : ∃ x, ws[i]? = some x := ⟨_, List.getElem?_eq_getElem (by have := HWL.out; omega)⟩
      have f1 := hB6.free i
      have k1 := wblk_cell hB6 hold
      have HB6 := Lib.hid hB6
      clear hB6 hold HWD
      go_wp2_with fail
      go_roundg (16 - (i + 1))
      case measure => omega
      case rel =>
        refine ⟨i + 1, ws.set i (wdAt bs (4 * i)), by go_num, by omega, ?_, ?_, by rw [List.length_set]; exact HWL.out, fun j hj => ?_⟩
        · exact ((Chg.ext (HE.out.trans (Ext.drewN wr m)) : Chg [T4] w _).trans (Chg.set T4 i _ (by simp))).toExt (fun t ht => by simp at ht; have := HT4.out; omega)
        · have := wblk_set HB6.out i (wdAt bs (4 * i))
          rw [← HQ.out] at this ⊢
          exact this
        · rcases Nat.lt_succ_iff_lt_or_eq.1 hj with h1 | rfl
          · rw [List.getElem?_set_ne (by omega)]; exact HWS.out j h1
          · rw [List.getElem?_set_self (by have := HWL.out; omega)]
    · obtain rfl : i = 16 := by omega
      have hW := Win.start (m := fun t => wdAt bs (4 * t)) HWL.out HWS.out
      have HW := Lib.hid hW
      have hS := HS.out.ext HE.out
      have s0 : wr.cell? ⟨sb, 0, none⟩ = some (.int .u32 (iw o0)) := hS.cell 0 rfl
      have s1 : wr.cell? ⟨sb, 1, none⟩ = some (.int .u32 (iw o1)) := hS.cell 1 rfl
      have s2 : wr.cell? ⟨sb, 2, none⟩ = some (.int .u32 (iw o2)) := hS.cell 2 rfl
      have s3 : wr.cell? ⟨sb, 3, none⟩ = some (.int .u32 (iw o3)) := hS.cell 3 rfl
      have s4 : wr.cell? ⟨sb, 4, none⟩ = some (.int .u32 (iw o4)) := hS.cell 4 rfl
      have s5 : wr.cell? ⟨sb, 5, none⟩ = some (.int .u32 (iw o5)) := hS.cell 5 rfl
      have s6 : wr.cell? ⟨sb, 6, none⟩ = some (.int .u32 (iw o6)) := hS.cell 6 rfl
      have s7 : wr.cell? ⟨sb, 7, none⟩ = some (.int .u32 (iw o7)) := hS.cell 7 rfl
      have hT := HT.out.ext HE.out
      have g0 : wr.cell? ⟨0, 0, none⟩ = some (.int .u32 (iw (gW 0))) := hT.bg 0 (by omega)
      have g1 : wr.cell? ⟨0, 1, none⟩ = some (.int .u32 (iw (gW 1))) := hT.bg 1 (by omega)
      have g2 : wr.cell? ⟨0, 2, none⟩ = some (.int .u32 (iw (gW 2))) := hT.bg 2 (by omega)
      have g3 : wr.cell? ⟨0, 3, none⟩ = some (.int .u32 (iw (gW 3))) := hT.bg 3 (by omega)
      have g4 : wr.cell? ⟨0, 4, none⟩ = some (.int .u32 (iw (gW 4))) := hT.bg 4 (by omega)
      have g5 : wr.cell? ⟨0, 5, none⟩ = some (.int .u32 (iw (gW 5))) := hT.bg 5 (by omega)
      have g6 : wr.cell? ⟨0, 6, none⟩ = some (.int .u32 (iw (gW 6))) := hT.bg 6 (by omega)
      have g7 : wr.cell? ⟨0, 7, none⟩ = some (.int .u32 (iw (gW 7))) := hT.bg 7 (by omega)
      have hadd := iw_add
      clear hS hT hi hi16 hW
      go_wp2_with fail
      go_big_quiet (fail)
      go_wp2_with fail
      go_big_quiet (fail)
      generalize hwq : (wr.drewN _).drewN _ = W1
      have hE1 : Ext wr W1 := by rw [← hwq]; exact (Ext.drewN _ _).trans (Ext.drewN _ _)
      obtain ⟨S0, hS0⟩ : ∃ S : H8, S = ⟨gW 0 + o0, gW 1 + o1, gW 2 + o2, gW 3 + o3, gW 4 + o4, gW 5 + o5, gW 6 + o6, gW 7 + o7⟩ := ⟨_, rfl⟩
      obtain ⟨m, hm⟩ : ∃ m : Nat → Wd, m = fun t => wdAt bs (4 * t) := ⟨_, rfl⟩
      rw [← hm] at HW
      have HE1 := Lib.hid (HE.out.trans hE1); have HB1 := Lib.hid (HB5.out.ext hE1); have HS0 := Lib.hid hS0; have HM := Lib.hid hm
      clear hwq hE1 hS0 hm s0 s1 s2 s3 s4 s5 s6 s7 g0 g1 g2 g3 g4 g5 g6 g7
      go_wp2_with fail
      go_loopg [6, 7, 8, 9, 10, 11, 12, 13, 97] 64 (fun g0 v6 v7 v8 v9 v10 v11 v12 v13 v97 wr => ∃ (t : Nat) (s : H8) (ws : List Wd), v97 = .int .i64 (t : Int) ∧ t + g0 = 64 ∧ v6 = wC s.a ∧ v7 = wC s.b ∧ v8 = wC s.c ∧ v9 = wC s.d ∧ v10 = wC s.e ∧ v11 = wC s.f ∧ v12 = wC s.g ∧ v13 = wC s.h ∧ s = rndsW kW m S0 t ∧ Ext w wr ∧ Blk wr T4 (ws.map wC).toArray 103 ∧ Win ws m t)
      case atStart => exact ⟨0, S0, ws, rfl, by omega, by rw [HS0.out], by rw [HS0.out], by rw [HS0.out], by rw [HS0.out], by rw [HS0.out], by rw [HS0.out], by rw [HS0.out], by rw [HS0.out], rfl, HE1.out, HB1.out, HW.out⟩
      case round =>
        obtain ⟨t, ⟨a, b, c1, d, e, f, g1, h⟩, ws2, rfl, ht64, rfl, rfl, rfl, rfl, rfl, rfl, rfl, rfl, hs, hE2, hB2, hW2⟩ := hrel
        have HE2 := Lib.hid hE2; have HB2 := Lib.hid hB2; have HW2 := Lib.hid hW2; have HRS := Lib.hid hs
        clear hs hE2 hB2 hW2
        by_cases ht : t < 64
        · have ht' : (t : Int) < 64 := by omega
          obtain ⟨p0, hp0⟩ : ∃ p, p = t % 16 := ⟨_, rfl⟩
          obtain ⟨p1, hp1⟩ : ∃ p, p = (t + 1) % 16 := ⟨_, rfl⟩
          obtain ⟨p14, hp14⟩ : ∃ p, p = (t + 14) % 16 := ⟨_, rfl⟩
          obtain ⟨p9, hp9⟩ : ∃ p, p = (t + 9) % 16 := ⟨_, rfl⟩
          have hz0 : bits .and .i64 (t : Int) 15 = (p0 : Int) := by rw [i64_and15 t (by omega), hp0]
          have hz1 : bits .and .i64 ((t : Int) + 1) 15 = (p1 : Int) := by have := i64_and15 (t + 1) (by omega); rw [← hp1] at this; simpa using this
          have hz14 : bits .and .i64 ((t : Int) + 14) 15 = (p14 : Int) := by have := i64_and15 (t + 14) (by omega); rw [← hp14] at this; simpa using this
          have hz9 : bits .and .i64 ((t : Int) + 9) 15 = (p9 : Int) := by have := i64_and15 (t + 9) (by omega); rw [← hp9] at this; simpa using this
          have hl0 : (p0 : Int) < 16 := by omega
          have hl1 : (p1 : Int) < 16 := by omega
          have hl14 : (p14 : Int) < 16 := by omega
          have hl9 : (p9 : Int) < 16 := by omega
          have HFC : Hid (∀ W, Ext wr W → W.cell? ⟨T4, p0, none⟩ = some (.int .u32 (iw (schW m t))) ∧ W.cell? ⟨T4, p1, none⟩ = some (.int .u32 (iw (schW m (t + 1)))) ∧ W.cell? ⟨T4, p14, none⟩ = some (.int .u32 (iw (schW m (t + 14)))) ∧ W.cell? ⟨T4, p9, none⟩ = some (.int .u32 (iw (schW m (t + 9)))) ∧ W.cell? ⟨1, t, none⟩ = some (.int .u32 (iw (kW t))) ∧ W.frozen? ⟨T4, p0, none⟩ = false) := Lib.hid fun W hE => by
            have hb := HB2.out.ext hE
            have hw := HW2.out.2
            exact ⟨wblk_cell hb (by rw [hp0]; exact hw 0 (by omega)), wblk_cell hb (by rw [hp1]; exact hw 1 (by omega)), wblk_cell hb (by rw [hp14]; exact hw 14 (by omega)), wblk_cell hb (by rw [hp9]; exact hw 9 (by omega)), (HT.out.ext (HE2.out.trans hE)).ks t (by omega), hb.free p0⟩
          have HP0 := Lib.hid hp0
          obtain ⟨x0, hx0⟩ : ∃ x, x = schW m t := ⟨_, rfl⟩
          obtain ⟨x1, hx1⟩ : ∃ x, x = schW m (t + 1) := ⟨_, rfl⟩
          obtain ⟨x14, hx14⟩ : ∃ x, x = schW m (t + 14) := ⟨_, rfl⟩
          obtain ⟨x9, hx9⟩ : ∃ x, x = schW m (t + 9) := ⟨_, rfl⟩
          rw [← hx0, ← hx1, ← hx14, ← hx9] at HFC
          have HX := Lib.hid (And.intro hx0 (And.intro hx1 (And.intro hx14 hx9)))
          have hxor := iw_xor; have hor := iw_or; have hand := iw_and
          have hs3 := iw_shr8
          have hs10 := iw_shr1024
          obtain ⟨k0, k1, k14, k9, kg, kf⟩ := HFC.out wr (Ext.refl _)
          clear hp0 hp1 hp14 hp9 hx0 hx1 hx14 hx9 ht
          go_wp2_with fail
          go_big_quiet (exact Calls.quiet_of_same (rotl_any _ _ _ (by decide)))
          go_wp2_with fail
          refine (rotl_any _ _ _ (by decide)).mono ?_
          rintro ee ww ⟨rfl, rfl⟩
          go_wp2_with fail
          refine (rotl_any _ _ _ (by decide)).mono ?_
          rintro ee ww ⟨rfl, rfl⟩
          go_wp2_with fail
          refine (rotl_any _ _ _ (by decide)).mono ?_
          rintro ee ww ⟨rfl, rfl⟩
          go_wp2_with fail
          go_big_quiet (fail)
          go_wp2_with fail
          generalize hwq : (wr.drewN _).drewN _ = W2
          have hE3 : Ext wr W2 := by rw [← hwq]; exact (Ext.drewN _ _).trans (Ext.drewN _ _)
          clear hwq k0 k1 k14 k9 kg kf
          obtain ⟨k0, -, -, k9, -, kf⟩ := HFC.out W2 hE3
          have HE3 := Lib.hid hE3; have HB3 := Lib.hid (HB2.out.ext hE3)
          clear hE3
          apply Mono.region1 28 Ext (.is _ :: .is _ :: .is _ :: .is _ :: .is _ :: .is _ :: .is _ :: .is _ :: .is _ :: .is _ :: .is _ :: .is _ :: .is _ :: .is _ :: .is _ :: .is _ :: .is _ :: .is _ :: .is _ :: .is _ :: .is _ :: .is _ :: .is _ :: .is _ :: .is _ :: .is _ :: .is _ :: .is _ :: []) (by kernel_rfl) Ext.refl (fun _ _ _ => Ext.trans) (by kernel_rfl) rfl rfl trivial
          focus
          iterate 4 (apply Mono.step_is; (· refine Mono.obl_mk fun w9 hE9 _ K hK => ?_; clear hE9; go_wp2_with fail; simp only [Act.put, List.setIfInBounds_toArray, List.set_cons_succ, List.set_cons_zero] at hK; exact hK _ _ (Ext.refl _) (Mono.is_rfl _ _)); simp only [Act.put, List.setIfInBounds_toArray, List.set_cons_succ, List.set_cons_zero])
          apply Mono.step_is
          · refine Mono.obl_mk fun w9 hE9 _ K hK => ?_
            clear hE9
            go_wp2_with fail
            refine (rotl_any _ _ _ (by decide)).mono ?_
            rintro e w10 ⟨rfl, rfl⟩
            go_wp2_with fail
            simp only [Act.put, List.setIfInBounds_toArray, List.set_cons_succ, List.set_cons_zero] at hK
            exact hK _ _ (Ext.refl _) (Mono.is_rfl _ _)
          simp only [Act.put, List.setIfInBounds_toArray, List.set_cons_succ, List.set_cons_zero]
          iterate 1 (apply Mono.step_is; (· refine Mono.obl_mk fun w9 hE9 _ K hK => ?_; clear hE9; go_wp2_with fail; simp only [Act.put, List.setIfInBounds_toArray, List.set_cons_succ, List.set_cons_zero] at hK; exact hK _ _ (Ext.refl _) (Mono.is_rfl _ _)); simp only [Act.put, List.setIfInBounds_toArray, List.set_cons_succ, List.set_cons_zero])
          apply Mono.step_is
          · refine Mono.obl_mk fun w9 hE9 _ K hK => ?_
            clear hE9
            go_wp2_with fail
            refine (rotl_any _ _ _ (by decide)).mono ?_
            rintro e w10 ⟨rfl, rfl⟩
            go_wp2_with fail
            simp only [Act.put, List.setIfInBounds_toArray, List.set_cons_succ, List.set_cons_zero] at hK
            exact hK _ _ (Ext.refl _) (Mono.is_rfl _ _)
          simp only [Act.put, List.setIfInBounds_toArray, List.set_cons_succ, List.set_cons_zero]
          iterate 9 (apply Mono.step_is; (· refine Mono.obl_mk fun w9 hE9 _ K hK => ?_; clear hE9; go_wp2_with fail; simp only [Act.put, List.setIfInBounds_toArray, List.set_cons_succ, List.set_cons_zero] at hK; exact hK _ _ (Ext.refl _) (Mono.is_rfl _ _)); simp only [Act.put, List.setIfInBounds_toArray, List.set_cons_succ, List.set_cons_zero])
          iterate 1 (apply Mono.step_is; (· refine Mono.obl_mk fun w9 hE9 _ K hK => ?_; have q9 := hE9.cell (show W2.drew.cell? _ = _ from k9); clear hE9; go_wp2_with fail; simp only [Act.put, List.setIfInBounds_toArray, List.set_cons_succ, List.set_cons_zero] at hK; exact hK _ _ (Ext.refl _) (Mono.is_rfl _ _)); simp only [Act.put, List.setIfInBounds_toArray, List.set_cons_succ, List.set_cons_zero])
          iterate 2 (apply Mono.step_is; (· refine Mono.obl_mk fun w9 hE9 _ K hK => ?_; clear hE9; go_wp2_with fail; simp only [Act.put, List.setIfInBounds_toArray, List.set_cons_succ, List.set_cons_zero] at hK; exact hK _ _ (Ext.refl _) (Mono.is_rfl _ _)); simp only [Act.put, List.setIfInBounds_toArray, List.set_cons_succ, List.set_cons_zero])
          apply Mono.step_is
          · refine Mono.obl_mk fun w9 hE9 _ K hK => ?_
            clear hE9
            go_wp2_with fail
            refine (rotl_any _ _ _ (by decide)).mono ?_
            rintro e w10 ⟨rfl, rfl⟩
            go_wp2_with fail
            simp only [Act.put, List.setIfInBounds_toArray, List.set_cons_succ, List.set_cons_zero] at hK
            exact hK _ _ (Ext.refl _) (Mono.is_rfl _ _)
          simp only [Act.put, List.setIfInBounds_toArray, List.set_cons_succ, List.set_cons_zero]
          iterate 1 (apply Mono.step_is; (· refine Mono.obl_mk fun w9 hE9 _ K hK => ?_; clear hE9; go_wp2_with fail; simp only [Act.put, List.setIfInBounds_toArray, List.set_cons_succ, List.set_cons_zero] at hK; exact hK _ _ (Ext.refl _) (Mono.is_rfl _ _)); simp only [Act.put, List.setIfInBounds_toArray, List.set_cons_succ, List.set_cons_zero])
          apply Mono.step_is
          · refine Mono.obl_mk fun w9 hE9 _ K hK => ?_
            clear hE9
            go_wp2_with fail
            refine (rotl_any _ _ _ (by decide)).mono ?_
            rintro e w10 ⟨rfl, rfl⟩
            go_wp2_with fail
            simp only [Act.put, List.setIfInBounds_toArray, List.set_cons_succ, List.set_cons_zero] at hK
            exact hK _ _ (Ext.refl _) (Mono.is_rfl _ _)
          simp only [Act.put, List.setIfInBounds_toArray, List.set_cons_succ, List.set_cons_zero]
          iterate 6 (apply Mono.step_is; (· refine Mono.obl_mk fun w9 hE9 _ K hK => ?_; clear hE9; go_wp2_with fail; simp only [Act.put, List.setIfInBounds_toArray, List.set_cons_succ, List.set_cons_zero] at hK; exact hK _ _ (Ext.refl _) (Mono.is_rfl _ _)); simp only [Act.put, List.setIfInBounds_toArray, List.set_cons_succ, List.set_cons_zero])
          refine Mono.step_end fun w9 hE9 hkn => ?_
          simp only [List.drop_succ_cons, List.drop_zero]
          replace hE9 : Ext W2 w9 := (Ext.drew W2).trans hE9
          have q0 := hE9.cell k0
          have HB4 := Lib.hid (HB3.out.ext hE9); have HE4 := Lib.hid (HE3.out.trans hE9)
          have f0 := HB4.out.free p0
          clear hkn hE9 k0 k9 kf
          go_wp2_with fail
          go_roundg (64 - (t + 1))
          case measure => omega
          case rel =>
            obtain ⟨hx0, hx1, hx14, hx9⟩ := HX.out
            have hz : x0 + (rr x1 7 ^^^ rr x1 18 ^^^ x1 >>> 3) + x9 + (rr x14 17 ^^^ rr x14 19 ^^^ x14 >>> 10) = schW m (t + 16) := by
              rw [schW_hi, ← hx0, ← hx1, ← hx14, ← hx9]
              unfold sS0 sS1
              ac_rfl
            refine ⟨t + 1, rndW ⟨a, b, c1, d, e, f, g1, h⟩ (kW t) x0, ws2.set p0 (schW m (t + 16)), by go_num, by omega, ?_, rfl, rfl, rfl, ?_, rfl, rfl, rfl, ?_, ?_, ?_, ?_⟩
            · simp only [rndW, bS1, bS0, ch_alt, maj_alt]
            · simp only [rndW, bS1, bS0, ch_alt, maj_alt]
            · rw [rndsW, ← HRS.out, hx0]
            · exact ((Chg.ext (HE2.out.trans HE4.out) : Chg [T4] w w9).trans (Chg.set T4 p0 _ (by simp))).toExt (fun t ht => by simp at ht; have := HT4.out; omega)
            · rw [← hz]
              exact wblk_set HB4.out p0 _
            · rw [HP0.out]; exact HW2.out.step
        · obtain rfl : t = 64 := by omega
          obtain ⟨O, hO⟩ : ∃ O : List Wd, O = [o0, o1, o2, o3, o4, o5, o6, o7] := ⟨_, rfl⟩
          obtain ⟨SL, hSL⟩ : ∃ S : List Wd, S = [a, b, c1, d, e, f, g1, h] := ⟨_, rfl⟩
          have HO := Lib.hid hO; have HSL := Lib.hid hSL
          have hS8 := HS.out.ext HE2.out
          rw [← hO] at hS8
          have HS8 := Lib.hid hS8
          have hadd2 := iw_add
          clear ht ht64 hO hSL hS8
          go_wp2_with fail
          go_loopg [206] 8 (fun g0 v206 wr => ∃ (i : Nat) (os : List Wd), v206 = .int .i64 (i : Int) ∧ i + g0 = 8 ∧ Chg [sb] w wr ∧ Blk wr sb (stC os r nn) 82 ∧ os = (List.zipWith (· + ·) O SL).take i ++ O.drop i)
          case atStart => exact ⟨0, O, rfl, by omega, Chg.ext HE2.out, HS8.out, by simp⟩
          case round =>
            obtain ⟨i, os, rfl, hi8, hC, hB8, hos⟩ := hrel
            have HC8 := Lib.hid hC; have HB8' := Lib.hid hB8; have HOS := Lib.hid hos
            clear hC hB8 hos
            by_cases hi : i < 8
            · have hi' : (i : Int) < 8 := by omega
              obtain ⟨x, hx⟩ : ∃ x, SL[i]? = some x := ⟨_, List.getElem?_eq_getElem (by rw [HSL.out]; simpa using hi)⟩
              have hix : ∀ W, Sem.run Tryd.prog (Instr.index 79 (Value.agg #[wC a, wC b, wC c1, wC d, wC e, wC f, wC g1, wC h]) (Value.int IntKind.i64 (i : Int))) W = .ok (wC x) W := fun W => by
                rw [HSL.out] at hx
                have h8 : i = 0 ∨ i = 1 ∨ i = 2 ∨ i = 3 ∨ i = 4 ∨ i = 5 ∨ i = 6 ∨ i = 7 := by omega
                rcases h8 with rfl | rfl | rfl | rfl | rfl | rfl | rfl | rfl <;> (cases hx; first | rfl | (show Sem.run _ _ _ = _; kernel_rfl))
              have HIX := Lib.hid hx
              obtain ⟨y, hy⟩ : ∃ y, O[i]? = some y := ⟨_, List.getElem?_eq_getElem (by rw [HO.out]; simpa using hi)⟩
              have hoy : os[i]? = some y := by
                have hl : ((List.zipWith (· + ·) O SL).take i).length = i := by rw [List.length_take, List.length_zipWith, HO.out, HSL.out]; simp; omega
                rw [HOS.out, List.getElem?_append_right (by omega), hl, Nat.sub_self, List.getElem?_drop]; exact hy
              have c0 := stc_cell HB8'.out hoy
              have HY := Lib.hid (And.intro hx (And.intro hy hoy))
              clear hi hx hy hoy
              go_upto_region 21 with fail
              apply Mono.region1 11 Ext (.is _ :: .is _ :: .is _ :: .is _ :: .is _ :: .is _ :: .is _ :: .is _ :: .is _ :: .is _ :: .is _ :: []) (by kernel_rfl) Ext.refl (fun _ _ _ => Ext.trans) (by kernel_rfl) rfl rfl trivial
              focus
                iterate 11 (apply Mono.step_is; (· refine Mono.obl_mk fun w9 hE9 _ K hK => ?_; have q9 := hE9.cell (show wr.drew.cell? _ = _ from c0); clear hE9; go_wp2_with fail; simp only [Act.put, List.setIfInBounds_toArray, List.set_cons_succ, List.set_cons_zero] at hK; exact hK _ _ (Ext.refl _) (Mono.is_rfl _ _)); simp only [Act.put, List.setIfInBounds_toArray, List.set_cons_succ, List.set_cons_zero])
                refine Mono.step_end fun w9 hE9 hkn => ?_
                simp only [List.drop_succ_cons, List.drop_zero]
                replace hE9 : Ext wr w9 := (Ext.drew wr).trans hE9
                have q0 := hE9.cell c0
                have HB9 := Lib.hid (HB8'.out.ext hE9); have HC9 := Lib.hid (HC8.out.trans (Chg.ext hE9))
                have f0 := HB9.out.free i
                clear hkn hE9 c0
                go_wp2_with fail
                go_roundg (8 - (i + 1))
                case measure => omega
                case rel =>
                  obtain ⟨hx, hy, hoy⟩ := HY.out
                  refine ⟨i + 1, os.set i (y + x), by go_num, by omega, HC9.out.trans (Chg.set sb i _ (by simp)), stc_set HB9.out hoy, ?_⟩
                  have hz : (List.zipWith (· + ·) O SL)[i]? = some (y + x) := by rw [List.getElem?_zipWith, hy, hx]
                  have hl : ((List.zipWith (· + ·) O SL).take i).length = i := by rw [List.length_take]; have := (List.getElem?_eq_some_iff.1 hz).1; omega
                  rw [HOS.out, List.set_append_right _ _ (by omega), hl, Nat.sub_self, List.take_add_one, hz]
                  have hd : O.drop i = y :: O.drop (i + 1) := by
                    obtain ⟨hi2, rfl⟩ := List.getElem?_eq_some_iff.1 hy
                    exact List.drop_eq_getElem_cons hi2
                  rw [hd]
                  simp
            · obtain rfl : i = 8 := by omega
              have hfin : os = mixO [o0, o1, o2, o3, o4, o5, o6, o7] bs := by
                rw [HOS.out, HO.out, HSL.out]
                unfold mixO
                rw [← HM.out, show (⟨gW 0 + ([o0, o1, o2, o3, o4, o5, o6, o7] : List Wd).getD 0 0, gW 1 + ([o0, o1, o2, o3, o4, o5, o6, o7] : List Wd).getD 1 0, gW 2 + ([o0, o1, o2, o3, o4, o5, o6, o7] : List Wd).getD 2 0, gW 3 + ([o0, o1, o2, o3, o4, o5, o6, o7] : List Wd).getD 3 0, gW 4 + ([o0, o1, o2, o3, o4, o5, o6, o7] : List Wd).getD 4 0, gW 5 + ([o0, o1, o2, o3, o4, o5, o6, o7] : List Wd).getD 5 0, gW 6 + ([o0, o1, o2, o3, o4, o5, o6, o7] : List Wd).getD 6 0, gW 7 + ([o0, o1, o2, o3, o4, o5, o6, o7] : List Wd).getD 7 0⟩ : H8) = S0 from HS0.out.symm, ← HRS.out]
                rfl
              have HFIN := Lib.hid hfin
              clear hi hi8 hfin
              go_wp2_with fail
              exact bodyPost_end (results_none Tryd.results54 _ _ _) rfl ⟨rfl, HC8.out, by rw [← HFIN.out]; exact HB8'.out⟩
end Go.Proofs.YtgefphfnicjbiaaDoor
