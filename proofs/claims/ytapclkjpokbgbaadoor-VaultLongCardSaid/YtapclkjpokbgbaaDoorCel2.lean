/- cell: lay. -/
import Derived.Test.YtapclkjpokbgbaaDoorCel1
set_option linter.unusedSimpArgs false
set_option linter.unusedVariables false
namespace Go.Proofs.YtapclkjpokbgbaaDoor
open Go Go.RowKit Go.Maps

theorem xor8 (b : Int) (h0 : 0 ≤ b) (h1 : b ≤ 255) : bits BinOp.xor IntKind.u8 IntKind.u8.max b = 255 - b := by
  have key : ∀ n : Fin 256, bits BinOp.xor IntKind.u8 IntKind.u8.max ((n.val : Nat) : Int) = 255 - ((n.val : Nat) : Int) := by decide +kernel
  obtain ⟨n, rfl⟩ := Int.eq_ofNat_of_zero_le h0
  exact key ⟨n, by omega⟩
/-- The word in which byte i of the three lies. -/
def wordAt (c t v q : Nat) : Nat := if q = 0 then c else if q = 1 then t else v
theorem lay24_get (c t v q r : Nat) (hq : q < 3) (hr : r < 8) : (lay24 c t v)[8 * q + r]? = some ((wordAt c t v q / 256 ^ (7 - r) % 256 : Nat) : Int) := by
  have l8 := fun n => be_len 8 n
  have hg := fun n => be_get 8 n r hr
  have e7 : 8 - 1 - r = 7 - r := by omega
  rw [e7] at hg
  unfold lay24
  rcases (show q = 0 ∨ q = 1 ∨ q = 2 by omega) with rfl | rfl | rfl
  · rw [List.append_assoc, List.getElem?_append_left (by rw [l8]; omega), show 8 * 0 + r = r by omega, hg]; rfl
  · rw [List.append_assoc, List.getElem?_append_right (by rw [l8]; omega), l8, List.getElem?_append_left (by rw [l8]; omega), show 8 * 1 + r - 8 = r by omega, hg]; rfl
  · rw [List.getElem?_append_right (by rw [List.length_append, l8, l8]; omega), List.length_append, l8, l8, show 8 * 2 + r - (8 + 8) = r by omega, hg]; rfl
theorem layC_get (c t v i : Nat) (hi : i < 24) : (layC c t v)[i]? = (lay24 c t v)[i]? ∧ (layC c t v)[24 + i]? = ((lay24 c t v)[i]?).map (fun x => 255 - x) := by
  unfold layC
  refine ⟨List.getElem?_append_left (by rw [lay24_len]; exact hi), ?_⟩
  rw [List.getElem?_append_right (by rw [lay24_len]; omega), lay24_len, show 24 + i - 24 = i by omega]
  unfold turn8; rw [List.getElem?_map]
set_option maxRecDepth 100000 in
set_option maxHeartbeats 1000000 in
theorem lay_c (c t v : Nat) (w : World) (hc : c < 18446744073709551616) (ht : t < 18446744073709551616) (hv : v < 18446744073709551616) :
    Calls Tryd.prog 34 #[.agg #[.int .u64 c, .int .u64 t, .int .u64 v]] w (RetOwn 5 w (u8s (layC c t v))) := by
  go_enter Tryd.func34, Tryd.ntmps34
  obtain ⟨w1, hw1⟩ : ∃ w1, w1 = w.alloc (.cells #[.int .u64 c, .int .u64 t, .int .u64 v] 77) := ⟨_, rfl⟩
  have hE1 : Ext w w1 := by rw [hw1]; exact Ext.alloc _ _
  have hB : Blk w1 w.heap.size #[.int .u64 c, .int .u64 t, .int .u64 v] 77 := by rw [hw1]; exact Blk.new _ _ _
  have h1s := hB.lt
  go_upto_block 0 with (refine wpList_makeN rfl (.const (.int .i64 48)) (.const (.int .i64 48)) 36 rfl el8 w1.heap.size .i64 .i64 48 48 48 rfl rfl rfl rfl (by omega) (by unfold maxLen; omega) (by rw [hw1]; exact Nat.le_refl _) ?_; intro w2 ho2 hg2)
  rw [made8] at ho2
  rw [← hw1] at ho2 hg2
  have hs1 : w1.heap.size = w.heap.size + 1 := by rw [hw1]; simp
  obtain ⟨G, hG⟩ : ∃ G, G = w.heap.size + 1 := ⟨_, rfl⟩
  rw [← hG]
  rw [hs1, ← hG] at ho2 h1s
  have hE2 : Ext w w2 := hE1.trans (Below.grown (Ext.refl _) hg2 (Nat.le_refl _) (by intro k hk; cases hk))
  have hE12 : Ext w1 w2 := Below.grown (Ext.refl _) hg2 (Nat.le_refl _) (by intro k hk; cases hk)
  have k0 := hE12.cell (hB.cell 0 rfl); have k1 := hE12.cell (hB.cell 1 rfl); have k2 := hE12.cell (hB.cell 2 rfl)
  simp only [List.getElem_toArray, List.getElem_cons_zero, List.getElem_cons_succ] at k0 k1 k2
  have HO2 := Lib.hid ho2; have HE2 := Lib.hid hE2
  have hwl : w.heap.size ≤ G := by omega
  clear hw1 hE1 hB ho2 hg2 hE2 hE12 hG hs1
  go_wp2_with fail
  go_loopg [4, 6] 24 (fun g v4 v6 wr => ∃ (i : Nat) (xs : List Int), v6 = .int .i64 (i : Int) ∧ i + g = 24 ∧ xs.length = 48 ∧ wr.ownsRow G 5 1 (.slice (some ⟨G, 0, none⟩) 48 48) 48 (u8s xs) ∧ (∀ j, j < i → xs[j]? = (layC c t v)[j]? ∧ xs[24 + j]? = (layC c t v)[24 + j]?) ∧ Ext w wr ∧ wr.cell? ⟨w.heap.size, 0, none⟩ = some (.int .u64 c) ∧ wr.cell? ⟨w.heap.size, 1, none⟩ = some (.int .u64 t) ∧ wr.cell? ⟨w.heap.size, 2, none⟩ = some (.int .u64 v))
  case atStart => exact ⟨0, List.replicate 48 0, rfl, by omega, by simp, HO2.out, (by intro j hj; omega), HE2.out, k0, k1, k2⟩
  case round =>
    obtain ⟨i, xs, rfl, hi, hxl, hxo, hxs, hER, c0, c1, c2⟩ := hrel
    have HER := Lib.hid hER; have HXO := Lib.hid hxo; have HXS := Lib.hid hxs
    by_cases hlt : i < 24
    · obtain ⟨g, hgg, _, hfz, c8⟩ := own_at8 hxo hxl (show i < 48 by omega)
      cases hgg
      clear k0 k1 k2
      obtain ⟨q, hq⟩ : ∃ q, q = i / 8 := ⟨_, rfl⟩
      obtain ⟨r, hr⟩ : ∃ r, r = i % 8 := ⟨_, rfl⟩
      have hqi : (i : Int) / 8 = (q : Int) := by omega
      have hri : (i : Int) % 8 = (r : Int) := by omega
      have hr8 : r < 8 := by omega
      have hq3 : q < 3 := by omega
      obtain ⟨W, hW, cW⟩ : ∃ W : Nat, W = wordAt c t v q ∧ wr.cell? ⟨w.heap.size, q, none⟩ = some (.int .u64 W) := by
        refine ⟨_, rfl, ?_⟩
        rcases (show q = 0 ∨ q = 1 ∨ q = 2 by omega) with h | h | h <;> rw [h]
        · exact c0
        · exact c1
        · exact c2
      obtain ⟨b1, hb1⟩ : ∃ b1 : Int, b1 = (W : Int) / 2 ^ (56 - 8 * r) % 256 := ⟨_, rfl⟩
      have hb2 : b1 = ((W / 256 ^ (7 - r) % 256 : Nat) : Int) := by
        have := shr_byte W 8 r hr8
        rw [hb1, show 7 - r = 8 - 1 - r by omega, ← this]
      have hget : (layC c t v)[i]? = some b1 ∧ (layC c t v)[24 + i]? = some (255 - b1) := by
        obtain ⟨e1, e2⟩ := layC_get c t v i hlt
        have e3 := lay24_get c t v q r hq3 hr8
        rw [show 8 * q + r = i by omega, ← hW, ← hb2] at e3
        rw [e1, e2, e3]; exact ⟨rfl, rfl⟩
      have hb0 : 0 ≤ b1 ∧ b1 ≤ 255 := by rw [hb2]; omega
      have hxor := xor8 b1 hb0.1 hb0.2
      rw [hb1] at hxor
      obtain ⟨g2, hgg2, _, hfz2, c9⟩ := own_at8 hxo hxl (show 24 + i < 48 by omega)
      cases hgg2
      have HC0 := Lib.hid c0; have HC1 := Lib.hid c1; have HC2 := Lib.hid c2; have HG := Lib.hid hget; have HXL := Lib.hid hxl; have HB1 := Lib.hid hb1
      clear c0 c1 c2 hxo hxs hER hq hr hW hb2 hget hb0 hxl hb1
      go_wp2_with fail
      go_roundg (24 - (i + 1))
      case measure => omega
      case rel =>
        rw [← HB1.out]
        have hg : Chg [G] wr ((wr.setCell ⟨G, i, none⟩ (.int .u8 b1)).setCell ⟨G, 24 + i, none⟩ (.int .u8 (255 - b1))) := (Chg.set G i _ (by simp)).setNew G (24 + i) _ (.inl (by simp))
        have hn : ∀ j, (⟨w.heap.size, j, none⟩ : Addr).block ∉ [G] := fun j hm => by simp at hm; omega
        refine ⟨i + 1, _, by go_num, by omega, ?_, own_set8 (own_set8 HXO.out i b1) (24 + i) (255 - b1), fun j hj => ?_, Chg.below HER.out hg HER.out.size (fun t ht => by simp at ht; omega), cell_chg hg HC0.out (hn _), cell_chg hg HC1.out (hn _), cell_chg hg HC2.out (hn _)⟩
        · rw [List.length_set, List.length_set]; exact HXL.out
        · have hl := HXL.out
          rcases Nat.lt_or_ge j i with h | h
          · obtain ⟨e1, e2⟩ := HXS.out j h
            refine ⟨?_, ?_⟩
            · rw [List.getElem?_set_ne (by omega), List.getElem?_set_ne (by omega)]; exact e1
            · rw [List.getElem?_set_ne (by omega), List.getElem?_set_ne (by omega)]; exact e2
          · obtain rfl : j = i := by omega
            obtain ⟨e1, e2⟩ := HG.out
            refine ⟨?_, ?_⟩
            · rw [List.getElem?_set_ne (by omega), List.getElem?_set_self (by omega)]; exact e1.symm
            · rw [List.getElem?_set_self (by rw [List.length_set]; omega)]; exact e2.symm
    · have hge : (24 : Int) ≤ (i : Int) := by omega
      clear hlt k0 k1 k2 hxs hER hxo c0 c1 c2
      go_wp2_with fail
      go_ret
      have hx : xs = layC c t v := by
        have hi24 : i = 24 := by omega
        apply List.ext_getElem?
        intro j
        rcases Nat.lt_or_ge j 24 with h | h
        · exact (HXS.out j (by omega)).1
        · rcases Nat.lt_or_ge j 48 with h2 | h2
          · have := (HXS.out (j - 24) (by omega)).2
            rwa [show 24 + (j - 24) = j by omega] at this
          · rw [List.getElem?_eq_none (by omega), List.getElem?_eq_none (by rw [layC_len]; omega)]
      refine ⟨_, rfl, ?_, HER.out⟩
      have := own_base HXO.out hwl
      rw [hx] at this
      simpa [u8s_len, layC_len] using this
end Go.Proofs.YtapclkjpokbgbaaDoor
