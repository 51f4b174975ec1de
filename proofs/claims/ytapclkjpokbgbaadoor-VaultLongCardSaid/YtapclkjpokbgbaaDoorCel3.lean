/- cell: read. -/
import Derived.Test.YtapclkjpokbgbaaDoorCel2
import Derived.Laws.ResultCell
set_option linter.unusedSimpArgs false
set_option linter.unusedVariables false
namespace Go.Proofs.YtapclkjpokbgbaaDoor
open Go Go.RowKit Go.Maps

/-- What has been read of word j behind i bytes. -/
def seg (b : List Int) (j i : Nat) : List Int := (b.drop (8 * j)).take (min 8 (i - 8 * j))
theorem seg_zero (b : List Int) (j : Nat) : seg b j 0 = [] := by simp [seg]
theorem seg_other (b : List Int) {q r j : Nat} (hr : r < 8) (hj : j ≠ q) : seg b j (8 * q + r + 1) = seg b j (8 * q + r) := by
  unfold seg; congr 1; omega
theorem seg_same (b : List Int) {q r : Nat} {x : Int} (hr : r < 8) (hx : b[8 * q + r]? = some x) : seg b q (8 * q + r + 1) = seg b q (8 * q + r) ++ [x] := by
  unfold seg
  rw [show min 8 (8 * q + r + 1 - 8 * q) = r + 1 by omega, show min 8 (8 * q + r - 8 * q) = r by omega, List.take_add_one, List.getElem?_drop, hx]; rfl
theorem seg_len (b : List Int) {q r : Nat} (hr : r ≤ 8) (hl : 8 * q + r ≤ b.length) : (seg b q (8 * q + r)).length = r := by
  unfold seg
  rw [List.length_take, List.length_drop]; omega
theorem val_aux : ∀ (xs : List Int) (acc k : Nat), B8 xs → acc < 256 ^ k → xs.foldl (fun n x => n * 256 + x.toNat) acc < 256 ^ (k + xs.length)
  | [], acc, k, _, h => by simpa using h
  | x :: r, acc, k, hb, h => by
    have h2 := hb x (by simp)
    have := val_aux r (acc * 256 + x.toNat) (k + 1) (fun z hz => hb z (by simp [hz])) (by rw [Nat.pow_succ]; omega)
    rw [List.foldl_cons, List.length_cons, show k + (r.length + 1) = k + 1 + r.length by omega]; exact this
theorem val_lt {xs : List Int} (h : B8 xs) : val xs < 256 ^ xs.length := by
  have := val_aux xs 0 0 h (by decide)
  rwa [Nat.zero_add] at this
theorem seg_b8 {b : List Int} (h : B8 b) (j i : Nat) : B8 (seg b j i) := fun x hx => h x (List.mem_of_mem_drop (List.mem_of_mem_take hx))
theorem shl_or8 (acc : Nat) (c : Int) (j : Nat) (hj : j < 8) (ha : acc < 256 ^ j) (h0 : 0 ≤ c) (h1 : c ≤ 255) : bits BinOp.or IntKind.u64 (IntKind.u64.wrap ((acc : Int) * 256)) c = ((acc * 256 + c.toNat : Nat) : Int) := by
  have h7 : 256 ^ j ≤ 256 ^ 7 := Nat.pow_le_pow_right (by decide) (by omega)
  have hb : acc < 72057594037927936 := by simpa using Nat.lt_of_lt_of_le ha h7
  obtain ⟨n, rfl⟩ := Int.eq_ofNat_of_zero_le h0
  have hn : n < 2 ^ 8 := by omega
  rw [IntKind.wrap_u64, show ((acc : Int) * 256) % 18446744073709551616 = ((2 ^ 8 * acc : Nat) : Int) by omega, bits_or_u64_nat _ _ (by omega) (by omega), ← Nat.two_pow_add_eq_or_of_lt hn]
  simp; omega
theorem words_seg (b : List Int) : words3 b = (val (seg b 0 24), val (seg b 1 24), val (seg b 2 24)) := rfl
theorem layC_b8 (c t v : Nat) : B8 (layC c t v) := by
  have h8 : B8 (lay24 c t v) := by
    intro x hx
    simp only [lay24, List.mem_append] at hx
    rcases hx with (hx | hx) | hx <;> exact be_bound _ _ x hx
  intro x hx
  simp only [layC, List.mem_append] at hx
  rcases hx with hx | hx
  · exact h8 x hx
  · obtain ⟨y, hy, rfl⟩ := List.mem_map.1 hx
    have := h8 y hy; omega
set_option maxRecDepth 100000 in
set_option maxHeartbeats 2000000 in
theorem readw_c (bv : Value) (b : List Int) (w : World) (hr : Rd w bv (u8s b)) (hb : B8 b) :
    Calls Tryd.prog 31 #[bv] w fun e w' => (∃ (x y z : Nat) (ok : Bool), e = .returned (.tuple #[.agg #[.int .u64 x, .int .u64 y, .int .u64 z], .bool ok]) ∧ (if ok then readC b = some (x, y, z) else readC b = none) ∧ x < 18446744073709551616 ∧ y < 18446744073709551616 ∧ z < 18446744073709551616) ∧ Ext w w' := by
  obtain ⟨a, c, rfl, hl, hc, h3⟩ := Rd.open hr
  replace hc : c ≤ 9223372036854775807 := by unfold maxLen at hc; omega
  obtain ⟨L, hL⟩ : ∃ L, L = b.length := ⟨_, rfl⟩
  rw [← hL] at hl ⊢
  have HR := Lib.hid hr
  have HL := Lib.hid hL; have HB := Lib.hid hb; have H3 := Lib.hid h3
  clear hL hb h3 hr
  go_enter Tryd.func31, Tryd.ntmps31
  by_cases h48 : L = 48
  · subst h48
    obtain ⟨p, o, rfl, hcell⟩ := H3.out.resolve_left (by intro e; have := HL.out; rw [e] at this; simp at this)
    have HCL := Lib.hid hcell
    clear hcell
    go_wp2_with fail
    obtain ⟨w1, hw1⟩ : ∃ w1, w1 = w.alloc (.cells #[.int .u64 0, .int .u64 0, .int .u64 0] 77) := ⟨_, rfl⟩
    have hE1 : Ext w w1 := by rw [hw1]; exact Ext.alloc _ _
    have hB : Blk w1 w.heap.size #[.int .u64 ((0 : Nat) : Int), .int .u64 ((0 : Nat) : Int), .int .u64 ((0 : Nat) : Int)] 77 := by rw [hw1]; exact Blk.new _ _ _
    rw [← hw1]
    have HE1 := Lib.hid hE1; have HBK := Lib.hid hB
    clear hw1 hE1 hB
    go_loopg [4, 5, 13] 24 (fun g v4 v5 v13 wr => ∃ i : Nat, v13 = .int .i64 (i : Int) ∧ i + g = 24 ∧ Ext w wr ∧ Blk wr w.heap.size #[.int .u64 (val (seg b 0 i)), .int .u64 (val (seg b 1 i)), .int .u64 (val (seg b 2 i))] 77)
    case atStart => exact ⟨0, rfl, by omega, HE1.out, HBK.out⟩
    case round =>
      obtain ⟨i, rfl, hi, hER, hBR⟩ := hrel
      have HER := Lib.hid hER; have HBR := Lib.hid hBR
      by_cases hlt : i < 24
      · obtain ⟨q, hq⟩ : ∃ q, q = i / 8 := ⟨_, rfl⟩
        obtain ⟨r, hr⟩ : ∃ r, r = i % 8 := ⟨_, rfl⟩
        have hqi : (i : Int) / 8 = (q : Int) := by omega
        have hr8 : r < 8 := by omega
        have hq3 : q < 3 := by omega
        have hir : i = 8 * q + r := by omega
        have cx := hER.cell (HCL.out i (by rw [← HL.out]; omega))
        obtain ⟨x, hx⟩ : ∃ x, x = b.getD i 0 := ⟨_, rfl⟩
        have hxg : b[i]? = some x := by rw [hx, List.getD, List.getElem?_eq_getElem (by rw [← HL.out]; omega)]; rfl
        have hx8 := HB.out x (List.mem_of_getElem? hxg)
        obtain ⟨W, hW, cW⟩ : ∃ W : Nat, W = val (seg b q i) ∧ wr.cell? ⟨w.heap.size, q, none⟩ = some (.int .u64 W) := by
          refine ⟨_, rfl, ?_⟩
          rcases (show q = 0 ∨ q = 1 ∨ q = 2 by omega) with h | h | h <;> rw [h]
          · exact hBR.cell 0 rfl
          · exact hBR.cell 1 rfl
          · exact hBR.cell 2 rfl
        have hfz := hBR.free q
        have hWl : W < 256 ^ r := by
          have := val_lt (seg_b8 HB.out q i)
          rw [hir, seg_len b (by omega) (by rw [← HL.out]; omega), ← hir, ← hW] at this; exact this
        have hor := shl_or8 W x r hr8 hWl hx8.1 hx8.2
        rw [← hx] at cx
        have HX := Lib.hid hxg; have HW := Lib.hid hW; have HIR := Lib.hid hir; have HX8 := Lib.hid hx8
        clear hER hBR hxg hx hW hq hr hir hWl hx8
        go_wp2_with fail
        go_roundg (24 - (i + 1))
        case measure => omega
        case rel =>
          have hw : IntKind.u64.wrap x = x := by rw [IntKind.wrap_u64]; have := HX8.out; omega
          rw [hw, hor]
          have hseg : seg b q (i + 1) = seg b q i ++ [x] := by have := seg_same b (q := q) (r := r) hr8 (x := x) (by rw [← HIR.out]; exact HX.out); rw [HIR.out]; exact this
          have hoth : ∀ j, j ≠ q → seg b j (i + 1) = seg b j i := fun j hj => by rw [HIR.out]; exact seg_other b hr8 hj
          have hval : val (seg b q (i + 1)) = W * 256 + x.toNat := by rw [hseg, val_snoc, ← HW.out]
          have hset := HBR.out.set q (.int .u64 ((W * 256 + x.toNat : Nat) : Int))
          refine ⟨i + 1, by go_num, by omega, Below.grown HER.out (grown_set _ _ _ _) HER.out.size (fun k hk => by have := Option.some.inj hk; omega), ?_⟩
          rw [← hval] at hset ⊢
          rcases (show q = 0 ∨ q = 1 ∨ q = 2 by omega) with h | h | h <;> subst h
          · rw [hoth 1 (by decide), hoth 2 (by decide)]; simpa using hset
          · rw [hoth 0 (by decide), hoth 2 (by decide)]; simpa using hset
          · rw [hoth 0 (by decide), hoth 1 (by decide)]; simpa using hset
      · have hge : (24 : Int) ≤ (i : Int) := by omega
        obtain rfl : i = 24 := by omega
        clear hlt hER hBR
        obtain ⟨X, hX⟩ : ∃ X, X = val (seg b 0 24) := ⟨_, rfl⟩
        obtain ⟨Y, hY⟩ : ∃ Y, Y = val (seg b 1 24) := ⟨_, rfl⟩
        obtain ⟨Z, hZ⟩ : ∃ Z, Z = val (seg b 2 24) := ⟨_, rfl⟩
        have hlt3 : ∀ j, j < 3 → val (seg b j 24) < 18446744073709551616 := fun j hj => by
          have h1 := val_lt (seg_b8 HB.out j 24)
          have h2 : (seg b j 24).length ≤ 8 := by unfold seg; rw [List.length_take]; omega
          have h3 : 256 ^ (seg b j 24).length ≤ 256 ^ 8 := Nat.pow_le_pow_right (by decide) h2
          exact Nat.lt_of_lt_of_le h1 h3
        have hXl := hlt3 0 (by decide); have hYl := hlt3 1 (by decide); have hZl := hlt3 2 (by decide)
        have hB := HBR.out
        have hw3 : words3 b = (X, Y, Z) := by rw [words_seg, hX, hY, hZ]
        rw [← hX, ← hY, ← hZ] at hB
        rw [← hX] at hXl; rw [← hY] at hYl; rw [← hZ] at hZl
        have k0 := hB.cell 0 rfl; have k1 := hB.cell 1 rfl; have k2 := hB.cell 2 rfl
        simp only [List.getElem_toArray, List.getElem_cons_zero, List.getElem_cons_succ] at k0 k1 k2
        have HRW := Lib.hid (HR.out.ext HER.out)
        have HB3 := Lib.hid hB; have HW3 := Lib.hid hw3
        have hb1 : B8 b := HB.out
        have HSB := Lib.hid (str_beq (layC X Y Z) b (layC_b8 X Y Z) hb1)
        clear hX hY hZ hlt3 hB hw3 hb1 HBR HBK HCL
        rw [← HL.out] at HRW
        go_upto_region 8 with fail
        apply Mono.region1 5 Ext [.is _, .is _, .rel (fun v w => Rd w v (u8s (layC X Y Z))), .is _, .is _] (by kernel_rfl) Ext.refl (fun _ _ _ => Ext.trans) (by kernel_rfl) rfl rfl ⟨fun v w w' h hE => Rd.ext h hE, trivial⟩
        focus
          iterate 2 (apply Mono.step_is; (· refine Mono.obl_mk fun w5 hE5 _ K hK => ?_; (have j0 := hE5.cell (show wr.drew.cell? _ = _ from k0)); (have j1 := hE5.cell (show wr.drew.cell? _ = _ from k1)); (have j2 := hE5.cell (show wr.drew.cell? _ = _ from k2)); clear hE5; go_wp2_with fail; simp only [Act.put, List.setIfInBounds_toArray, List.set_cons_succ, List.set_cons_zero] at hK; exact hK _ _ (Ext.refl _) (Mono.is_rfl _ _)); simp only [Act.put, List.setIfInBounds_toArray, List.set_cons_succ, List.set_cons_zero])
          apply Mono.step_rel
          · refine Mono.obl_mk fun w5 hE5 _ K hK => ?_
            go_wp2_with fail
            refine (lay_c X Y Z w5 hXl hYl hZl).mono ?_
            rintro e w6 ⟨lv, rfl, hlo, hE6⟩
            have hlr := Rd.of_own hlo
            clear hlo
            go_wp2_with fail
            simp only [Act.put, List.setIfInBounds_toArray, List.set_cons_succ, List.set_cons_zero] at hK
            exact hK _ _ hE6 (Mono.rel_mk hlr)
          intro lv
          simp only [Act.put, List.setIfInBounds_toArray, List.set_cons_succ, List.set_cons_zero]
          iterate 1 (apply Mono.step_is; (· refine Mono.obl_mk fun w5 hE5 _ K hK => ?_; clear hE5; go_wp2_with fail; simp only [Act.put, List.setIfInBounds_toArray, List.set_cons_succ, List.set_cons_zero] at hK; exact hK _ _ (Ext.refl _) (Mono.is_rfl _ _)); simp only [Act.put, List.setIfInBounds_toArray, List.set_cons_succ, List.set_cons_zero])
          apply Mono.step_is
          · refine Mono.obl_mk fun w5 hE5 hkn K hK => ?_
            have hn := hkn.1 (by kernel_rfl)
            go_wp2_with fail
            refine (Tryd.bytes_Equal_strs lv (.slice (some ⟨p, o, none⟩) 48 c) (strOfNums (layC X Y Z)) (strOfNums b) w5 (hn.convert Tryd.underlying36 Tryd.underlying5 Tryd.underlying9) ((HRW.out.ext ((Ext.drew _).trans hE5)).convert Tryd.underlying36 Tryd.underlying5 Tryd.underlying9)).mono ?_
            rintro e w6 ⟨rfl, rfl⟩
            rw [HSB.out]
            go_wp2_with fail
            simp only [Act.put, List.setIfInBounds_toArray, List.set_cons_succ, List.set_cons_zero] at hK
            exact hK _ _ (Ext.refl _) (Mono.is_rfl _ _)
          simp only [Act.put, List.setIfInBounds_toArray, List.set_cons_succ, List.set_cons_zero]
          refine Mono.step_end fun w5 hE5 hkn => ?_
          simp only [List.drop_succ_cons, List.drop_zero]
          clear hkn
          have hE := (Ext.drew wr).trans hE5
          have hB5 := HB3.out.ext hE
          have c0 := hB5.cell 0 rfl; have c1 := hB5.cell 1 rfl; have c2 := hB5.cell 2 rfl
          have f0 := hB5.free 0; have f1 := hB5.free 1; have f2 := hB5.free 2
          simp only [List.getElem_toArray, List.getElem_cons_zero, List.getElem_cons_succ] at c0 c1 c2
          have HE5 := Lib.hid (HER.out.trans hE)
          have HB5 := Lib.hid hB5
          clear k0 k1 k2 hE5 hE hB5
          go_wp2_with fail
          have hB7 := ((HB5.out.set 0 (.int .u64 X)).set 1 (.int .u64 Y)).set 2 (.int .u64 Z)
          have hE7 : Ext w (((w5.setCell ⟨w.heap.size, 0, none⟩ (.int .u64 X)).setCell ⟨w.heap.size, 1, none⟩ (.int .u64 Y)).setCell ⟨w.heap.size, 2, none⟩ (.int .u64 Z)) := by
            have hg : Chg [w.heap.size] w5 (((w5.setCell ⟨w.heap.size, 0, none⟩ (.int .u64 X)).setCell ⟨w.heap.size, 1, none⟩ (.int .u64 Y)).setCell ⟨w.heap.size, 2, none⟩ (.int .u64 Z)) := ((Chg.set _ 0 _ (by simp)).setNew _ 1 _ (.inl (by simp))).setNew _ 2 _ (.inl (by simp))
            exact Chg.below HE5.out hg HE5.out.size (fun t ht => by simp at ht; omega)
          obtain ⟨w7, hw7⟩ : ∃ w7, w7 = (((w5.setCell ⟨w.heap.size, 0, none⟩ (.int .u64 X)).setCell ⟨w.heap.size, 1, none⟩ (.int .u64 Y)).setCell ⟨w.heap.size, 2, none⟩ (.int .u64 Z)) := ⟨_, rfl⟩
          rw [← hw7] at hB7 hE7 ⊢
          clear hw7 c0 c1 c2 f0 f1 f2
          have d0 : w7.cell? ⟨w.heap.size, 0, none⟩ = some (.int .u64 X) := by have := hB7.cell 0 (u := .int .u64 X) (by simp); exact this
          have d1 : w7.cell? ⟨w.heap.size, 1, none⟩ = some (.int .u64 Y) := by have := hB7.cell 1 (u := .int .u64 Y) (by simp); exact this
          have d2 : w7.cell? ⟨w.heap.size, 2, none⟩ = some (.int .u64 Z) := by have := hB7.cell 2 (u := .int .u64 Z) (by simp); exact this
          refine bodyPost_ret (v := .tuple #[.agg #[.int .u64 X, .int .u64 Y, .int .u64 Z], .bool (decide (layC X Y Z = b))]) (by rw [results_cell_tmp Tryd.results31]; simp [go_sem, d0, d1, d2]) rfl ?_
          refine ⟨⟨X, Y, Z, _, rfl, ?_, hXl, hYl, hZl⟩, hE7⟩
          by_cases hxy : layC X Y Z = b
          · rw [decide_eq_true hxy, if_pos rfl]
            unfold readC
            rw [HW3.out, if_pos ⟨HL.out.symm, hxy⟩]
          · rw [decide_eq_false hxy, if_neg (by simp)]
            unfold readC
            rw [HW3.out, if_neg (fun h => hxy h.2)]
  · have hne : ((L : Int) == 48) = false := by simp; omega
    go_wp2_with fail
    have hB : Blk (w.alloc (.cells #[.int .u64 0, .int .u64 0, .int .u64 0] 77)) w.heap.size #[.int .u64 0, .int .u64 0, .int .u64 0] 77 := Blk.new _ _ _
    have k0 := hB.cell 0 rfl; have k1 := hB.cell 1 rfl; have k2 := hB.cell 2 rfl
    simp only [List.getElem_toArray, List.getElem_cons_zero, List.getElem_cons_succ] at k0 k1 k2
    refine bodyPost_ret (v := .tuple #[.agg #[.int .u64 0, .int .u64 0, .int .u64 0], .bool false]) (by rw [results_cell_tmp Tryd.results31]; simp [go_sem, k0, k1, k2]) rfl ?_
    exact ⟨⟨0, 0, 0, false, rfl, readC_len (by rw [← HL.out]; exact h48), by omega, by omega, by omega⟩, Ext.alloc _ _⟩
end Go.Proofs.YtapclkjpokbgbaaDoor
