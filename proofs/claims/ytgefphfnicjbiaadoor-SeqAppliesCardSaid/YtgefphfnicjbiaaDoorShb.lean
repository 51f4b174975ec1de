/- Layer 3 (sha): Narrow of 256 bits, the program's and the document's. -/
import Derived.Test.YtgefphfnicjbiaaDoorSha
set_option linter.unusedSimpArgs false
set_option linter.unusedVariables false
namespace Go.Proofs.YtgefphfnicjbiaaDoor
open Go Go.RowKit

theorem nar_ret (b : Nat) (cs : Array Value) (hs : cs.size = 32) (F : World) (tmps : Array Value) (R : Ending → World → Prop) (hB : Blk F b cs 63)
    (hz : tmps[4]? = some (.pointer (some ⟨b, 0, none⟩))) (h : R (.returned (.agg cs)) F) :
    bodyPost Tryd.prog Tryd.f39 R .ret { tmps := tmps, defers := [] } F := by
  refine bodyPost_ret ?_ rfl h
  exact results_cell_row Tryd.results39 tmps F b _ cs (0, 0) _ (by simp [hz]) hB Tryd.underlying63 rfl (by rw [hs]; kernel_rfl)
theorem rnar_ret (b : Nat) (cs : Array Value) (hs : cs.size = 32) (F : World) (tmps : Array Value) (R : Ending → World → Prop) (hB : Blk F b cs 63)
    (hz : tmps[4]? = some (.pointer (some ⟨b, 0, none⟩))) (h : R (.returned (.agg cs)) F) :
    bodyPost Tryd.prog Tryd.f65 R .ret { tmps := tmps, defers := [] } F := by
  refine bodyPost_ret ?_ rfl h
  exact results_cell_row Tryd.results65 tmps F b _ cs (0, 0) _ (by simp [hz]) hB Tryd.underlying63 rfl (by rw [hs]; kernel_rfl)
theorem hash_size {h : List Int} (hl : h.length = 32) : (u8s h).toArray.size = 32 := by simp [u8s, hl]
theorem row_grown (W : World) (b : Nat) (cs : Array Value) : W.grownBy (W.setRow b cs) (some b) := ⟨rfl, rfl, rfl, by simp [World.setRow], fun k _ hk => setRow_other W b k _ (fun e => hk (by rw [e]))⟩
/-- Two rows of 32 bytes, new. -/
structure TwoH (w W : World) (a b : Nat) (x y : List Int) : Prop where
  ext : Ext w W
  fst : Blk W a (u8s x).toArray 63
  snd : Blk W b (u8s y).toArray 63
  ne : a ≠ b
  lowa : w.heap.size ≤ a
  lowb : w.heap.size ≤ b
theorem TwoH.fin {w W : World} {a b : Nat} {x y : List Int} (h : TwoH w W a b x y) (cs : Array Value) : Ext w (W.setRow b cs) := by
  have := h.lowb
  exact ((Chg.ext h.ext : Chg [b] w W).trans (Chg.some (row_grown W b cs) (.inl (by simp)))).toExt (fun t ht => by simp at ht; omega)
set_option maxRecDepth 100000 in
set_option maxHeartbeats 4000000 in
theorem narrow_c (h : List Int) (w : World) (hl : h.length = 32) :
    Calls Tryd.prog 39 #[.agg (u8s h).toArray, .int .i64 256] w fun e w' => e = .returned (.agg (u8s h).toArray) ∧ Ext w w' := by
  have HL := Lib.hid hl
  clear hl
  go_enter Tryd.func39, Tryd.ntmps39
  go_upto_region 5 with fail
  rw [show #[Value.int IntKind.u8 0, Value.int IntKind.u8 0, Value.int IntKind.u8 0, Value.int IntKind.u8 0, Value.int IntKind.u8 0, Value.int IntKind.u8 0, Value.int IntKind.u8 0, Value.int IntKind.u8 0, Value.int IntKind.u8 0, Value.int IntKind.u8 0, Value.int IntKind.u8 0, Value.int IntKind.u8 0, Value.int IntKind.u8 0, Value.int IntKind.u8 0, Value.int IntKind.u8 0, Value.int IntKind.u8 0, Value.int IntKind.u8 0, Value.int IntKind.u8 0, Value.int IntKind.u8 0, Value.int IntKind.u8 0, Value.int IntKind.u8 0, Value.int IntKind.u8 0, Value.int IntKind.u8 0, Value.int IntKind.u8 0, Value.int IntKind.u8 0, Value.int IntKind.u8 0, Value.int IntKind.u8 0, Value.int IntKind.u8 0, Value.int IntKind.u8 0, Value.int IntKind.u8 0, Value.int IntKind.u8 0, Value.int IntKind.u8 0] = (u8s (List.replicate 32 0)).toArray from rfl]
  have HT : Hid (TwoH w ((w.alloc (.cells (u8s h).toArray 63)).alloc (.cells (u8s (List.replicate 32 0)).toArray 63)) w.heap.size (w.heap.size + 1) h (List.replicate 32 0)) := Lib.hid (by
    have h2 := Blk.new (w.alloc (.cells (u8s h).toArray 63)) (u8s (List.replicate 32 0)).toArray 63
    simp only [World.size_alloc] at h2
    exact ⟨(Ext.alloc _ _).trans (Ext.alloc _ _), (Blk.new w _ _).alloc _, h2, by omega, Nat.le_refl _, by omega⟩)
  obtain ⟨T2, hT2⟩ : ∃ T, T = w.heap.size := ⟨_, rfl⟩
  rw [← hT2] at HT ⊢
  generalize (w.alloc (.cells (u8s h).toArray 63)).alloc (.cells (u8s (List.replicate 32 0)).toArray 63) = W0 at *
  clear hT2
  go_wp2_with (first | (refine wpList_load_row rfl 63 (.tmp 2) rfl T2 rfl 63 _ (0, 0) _ HT.out.fst Tryd.underlying63 rfl (by rw [hash_size HL.out]; kernel_rfl) ?_) | (refine wpList_store_row rfl 63 (.tmp 4) (.tmp 24) rfl (T2 + 1) _ rfl rfl 63 _ HT.out.snd (by rw [hash_size HL.out]; kernel_rfl) (by rw [hash_size HL.out]; simp [u8s]) u8a_one ?_))
  exact nar_ret (T2 + 1) _ (hash_size HL.out) _ _ _ (setRow_heap W0 (T2 + 1) _ _ _ (0, 0) HT.out.snd) rfl ⟨rfl, HT.out.fin _⟩
/-- The first bits of a byte. -/
def hiB (h : Int) (r : Nat) : Int := h - h % 2 ^ (8 - r)
theorem hiB_step : ∀ (h : Fin 256) (r : Fin 8), bits .or .u8 (((h.val : Nat) : Int) - ((h.val : Nat) : Int) % 2 ^ (8 - r.val)) (bits .and .u8 ((h.val : Nat) : Int) (128 / 2 ^ r.val)) = ((h.val : Nat) : Int) - ((h.val : Nat) : Int) % 2 ^ (8 - (r.val + 1)) := by
  decide +kernel
theorem hiB_next {h : Int} (h0 : 0 ≤ h ∧ h ≤ 255) {r : Nat} (hr : r < 8) : bits .or .u8 (hiB h r) (bits .and .u8 h (128 / 2 ^ r)) = hiB h (r + 1) := by
  have := hiB_step ⟨h.toNat, by omega⟩ ⟨r, hr⟩
  dsimp only at this
  rw [Int.toNat_of_nonneg h0.1] at this
  exact this
theorem hiB_ok' : ∀ (h : Fin 256) (r : Fin 8), 0 ≤ hiB ((h.val : Nat) : Int) r.val ∧ hiB ((h.val : Nat) : Int) r.val ≤ 255 := by decide +kernel
theorem hiB_ok {h : Int} (h0 : 0 ≤ h ∧ h ≤ 255) {r : Nat} (hr : r < 8) : 0 ≤ hiB h r ∧ hiB h r ≤ 255 := by
  have := hiB_ok' ⟨h.toNat, by omega⟩ ⟨r, hr⟩
  dsimp only at this
  rw [Int.toNat_of_nonneg h0.1] at this
  exact this
/-- Narrow's answer when i bits are through. -/
def narI (h : List Int) (i j : Nat) : Int := if j < i / 8 then h.getD j 0 else if j = i / 8 then hiB (h.getD j 0) (i % 8) else 0
structure NrS (w W : World) (T2 T4 T5 : Nat) (h out : List Int) : Prop where
  two : TwoH w W T2 T4 h (List.replicate 32 0)
  out : Blk W T5 (u8s out).toArray 63
  ne2 : T2 < T5
  ne4 : T4 < T5
theorem NrS.set {w W : World} {T2 T4 T5 : Nat} {h out : List Int} (hn : NrS w W T2 T4 T5 h out) (j : Nat) (x : Int) : NrS w (W.setCell ⟨T5, j, none⟩ (.int .u8 x)) T2 T4 T5 h (out.set j x) := by
  have h1 := hn.out.set j (.int .u8 x)
  rw [List.setIfInBounds_toArray, show (u8s out).set j (Value.int .u8 x) = u8s (out.set j x) by simp [u8s, List.map_set]] at h1
  have hC : Chg [T5] W (W.setCell ⟨T5, j, none⟩ (.int .u8 x)) := Chg.set T5 j _ (by simp)
  have := hn.two.lowa; have := hn.ne2; have := hn.ne4
  exact ⟨⟨((Chg.ext hn.two.ext : Chg [T5] w W).trans hC).toExt (fun t ht => by simp at ht; omega), hn.two.fst.chg hC (by simp; omega), hn.two.snd.chg hC (by simp; omega), hn.two.ne, hn.two.lowa, hn.two.lowb⟩, h1, hn.ne2, hn.ne4⟩
theorem NrS.ext' {w W W' : World} {T2 T4 T5 : Nat} {h out : List Int} (hn : NrS w W T2 T4 T5 h out) (hE : Ext W W') : NrS w W' T2 T4 T5 h out :=
  ⟨⟨hn.two.ext.trans hE, hn.two.fst.ext hE, hn.two.snd.ext hE, hn.two.ne, hn.two.lowa, hn.two.lowb⟩, hn.out.ext hE, hn.ne2, hn.ne4⟩
set_option maxRecDepth 100000 in
set_option maxHeartbeats 4000000 in
theorem rnarrow_c (h : List Int) (w : World) (hl : h.length = 32) (h8 : ∀ x ∈ h, 0 ≤ x ∧ x ≤ 255) :
    Calls Tryd.prog 65 #[.agg (u8s h).toArray, .int .i64 256] w fun e w' => e = .returned (.agg (u8s h).toArray) ∧ Ext w w' := by
  have HL := Lib.hid hl; have H8 := Lib.hid h8
  clear hl h8
  go_enter Tryd.func65, Tryd.ntmps65
  go_upto_region 2 with fail
  rw [show #[Value.int IntKind.u8 0, Value.int IntKind.u8 0, Value.int IntKind.u8 0, Value.int IntKind.u8 0, Value.int IntKind.u8 0, Value.int IntKind.u8 0, Value.int IntKind.u8 0, Value.int IntKind.u8 0, Value.int IntKind.u8 0, Value.int IntKind.u8 0, Value.int IntKind.u8 0, Value.int IntKind.u8 0, Value.int IntKind.u8 0, Value.int IntKind.u8 0, Value.int IntKind.u8 0, Value.int IntKind.u8 0, Value.int IntKind.u8 0, Value.int IntKind.u8 0, Value.int IntKind.u8 0, Value.int IntKind.u8 0, Value.int IntKind.u8 0, Value.int IntKind.u8 0, Value.int IntKind.u8 0, Value.int IntKind.u8 0, Value.int IntKind.u8 0, Value.int IntKind.u8 0, Value.int IntKind.u8 0, Value.int IntKind.u8 0, Value.int IntKind.u8 0, Value.int IntKind.u8 0, Value.int IntKind.u8 0, Value.int IntKind.u8 0] = (u8s (List.replicate 32 0)).toArray from rfl]
  have HN0 : Hid (NrS w (((w.alloc (.cells (u8s h).toArray 63)).alloc (.cells (u8s (List.replicate 32 0)).toArray 63)).alloc (.cells (u8s (List.replicate 32 0)).toArray 63)) w.heap.size (w.heap.size + 1) (w.heap.size + 2) h (List.replicate 32 0)) := Lib.hid (by
    have h2 := Blk.new (w.alloc (.cells (u8s h).toArray 63)) (u8s (List.replicate 32 0)).toArray 63
    have h3 := Blk.new ((w.alloc (.cells (u8s h).toArray 63)).alloc (.cells (u8s (List.replicate 32 0)).toArray 63)) (u8s (List.replicate 32 0)).toArray 63
    simp only [World.size_alloc] at h2 h3
    exact ⟨⟨((Ext.alloc _ _).trans (Ext.alloc _ _)).trans (Ext.alloc _ _), ((Blk.new w _ _).alloc _).alloc _, h2.alloc _, by omega, Nat.le_refl _, by omega⟩, h3, by omega, by omega⟩)
  obtain ⟨T2, hT2⟩ : ∃ T, T = w.heap.size := ⟨_, rfl⟩
  rw [← hT2] at HN0 ⊢
  generalize ((w.alloc (.cells (u8s h).toArray 63)).alloc (.cells (u8s (List.replicate 32 0)).toArray 63)).alloc (.cells (u8s (List.replicate 32 0)).toArray 63) = W0 at *
  clear hT2
  rw [show T2 + 1 + 1 = T2 + 2 from rfl]
  go_wp2_with fail
  go_loopg [6] 256 (fun gg v6 wr => ∃ (i : Nat) (out : List Int), v6 = .int .i64 (i : Int) ∧ i + gg = 256 ∧ NrS w wr T2 (T2 + 1) (T2 + 2) h out ∧ out.length = 32 ∧ ∀ j, j < 32 → out[j]? = some (narI h i j))
  case atStart => exact ⟨0, _, rfl, by omega, HN0.out, by simp, fun j hj => by
    rw [List.getElem?_replicate, if_pos hj]; unfold narI hiB
    simp only [Nat.zero_div, Nat.not_lt_zero, if_false, Nat.zero_mod, Nat.sub_zero]
    split
    · rename_i hj0; have := getD_ok H8.out j; congr 1; omega
    · rfl⟩
  case round =>
    obtain ⟨i, out, rfl, hi256, hN, hol, hz⟩ := hrel
    have HN := Lib.hid hN; have HOL := Lib.hid hol; have HZ := Lib.hid hz
    clear hN hol hz
    by_cases hi : i < 256
    · have hi' : (i : Int) < 256 := by omega
      obtain ⟨a, ha⟩ : ∃ a, a = i / 8 := ⟨_, rfl⟩
      obtain ⟨r, hr⟩ : ∃ r, r = i % 8 := ⟨_, rfl⟩
      have hz1 : (i : Int) / 8 = (a : Int) := by omega
      have hz2 : (i : Int) % 8 = (r : Int) := by omega
      have ha32 : (a : Int) < 32 := by omega
      have hr8 : (r : Int) < 8 := by omega
      have ho := HZ.out a (by omega)
      rw [show narI h i a = hiB (h.getD a 0) r by unfold narI; rw [if_neg (by omega), if_pos (by omega), hr]] at ho
      obtain ⟨x, hx⟩ : ∃ x, x = h.getD a 0 := ⟨_, rfl⟩
      have hx8 := getD_ok H8.out a
      rw [← hx] at ho hx8
      obtain ⟨y, hy⟩ : ∃ y, y = hiB x r := ⟨_, rfl⟩
      rw [← hy] at ho
      have hy8 : 0 ≤ y ∧ y ≤ 255 := by rw [hy]; exact hiB_ok hx8 (by omega)
      have kx : wr.cell? ⟨T2, a, none⟩ = some (.int .u8 x) := HN.out.two.fst.cell a (by
        have : h[a]? = some x := by rw [hx, List.getD_eq_getElem?_getD, List.getElem?_eq_getElem (by rw [HL.out]; omega)]; rfl
        simp [u8s, this])
      have ky : wr.cell? ⟨T2 + 2, a, none⟩ = some (.int .u8 y) := HN.out.out.cell a (by simp [u8s, ho])
      have HX := Lib.hid hx; have HY := Lib.hid hy; have HX8 := Lib.hid hx8
      have HA := Lib.hid ha; have HR := Lib.hid hr
      obtain ⟨hx0, hx1⟩ := hx8; obtain ⟨hy0, hy1⟩ := hy8
      clear ha hr hx hy ho hi
      go_upto_region 5 with fail
      apply Mono.region1 15 Ext [.is _, .is _, .is _, .is _, .is _, .is _, .is _, .is _, .is _, .is _, .is _, .is _, .is _, .is _, .is _] (by kernel_rfl) Ext.refl (fun _ _ _ => Ext.trans) (by kernel_rfl) rfl rfl trivial
      focus
      iterate 15 (apply Mono.step_is; (· refine Mono.obl_mk fun w9 hE9 _ K hK => ?_; have qx := hE9.cell (show wr.drew.cell? _ = _ from kx); have qy := hE9.cell (show wr.drew.cell? _ = _ from ky); clear hE9; go_wp2_with fail; simp only [Act.put, List.setIfInBounds_toArray, List.set_cons_succ, List.set_cons_zero] at hK; exact hK _ _ (Ext.refl _) (Mono.is_rfl _ _)); simp only [Act.put, List.setIfInBounds_toArray, List.set_cons_succ, List.set_cons_zero])
      refine Mono.step_end fun w9 hE9 hkn => ?_
      simp only [List.drop_succ_cons, List.drop_zero]
      replace hE9 : Ext wr w9 := (Ext.drew wr).trans hE9
      have HN9 := Lib.hid (HN.out.ext' hE9)
      have c9 := hE9.cell ky
      have f9 := HN9.out.out.free a
      clear hkn hE9 kx ky
      go_wp2_with fail
      go_roundg (256 - (i + 1))
      case measure => omega
      case rel =>
        rw [HY.out, hiB_next HX8.out (by omega)]
        refine ⟨i + 1, _, by go_num, by omega, HN9.out.set a _, by rw [List.length_set]; exact HOL.out, fun j hj => ?_⟩
        have hA := HA.out; have hR := HR.out
        by_cases hja : j = a
        · subst hja
          rw [List.getElem?_set_self (by rw [HOL.out]; omega)]
          congr 1
          unfold narI
          by_cases h7 : r = 7
          · rw [if_pos (by omega), h7, ← HX.out]; unfold hiB
            show x - x % 1 = x
            omega
          · rw [if_neg (by omega), if_pos (by omega), ← HX.out, show (i + 1) % 8 = r + 1 by omega]
        · rw [List.getElem?_set_ne (by omega), HZ.out j hj]
          congr 1
          unfold narI
          by_cases hlt : j < i / 8
          · rw [if_pos hlt, if_pos (by omega)]
          · rw [if_neg hlt, if_neg (by omega), if_neg (by omega)]
            split
            · rw [show (i + 1) % 8 = 0 by omega]; unfold hiB
              have := getD_ok H8.out j
              show 0 = h.getD j 0 - h.getD j 0 % 256
              omega
            · rfl
    · obtain rfl : i = 256 := by omega
      have hout : out = h := by
        apply List.ext_getElem?
        intro j
        by_cases hj : j < 32
        · rw [HZ.out j hj]; unfold narI; rw [if_pos (by omega), List.getD_eq_getElem?_getD, List.getElem?_eq_getElem (by rw [HL.out]; exact hj)]; rfl
        · rw [List.getElem?_eq_none (by rw [HOL.out]; omega), List.getElem?_eq_none (by rw [HL.out]; omega)]
      subst hout
      clear hi hi256
      go_wp2_with (first | (refine wpList_load_row rfl 63 (.tmp 5) rfl (T2 + 2) rfl 63 _ (0, 0) _ HN.out.out Tryd.underlying63 rfl (by rw [hash_size HOL.out]; kernel_rfl) ?_) | (refine wpList_store_row rfl 63 (.tmp 4) (.tmp 31) rfl (T2 + 1) _ rfl rfl 63 _ HN.out.two.snd (by rw [hash_size HOL.out]; kernel_rfl) (by rw [hash_size HOL.out]; simp [u8s]) u8a_one ?_))
      exact rnar_ret (T2 + 1) _ (hash_size HOL.out) _ _ _ (setRow_heap wr (T2 + 1) _ _ _ (0, 0) HN.out.two.snd) rfl ⟨rfl, HN.out.two.fin _⟩
end Go.Proofs.YtgefphfnicjbiaaDoor
