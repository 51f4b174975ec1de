/- Layer 3 (sha): the document's block. PRINTED BY gen/blk3.py -/
import Derived.Test.YtgefphfnicjbiaaDoorSh8
set_option linter.unusedSimpArgs false
set_option linter.unusedVariables false
namespace Go.Proofs.YtgefphfnicjbiaaDoor
open Go Go.RowKit

def blkO (h : List Wd) (bs : List Int) : List Wd :=
  let S := rndsW kW (fun t => wdAt bs (4 * t)) ⟨h.getD 0 0, h.getD 1 0, h.getD 2 0, h.getD 3 0, h.getD 4 0, h.getD 5 0, h.getD 6 0, h.getD 7 0⟩ 64
  List.zipWith (· + ·) h [S.a, S.b, S.c, S.d, S.e, S.f, S.g, S.h]
theorem blk_ret (b : Nat) (cs : Array Value) (hs : cs.size = 8) (F : World) (tmps : Array Value) (R : Ending → World → Prop) (hB : Blk F b cs 79)
    (hz : tmps[4]? = some (.pointer (some ⟨b, 0, none⟩))) (h : R (.returned (.agg cs)) F) :
    bodyPost Tryd.prog Tryd.f68 R .ret { tmps := tmps, defers := [] } F := by
  refine bodyPost_ret ?_ rfl h
  exact results_cell_row Tryd.results68 tmps F b _ cs (0, 0) _ (by simp [hz]) hB Tryd.underlying79 rfl (by rw [hs]; kernel_rfl)
theorem wc_one {l : List Wd} : (l.map wC).toArray.all (·.oneCell') = true := by
  rw [Array.all_eq_true_iff_forall_mem]
  intro v hv
  simp only [List.mem_toArray, List.mem_map] at hv
  obtain ⟨x, -, rfl⟩ := hv
  rfl
/-- Block's memory: the words, the answer's place, the schedule. -/
structure BkS (w W : World) (T2 : Nat) (hs ws : List Wd) : Prop where
  ext : Ext w W
  st : Blk W T2 (hs.map wC).toArray 79
  ans : ∃ z : Array Value, z.size = 8 ∧ Blk W (T2 + 1) z 79
  sch : Blk W (T2 + 2) (ws.map wC).toArray 106
  low : w.heap.size ≤ T2
section
variable {w W W' : World} {T2 : Nat} {hs ws : List Wd}
theorem BkS.ext' (h : BkS w W T2 hs ws) (hE : Ext W W') : BkS w W' T2 hs ws := by
  obtain ⟨z, hz, hz2⟩ := h.ans
  exact ⟨h.ext.trans hE, h.st.ext hE, ⟨z, hz, hz2.ext hE⟩, h.sch.ext hE, h.low⟩
theorem BkS.setW (h : BkS w W T2 hs ws) (j : Nat) (x : Wd) : BkS w (W.setCell ⟨T2 + 2, j, none⟩ (.int .u32 (iw x))) T2 hs (ws.set j x) := by
  obtain ⟨z, hz, hz2⟩ := h.ans
  have hC : Chg [T2 + 2] W (W.setCell ⟨T2 + 2, j, none⟩ (.int .u32 (iw x))) := Chg.set (T2 + 2) j _ (by simp)
  have := h.low
  exact ⟨((Chg.ext h.ext : Chg [T2 + 2] w W).trans hC).toExt (fun t ht => by simp at ht; omega), h.st.chg hC (by simp), ⟨z, hz, hz2.chg hC (by simp)⟩, wblk_set h.sch j x, h.low⟩
theorem BkS.setH (h : BkS w W T2 hs ws) (j : Nat) (x : Wd) : BkS w (W.setCell ⟨T2, j, none⟩ (.int .u32 (iw x))) T2 (hs.set j x) ws := by
  obtain ⟨z, hz, hz2⟩ := h.ans
  have hC : Chg [T2] W (W.setCell ⟨T2, j, none⟩ (.int .u32 (iw x))) := Chg.set T2 j _ (by simp)
  have := h.low
  exact ⟨((Chg.ext h.ext : Chg [T2] w W).trans hC).toExt (fun t ht => by simp at ht; omega), wblk_set h.st j x, ⟨z, hz, hz2.chg hC (by simp)⟩, h.sch.chg hC (by simp), h.low⟩
theorem BkS.fin (h : BkS w W T2 hs ws) (cs : Array Value) : Ext w (W.setRow (T2 + 1) cs) := by
  have hg : W.grownBy (W.setRow (T2 + 1) cs) (some (T2 + 1)) := ⟨rfl, rfl, rfl, by simp [World.setRow], fun k _ hk => setRow_other W (T2 + 1) k _ (fun e => hk (by rw [e]))⟩
  have := h.low
  exact ((Chg.ext h.ext : Chg [T2 + 1] w W).trans (Chg.some hg (.inl (by simp)))).toExt (fun t ht => by simp at ht; omega)
end
theorem unot32 (x : Wd) : bits BinOp.xor IntKind.u32 (if IntKind.u32.signed = true then -1 else IntKind.u32.max) (iw x) = iw (~~~x) := by
  have h2 := iw_xor (BitVec.allOnes 32) x
  rw [BitVec.allOnes_xor, show iw (BitVec.allOnes 32) = 4294967295 from rfl] at h2
  rw [← h2]
  rfl
/-- .. and the words under way. -/
structure RdS (w W : World) (T2 T10 : Nat) (hs ws vs : List Wd) : Prop where
  base : BkS w W T2 hs ws
  v : Blk W T10 (vs.map wC).toArray 79
  far : T2 + 2 < T10
theorem RdS.mk' {w W : World} {T2 T10 : Nat} {hs ws : List Wd} {z : Array Value} (h : BkS w W T2 hs ws) (hB : Blk W T10 z 79) (hf : T2 + 2 < T10) (vs : List Wd) : RdS w (W.setRow T10 (vs.map wC).toArray) T2 T10 hs ws vs := by
  obtain ⟨y, hy, hy2⟩ := h.ans
  have hg : W.grownBy (W.setRow T10 (vs.map wC).toArray) (some T10) := ⟨rfl, rfl, rfl, by simp [World.setRow], fun k _ hk => setRow_other W T10 k _ (fun e => hk (by rw [e]))⟩
  have hC : Chg [T10] W (W.setRow T10 (vs.map wC).toArray) := Chg.some hg (.inl (by simp))
  have := h.low
  exact ⟨⟨((Chg.ext h.ext : Chg [T10] w W).trans hC).toExt (fun t ht => by simp at ht; omega), h.st.chg hC (by simp; omega), ⟨y, hy, hy2.chg hC (by simp; omega)⟩, h.sch.chg hC (by simp; omega), h.low⟩, setRow_heap W T10 _ _ _ (0, 0) hB, hf⟩
theorem RdS.set {w W : World} {T2 T10 : Nat} {hs ws vs : List Wd} (h : RdS w W T2 T10 hs ws vs) (j : Nat) (x : Wd) : RdS w (W.setCell ⟨T10, j, none⟩ (.int .u32 (iw x))) T2 T10 hs ws (vs.set j x) := by
  obtain ⟨y, hy, hy2⟩ := h.base.ans
  have hC : Chg [T10] W (W.setCell ⟨T10, j, none⟩ (.int .u32 (iw x))) := Chg.set T10 j _ (by simp)
  have := h.base.low
  have := h.far
  exact ⟨⟨((Chg.ext h.base.ext : Chg [T10] w W).trans hC).toExt (fun t ht => by simp at ht; omega), h.base.st.chg hC (by simp; omega), ⟨y, hy, hy2.chg hC (by simp; omega)⟩, h.base.sch.chg hC (by simp; omega), h.base.low⟩, wblk_set h.v j x, h.far⟩
theorem RdS.ext' {w W W' : World} {T2 T10 : Nat} {hs ws vs : List Wd} (h : RdS w W T2 T10 hs ws vs) (hE : Ext W W') : RdS w W' T2 T10 hs ws vs := ⟨h.base.ext' hE, h.v.ext hE, h.far⟩
theorem RdS.setH {w W : World} {T2 T10 : Nat} {hs ws vs : List Wd} (h : RdS w W T2 T10 hs ws vs) (j : Nat) (x : Wd) : RdS w (W.setCell ⟨T2, j, none⟩ (.int .u32 (iw x))) T2 T10 (hs.set j x) ws vs :=
  have := h.far
  ⟨h.base.setH j x, h.v.chg (Chg.set T2 j _ (by simp) : Chg [T2] W _) (by simp; omega), h.far⟩
/-- The words, moved by one down to a place. -/
def shl (s : H8) (k : Nat) : List Wd := [s.a, s.b, s.c, s.d, s.e, s.f, s.g, s.h].take (k + 1) ++ [s.a, s.b, s.c, s.d, s.e, s.f, s.g].drop k
theorem shl_step (s : H8) (k : Nat) (h : k < 7) : ∃ x y, (shl s (k + 1))[k]? = some x ∧ (shl s (k + 1))[k + 1]? = some y ∧ (shl s (k + 1)).set (k + 1) x = shl s k := by
  match k, h with
  | 0, _ | 1, _ | 2, _ | 3, _ | 4, _ | 5, _ | 6, _ => exact ⟨_, _, rfl, rfl, rfl⟩
set_option maxRecDepth 100000 in
set_option maxHeartbeats 8000000 in
theorem block_c (g oo n c : Nat) (h0 h1 h2 h3 h4 h5 h6 h7 : Wd) (bs : List Int) (w : World) (hn : n = 64) (hc : n ≤ c) (hc2 : c ≤ 9223372036854775807)
    (hb : ∀ j, j < 64 → w.cell? ⟨g, oo + j, none⟩ = some (.int .u8 (bs.getD j 0))) (hb8 : ∀ j, j < 64 → 0 ≤ bs.getD j 0 ∧ bs.getD j 0 ≤ 255) (hT : Tabs w) :
    Calls Tryd.prog 68 #[.agg ([h0, h1, h2, h3, h4, h5, h6, h7].map wC).toArray, .slice (some ⟨g, oo, none⟩) n c] w fun e w' => e = .returned (.agg ((blkO [h0, h1, h2, h3, h4, h5, h6, h7] bs).map wC).toArray) ∧ Ext w w' := by
  subst hn
  have HB := Lib.hid hb; have HB8 := Lib.hid hb8; have HT := Lib.hid hT
  obtain ⟨m, hm⟩ : ∃ m : Nat → Wd, m = fun t => wdAt bs (4 * t) := ⟨_, rfl⟩
  obtain ⟨hs, hhs⟩ : ∃ hs, hs = [h0, h1, h2, h3, h4, h5, h6, h7] := ⟨_, rfl⟩
  have HM := Lib.hid hm; have HHS := Lib.hid hhs
  rw [← hhs]
  clear hb hb8 hT hm hhs
  go_enter Tryd.func68, Tryd.ntmps68
  go_upto_region 2 with fail
  rw [show #[Value.int IntKind.u32 0, Value.int IntKind.u32 0, Value.int IntKind.u32 0, Value.int IntKind.u32 0, Value.int IntKind.u32 0, Value.int IntKind.u32 0, Value.int IntKind.u32 0, Value.int IntKind.u32 0, Value.int IntKind.u32 0, Value.int IntKind.u32 0, Value.int IntKind.u32 0, Value.int IntKind.u32 0, Value.int IntKind.u32 0, Value.int IntKind.u32 0, Value.int IntKind.u32 0, Value.int IntKind.u32 0, Value.int IntKind.u32 0, Value.int IntKind.u32 0, Value.int IntKind.u32 0, Value.int IntKind.u32 0, Value.int IntKind.u32 0, Value.int IntKind.u32 0, Value.int IntKind.u32 0, Value.int IntKind.u32 0, Value.int IntKind.u32 0, Value.int IntKind.u32 0, Value.int IntKind.u32 0, Value.int IntKind.u32 0, Value.int IntKind.u32 0, Value.int IntKind.u32 0, Value.int IntKind.u32 0, Value.int IntKind.u32 0, Value.int IntKind.u32 0, Value.int IntKind.u32 0, Value.int IntKind.u32 0, Value.int IntKind.u32 0, Value.int IntKind.u32 0, Value.int IntKind.u32 0, Value.int IntKind.u32 0, Value.int IntKind.u32 0, Value.int IntKind.u32 0, Value.int IntKind.u32 0, Value.int IntKind.u32 0, Value.int IntKind.u32 0, Value.int IntKind.u32 0, Value.int IntKind.u32 0, Value.int IntKind.u32 0, Value.int IntKind.u32 0, Value.int IntKind.u32 0, Value.int IntKind.u32 0, Value.int IntKind.u32 0, Value.int IntKind.u32 0, Value.int IntKind.u32 0, Value.int IntKind.u32 0, Value.int IntKind.u32 0, Value.int IntKind.u32 0, Value.int IntKind.u32 0, Value.int IntKind.u32 0, Value.int IntKind.u32 0, Value.int IntKind.u32 0, Value.int IntKind.u32 0, Value.int IntKind.u32 0, Value.int IntKind.u32 0, Value.int IntKind.u32 0] = ((List.replicate 64 (0 : Wd)).map wC).toArray from rfl]
  rw [show #[Value.int IntKind.u32 0, Value.int IntKind.u32 0, Value.int IntKind.u32 0, Value.int IntKind.u32 0, Value.int IntKind.u32 0, Value.int IntKind.u32 0, Value.int IntKind.u32 0, Value.int IntKind.u32 0] = ((List.replicate 8 (0 : Wd)).map wC).toArray from rfl]
  have HW0 : Hid (BkS w (((w.alloc (.cells (hs.map wC).toArray 79)).alloc (.cells ((List.replicate 8 (0 : Wd)).map wC).toArray 79)).alloc (.cells ((List.replicate 64 (0 : Wd)).map wC).toArray 106)) w.heap.size hs (List.replicate 64 0)) := Lib.hid (by
    have h1 := ((Blk.new w (hs.map wC).toArray 79).alloc (.cells ((List.replicate 8 (0 : Wd)).map wC).toArray 79)).alloc (.cells ((List.replicate 64 (0 : Wd)).map wC).toArray 106)
    have h2 := (Blk.new (w.alloc (.cells (hs.map wC).toArray 79)) ((List.replicate 8 (0 : Wd)).map wC).toArray 79).alloc (.cells ((List.replicate 64 (0 : Wd)).map wC).toArray 106)
    have h3 := Blk.new ((w.alloc (.cells (hs.map wC).toArray 79)).alloc (.cells ((List.replicate 8 (0 : Wd)).map wC).toArray 79)) ((List.replicate 64 (0 : Wd)).map wC).toArray 106
    simp only [World.size_alloc] at h2 h3
    exact ⟨((Ext.alloc _ _).trans (Ext.alloc _ _)).trans (Ext.alloc _ _), h1, ⟨_, by simp, h2⟩, h3, Nat.le_refl _⟩)
  obtain ⟨T2, hT2⟩ : ∃ T, T = w.heap.size := ⟨_, rfl⟩
  rw [← hT2] at HW0 ⊢
  generalize ((w.alloc (.cells (hs.map wC).toArray 79)).alloc (.cells ((List.replicate 8 (0 : Wd)).map wC).toArray 79)).alloc (.cells ((List.replicate 64 (0 : Wd)).map wC).toArray 106) = W0 at *
  clear hT2
  rw [show T2 + 1 + 1 = T2 + 2 from rfl]
  go_wp2_with fail
  go_loopg [6] 16 (fun gg v6 wr => ∃ (i : Nat) (ws : List Wd), v6 = .int .i64 (i : Int) ∧ i + gg = 16 ∧ BkS w wr T2 hs ws ∧ ws.length = 64 ∧ ∀ j, j < i → ws[j]? = some (m j))
  case atStart => exact ⟨0, _, rfl, by omega, HW0.out, by simp, fun j hj => by omega⟩
  case round =>
    obtain ⟨i, ws, rfl, hi16, hW, hwl, hws⟩ := hrel
    have HW := Lib.hid hW; have HWL := Lib.hid hwl; have HWS := Lib.hid hws
    clear hW hwl hws
    by_cases hi : i < 16
    · have hi' : (i : Int) < 16 := by omega
      have hi64 : (i : Int) < 64 := by omega
      obtain ⟨q, hq⟩ : ∃ q, q = 4 * i := ⟨_, rfl⟩
      have hq1 : (4 : Int) * (i : Int) = (q : Int) := by omega
      have hs3 : (q : Int) + 3 < 64 := by omega
      have hs2 : (q : Int) + 2 < 64 := by omega
      have hs1 : (q : Int) + 1 < 64 := by omega
      have hs0 : (q : Int) < 64 := by omega
      have k0 := HW.out.ext.cell (HB.out q (by omega))
      have k1 := HW.out.ext.cell (HB.out (q + 1) (by omega))
      have k2 := HW.out.ext.cell (HB.out (q + 2) (by omega))
      have k3 := HW.out.ext.cell (HB.out (q + 3) (by omega))
      obtain ⟨hb0, hb0'⟩ := HB8.out q (by omega)
      obtain ⟨hb1, hb1'⟩ := HB8.out (q + 1) (by omega)
      obtain ⟨hb2, hb2'⟩ := HB8.out (q + 2) (by omega)
      obtain ⟨hb3, hb3'⟩ := HB8.out (q + 3) (by omega)
      obtain ⟨b0, eb0⟩ : ∃ b, b = bs.getD q 0 := ⟨_, rfl⟩
      obtain ⟨b1, eb1⟩ : ∃ b, b = bs.getD (q + 1) 0 := ⟨_, rfl⟩
      obtain ⟨b2, eb2⟩ : ∃ b, b = bs.getD (q + 2) 0 := ⟨_, rfl⟩
      obtain ⟨b3, eb3⟩ : ∃ b, b = bs.getD (q + 3) 0 := ⟨_, rfl⟩
      rw [← eb0] at k0 hb0 hb0'; rw [← eb1] at k1 hb1 hb1'; rw [← eb2] at k2 hb2 hb2'; rw [← eb3] at k3 hb3 hb3'
      have HEB : Hid (wdB b0 b1 b2 b3 = m i) := Lib.hid (by rw [HM.out, eb0, eb1, eb2, eb3, hq]; rfl)
      clear eb0 eb1 eb2 eb3 hq hi
      go_upto_region 5 with fail
      apply Mono.region1 35 Ext (.is _ :: .is _ :: .is _ :: .is _ :: .is _ :: .is _ :: .is _ :: .is _ :: .is _ :: .is _ :: .is _ :: .is _ :: .is _ :: .is _ :: .is _ :: .is _ :: .is _ :: .is _ :: .is _ :: .is _ :: .is _ :: .is _ :: .is _ :: .is _ :: .is _ :: .is _ :: .is _ :: .is _ :: .is _ :: .is _ :: .is _ :: .is _ :: .is _ :: .is _ :: .is _ ::  []) (by kernel_rfl) Ext.refl (fun _ _ _ => Ext.trans) (by kernel_rfl) rfl rfl trivial
      focus
        iterate 35 (apply Mono.step_is; (· refine Mono.obl_mk fun w9 hE9 _ K hK => ?_; have q0 := hE9.cell (show wr.drew.cell? _ = _ from k0); have q1 := hE9.cell (show wr.drew.cell? _ = _ from k1); have q2 := hE9.cell (show wr.drew.cell? _ = _ from k2); have q3 := hE9.cell (show wr.drew.cell? _ = _ from k3); clear hE9; go_wp2_with fail; simp only [Act.put, List.setIfInBounds_toArray, List.set_cons_succ, List.set_cons_zero] at hK; exact hK _ _ (Ext.refl _) (Mono.is_rfl _ _)); simp only [Act.put, List.setIfInBounds_toArray, List.set_cons_succ, List.set_cons_zero])

        refine Mono.step_end fun w9 hE9 hkn => ?_
        simp only [List.drop_succ_cons, List.drop_zero]
        replace hE9 : Ext wr w9 := (Ext.drew wr).trans hE9
        have HW9 := Lib.hid (HW.out.ext' hE9)
        have f0 := HW9.out.sch.free i
        obtain ⟨y0, hy0⟩ : ∃ y, ws[i]? = some y := ⟨_, List.getElem?_eq_getElem (by have := HWL.out; omega)⟩
        have c0 := wblk_cell HW9.out.sch hy0
        clear hkn hE9 k0 k1 k2 k3 hy0
        go_wp2_with fail
        go_roundg (16 - (i + 1))
        case measure => omega
        case rel =>
          rw [wd_val ⟨hb0, hb0'⟩ ⟨hb1, hb1'⟩ ⟨hb2, hb2'⟩ ⟨hb3, hb3'⟩, HEB.out]
          refine ⟨i + 1, ws.set i (m i), by go_num, by omega, HW9.out.setW i _, by rw [List.length_set]; exact HWL.out, fun j hj => ?_⟩
          rcases Nat.lt_succ_iff_lt_or_eq.1 hj with h1 | rfl
          · rw [List.getElem?_set_ne (by omega)]; exact HWS.out j h1
          · rw [List.getElem?_set_self (by have := HWL.out; omega)]
    · obtain rfl : i = 16 := by omega
      clear HB HB8 hi hi16
      go_wp2_with fail
      go_loopg [7] 48 (fun gg v7 wr => ∃ (t : Nat) (ws : List Wd), v7 = .int .i64 (t : Int) ∧ 16 ≤ t ∧ t + gg = 64 ∧ BkS w wr T2 hs ws ∧ ws.length = 64 ∧ ∀ j, j < t → ws[j]? = some (schW m j))
      case atStart => exact ⟨16, ws, rfl, by omega, by omega, HW.out, HWL.out, fun j hj => by rw [schW_lo m hj]; exact HWS.out j hj⟩
      case round =>
        obtain ⟨t, ws2, rfl, ht16, ht64, hW, hwl, hws⟩ := hrel
        have HW2 := Lib.hid hW; have HWL2 := Lib.hid hwl; have HWS2 := Lib.hid hws
        clear hW hwl hws HWS HWL HW
        by_cases ht : t < 64
        · have ht' : (t : Int) < 64 := by omega
          have ht0 : (16 : Int) ≤ (t : Int) := by omega
          obtain ⟨u, hu⟩ : ∃ u, t = u + 16 := ⟨t - 16, by omega⟩
          obtain ⟨p1, hp1⟩ : ∃ p, p = u + 1 := ⟨_, rfl⟩
          obtain ⟨p14, hp14⟩ : ∃ p, p = u + 14 := ⟨_, rfl⟩
          obtain ⟨p9, hp9⟩ : ∃ p, p = u + 9 := ⟨_, rfl⟩
          have hz1 : (t : Int) - 15 = (p1 : Int) := by omega
          have hz14 : (t : Int) - 2 = (p14 : Int) := by omega
          have hz9 : (t : Int) - 7 = (p9 : Int) := by omega
          have hz0 : (t : Int) - 16 = (u : Int) := by omega
          have hl1 : (p1 : Int) < 64 := by omega
          have hl14 : (p14 : Int) < 64 := by omega
          have hl9 : (p9 : Int) < 64 := by omega
          have hl0 : (u : Int) < 64 := by omega
          obtain ⟨x0, hx0⟩ : ∃ x, x = schW m u := ⟨_, rfl⟩
          obtain ⟨x1, hx1⟩ : ∃ x, x = schW m p1 := ⟨_, rfl⟩
          obtain ⟨x14, hx14⟩ : ∃ x, x = schW m p14 := ⟨_, rfl⟩
          obtain ⟨x9, hx9⟩ : ∃ x, x = schW m p9 := ⟨_, rfl⟩
          have k1 := wblk_cell HW2.out.sch (HWS2.out p1 (by omega))
          have k14 := wblk_cell HW2.out.sch (HWS2.out p14 (by omega))
          have k9 := wblk_cell HW2.out.sch (HWS2.out p9 (by omega))
          have k0 := wblk_cell HW2.out.sch (HWS2.out u (by omega))
          rw [← hx1] at k1; rw [← hx14] at k14; rw [← hx9] at k9; rw [← hx0] at k0
          have HX : Hid (t = u + 16 ∧ schW m t = sS1 x14 + x9 + sS0 x1 + x0) := Lib.hid ⟨hu, by rw [hu, schW_hi, hx0, hx1, hx14, hx9, hp1, hp14, hp9]⟩
          have hadd := iw_add; have hxor := iw_xor
          have hs3 := iw_shr8
          have hs10 := iw_shr1024
          clear hu hp1 hp14 hp9 hx0 hx1 hx14 hx9 ht
          go_upto_region 11 with fail
          apply Mono.region1 29 Ext (.is _ :: .is _ :: .is _ :: .is _ :: .is _ :: .is _ :: .is _ :: .is _ :: .is _ :: .is _ :: .is _ :: .is _ :: .is _ :: .is _ :: .is _ :: .is _ :: .is _ :: .is _ :: .is _ :: .is _ :: .is _ :: .is _ :: .is _ :: .is _ :: .is _ :: .is _ :: .is _ :: .is _ :: .is _ ::  []) (by kernel_rfl) Ext.refl (fun _ _ _ => Ext.trans) (by kernel_rfl) rfl rfl trivial
          focus
            iterate 2 (apply Mono.step_is; (· refine Mono.obl_mk fun w9 hE9 _ K hK => ?_; clear hE9; go_wp2_with fail; simp only [Act.put, List.setIfInBounds_toArray, List.set_cons_succ, List.set_cons_zero] at hK; exact hK _ _ (Ext.refl _) (Mono.is_rfl _ _)); simp only [Act.put, List.setIfInBounds_toArray, List.set_cons_succ, List.set_cons_zero])
            apply Mono.step_is
            · refine Mono.obl_mk fun w9 hE9 _ K hK => ?_
              clear hE9
              go_wp2_with fail
              refine (rot_any _ _ _ (by decide)).mono ?_
              rintro e w10 ⟨rfl, rfl⟩
              go_wp2_with fail
              simp only [Act.put, List.setIfInBounds_toArray, List.set_cons_succ, List.set_cons_zero] at hK
              exact hK _ _ (Ext.refl _) (Mono.is_rfl _ _)
            simp only [Act.put, List.setIfInBounds_toArray, List.set_cons_succ, List.set_cons_zero]
            iterate 1 (apply Mono.step_is; (· refine Mono.obl_mk fun w9 hE9 _ K hK => ?_; clear hE9; go_wp2_with fail; simp only [Act.put, List.setIfInBounds_toArray, List.set_cons_succ, List.set_cons_zero] at hK; exact hK _ _ (Ext.refl _) (Mono.is_rfl _ _)); simp only [Act.put, List.setIfInBounds_toArray, List.set_cons_succ, List.set_cons_zero])
            apply Mono.step_is
            · refine Mono.obl_mk fun w9 hE9 _ K hK => ?_
              clear hE9
              go_wp2_with fail
              refine (rot_any _ _ _ (by decide)).mono ?_
              rintro e w10 ⟨rfl, rfl⟩
              go_wp2_with fail
              simp only [Act.put, List.setIfInBounds_toArray, List.set_cons_succ, List.set_cons_zero] at hK
              exact hK _ _ (Ext.refl _) (Mono.is_rfl _ _)
            simp only [Act.put, List.setIfInBounds_toArray, List.set_cons_succ, List.set_cons_zero]
            iterate 10 (apply Mono.step_is; (· refine Mono.obl_mk fun w9 hE9 _ K hK => ?_; have q9 := hE9.cell (show wr.drew.cell? _ = _ from k9); clear hE9; go_wp2_with fail; simp only [Act.put, List.setIfInBounds_toArray, List.set_cons_succ, List.set_cons_zero] at hK; exact hK _ _ (Ext.refl _) (Mono.is_rfl _ _)); simp only [Act.put, List.setIfInBounds_toArray, List.set_cons_succ, List.set_cons_zero])
            apply Mono.step_is
            · refine Mono.obl_mk fun w9 hE9 _ K hK => ?_
              clear hE9
              go_wp2_with fail
              refine (rot_any _ _ _ (by decide)).mono ?_
              rintro e w10 ⟨rfl, rfl⟩
              go_wp2_with fail
              simp only [Act.put, List.setIfInBounds_toArray, List.set_cons_succ, List.set_cons_zero] at hK
              exact hK _ _ (Ext.refl _) (Mono.is_rfl _ _)
            simp only [Act.put, List.setIfInBounds_toArray, List.set_cons_succ, List.set_cons_zero]
            iterate 1 (apply Mono.step_is; (· refine Mono.obl_mk fun w9 hE9 _ K hK => ?_; clear hE9; go_wp2_with fail; simp only [Act.put, List.setIfInBounds_toArray, List.set_cons_succ, List.set_cons_zero] at hK; exact hK _ _ (Ext.refl _) (Mono.is_rfl _ _)); simp only [Act.put, List.setIfInBounds_toArray, List.set_cons_succ, List.set_cons_zero])
            apply Mono.step_is
            · refine Mono.obl_mk fun w9 hE9 _ K hK => ?_
              clear hE9
              go_wp2_with fail
              refine (rot_any _ _ _ (by decide)).mono ?_
              rintro e w10 ⟨rfl, rfl⟩
              go_wp2_with fail
              simp only [Act.put, List.setIfInBounds_toArray, List.set_cons_succ, List.set_cons_zero] at hK
              exact hK _ _ (Ext.refl _) (Mono.is_rfl _ _)
            simp only [Act.put, List.setIfInBounds_toArray, List.set_cons_succ, List.set_cons_zero]
            iterate 11 (apply Mono.step_is; (· refine Mono.obl_mk fun w9 hE9 _ K hK => ?_; have q0 := hE9.cell (show wr.drew.cell? _ = _ from k0); clear hE9; go_wp2_with fail; simp only [Act.put, List.setIfInBounds_toArray, List.set_cons_succ, List.set_cons_zero] at hK; exact hK _ _ (Ext.refl _) (Mono.is_rfl _ _)); simp only [Act.put, List.setIfInBounds_toArray, List.set_cons_succ, List.set_cons_zero])

            refine Mono.step_end fun w9 hE9 hkn => ?_
            simp only [List.drop_succ_cons, List.drop_zero]
            replace hE9 : Ext wr w9 := (Ext.drew wr).trans hE9
            have HW9 := Lib.hid (HW2.out.ext' hE9)
            have f0 := HW9.out.sch.free t
            obtain ⟨y0, hy0⟩ : ∃ y, ws2[t]? = some y := ⟨_, List.getElem?_eq_getElem (by have := HWL2.out; omega)⟩
            have c0 := wblk_cell HW9.out.sch hy0
            clear hkn hE9 k0 k1 k14 k9 hy0
            go_wp2_with fail
            go_roundg (64 - (t + 1))
            case measure => omega
            case rel =>
              refine ⟨t + 1, ws2.set t (schW m t), by go_num, by omega, by omega, ?_, by rw [List.length_set]; exact HWL2.out, fun j hj => ?_⟩
              · have hz : (rr x14 17 ^^^ rr x14 19 ^^^ x14 >>> 10) + x9 + (rr x1 7 ^^^ rr x1 18 ^^^ x1 >>> 3) + x0 = schW m t := by
                  rw [HX.out.2]; unfold sS0 sS1; rfl
                rw [hz]
                exact HW9.out.setW t _
              · rcases Nat.lt_succ_iff_lt_or_eq.1 hj with h1 | rfl
                · rw [List.getElem?_set_ne (by omega)]; exact HWS2.out j h1
                · rw [List.getElem?_set_self (by have := HWL2.out; omega)]
        · obtain rfl : t = 64 := by omega
          clear ht ht64 ht16
          have HST := Lib.hid HW2.out.st
          have hi8 : (Tryd.prog.info? 79).map (·.size) = some (hs.map wC).toArray.size := by rw [HHS.out]; kernel_rfl
          have HI8 := Lib.hid hi8
          clear hi8
          obtain ⟨T10, hT10⟩ : ∃ T, T = wr.heap.size := ⟨_, rfl⟩
          have HT10 := Lib.hid hT10
          clear hT10
          have hsz : ((List.replicate 8 (0 : Wd)).map wC).toArray.size = (hs.map wC).toArray.size := by rw [HHS.out]; rfl
          have HSZ := Lib.hid hsz
          clear hsz
          go_upto_region 13 with (first | (refine wpList_load_row rfl 79 (.tmp 2) rfl T2 rfl 79 _ (0, 0) _ HST.out Tryd.underlying79 rfl HI8.out ?_) | (refine wpList_store_row rfl 79 (.tmp 10) (.tmp 98) rfl wr.heap.size _ rfl rfl 79 ((List.replicate 8 (0 : Wd)).map wC).toArray (heap_alloc_new wr _) HI8.out HSZ.out wc_one ?_))
          simp only [Act.put]
          rw [show #[Value.int IntKind.u32 0, Value.int IntKind.u32 0, Value.int IntKind.u32 0, Value.int IntKind.u32 0, Value.int IntKind.u32 0, Value.int IntKind.u32 0, Value.int IntKind.u32 0, Value.int IntKind.u32 0] = ((List.replicate 8 (0 : Wd)).map wC).toArray from rfl]
          have HR0 : Hid (RdS w ((wr.alloc (.cells ((List.replicate 8 (0 : Wd)).map wC).toArray 79)).setRow wr.heap.size (hs.map wC).toArray) T2 T10 hs ws2 hs) := Lib.hid (by
            rw [HT10.out]
            have hb := HW2.out.ext' (Ext.alloc wr (.cells ((List.replicate 8 (0 : Wd)).map wC).toArray 79))
            have hl := HW2.out.sch.lt
            have hn := Blk.new wr ((List.replicate 8 (0 : Wd)).map wC).toArray 79
            exact RdS.mk' hb hn (by omega) _)
          rw [← HT10.out] at HR0 ⊢
          generalize (wr.alloc (.cells ((List.replicate 8 (0 : Wd)).map wC).toArray 79)).setRow T10 (hs.map wC).toArray = W3 at *
          obtain ⟨S0, hS0⟩ : ∃ S : H8, S = ⟨h0, h1, h2, h3, h4, h5, h6, h7⟩ := ⟨_, rfl⟩
          have HS0 := Lib.hid hS0
          clear HST HI8 HSZ HT10 HW2 hS0 HW0
          go_wp2_with fail
          go_loopg [11] 64 (fun gg v11 wr => ∃ (t : Nat) (s : H8), v11 = .int .i64 (t : Int) ∧ t + gg = 64 ∧ s = rndsW kW m S0 t ∧ RdS w wr T2 T10 hs ws2 [s.a, s.b, s.c, s.d, s.e, s.f, s.g, s.h])
          case atStart => exact ⟨0, S0, rfl, by omega, rfl, by have := HR0.out; rw [HS0.out]; dsimp only; rw [← HHS.out]; exact this⟩
          case round =>
            obtain ⟨t, ⟨a, b, c1, d, e, f, g1, h⟩, rfl, ht64, hs2, hR⟩ := hrel
            dsimp only at hR
            have HR := Lib.hid hR; have HS2 := Lib.hid hs2
            clear hR hs2
            by_cases ht : t < 64
            · have ht' : (t : Int) < 64 := by omega
              have hR := HR.out
              have k0 := wblk_cell (j := 0) hR.v rfl; have k1 := wblk_cell (j := 1) hR.v rfl; have k2 := wblk_cell (j := 2) hR.v rfl; have k4 := wblk_cell (j := 4) hR.v rfl; have k5 := wblk_cell (j := 5) hR.v rfl; have k6 := wblk_cell (j := 6) hR.v rfl; have k7 := wblk_cell (j := 7) hR.v rfl
              have kk : wr.cell? ⟨2, t, none⟩ = some (.int .u32 (iw (kW t))) := (HT.out.ext hR.base.ext).cs t (by omega)
              have kx := wblk_cell hR.base.sch (HWS2.out t ht)
              obtain ⟨x0, hx0⟩ : ∃ x, x = schW m t := ⟨_, rfl⟩
              rw [← hx0] at kx
              have HX := Lib.hid hx0
              have hadd := iw_add; have hxor := iw_xor; have hand := iw_and; have hnot := unot32
              clear hR hx0 ht
              go_upto_region 18 with fail
              go_big_quiet (exact Calls.quiet_of_same (rot_any _ _ _ (by decide)))
              generalize hwq : wr.drewN _ = W1
              have hE1 : Ext wr W1 := by rw [← hwq]; exact Ext.drewN _ _
              have HR1 := Lib.hid (HR.out.ext' hE1)
              clear hwq hE1 k0 k1 k2 k4 k5 k6 k7 kk kx
              have k1 := wblk_cell (j := 1) HR1.out.v rfl; have k2 := wblk_cell (j := 2) HR1.out.v rfl
              go_upto_region 19 with fail
              go_big_quiet (exact Calls.quiet_of_same (rot_any _ _ _ (by decide)))
              generalize hwq : W1.drewN _ = W2
              have hE1 : Ext W1 W2 := by rw [← hwq]; exact Ext.drewN _ _
              have HR2 := Lib.hid (HR1.out.ext' hE1)
              clear hwq hE1 k1 k2
              go_wp2_with fail
              go_loopg [16] 7 (fun gg v16 wr => ∃ k : Nat, v16 = .int .i64 (k : Int) ∧ gg = k ∧ k ≤ 7 ∧ RdS w wr T2 T10 hs ws2 (shl ⟨a, b, c1, d, e, f, g1, h⟩ k))
              case atStart => exact ⟨7, rfl, rfl, Nat.le_refl _, HR2.out⟩
              case round =>
                obtain ⟨k, rfl, hgk, hk7, hR⟩ := hrel
                have HR3 := Lib.hid hR; have HG := Lib.hid hgk
                clear hR hgk
                by_cases hk : k = 0
                · subst hk
                  have h3 : RdS w wr T2 T10 hs ws2 [a, a, b, c1, d, e, f, g1] := HR3.out
                  have k4 := wblk_cell (j := 4) h3.v rfl
                  have f4 := h3.v.free 4
                  have k0 := wblk_cell (j := 0) h3.v rfl
                  have f0 := h3.v.free 0
                  have H3 := Lib.hid h3
                  clear h3 hk7
                  go_wp2_with fail
                  go_roundg (64 - (t + 1))
                  case measure => omega
                  case rel =>
                    refine ⟨t + 1, rndW ⟨a, b, c1, d, e, f, g1, h⟩ (kW t) x0, by go_num, by omega, by rw [rndsW, ← HS2.out, HX.out], ?_⟩
                    have h5 := (H3.out.set 4 (d + (h + (rr e 6 ^^^ rr e 11 ^^^ rr e 25) + (e &&& f ^^^ ~~~e &&& g1) + kW t + x0))).set 0 (h + (rr e 6 ^^^ rr e 11 ^^^ rr e 25) + (e &&& f ^^^ ~~~e &&& g1) + kW t + x0 + ((rr a 2 ^^^ rr a 13 ^^^ rr a 22) + (a &&& b ^^^ a &&& c1 ^^^ b &&& c1)))
                    exact h5
                · obtain ⟨p, hp⟩ : ∃ p, k = p + 1 := ⟨k - 1, by omega⟩
                  have hz : (k : Int) - 1 = (p : Int) := by omega
                  have hk0 : (0 : Int) < (k : Int) := by omega
                  have hk8 : (k : Int) < 8 := by omega
                  have hp8 : (p : Int) < 8 := by omega
                  obtain ⟨x, y, hx, hy, hxy⟩ := shl_step ⟨a, b, c1, d, e, f, g1, h⟩ p (by omega)
                  rw [← hp] at hx hy hxy
                  have kp := wblk_cell HR3.out.v hx
                  have kq := wblk_cell HR3.out.v hy
                  have fq := HR3.out.v.free k
                  have HXY := Lib.hid hxy; have HP := Lib.hid hp
                  clear hx hy hxy hp hk hadd hxor hand hnot hk7 HR1 HR2 HR
                  go_wp2_with fail
                  go_roundg p
                  case measure => have := HP.out; have := HG.out; omega
                  case rel =>
                    refine ⟨p, by go_num, rfl, by omega, ?_⟩
                    rw [← HXY.out]
                    exact HR3.out.set k x
            · obtain rfl : t = 64 := by omega
              obtain ⟨SL, hSL⟩ : ∃ S : List Wd, S = [a, b, c1, d, e, f, g1, h] := ⟨_, rfl⟩
              rw [← hSL] at HR
              have HSL := Lib.hid hSL
              clear hSL ht ht64 HR0
              go_wp2_with fail
              go_loopg [17] 8 (fun gg v17 wr => ∃ (i : Nat) (os : List Wd), v17 = .int .i64 (i : Int) ∧ i + gg = 8 ∧ RdS w wr T2 T10 os ws2 SL ∧ os = (List.zipWith (· + ·) hs SL).take i ++ hs.drop i)
              case atStart => exact ⟨0, hs, rfl, by omega, HR.out, by simp⟩
              case round =>
                obtain ⟨i, os, rfl, hi8, hR5, hos⟩ := hrel
                have HR5 := Lib.hid hR5; have HOS := Lib.hid hos
                clear hR5 hos
                by_cases hi : i < 8
                · have hi' : (i : Int) < 8 := by omega
                  obtain ⟨x, hx⟩ : ∃ x, SL[i]? = some x := ⟨_, List.getElem?_eq_getElem (by rw [HSL.out]; simpa using hi)⟩
                  obtain ⟨y, hy⟩ : ∃ y, hs[i]? = some y := ⟨_, List.getElem?_eq_getElem (by rw [HHS.out]; simpa using hi)⟩
                  have hoy : os[i]? = some y := by
                    have hl : ((List.zipWith (· + ·) hs SL).take i).length = i := by rw [List.length_take, List.length_zipWith, HHS.out, HSL.out]; simp; omega
                    rw [HOS.out, List.getElem?_append_right (by omega), hl, Nat.sub_self, List.getElem?_drop]; exact hy
                  have c0 := wblk_cell HR5.out.base.st hoy
                  have c2 := wblk_cell HR5.out.v hx
                  have hadd := iw_add
                  have HY := Lib.hid (And.intro hx (And.intro hy hoy))
                  clear hi hx hy hoy
                  go_upto_region 29 with fail
                  apply Mono.region1 8 Ext (.is _ :: .is _ :: .is _ :: .is _ :: .is _ :: .is _ :: .is _ :: .is _ ::  []) (by kernel_rfl) Ext.refl (fun _ _ _ => Ext.trans) (by kernel_rfl) rfl rfl trivial
                  focus
                    iterate 8 (apply Mono.step_is; (· refine Mono.obl_mk fun w9 hE9 _ K hK => ?_; have q0 := hE9.cell (show wr.drew.cell? _ = _ from c0); have q2 := hE9.cell (show wr.drew.cell? _ = _ from c2); clear hE9; go_wp2_with fail; simp only [Act.put, List.setIfInBounds_toArray, List.set_cons_succ, List.set_cons_zero] at hK; exact hK _ _ (Ext.refl _) (Mono.is_rfl _ _)); simp only [Act.put, List.setIfInBounds_toArray, List.set_cons_succ, List.set_cons_zero])

                    refine Mono.step_end fun w9 hE9 hkn => ?_
                    simp only [List.drop_succ_cons, List.drop_zero]
                    replace hE9 : Ext wr w9 := (Ext.drew wr).trans hE9
                    have q0 := hE9.cell c0
                    have HR9 := Lib.hid (HR5.out.ext' hE9)
                    have f0 := HR9.out.base.st.free i
                    clear hkn hE9 c0 c2
                    go_wp2_with fail
                    go_roundg (8 - (i + 1))
                    case measure => omega
                    case rel =>
                      obtain ⟨hx, hy, hoy⟩ := HY.out
                      refine ⟨i + 1, os.set i (y + x), by go_num, by omega, HR9.out.setH i _, ?_⟩
                      have hz : (List.zipWith (· + ·) hs SL)[i]? = some (y + x) := by rw [List.getElem?_zipWith, hy, hx]
                      have hl : ((List.zipWith (· + ·) hs SL).take i).length = i := by rw [List.length_take]; have := (List.getElem?_eq_some_iff.1 hz).1; omega
                      rw [HOS.out, List.set_append_right _ _ (by omega), hl, Nat.sub_self, List.take_add_one, hz]
                      have hd : hs.drop i = y :: hs.drop (i + 1) := by
                        obtain ⟨hi2, rfl⟩ := List.getElem?_eq_some_iff.1 hy
                        exact List.drop_eq_getElem_cons hi2
                      rw [hd]
                      simp
                · obtain rfl : i = 8 := by omega
                  have hfin : os = blkO [h0, h1, h2, h3, h4, h5, h6, h7] bs := by
                    rw [HOS.out, HHS.out, HSL.out]
                    unfold blkO
                    rw [← HM.out, show (⟨([h0, h1, h2, h3, h4, h5, h6, h7] : List Wd).getD 0 0, ([h0, h1, h2, h3, h4, h5, h6, h7] : List Wd).getD 1 0, ([h0, h1, h2, h3, h4, h5, h6, h7] : List Wd).getD 2 0, ([h0, h1, h2, h3, h4, h5, h6, h7] : List Wd).getD 3 0, ([h0, h1, h2, h3, h4, h5, h6, h7] : List Wd).getD 4 0, ([h0, h1, h2, h3, h4, h5, h6, h7] : List Wd).getD 5 0, ([h0, h1, h2, h3, h4, h5, h6, h7] : List Wd).getD 6 0, ([h0, h1, h2, h3, h4, h5, h6, h7] : List Wd).getD 7 0⟩ : H8) = S0 from HS0.out.symm, ← HS2.out]
                    rfl
                  have hl8 : os.length = 8 := by rw [hfin]; unfold blkO; simp
                  obtain ⟨z, hz1, hz2⟩ := HR5.out.base.ans
                  have hi8' : (Tryd.prog.info? 79).map (·.size) = some (os.map wC).toArray.size := by
                    rw [show (os.map wC).toArray.size = 8 by simp [hl8]]; kernel_rfl
                  have HI8 := Lib.hid hi8'; have HZ1 := Lib.hid hz1; have HZ := Lib.hid hz2; have HL8 := Lib.hid hl8; have HFIN := Lib.hid hfin
                  have HST := Lib.hid HR5.out.base.st
                  clear hi8' hz1 hz2 hl8 hfin hi hi8
                  go_wp2_with (first | (refine wpList_load_row rfl 79 (.tmp 2) rfl T2 rfl 79 _ (0, 0) _ HST.out Tryd.underlying79 rfl HI8.out ?_) | (refine wpList_store_row rfl 79 (.tmp 4) (.tmp 192) rfl (T2 + 1) _ rfl rfl 79 z HZ.out HI8.out (by rw [HZ1.out]; simp [HL8.out]) wc_one ?_))
                  exact blk_ret (T2 + 1) _ (by simp [HL8.out]) _ _ _ (setRow_heap wr (T2 + 1) _ _ _ (0, 0) HZ.out) rfl ⟨by rw [HFIN.out, HHS.out], HR5.out.base.fin _⟩
end Go.Proofs.YtgefphfnicjbiaaDoor
