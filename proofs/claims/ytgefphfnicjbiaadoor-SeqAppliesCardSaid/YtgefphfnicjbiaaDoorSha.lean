/- Layer 3 (sha): the document's Sum. -/
import Derived.Test.YtgefphfnicjbiaaDoorSh9
import Derived.Test.YtgefphfnicjbiaaDoorBun3
set_option linter.unusedSimpArgs false
set_option linter.unusedVariables false
namespace Go.Proofs.YtgefphfnicjbiaaDoor
open Go Go.RowKit

def gsL : List Wd := (List.range 8).map gW
theorem blkO_abs (o : List Wd) (ho : o.length = 8) (bs : List Int) : blkO (List.zipWith (· + ·) gsL o) bs = List.zipWith (· + ·) gsL (mixO o bs) := by
  match o, ho with
  | [o0, o1, o2, o3, o4, o5, o6, o7], _ =>
    show List.zipWith (· + ·) [gW 0 + o0, gW 1 + o1, gW 2 + o2, gW 3 + o3, gW 4 + o4, gW 5 + o5, gW 6 + o6, gW 7 + o7] _ = List.zipWith (· + ·) [gW 0, gW 1, gW 2, gW 3, gW 4, gW 5, gW 6, gW 7] _
    simp only [mixO, List.zipWith_cons_cons, List.zipWith_nil_left, BitVec.add_assoc, List.getD_cons_zero, List.getD_cons_succ]
    rfl
theorem block_l (g oo n c : Nat) (h : List Wd) (hl : h.length = 8) (bs : List Int) (w : World) (hn : n = 64) (hc : n ≤ c) (hc2 : c ≤ 9223372036854775807)
    (hb : ∀ j, j < 64 → w.cell? ⟨g, oo + j, none⟩ = some (.int .u8 (bs.getD j 0))) (hb8 : ∀ j, j < 64 → 0 ≤ bs.getD j 0 ∧ bs.getD j 0 ≤ 255) (hT : Tabs w) :
    Calls Tryd.prog 68 #[.agg (h.map wC).toArray, .slice (some ⟨g, oo, none⟩) n c] w fun e w' => e = .returned (.agg ((blkO h bs).map wC).toArray) ∧ Ext w w' := by
  match h, hl with
  | [h0, h1, h2, h3, h4, h5, h6, h7], _ => exact block_c g oo n c h0 h1 h2 h3 h4 h5 h6 h7 bs w hn hc hc2 hb hb8 hT
theorem rsum_ret (b : Nat) (cs : Array Value) (hs : cs.size = 32) (F : World) (tmps : Array Value) (R : Ending → World → Prop) (hB : Blk F b cs 63)
    (hz : tmps[2]? = some (.pointer (some ⟨b, 0, none⟩))) (h : R (.returned (.agg cs)) F) :
    bodyPost Tryd.prog Tryd.f66 R .ret { tmps := tmps, defers := [] } F := by
  refine bodyPost_ret ?_ rfl h
  exact results_cell_row Tryd.results66 tmps F b _ cs (0, 0) _ (by simp [hz]) hB Tryd.underlying63 rfl (by rw [hs]; kernel_rfl)
/-- The answer's place, and a text under way. -/
structure RsS (w W : World) (T2 : Nat) (v : Value) (n : Nat) (xs : List Int) : Prop where
  ext : Ext w W
  ans : Blk W T2 (u8s (List.replicate 32 0)).toArray 63
  own : W.ownsRow (T2 + 1) 5 1 v n (u8s xs)
  low : w.heap.size ≤ T2
theorem RsS.grow {w W W' : World} {T2 : Nat} {v v' : Value} {n n' : Nat} {xs ys : List Int} (h : RsS w W T2 v n xs) (hg : W.grownBy W' v.ownBlock) (ho : W'.ownsRow (T2 + 1) 5 1 v' n' (u8s ys)) : RsS w W' T2 v' n' ys := by
  have hb : ∀ t ∈ v.ownBlock.toList, T2 + 1 ≤ t := fun t ht => (own_type h.own t ht).1
  have hC : Chg v.ownBlock.toList W W' := Chg.grown hg
  have := h.low
  exact ⟨((Chg.ext h.ext : Chg v.ownBlock.toList w W).trans hC).toExt (fun t ht => by have := hb t ht; omega), h.ans.chg hC (fun ht => by have := hb _ ht; omega), ho, h.low⟩
/-- .. and the words under way. -/
structure RtS (w W : World) (T2 : Nat) (v : Value) (n : Nat) (xs : List Int) (T6 : Nat) (h : List Wd) : Prop where
  base : RsS w W T2 v n xs
  hw : Blk W T6 (h.map wC).toArray 79
  far : T2 < T6
theorem RtS.off {w W : World} {T2 : Nat} {v : Value} {n : Nat} {xs : List Int} {T6 : Nat} {z : Array Value} (h : RsS w W T2 v n xs) (hw : Blk W T6 z 79) : ∀ t ∈ v.ownBlock.toList, t ∉ [T6] := fun t ht hm => by
  obtain ⟨_, _, c, hc⟩ := own_type h.own t ht
  simp at hm; subst hm
  exact absurd (blk_type hc hw) (by decide)
theorem RtS.put {w W : World} {T2 : Nat} {v : Value} {n : Nat} {xs : List Int} {T6 : Nat} {z : Array Value} (h : RsS w W T2 v n xs) (hw : Blk W T6 z 79) (hf : T2 < T6) (hs : List Wd) : RtS w (W.setRow T6 (hs.map wC).toArray) T2 v n xs T6 hs := by
  have hg : W.grownBy (W.setRow T6 (hs.map wC).toArray) (some T6) := ⟨rfl, rfl, rfl, by simp [World.setRow], fun k _ hk => setRow_other W T6 k _ (fun e => hk (by rw [e]))⟩
  have hC : Chg [T6] W (W.setRow T6 (hs.map wC).toArray) := Chg.some hg (.inl (by simp))
  have := h.low
  exact ⟨⟨((Chg.ext h.ext : Chg [T6] w W).trans hC).toExt (fun t ht => by simp at ht; omega), h.ans.chg hC (by simp; omega), own_off h.own hC (RtS.off h hw), h.low⟩, setRow_heap W T6 _ _ _ (0, 0) hw, hf⟩
theorem RtS.ext' {w W W' : World} {T2 : Nat} {v : Value} {n : Nat} {xs : List Int} {T6 : Nat} {hs : List Wd} (h : RtS w W T2 v n xs T6 hs) (hE : Ext W W') : RtS w W' T2 v n xs T6 hs :=
  ⟨⟨h.base.ext.trans hE, h.base.ans.ext hE, own_ext h.base.own hE, h.base.low⟩, h.hw.ext hE, h.far⟩
/-- The words made, the bytes under way. -/
structure RvS (w W : World) (T2 T6 T8 : Nat) (ws : List Wd) (out : List Int) : Prop where
  ext : Ext w W
  ans : Blk W T2 (u8s (List.replicate 32 0)).toArray 63
  hw : Blk W T6 (ws.map wC).toArray 79
  out : Blk W T8 (u8s out).toArray 63
  far : T2 < T8
  far6 : T6 < T8
  low : w.heap.size ≤ T2
theorem RvS.set {w W : World} {T2 T6 T8 : Nat} {ws : List Wd} {out : List Int} (h : RvS w W T2 T6 T8 ws out) (j : Nat) (x : Int) : RvS w (W.setCell ⟨T8, j, none⟩ (.int .u8 x)) T2 T6 T8 ws (out.set j x) := by
  have h1 := h.out.set j (.int .u8 x)
  rw [List.setIfInBounds_toArray, show (u8s out).set j (Value.int .u8 x) = u8s (out.set j x) by simp [u8s, List.map_set]] at h1
  have hC : Chg [T8] W (W.setCell ⟨T8, j, none⟩ (.int .u8 x)) := Chg.set T8 j _ (by simp)
  have := h.low; have := h.far; have := h.far6
  exact ⟨((Chg.ext h.ext : Chg [T8] w W).trans hC).toExt (fun t ht => by simp at ht; subst ht; omega), h.ans.chg hC (by simp; omega), h.hw.chg hC (by simp; omega), h1, h.far, h.far6, h.low⟩
theorem zN_go {L k : Nat} (h : k < zN L) : (L + 1 + k) % 64 ≠ 56 := by unfold zN at h; omega
theorem zN_end (L : Nat) : (L + 1 + zN L) % 64 = 56 := by unfold zN; omega
set_option maxRecDepth 100000 in
set_option maxHeartbeats 8000000 in
theorem rsum_c (X : List Int) (bv : Value) (w : World) (hX8 : ∀ x ∈ X, 0 ≤ x ∧ x ≤ 255) (hb : Rd w bv (u8s X)) (hl : X.length ≤ 140737488355000) (hT : Tabs w) :
    Calls Tryd.prog 66 #[bv] w fun e w' => e = .returned (.agg (u8s (shaB X)).toArray) ∧ Ext w w' := by
  obtain ⟨ba, bn, bc, rfl⟩ := hb.shape
  have hbn : bn = X.length := by obtain ⟨a, c, h, -⟩ := hb; cases h; simp [u8s]
  subst hbn
  obtain ⟨L, hL⟩ : ∃ L, L = X.length := ⟨_, rfl⟩
  rw [← hL] at hl hb ⊢
  have HRB := Lib.hid hb; have HT := Lib.hid hT; have HX8 := Lib.hid hX8; have HL := Lib.hid hL
  clear hb hT hX8 hL
  go_enter Tryd.func66, Tryd.ntmps66
  go_upto_region 1 with fail
  rw [show #[Value.int IntKind.u8 0, Value.int IntKind.u8 0, Value.int IntKind.u8 0, Value.int IntKind.u8 0, Value.int IntKind.u8 0, Value.int IntKind.u8 0, Value.int IntKind.u8 0, Value.int IntKind.u8 0, Value.int IntKind.u8 0, Value.int IntKind.u8 0, Value.int IntKind.u8 0, Value.int IntKind.u8 0, Value.int IntKind.u8 0, Value.int IntKind.u8 0, Value.int IntKind.u8 0, Value.int IntKind.u8 0, Value.int IntKind.u8 0, Value.int IntKind.u8 0, Value.int IntKind.u8 0, Value.int IntKind.u8 0, Value.int IntKind.u8 0, Value.int IntKind.u8 0, Value.int IntKind.u8 0, Value.int IntKind.u8 0, Value.int IntKind.u8 0, Value.int IntKind.u8 0, Value.int IntKind.u8 0, Value.int IntKind.u8 0, Value.int IntKind.u8 0, Value.int IntKind.u8 0, Value.int IntKind.u8 0, Value.int IntKind.u8 0] = (u8s (List.replicate 32 0)).toArray from rfl]
  have hBA := Blk.new w (u8s (List.replicate 32 0)).toArray 63
  have hEA := Ext.alloc w (.cells (u8s (List.replicate 32 0)).toArray 63)
  have hSA : (w.alloc (.cells (u8s (List.replicate 32 0)).toArray 63)).heap.size = w.heap.size + 1 := by simp [World.size_alloc]
  obtain ⟨T2, hT2⟩ : ∃ T, T = w.heap.size := ⟨_, rfl⟩
  rw [← hT2] at hBA hSA ⊢
  generalize w.alloc (.cells (u8s (List.replicate 32 0)).toArray 63) = W0 at *
  have HS0 : Hid (RsS w (W0.alloc (.cells ([] : List Value).toArray 5)) T2 (.slice (some ⟨T2 + 1, 0, none⟩) 0 0) 0 []) := Lib.hid (by
    refine ⟨hEA.trans (Ext.alloc _ _), hBA.alloc _, ?_, by omega⟩
    have := own_lit W0 [] 5 (Nat.zero_le _)
    rw [hSA] at this
    exact this)
  have hT2' : w.heap.size ≤ T2 := by omega
  have hSB : T2 + 1 ≤ (W0.alloc (.cells ([] : List Value).toArray 5)).heap.size := by simp [World.size_alloc, hSA]
  have HSA := Lib.hid hSA; have HSB := Lib.hid hSB
  have hrd : Rd (W0.alloc (.cells ([] : List Value).toArray 5)) (.slice ba L bc) (u8s X) := HRB.out.ext HS0.out.ext
  have HRD := Lib.hid hrd
  clear hT2 hBA hEA hSA hSB hrd
  go_wp2_with (at_builtin; try rw [HSA.out]; refine wpList_append_rd rfl (.tmp 10) (.tmp 11) _ rfl el8 (T2 + 1) _ 0 [] (u8s X) rfl HS0.out.own _ rfl HRD.out (u8s_one X) (by rw [u8s_len, ← HL.out]; omega) (by rw [u8s_len, ← HL.out]; unfold maxLen; omega) HSB.out ?_)
  intro v1 w1 ho1 hg1
  have HS1 := Lib.hid (HS0.out.grow (n' := L) (ys := X) hg1 (by have h := ho1; rw [u8s_len, ← HL.out] at h; exact h))
  clear ho1 hg1 HS0 HRD HSA HSB hT2'
  go_wp2_with (at_builtin; refine wpList_push rfl (.tmp 12) (.tmp 13) _ rfl el8 (T2 + 1) _ _ _ (.int .u8 128) rfl HS1.out.own 5 rfl rfl (by omega) (by unfold maxLen; omega) (by have := HS1.out.ans.lt; omega) ?_)
  intro v2 w2 ho2 hg2
  have HS2 := Lib.hid (HS1.out.grow (ys := X ++ [128]) hg2 (by rw [u8s_append]; exact ho2))
  clear ho2 hg2 HS1
  go_wp2_with fail
  go_loopg [3] (zN L) (fun gg v3 wr => ∃ k : Nat, k + gg = zN L ∧ RsS w wr T2 v3 (L + 1 + k) (X ++ 128 :: List.replicate k 0))
  case atStart => exact ⟨0, by omega, HS2.out⟩
  case round =>
    obtain ⟨k, hk, hS⟩ := hrel
    have hzl : zN L < 64 := by unfold zN; omega
    obtain ⟨n3, hn3⟩ : ∃ n, n = L + 1 + k := ⟨_, rfl⟩
    rw [← hn3] at hS
    obtain ⟨a3, c3, rfl, hc3a, hc3b, -⟩ := own_slice hS.own
    have HS3 := Lib.hid hS; have HN3' := Lib.hid hn3
    clear hS hn3
    by_cases hz : k < zN L
    · have hm : ¬ ((n3 : Int) % 64 = 56) := by have := zN_go hz; have := HN3'.out; omega
      go_wp2_with (at_builtin; refine wpList_push rfl (.tmp 19) (.tmp 20) _ rfl el8 (T2 + 1) _ _ _ (.int .u8 0) rfl HS3.out.own 5 rfl rfl (by have := HN3'.out; omega) (by have := HN3'.out; unfold maxLen; omega) (by have := HS3.out.ans.lt; omega) ?_)
      intro v4 w4 ho4 hg4
      have HS4 := Lib.hid (HS3.out.grow (n' := L + 1 + (k + 1)) (ys := X ++ 128 :: List.replicate (k + 1) 0) hg4 (by
        have e : X ++ 128 :: List.replicate (k + 1) 0 = X ++ 128 :: List.replicate k 0 ++ [0] := by rw [List.replicate_succ']; simp
        rw [e, u8s_append, ← Nat.add_assoc, ← HN3'.out]; exact ho4))
      clear ho4 hg4
      go_wp2_with fail
      go_roundg (zN L - (k + 1))
      case measure => omega
      case rel => exact ⟨k + 1, by omega, HS4.out⟩
    · obtain rfl : k = zN L := by omega
      have hm : (n3 : Int) % 64 = 56 := by have := zN_end L; have := HN3'.out; omega
      clear hk hz
      go_wp2_with fail
      go_loopg [3, 5] 8 (fun gg v3 v5 wr => ∃ j : Nat, v5 = .int .i64 (7 - (j : Int)) ∧ j + gg = 8 ∧ RsS w wr T2 v3 (n3 + j) (X ++ 128 :: (List.replicate (zN L) 0 ++ (lenB L).take j)))
      case atStart => exact ⟨0, rfl, by omega, by rw [List.take_zero, List.append_nil]; exact HS3.out⟩
      case round =>
        obtain ⟨j, rfl, hj, hS⟩ := hrel
        obtain ⟨n4, hn4⟩ : ∃ n, n = n3 + j := ⟨_, rfl⟩
        rw [← hn4] at hS
        obtain ⟨a4, c4, rfl, hc4a, hc4b, hc4⟩ := own_slice hS.own
        have HS4 := Lib.hid hS; have HN4 := Lib.hid hn4; have HC4 := Lib.hid hc4
        clear hS hn4 hc4
        by_cases hj8 : j < 8
        · obtain ⟨p, hp⟩ : ∃ p, p = 7 - j := ⟨_, rfl⟩
          obtain ⟨s, hs⟩ : ∃ s, s = 8 * p := ⟨_, rfl⟩
          have hz7 : 7 - (j : Int) = (p : Int) := by omega
          have hz8 : (8 : Int) * (p : Int) = (s : Int) := by omega
          have hs56 : (s : Int) ≤ 56 := by omega
          have HP := Lib.hid hp; have HSs := Lib.hid hs
          clear hp hs hm
          go_wp2_with (at_builtin; refine wpList_push rfl (.tmp 30) (.tmp 37) _ rfl el8 (T2 + 1) _ _ _ _ rfl HS4.out.own 5 rfl rfl (by have := HN3'.out; have := HN4.out; omega) (by have := HN3'.out; have := HN4.out; unfold maxLen; omega) (by have := HS4.out.ans.lt; omega) ?_)
          intro v5 w5 ho5 hg5
          have HS5 := Lib.hid (HS4.out.grow (n' := n3 + (j + 1)) (ys := X ++ 128 :: (List.replicate (zN L) 0 ++ (lenB L).take (j + 1))) hg5 (by
            have hv : (L : Int) * 8 / 2 ^ s % 256 = lenI L j := by
              unfold lenI
              have h1 := HP.out; have h2 := HSs.out
              rw [show 56 - 8 * j = s by omega]
              push_cast; rfl
            have hlj : (lenB L)[j]? = some (lenI L j) := by unfold lenB; rw [List.getElem?_map, List.getElem?_range hj8]; rfl
            have e : X ++ 128 :: (List.replicate (zN L) 0 ++ (lenB L).take (j + 1)) = X ++ 128 :: (List.replicate (zN L) 0 ++ (lenB L).take j) ++ [lenI L j] := by
              rw [List.take_add_one, hlj]; simp
            rw [e, u8s_append, ← Nat.add_assoc, ← HN4.out, ← hv]; exact ho5))
          clear ho5 hg5
          go_wp2_with fail
          go_roundg (8 - (j + 1))
          case measure => omega
          case rel => exact ⟨j + 1, by go_num, by omega, HS5.out⟩
        · obtain rfl : j = 8 := by omega
          clear hj hj8
          obtain ⟨P, hP⟩ : ∃ P, P = padT X := ⟨_, rfl⟩
          have hPe : X ++ 128 :: (List.replicate (zN L) 0 ++ (lenB L).take 8) = P := by
            rw [hP, HL.out, List.take_of_length_le (by rw [lenB_len]; omega)]; rfl
          rw [hPe] at HS4
          have hPl : n4 = P.length := by have := padT_len X; have h1 := HN4.out; have h2 := HN3'.out; rw [HL.out] at h2; rw [hP, this]; omega
          have hP64 : P.length % 64 = 0 := by have h1 := HN4.out; have h2 := HN3'.out; have h3 := zN_end L; omega
          obtain ⟨g, rfl⟩ := HC4.out (by have := HN4.out; omega)
          have HP := Lib.hid hP; have HPL := Lib.hid hPl; have HP64 := Lib.hid hP64
          clear hP hPe hPl hP64
          obtain ⟨T6, hT6⟩ : ∃ T, T = wr.heap.size := ⟨_, rfl⟩
          have HT6 := Lib.hid hT6
          clear hT6
          go_upto_region 10 with (refine wpList_store_row rfl 79 (.tmp 6) (.tmp 39) rfl wr.heap.size (gsL.map wC).toArray rfl rfl 79 ((List.replicate 8 (0 : Wd)).map wC).toArray (heap_alloc_new wr _) (by kernel_rfl) (by kernel_rfl) wc_one ?_)
          simp only [Act.put]
          rw [show #[Value.int IntKind.u32 0, Value.int IntKind.u32 0, Value.int IntKind.u32 0, Value.int IntKind.u32 0, Value.int IntKind.u32 0, Value.int IntKind.u32 0, Value.int IntKind.u32 0, Value.int IntKind.u32 0] = ((List.replicate 8 (0 : Wd)).map wC).toArray from rfl]
          have HR0 : Hid (RtS w ((wr.alloc (.cells ((List.replicate 8 (0 : Wd)).map wC).toArray 79)).setRow wr.heap.size (gsL.map wC).toArray) T2 (.slice (some ⟨g, 0, none⟩) n4 c4) n4 P T6 gsL) := Lib.hid (by
            rw [HT6.out]
            have hE := Ext.alloc wr (.cells ((List.replicate 8 (0 : Wd)).map wC).toArray 79)
            exact RtS.put ⟨HS4.out.ext.trans hE, HS4.out.ans.ext hE, own_ext HS4.out.own hE, HS4.out.low⟩ (Blk.new wr _ _) (by have := HS4.out.ans.lt; omega) gsL)
          rw [← HT6.out] at HR0 ⊢
          generalize (wr.alloc (.cells ((List.replicate 8 (0 : Wd)).map wC).toArray 79)).setRow T6 (gsL.map wC).toArray = W3 at *
          clear HT6 HC4 hm hzl HS4
          go_wp2_with fail
          go_loopg [7] (P.length / 64) (fun gg v7 wr => ∃ (k q : Nat), q = 64 * k ∧ v7 = .int .i64 (q : Int) ∧ k + gg = P.length / 64 ∧ RtS w wr T2 (.slice (some ⟨g, 0, none⟩) n4 c4) n4 P T6 (List.zipWith (· + ·) gsL (absO P k)))
          case atStart => exact ⟨0, 0, rfl, rfl, by omega, by have := HR0.out; exact this⟩
          case round =>
            obtain ⟨k, q, hq, rfl, hk, hR⟩ := hrel
            have HQ := Lib.hid hq; have HR := Lib.hid hR
            clear hq hR
            by_cases hkl : k < P.length / 64
            · have hq1 : q + 64 ≤ n4 := by have := HQ.out; have := HPL.out; have := HP64.out; omega
              have hq2 : (q : Int) < (n4 : Int) := by omega
              have hsl : ∀ W, (Instr.slice 27 (.slice (some ⟨g, 0, none⟩) n4 c4) (some (.int .i64 (q : Int))) (some (.int .i64 ((q : Int) + 64))) none).run Tryd.prog W = .ok (.slice (some ⟨g, q, none⟩) 64 (c4 - q)) W := by
                intro W
                rw [run_slice_lh W 27 (some ⟨g, 0, none⟩) n4 c4 Tryd.underlying27 .i64 .i64 (q : Int) ((q : Int) + 64) (by omega) (by omega) (by omega)]
                have hsz : (sizeOf (Tryd.prog.elem 27)).run Tryd.prog W = .ok 1 W := rfl
                rw [hsz]
                simp only [Result.andThen, sliced]
                rw [show ((q : Int) + 64).toNat = q + 64 by omega, Int.toNat_natCast, if_neg (by omega), show q + 64 - q = 64 by omega]
                simp [Addr.add]
                omega
              have hq3 : (q : Int) ≤ 140737488400000 := by have h1 := HN4.out; have h2 := HN3'.out; have h3 : zN L < 64 := (by unfold zN; omega); omega
              have hol : (List.zipWith (· + ·) gsL (absO P k)).length = 8 := by simp [gsL, absO_len]
              obtain ⟨h, hh⟩ : ∃ h, h = List.zipWith (· + ·) gsL (absO P k) := ⟨_, rfl⟩
              rw [← hh] at HR hol
              have HH := Lib.hid hh; have HHL := Lib.hid hol
              have hi8 : (Tryd.prog.info? 79).map (·.size) = some (h.map wC).toArray.size := by
                rw [show (h.map wC).toArray.size = 8 by simp [hol]]; kernel_rfl
              have HI8 := Lib.hid hi8
              have HQ1 := Lib.hid hq1
              have HCL : Hid (∀ W, Ext wr W → Calls Tryd.prog 68 #[.agg (h.map wC).toArray, .slice (some ⟨g, q, none⟩) 64 (c4 - q)] W fun e w' => e = .returned (.agg ((blkO h (P.drop q)).map wC).toArray) ∧ Ext W w') := Lib.hid fun W hE =>
                block_l g q 64 (c4 - q) h hol (P.drop q) W rfl (by omega) (by omega) (fun j hj => by
                  refine hE.cell (own_cell HR.out.base.own (q + j) ?_)
                  have : (P.drop q)[j]? = some ((P.drop q).getD j 0) := by rw [List.getD_eq_getElem?_getD, List.getElem?_eq_getElem (by rw [List.length_drop, ← HPL.out]; omega)]; rfl
                  rw [List.getElem?_drop] at this
                  simp only [u8s, List.getElem?_map, this]; rfl) (fun j _ => by
                  have := getD_ok (padT_ok HX8.out) (q + j)
                  rw [← HP.out] at this
                  rwa [List.getD_eq_getElem?_getD, List.getElem?_drop, ← List.getD_eq_getElem?_getD]) (HT.out.ext (HR.out.base.ext.trans hE))
              clear hh hol hi8 hkl hq1
              go_upto_region 13 with fail
              apply Mono.region1 7 Ext [.is _, .is _, .is _, .is _, .is _, .is _, .is _] (by kernel_rfl) Ext.refl (fun _ _ _ => Ext.trans) (by kernel_rfl) rfl rfl trivial
              focus
              apply Mono.step_is
              · refine Mono.obl_mk fun w9 hE9 _ K hK => ?_
                have hb9 : Blk w9 T6 (h.map wC).toArray 79 := HR.out.hw.ext ((Ext.drew wr).trans hE9)
                have HB9 := Lib.hid hb9
                clear hE9 hb9
                go_wp2_with (refine wpList_load_row rfl 79 (.tmp 6) rfl T6 rfl 79 _ (0, 0) _ HB9.out Tryd.underlying79 rfl HI8.out ?_)
                simp only [Act.put, List.setIfInBounds_toArray, List.set_cons_succ, List.set_cons_zero] at hK ⊢
                exact hK _ _ (Ext.refl _) (Mono.is_rfl _ _)
              simp only [Act.put, List.setIfInBounds_toArray, List.set_cons_succ, List.set_cons_zero]
              iterate 5 (apply Mono.step_is; (· refine Mono.obl_mk fun w9 hE9 _ K hK => ?_; clear hE9; go_wp2_with fail; simp only [Act.put, List.setIfInBounds_toArray, List.set_cons_succ, List.set_cons_zero] at hK; exact hK _ _ (Ext.refl _) (Mono.is_rfl _ _)); simp only [Act.put, List.setIfInBounds_toArray, List.set_cons_succ, List.set_cons_zero])
              apply Mono.step_is
              · refine Mono.obl_mk fun w9 hE9 _ K hK => ?_
                have hcl := HCL.out w9 ((Ext.drew wr).trans hE9)
                clear hE9
                go_wp2_with fail
                refine hcl.mono ?_
                rintro e w10 ⟨rfl, hE10⟩
                have HE10 := Lib.hid hE10
                clear hE10 hcl
                go_wp2_with fail
                simp only [Act.put, List.setIfInBounds_toArray, List.set_cons_succ, List.set_cons_zero] at hK
                exact hK _ _ HE10.out (Mono.is_rfl _ _)
              simp only [Act.put, List.setIfInBounds_toArray, List.set_cons_succ, List.set_cons_zero]
              refine Mono.step_end fun w9 hE9 hkn => ?_
              simp only [List.drop_succ_cons, List.drop_zero]
              replace hE9 : Ext wr w9 := (Ext.drew wr).trans hE9
              have HR9 := Lib.hid (HR.out.ext' hE9)
              have hb9 := HR9.out.hw
              have HB9 := Lib.hid hb9
              have hl9 : (blkO h (P.drop q)).length = 8 := by unfold blkO; simp [HHL.out]
              have hi9 : (Tryd.prog.info? 79).map (·.size) = some ((blkO h (P.drop q)).map wC).toArray.size := by
                rw [show ((blkO h (P.drop q)).map wC).toArray.size = 8 by simp [hl9]]; kernel_rfl
              have HI9 := Lib.hid hi9; have HL9 := Lib.hid hl9
              clear hkn hE9 hsl hb9 hi9 hl9
              go_wp2_with (refine wpList_store_row rfl 79 (.tmp 6) (.tmp 52) rfl T6 _ rfl rfl 79 _ HB9.out HI9.out (by simp [HHL.out, HL9.out]) wc_one ?_)
              go_roundg (P.length / 64 - (k + 1))
              case measure => have := HQ.out; have := HPL.out; have := HP64.out; omega
              case rel =>
                have hkl : k < P.length / 64 := by have := HQ.out; have := HPL.out; have := HP64.out; omega
                refine ⟨k + 1, q + 64, by have := HQ.out; omega, by go_num, by omega, ?_⟩
                rw [absO, ← blkO_abs _ (absO_len P k), ← HH.out, ← HQ.out]
                exact RtS.put HR9.out.base HR9.out.hw HR9.out.far _
            · obtain rfl : k = P.length / 64 := by omega
              have hq2 : ¬ ((q : Int) < (n4 : Int)) := by have := HQ.out; have := HPL.out; have := HP64.out; omega
              obtain ⟨ws, hws⟩ : ∃ ws, ws = shaO X := ⟨_, rfl⟩
              have hws2 : List.zipWith (· + ·) gsL (absO P (P.length / 64)) = ws := by rw [hws, HP.out]; rfl
              rw [hws2] at HR
              have hwl : ws.length = 8 := by rw [← hws2]; simp [gsL, absO_len]
              have HWS := Lib.hid hws; have HWL := Lib.hid hwl
              obtain ⟨T8, hT8⟩ : ∃ T, T = wr.heap.size := ⟨_, rfl⟩
              have HT8 := Lib.hid hT8
              clear hT8 hws hws2 hwl hkl hk HR0
              go_upto_region 15 with fail
              rw [show #[Value.int IntKind.u8 0, Value.int IntKind.u8 0, Value.int IntKind.u8 0, Value.int IntKind.u8 0, Value.int IntKind.u8 0, Value.int IntKind.u8 0, Value.int IntKind.u8 0, Value.int IntKind.u8 0, Value.int IntKind.u8 0, Value.int IntKind.u8 0, Value.int IntKind.u8 0, Value.int IntKind.u8 0, Value.int IntKind.u8 0, Value.int IntKind.u8 0, Value.int IntKind.u8 0, Value.int IntKind.u8 0, Value.int IntKind.u8 0, Value.int IntKind.u8 0, Value.int IntKind.u8 0, Value.int IntKind.u8 0, Value.int IntKind.u8 0, Value.int IntKind.u8 0, Value.int IntKind.u8 0, Value.int IntKind.u8 0, Value.int IntKind.u8 0, Value.int IntKind.u8 0, Value.int IntKind.u8 0, Value.int IntKind.u8 0, Value.int IntKind.u8 0, Value.int IntKind.u8 0, Value.int IntKind.u8 0, Value.int IntKind.u8 0] = (u8s (List.replicate 32 0)).toArray from rfl]
              have HV0 : Hid (RvS w (wr.alloc (.cells (u8s (List.replicate 32 0)).toArray 63)) T2 T6 T8 ws (List.replicate 32 0)) := Lib.hid (by
                have hE := Ext.alloc wr (.cells (u8s (List.replicate 32 0)).toArray 63)
                have h1 := HR.out.hw.lt; have h2 := HR.out.base.ans.lt; have h3 := HT8.out
                have hb := Blk.new wr (u8s (List.replicate 32 0)).toArray 63
                rw [← h3] at hb
                exact ⟨HR.out.base.ext.trans hE, HR.out.base.ans.ext hE, HR.out.hw.ext hE, hb, by omega, by omega, HR.out.base.low⟩)
              rw [← HT8.out]
              generalize wr.alloc (.cells (u8s (List.replicate 32 0)).toArray 63) = W5 at *
              clear HT8 HR HQ
              go_wp2_with fail
              go_loopg [9] 32 (fun gg v9 wr => ∃ (i : Nat) (out : List Int), v9 = .int .i64 (i : Int) ∧ i + gg = 32 ∧ RvS w wr T2 T6 T8 ws out ∧ out.length = 32 ∧ ∀ j, j < i → out[j]? = some (digI ws j))
              case atStart => exact ⟨0, _, rfl, by omega, HV0.out, by simp, fun j hj => by omega⟩
              case round =>
                obtain ⟨i, out, rfl, hi32, hV, hol, hz⟩ := hrel
                have HV := Lib.hid hV; have HOL := Lib.hid hol; have HZ := Lib.hid hz
                clear hV hol hz
                by_cases hi : i < 32
                · have hi' : (i : Int) < 32 := by omega
                  obtain ⟨a, ha⟩ : ∃ a, a = i / 4 := ⟨_, rfl⟩
                  obtain ⟨r, hr⟩ : ∃ r, r = i % 4 := ⟨_, rfl⟩
                  obtain ⟨s, hs⟩ : ∃ s, s = 24 - 8 * r := ⟨_, rfl⟩
                  have hz1 : (i : Int) / 4 = (a : Int) := by omega
                  have hz2 : (i : Int) % 4 = (r : Int) := by omega
                  have hz3 : (24 : Int) - 8 * (r : Int) = (s : Int) := by omega
                  have hs24 : (s : Int) ≤ 24 := by omega
                  have ha8 : (a : Int) < 8 := by omega
                  have hr4 : (r : Int) < 4 := by omega
                  obtain ⟨x, hx⟩ : ∃ x, ws[a]? = some x := ⟨_, List.getElem?_eq_getElem (by have := HWL.out; omega)⟩
                  obtain ⟨y, hy⟩ : ∃ y, out[i]? = some y := ⟨_, List.getElem?_eq_getElem (by have := HOL.out; omega)⟩
                  have k6 := wblk_cell HV.out.hw hx
                  have k8 : wr.cell? ⟨T8, i, none⟩ = some (.int .u8 y) := HV.out.out.cell i (by simp [u8s, hy])
                  have f8 := HV.out.out.free i
                  have hx1 := iw_lo x; have hx2 := iw_hi x
                  have HA := Lib.hid ha; have HRr := Lib.hid hr; have HSs := Lib.hid hs; have HXx := Lib.hid hx
                  clear ha hr hs hx hy hi
                  go_wp2_with fail
                  go_roundg (32 - (i + 1))
                  case measure => omega
                  case rel =>
                    have hv : iw x / 2 ^ s % 256 = digI ws i := by
                      unfold digI
                      rw [← HA.out, ← HRr.out, ← HSs.out, List.getD_eq_getElem?_getD, HXx.out]
                      push_cast; rfl
                    rw [hv]
                    refine ⟨i + 1, out.set i (digI ws i), by go_num, by omega, HV.out.set i _, by rw [List.length_set]; exact HOL.out, fun j hj => ?_⟩
                    rcases Nat.lt_succ_iff_lt_or_eq.1 hj with h | rfl
                    · rw [List.getElem?_set_ne (by omega)]; exact HZ.out j h
                    · rw [List.getElem?_set_self (by have := HOL.out; omega)]
                · obtain rfl : i = 32 := by omega
                  have hout : out = shaB X := by
                    apply List.ext_getElem?
                    intro j
                    by_cases hj : j < 32
                    · rw [HZ.out j hj, shaB_get X hj, HWS.out]
                    · rw [List.getElem?_eq_none (by rw [HOL.out]; omega), List.getElem?_eq_none (by rw [shaB_len]; omega)]
                  subst hout
                  have hsz : (u8s (shaB X)).toArray.size = 32 := by simp [u8s, shaB_len]
                  have HSZ := Lib.hid hsz
                  have HB8 := Lib.hid HV.out.out; have HB2 := Lib.hid HV.out.ans
                  clear hsz hi hi32
                  go_wp2_with (first | (refine wpList_load_row rfl 63 (.tmp 8) rfl T8 rfl 63 _ (0, 0) _ HB8.out Tryd.underlying63 rfl (by rw [HSZ.out]; kernel_rfl) ?_) | (refine wpList_store_row rfl 63 (.tmp 2) (.tmp 70) rfl T2 _ rfl rfl 63 _ HB2.out (by rw [HSZ.out]; kernel_rfl) (by rw [HSZ.out]; simp [u8s]) u8a_one ?_))
                  have hE : Ext w (wr.setRow T2 (u8s (shaB X)).toArray) := by
                    have hg : wr.grownBy (wr.setRow T2 (u8s (shaB X)).toArray) (some T2) := ⟨rfl, rfl, rfl, by simp [World.setRow], fun k _ hk => setRow_other wr T2 k _ (fun e => hk (by rw [e]))⟩
                    have := HV.out.low
                    exact ((Chg.ext HV.out.ext : Chg [T2] w wr).trans (Chg.some hg (.inl (by simp)))).toExt (fun t ht => by simp at ht; omega)
                  exact rsum_ret T2 _ HSZ.out _ _ _ (setRow_heap wr T2 _ _ _ (0, 0) HB2.out) rfl ⟨rfl, hE⟩
end Go.Proofs.YtgefphfnicjbiaaDoor
