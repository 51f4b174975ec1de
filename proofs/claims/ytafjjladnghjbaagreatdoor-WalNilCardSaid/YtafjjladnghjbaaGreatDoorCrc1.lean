/- Layer 2 (crc): the table of nibbles; More; Sum. -/
import Derived.Test.YtafjjladnghjbaaGreatDoorCrc0
import Derived.Test.YtafjjladnghjbaaGreatDoorChg
import Derived.Test.YtafjjladnghjbaaGreatDoorBin
namespace Go.Proofs.YtafjjladnghjbaaGreatDoor
open Go Go.RowKit

abbrev wC (x : Wd) : Value := .int .u32 (iw x)
theorem wblk_cell {w : World} {b j : Nat} {ws : List Wd} {e : TypeId} {x : Wd} (h : Blk w b (ws.map wC).toArray e) (hj : ws[j]? = some x) : w.cell? ⟨b, j, none⟩ = some (.int .u32 (iw x)) := h.cell j (by simp [hj])
theorem wblk_set {w : World} {b : Nat} {ws : List Wd} {e : TypeId} (h : Blk w b (ws.map wC).toArray e) (j : Nat) (x : Wd) : Blk (w.setCell ⟨b, j, none⟩ (.int .u32 (iw x))) b ((ws.set j x).map wC).toArray e := by
  have := h.set j (.int .u32 (iw x))
  rwa [List.setIfInBounds_toArray, show (ws.map wC).set j (Value.int .u32 (iw x)) = (ws.set j x).map wC by rw [List.map_set]] at this
theorem wc_one {l : List Wd} : (l.map wC).toArray.all (·.oneCell') = true := by
  rw [Array.all_eq_true_iff_forall_mem]
  intro v hv
  simp only [List.mem_toArray, List.mem_map] at hv
  obtain ⟨x, -, rfl⟩ := hv
  rfl
theorem row_grown (W : World) (b : Nat) (cs : Array Value) : W.grownBy (W.setRow b cs) (some b) := ⟨rfl, rfl, rfl, by simp [World.setRow], fun k _ hk => setRow_other W b k _ (fun e => hk (by rw [e]))⟩
def nibL : List Wd := (List.range 16).map nibW
theorem nibL_get {q : Nat} (h : q < 16) : nibL[q]? = some (nibW q) := by unfold nibL; rw [List.getElem?_map, List.getElem?_range h]; rfl
theorem nib_ret (b : Nat) (cs : Array Value) (hs : cs.size = 16) (F : World) (tmps : Array Value) (R : Ending → World → Prop) (hB : Blk F b cs 150)
    (hz : tmps[0]? = some (.pointer (some ⟨b, 0, none⟩))) (h : R (.returned (.agg cs)) F) :
    bodyPost Tryz.prog Tryz.f110 R .ret { tmps := tmps, defers := [] } F := by
  refine bodyPost_ret ?_ rfl h
  exact results_cell_row Tryz.results110 tmps F b _ cs (0, 0) _ (by simp [hz]) hB Tryz.underlying150 rfl (by rw [hs]; kernel_rfl)
set_option maxRecDepth 100000 in
set_option maxHeartbeats 4000000 in
theorem nibbles_c (w : World) : Calls Tryz.prog 110 #[] w fun e w' => e = .returned (.agg (nibL.map wC).toArray) ∧ Ext w w' := by
  go_enter Tryz.func110, Tryz.ntmps110
  go_upto_region 1 with fail
  rw [show #[Value.int IntKind.u32 0, Value.int IntKind.u32 0, Value.int IntKind.u32 0, Value.int IntKind.u32 0, Value.int IntKind.u32 0, Value.int IntKind.u32 0, Value.int IntKind.u32 0, Value.int IntKind.u32 0, Value.int IntKind.u32 0, Value.int IntKind.u32 0, Value.int IntKind.u32 0, Value.int IntKind.u32 0, Value.int IntKind.u32 0, Value.int IntKind.u32 0, Value.int IntKind.u32 0, Value.int IntKind.u32 0] = ((List.replicate 16 (0 : Wd)).map wC).toArray from rfl]
  have hB := Blk.new w ((List.replicate 16 (0 : Wd)).map wC).toArray 150
  have hE := Ext.alloc w (.cells ((List.replicate 16 (0 : Wd)).map wC).toArray 150)
  obtain ⟨T0, hT0⟩ : ∃ T, T = w.heap.size := ⟨_, rfl⟩
  rw [← hT0] at hB ⊢
  generalize w.alloc (.cells ((List.replicate 16 (0 : Wd)).map wC).toArray 150) = W0 at *
  have HB := Lib.hid hB; have HE := Lib.hid hE; have HT0 := Lib.hid hT0
  clear hB hE hT0
  go_wp2_with fail
  go_loopg [3] 16 (fun gg v3 wr => ∃ (i : Nat) (ws : List Wd), v3 = .int .i64 (i : Int) ∧ i + gg = 16 ∧ Ext w wr ∧ Blk wr T0 (ws.map wC).toArray 150 ∧ ws.length = 16 ∧ ∀ j, j < i → ws[j]? = some (nibW j))
  case atStart => exact ⟨0, _, rfl, by omega, HE.out, HB.out, by simp, fun j hj => by omega⟩
  case round =>
    obtain ⟨i, ws, rfl, hi16, hE, hB, hwl, hws⟩ := hrel
    have HE2 := Lib.hid hE; have HB2 := Lib.hid hB; have HWL := Lib.hid hwl; have HWS := Lib.hid hws
    clear hE hB hwl hws
    by_cases hi : i < 16
    · have hi' : (i : Int) < 16 := by omega
      go_upto_region 5 with fail
      have h0 : (i : Int) = iw (BitVec.ofNat 32 i) := (iw_ofNat i (by omega)).symm
      have H0 := Lib.hid h0
      clear h0
      go_wp2_with fail
      go_loopg [2, 8] 4 (fun gg v2 v8 wx => ∃ k : Nat, v8 = .int .i64 (k : Int) ∧ k + gg = 4 ∧ v2 = wC (stpN (BitVec.ofNat 32 i) k) ∧ wx = wr)
      case atStart => exact ⟨0, rfl, rfl, by rw [H0.out]; rfl, rfl⟩
      case round =>
        obtain ⟨k, rfl, hk4, rfl, rfl⟩ := hrel
        obtain ⟨c, hc⟩ : ∃ c, c = stpN (BitVec.ofNat 32 i) k := ⟨_, rfl⟩
        have HC := Lib.hid hc
        rw [← hc]
        clear hc
        by_cases hk : k < 4
        · have hk' : (k : Int) < 4 := by omega
          have e1 := iw_half; have e2 := iw_and1; have e3 := iw_neg; have e4 := iw_poly; have e5 := iw_xor
          go_wp2_with fail
          go_roundg (4 - (k + 1))
          case measure => omega
          case rel =>
            exact ⟨k + 1, by go_num, by omega, by rw [stpN, ← HC.out]; unfold stpW; rw [BitVec.zero_sub], rfl⟩
        · obtain rfl : k = 4 := by omega
          have hcn : c = nibW i := HC.out
          subst hcn
          obtain ⟨y, hy⟩ : ∃ y, ws[i]? = some y := ⟨_, List.getElem?_eq_getElem (by have := HWL.out; omega)⟩
          have c0 := wblk_cell HB2.out hy
          have f0 := HB2.out.free i
          clear hk hk4 hy
          go_wp2_with fail
          go_roundg (16 - (i + 1))
          case measure => omega
          case rel =>
            refine ⟨i + 1, ws.set i (nibW i), by go_num, by omega, ?_, wblk_set HB2.out i _, by rw [List.length_set]; exact HWL.out, fun j hj => ?_⟩
            · exact ((Chg.ext HE2.out : Chg [T0] w _).trans (Chg.set T0 i _ (by simp))).toExt (fun t ht => by simp at ht; have := HT0.out; omega)
            · rcases Nat.lt_succ_iff_lt_or_eq.1 hj with h1 | rfl
              · rw [List.getElem?_set_ne (by omega)]; exact HWS.out j h1
              · rw [List.getElem?_set_self (by have := HWL.out; omega)]
    · obtain rfl : i = 16 := by omega
      have hw : ws = nibL := by
        apply List.ext_getElem?
        intro j
        by_cases hj : j < 16
        · rw [HWS.out j hj, nibL_get hj]
        · rw [List.getElem?_eq_none (by rw [HWL.out]; omega), List.getElem?_eq_none (by simp [nibL]; omega)]
      subst hw
      have hs : (nibL.map wC).toArray.size = 16 := by simp [nibL]
      have HS := Lib.hid hs
      clear hs hi
      go_wp2_with (first | (refine wpList_load_row rfl 150 (.tmp 0) rfl T0 rfl 150 _ (0, 0) _ HB2.out Tryz.underlying150 rfl (by rw [HS.out]; kernel_rfl) ?_) | (refine wpList_store_row rfl 150 (.tmp 0) (.tmp 22) rfl T0 _ rfl rfl 150 _ HB2.out (by rw [HS.out]; kernel_rfl) rfl wc_one ?_))
      exact nib_ret T0 _ HS.out _ _ _ (setRow_heap wr T0 _ _ _ (0, 0) HB2.out) rfl ⟨rfl, ((Chg.ext HE2.out : Chg [T0] w wr).trans (Chg.some (row_grown wr T0 _) (.inl (by simp)))).toExt (fun t ht => by simp at ht; have := HT0.out; omega)⟩
theorem crcM_take {l : List Int} {i : Nat} {x : Int} (c : Wd) (hx : l[i]? = some x) : crcM c (l.take (i + 1)) = bytW (crcM c (l.take i) ^^^ BitVec.ofNat 32 x.toNat) := by
  rw [List.take_add_one, hx, crcM_append]; rfl
theorem unot_w (x : Wd) : bits BinOp.xor IntKind.u32 (if IntKind.u32.signed = true then -1 else IntKind.u32.max) (iw x) = iw (~~~x) := by
  have h2 := iw_xor (BitVec.allOnes 32) x
  rw [BitVec.allOnes_xor, show iw (BitVec.allOnes 32) = 4294967295 from rfl] at h2
  rw [← h2]
  rfl
set_option maxRecDepth 100000 in
set_option maxHeartbeats 4000000 in
theorem more_c (s : Wd) (l : List Int) (v : Value) (w : World) (h : Rd w v (u8s l)) (h8 : ∀ x ∈ l, 0 ≤ x ∧ x ≤ 255) (hl : l.length ≤ 140737488355328) :
    Calls Tryz.prog 112 #[.int .u32 (iw s), v] w fun e w' => e = .returned (.int .u32 (iw (crcMore s l))) ∧ Ext w w' := by
  obtain ⟨a, n, c, rfl⟩ := h.shape
  have hn : n = l.length := by obtain ⟨a, c, h, -⟩ := h; cases h; simp [u8s]
  subst hn
  obtain ⟨N, hN⟩ : ∃ N, N = l.length := ⟨_, rfl⟩
  rw [← hN] at hl h ⊢
  have HRD := Lib.hid h; have H8 := Lib.hid h8; have HN := Lib.hid hN
  have hnot := unot_w
  clear h h8 hN
  go_enter Tryz.func112, Tryz.ntmps112
  go_wp2_with fail
  refine (nibbles_c w).mono ?_
  rintro e w1 ⟨rfl, hE1⟩
  obtain ⟨T5, hT5⟩ : ∃ T, T = w1.heap.size := ⟨_, rfl⟩
  have HE1 := Lib.hid hE1; have HT5 := Lib.hid hT5
  clear hE1 hT5
  have hs : (nibL.map wC).toArray.size = 16 := by simp [nibL]
  have HS := Lib.hid hs
  clear hs
  go_upto_region 2 with (refine wpList_store_row rfl 150 (.tmp 5) (.tmp 9) rfl w1.heap.size _ rfl rfl 150 ((List.replicate 16 (0 : Wd)).map wC).toArray (heap_alloc_new w1 _) (by rw [HS.out]; kernel_rfl) (by rw [HS.out]; rfl) wc_one ?_)
  try simp only [Act.put]
  rw [show #[Value.int IntKind.u32 0, Value.int IntKind.u32 0, Value.int IntKind.u32 0, Value.int IntKind.u32 0, Value.int IntKind.u32 0, Value.int IntKind.u32 0, Value.int IntKind.u32 0, Value.int IntKind.u32 0, Value.int IntKind.u32 0, Value.int IntKind.u32 0, Value.int IntKind.u32 0, Value.int IntKind.u32 0, Value.int IntKind.u32 0, Value.int IntKind.u32 0, Value.int IntKind.u32 0, Value.int IntKind.u32 0] = ((List.replicate 16 (0 : Wd)).map wC).toArray from rfl]
  have hB : Blk ((w1.alloc (.cells ((List.replicate 16 (0 : Wd)).map wC).toArray 150)).setRow w1.heap.size (nibL.map wC).toArray) w1.heap.size (nibL.map wC).toArray 150 := setRow_heap _ _ _ _ _ (0, 0) (heap_alloc_new w1 _)
  have hE : Ext w1 ((w1.alloc (.cells ((List.replicate 16 (0 : Wd)).map wC).toArray 150)).setRow w1.heap.size (nibL.map wC).toArray) :=
    ((Chg.ext (Ext.alloc w1 _) : Chg [w1.heap.size] w1 _).trans (Chg.some (row_grown _ w1.heap.size _) (.inl (by simp)))).toExt (fun t ht => by simp at ht; omega)
  rw [← HT5.out] at hB hE ⊢
  generalize (w1.alloc (.cells ((List.replicate 16 (0 : Wd)).map wC).toArray 150)).setRow T5 (nibL.map wC).toArray = W2 at *
  have HB := Lib.hid hB; have HE2 := Lib.hid (HE1.out.trans hE)
  clear hB hE HT5 HE1
  go_upto_region 3 with fail
  clear hnot
  go_wp2_with fail
  go_loopg [6, 14] N (fun gg v6 v14 wr => ∃ i : Nat, v14 = .int .i64 (i : Int) ∧ i + gg = N ∧ v6 = wC (crcM (~~~s) (l.take i)) ∧ wr = W2)
  case atStart => exact ⟨0, rfl, by omega, by rw [List.take_zero]; rfl, rfl⟩
  case round =>
    obtain ⟨i, rfl, hiN, rfl, rfl⟩ := hrel
    by_cases hi : i < N
    · have hi' : (i : Int) < (N : Int) := by omega
      obtain ⟨x, hx⟩ : ∃ x, l[i]? = some x := ⟨_, List.getElem?_eq_getElem (by have := HN.out; omega)⟩
      have hx8 := H8.out x (List.mem_of_getElem? hx)
      obtain ⟨X, hX⟩ : ∃ X, X = BitVec.ofNat 32 x.toNat := ⟨_, rfl⟩
      have hXi : iw X = x := by rw [hX, iw_ofNat _ (by omega)]; omega
      obtain ⟨s1, o1, rfl, k1⟩ : ∃ b o, a = some ⟨b, o, none⟩ ∧ wr.cell? ⟨b, o + i, none⟩ = some (.int .u8 (iw X)) := by
        obtain ⟨a', c', hv, h1, h2, h3⟩ := HRD.out.ext HE2.out
        cases hv
        rcases h3 with h3 | ⟨b, o, ha, hc⟩
        · have := congrArg List.length h3; rw [u8s_len] at this; simp at this; rw [this] at hx; simp at hx
        · exact ⟨b, o, ha, hc i _ (by simp [u8s, hx, hXi])⟩
      obtain ⟨c0, hc0⟩ : ∃ c, c = crcM (~~~s) (l.take i) := ⟨_, rfl⟩
      have hnx := crcM_take (~~~s) hx
      rw [← hX] at hnx
      rw [← hc0] at hnx ⊢
      have hx0 : 0 ≤ iw X := by omega
      have hx1 : iw X ≤ 255 := by omega
      have HNX := Lib.hid hnx
      clear hx hx8 hX hXi hnx hc0 hi
      have e5 := iw_xor
      go_upto_region 7 with fail
      clear k1
      obtain ⟨c1, hc1⟩ : ∃ c, c = c0 ^^^ X := ⟨_, rfl⟩
      rw [← hc1]
      obtain ⟨q1, hq1⟩ : ∃ q, q = (c1 &&& 15#32).toNat := ⟨_, rfl⟩
      have hz1 : bits .and .u32 (iw c1) 15 = (q1 : Int) := by rw [iw_low4, hq1]
      have hq16 : q1 < 16 := by rw [hq1]; exact low4_lt c1
      have hl1 : (q1 : Int) < 16 := by omega
      have k1 := wblk_cell HB.out (nibL_get hq16)
      have e16 := iw_16th
      have HC1 := Lib.hid hc1; have HQ1 := Lib.hid hq1
      clear hc1 hq1 hq16
      go_upto_region 8 with fail
      clear k1 hz1 hl1
      obtain ⟨c2, hc2⟩ : ∃ c, c = c1 >>> 4 ^^^ nibW q1 := ⟨_, rfl⟩
      rw [← hc2]
      obtain ⟨q2, hq2⟩ : ∃ q, q = (c2 &&& 15#32).toNat := ⟨_, rfl⟩
      have hz1 : bits .and .u32 (iw c2) 15 = (q2 : Int) := by rw [iw_low4, hq2]
      have hq16 : q2 < 16 := by rw [hq2]; exact low4_lt c2
      have hl1 : (q2 : Int) < 16 := by omega
      have k1 := wblk_cell HB.out (nibL_get hq16)
      have HC2 := Lib.hid hc2; have HQ2 := Lib.hid hq2
      clear hc2 hq2 hq16
      go_wp2_with fail
      go_roundg (N - (i + 1))
      case measure => omega
      case rel =>
        refine ⟨i + 1, by go_num, by omega, ?_, rfl⟩
        have e : c2 >>> 4 ^^^ nibW q2 = bytW (c0 ^^^ X) := by
          rw [← HC1.out, HQ2.out, HC2.out, HQ1.out]; rfl
        rw [HNX.out, ← e]
    · obtain rfl : i = N := by omega
      have hnot := unot_w
      have hln : l.take i = l := List.take_of_length_le (by rw [HN.out]; exact Nat.le_refl _)
      rw [hln]
      obtain ⟨c0, hc0⟩ : ∃ c, c = crcM (~~~s) l := ⟨_, rfl⟩
      rw [← hc0]
      have HC0 := Lib.hid hc0
      clear hi hiN hln hc0
      go_wp2_with fail
      go_ret
      exact ⟨by rw [HC0.out]; rfl, HE2.out⟩
set_option maxHeartbeats 400000 in
theorem sum_crc (l : List Int) (v : Value) (w : World) (h : Rd w v (u8s l)) (h8 : ∀ x ∈ l, 0 ≤ x ∧ x ≤ 255) (hl : l.length ≤ 140737488355328) :
    Calls Tryz.prog 84 #[v] w fun e w' => e = .returned (.int .u32 (iw (crcSum l))) ∧ Ext w w' := by
  have hm := more_c 0#32 l v w h h8 hl
  rw [show iw 0#32 = 0 from rfl] at hm
  obtain ⟨a, n, c, rfl⟩ := h.shape
  clear h h8 hl
  go_enter Tryz.func84, Tryz.ntmps84
  go_wp2_with fail
  refine hm.mono ?_
  rintro e w1 ⟨rfl, hE⟩
  have HE := Lib.hid hE
  clear hE hm
  go_wp2_with fail
  go_ret
  exact ⟨rfl, HE.out⟩
end Go.Proofs.YtafjjladnghjbaaGreatDoor
