/- Layer 2 (crc): a grid's image; Join. -/
import Derived.Test.YtafjjladnghjbaaGreatDoorCrc1
namespace Go.Proofs.YtafjjladnghjbaaGreatDoor
open Go Go.RowKit

theorem iw_zero_iff (c : Wd) : iw c = 0 ↔ c = 0#32 := by
  constructor
  · intro h; exact iw_inj h
  · rintro rfl; rfl
theorem and1_cases (c : Wd) : c &&& 1#32 = 1#32 ∨ c &&& 1#32 = 0#32 := by
  have h : (c &&& 1#32).toNat = c.toNat % 2 := by rw [BitVec.toNat_and]; exact Nat.and_two_pow_sub_one_eq_mod c.toNat 1
  rcases Nat.mod_two_eq_zero_or_one c.toNat with h0 | h0
  · right; exact BitVec.eq_of_toNat_eq (by rw [h, h0]; rfl)
  · left; exact BitVec.eq_of_toNat_eq (by rw [h, h0]; rfl)
set_option maxRecDepth 100000 in
set_option maxHeartbeats 4000000 in
theorem of_c (g : Nat) (gs : List Wd) (c : Wd) (w : World) (hB : Blk w g (gs.map wC).toArray 153) (hl : gs.length = 32) :
    Calls Tryz.prog 111 #[.pointer (some ⟨g, 0, none⟩), .int .u32 (iw c)] w fun e w' => e = .returned (.int .u32 (iw (gridW gs c))) ∧ w' = w := by
  have HB := Lib.hid hB; have HL := Lib.hid hl
  obtain ⟨R, hR⟩ : ∃ R, R = gridW gs c := ⟨_, rfl⟩
  rw [← hR]
  have HR := Lib.hid hR
  clear hB hl hR
  go_enter Tryz.func111, Tryz.ntmps111
  go_wp2_with fail
  go_loopg [1, 4, 5] 32 (fun gg v1 v4 v5 wr => ∃ (i : Nat) (c' out : Wd), v1 = wC c' ∧ v4 = wC out ∧ v5 = .int .i64 (i : Int) ∧ i + gg = 32 ∧ c'.toNat < 2 ^ gg ∧ gofW gs c' i out gg = R ∧ wr = w)
  case atStart => exact ⟨0, c, 0#32, rfl, rfl, rfl, rfl, c.isLt, HR.out.symm, rfl⟩
  case round =>
    obtain ⟨i, c', out, rfl, rfl, rfl, hi, hlt, hgo, rfl⟩ := hrel
    by_cases hc : c' = 0#32
    · subst hc
      have hout : out = R := by
        cases gk with
        | zero => exact hgo
        | succ k => rw [gofW, if_pos rfl] at hgo; exact hgo
      subst hout
      have h0 : iw 0#32 = 0 := rfl
      clear hgo hlt hi HR
      go_wp2_with fail
      go_ret
      exact ⟨rfl, rfl⟩
    · have hne : (iw c' != 0) = true := by simp only [bne_iff_ne, ne_eq]; exact fun h => hc ((iw_zero_iff c').1 h)
      obtain ⟨k, rfl⟩ : ∃ k, gk = k + 1 := by
        cases gk with
        | zero => exfalso; apply hc; exact BitVec.eq_of_toNat_eq (by simp at hlt; simp [hlt])
        | succ k => exact ⟨k, rfl⟩
      rw [gofW, if_neg hc] at hgo
      have hi' : (i : Int) < 32 := by omega
      obtain ⟨x, hx⟩ : ∃ x, gs[i]? = some x := ⟨_, List.getElem?_eq_getElem (by have := HL.out; omega)⟩
      have hxd : gs.getD i 0#32 = x := by rw [List.getD_eq_getElem?_getD, hx]; rfl
      rw [hxd] at hgo
      have k1 := wblk_cell HB.out hx
      have hlt2 : (c' >>> 1).toNat < 2 ^ k := by
        rw [BitVec.toNat_ushiftRight, Nat.shiftRight_eq_div_pow]
        rw [Nat.pow_succ] at hlt; omega
      have e1 := iw_half; have e5 := iw_xor
      have HLT := Lib.hid hlt2; have HGO := Lib.hid hgo
      clear hgo hlt hlt2 hx hxd hc
      rcases and1_cases c' with h1 | h1
      · have hb : bits .and .u32 (iw c') 1 = 1 := by rw [iw_and1, h1]; rfl
        have H1 := Lib.hid h1
        clear h1
        go_wp2_with fail
        go_roundg k
        case measure => omega
        case rel => exact ⟨i + 1, _, _, rfl, rfl, by go_num, by omega, HLT.out, by have := HGO.out; rw [if_pos H1.out] at this; exact this, rfl⟩
      · have hb : bits .and .u32 (iw c') 1 = 0 := by rw [iw_and1, h1]; rfl
        have H1 := Lib.hid h1
        clear h1 k1
        go_wp2_with fail
        go_roundg k
        case measure => omega
        case rel => exact ⟨i + 1, _, _, rfl, rfl, by go_num, by omega, HLT.out, by have := HGO.out; rw [if_neg (by rw [H1.out]; decide)] at this; exact this, rfl⟩
/-- Join's memory: the table, the grid. -/
structure JnS (w W : World) (T7 T8 : Nat) (gs : List Wd) : Prop where
  ext : Ext w W
  nib : Blk W T7 (nibL.map wC).toArray 150
  grid : Blk W T8 (gs.map wC).toArray 153
  far : T7 < T8
  low : w.heap.size ≤ T7
  len : gs.length = 32
section
variable {w W W' : World} {T7 T8 : Nat} {gs : List Wd}
theorem JnS.ext' (h : JnS w W T7 T8 gs) (hE : Ext W W') : JnS w W' T7 T8 gs := ⟨h.ext.trans hE, h.nib.ext hE, h.grid.ext hE, h.far, h.low, h.len⟩
theorem JnS.set (h : JnS w W T7 T8 gs) (j : Nat) (x : Wd) : JnS w (W.setCell ⟨T8, j, none⟩ (.int .u32 (iw x))) T7 T8 (gs.set j x) := by
  have hC : Chg [T8] W (W.setCell ⟨T8, j, none⟩ (.int .u32 (iw x))) := Chg.set T8 j _ (by simp)
  have := h.far; have := h.low
  exact ⟨((Chg.ext h.ext : Chg [T8] w W).trans hC).toExt (fun t ht => by simp at ht; omega), h.nib.chg hC (by simp; omega), wblk_set h.grid j x, h.far, h.low, by rw [List.length_set]; exact h.len⟩
theorem JnS.row (h : JnS w W T7 T8 gs) (g2 : List Wd) (hl : g2.length = 32) : JnS w (W.setRow T8 (g2.map wC).toArray) T7 T8 g2 := by
  have hC : Chg [T8] W (W.setRow T8 (g2.map wC).toArray) := Chg.some (row_grown W T8 _) (.inl (by simp))
  have := h.far; have := h.low
  exact ⟨((Chg.ext h.ext : Chg [T8] w W).trans hC).toExt (fun t ht => by simp at ht; omega), h.nib.chg hC (by simp; omega), setRow_heap W T8 _ _ _ (0, 0) h.grid, h.far, h.low, hl⟩
theorem JnS.ext_of (h : JnS w W T7 T8 gs) {S : List Nat} (hC : Chg S W W') (h8 : T8 ∉ S) (h7 : T7 ∉ S) (hlo : ∀ t ∈ S, w.heap.size ≤ t) : JnS w W' T7 T8 gs :=
  ⟨((Chg.ext h.ext : Chg S w W).trans hC).toExt hlo, h.nib.chg hC h7, h.grid.chg hC h8, h.far, h.low, h.len⟩
end
theorem u64_and1 (n : Nat) (hn : n < 18446744073709551616) : bits .and .u64 (n : Int) 1 = ((n % 2 : Nat) : Int) := by
  have h127 : (BitVec.ofInt 64 1).toNat = 2 ^ 1 - 1 := by decide
  have key : (BitVec.ofInt 64 (n : Int) &&& BitVec.ofInt 64 1).toNat = ((n : Int) % ((2 ^ 64 : Nat) : Int)).toNat % 2 ^ 1 := by
    rw [BitVec.toNat_and, BitVec.toNat_ofInt, h127, Nat.and_two_pow_sub_one_eq_mod]
  show IntKind.u64.wrap ((BitVec.ofInt 64 (n : Int) &&& BitVec.ofInt 64 1).toNat : Nat) = ((n % 2 : Nat) : Int)
  rw [key, IntKind.wrap_u64]
  omega
theorem grid_info' : (Tryz.prog.info? 153).map (·.size) = some 32 := by kernel_rfl
theorem grid_size {gs : List Wd} (h : gs.length = 32) : (gs.map wC).toArray.size = 32 := by simp [h]
theorem grid_info {gs : List Wd} (h : gs.length = 32) : (Tryz.prog.info? 153).map (·.size) = some (gs.map wC).toArray.size := by rw [grid_size h]; kernel_rfl
theorem grid0_get {i : Nat} (h : i < 32) : grid0[i]? = some (bytW (1#32 <<< i)) := by unfold grid0; rw [List.getElem?_map, List.getElem?_range h]; rfl
theorem grid0_len : grid0.length = 32 := by simp [grid0]
set_option maxRecDepth 100000 in
set_option maxHeartbeats 4000000 in
theorem join_c (a b : Wd) (n : Nat) (w : World) (hn : n < 18446744073709551616) : Calls Tryz.prog 83 #[.int .u32 (iw a), .int .u32 (iw b), .int .u64 (n : Int)] w fun e w' => e = .returned (.int .u32 (iw (crcJoin a b n))) ∧ Ext w w' := by
  have HN0 := Lib.hid hn
  clear hn
  go_enter Tryz.func83, Tryz.ntmps83
  go_wp2_with fail
  refine (nibbles_c w).mono ?_
  rintro e w1 ⟨rfl, hE1⟩
  have HE1 := Lib.hid hE1
  clear hE1
  have hs : (nibL.map wC).toArray.size = 16 := by simp [nibL]
  have HS := Lib.hid hs
  clear hs
  go_upto_region 2 with (refine wpList_store_row rfl 150 (.tmp 7) (.tmp 13) rfl w1.heap.size _ rfl rfl 150 ((List.replicate 16 (0 : Wd)).map wC).toArray (heap_alloc_new w1 _) (by rw [HS.out]; kernel_rfl) (by rw [HS.out]; rfl) wc_one ?_)
  try simp only [Act.put]
  rw [show #[Value.int IntKind.u32 0, Value.int IntKind.u32 0, Value.int IntKind.u32 0, Value.int IntKind.u32 0, Value.int IntKind.u32 0, Value.int IntKind.u32 0, Value.int IntKind.u32 0, Value.int IntKind.u32 0, Value.int IntKind.u32 0, Value.int IntKind.u32 0, Value.int IntKind.u32 0, Value.int IntKind.u32 0, Value.int IntKind.u32 0, Value.int IntKind.u32 0, Value.int IntKind.u32 0, Value.int IntKind.u32 0] = ((List.replicate 16 (0 : Wd)).map wC).toArray from rfl]
  have hB : Blk ((w1.alloc (.cells ((List.replicate 16 (0 : Wd)).map wC).toArray 150)).setRow w1.heap.size (nibL.map wC).toArray) w1.heap.size (nibL.map wC).toArray 150 := setRow_heap _ _ _ _ _ (0, 0) (heap_alloc_new w1 _)
  have hE : Ext w1 ((w1.alloc (.cells ((List.replicate 16 (0 : Wd)).map wC).toArray 150)).setRow w1.heap.size (nibL.map wC).toArray) :=
    ((Chg.ext (Ext.alloc w1 _) : Chg [w1.heap.size] w1 _).trans (Chg.some (row_grown _ w1.heap.size _) (.inl (by simp)))).toExt (fun t ht => by simp at ht; omega)
  have hl7 : w.heap.size ≤ w1.heap.size := HE1.out.size
  obtain ⟨T7, hT7⟩ : ∃ T, T = w1.heap.size := ⟨_, rfl⟩
  rw [← hT7] at hB hE hl7 ⊢
  generalize (w1.alloc (.cells ((List.replicate 16 (0 : Wd)).map wC).toArray 150)).setRow T7 (nibL.map wC).toArray = W2 at *
  have HB := Lib.hid hB; have HE2 := Lib.hid (HE1.out.trans hE); have HL7 := Lib.hid hl7
  clear hB hE hT7 HE1 hl7
  go_upto_region 3 with fail
  rw [show #[Value.int IntKind.u32 0, Value.int IntKind.u32 0, Value.int IntKind.u32 0, Value.int IntKind.u32 0, Value.int IntKind.u32 0, Value.int IntKind.u32 0, Value.int IntKind.u32 0, Value.int IntKind.u32 0, Value.int IntKind.u32 0, Value.int IntKind.u32 0, Value.int IntKind.u32 0, Value.int IntKind.u32 0, Value.int IntKind.u32 0, Value.int IntKind.u32 0, Value.int IntKind.u32 0, Value.int IntKind.u32 0, Value.int IntKind.u32 0, Value.int IntKind.u32 0, Value.int IntKind.u32 0, Value.int IntKind.u32 0, Value.int IntKind.u32 0, Value.int IntKind.u32 0, Value.int IntKind.u32 0, Value.int IntKind.u32 0, Value.int IntKind.u32 0, Value.int IntKind.u32 0, Value.int IntKind.u32 0, Value.int IntKind.u32 0, Value.int IntKind.u32 0, Value.int IntKind.u32 0, Value.int IntKind.u32 0, Value.int IntKind.u32 0] = ((List.replicate 32 (0 : Wd)).map wC).toArray from rfl]
  have HJ0 : Hid (JnS w (W2.alloc (.cells ((List.replicate 32 (0 : Wd)).map wC).toArray 153)) T7 W2.heap.size (List.replicate 32 0)) := Lib.hid
    ⟨HE2.out.trans (Ext.alloc _ _), HB.out.alloc _, Blk.new _ _ _, HB.out.lt, HL7.out, by simp⟩
  obtain ⟨T8, hT8⟩ : ∃ T, T = W2.heap.size := ⟨_, rfl⟩
  rw [← hT8] at HJ0 ⊢
  generalize W2.alloc (.cells ((List.replicate 32 (0 : Wd)).map wC).toArray 153) = W3 at *
  clear hT8 HB HE2 HL7
  go_wp2_with fail
  go_loopg [14] 32 (fun gg v14 wr => ∃ (i : Nat) (gs : List Wd), v14 = .int .i64 (i : Int) ∧ i + gg = 32 ∧ JnS w wr T7 T8 gs ∧ ∀ j, j < i → gs[j]? = some (bytW (1#32 <<< j)))
  case atStart => exact ⟨0, _, rfl, by omega, HJ0.out, fun j hj => by omega⟩
  case round =>
    obtain ⟨i, gs, rfl, hi32, hJ, hg⟩ := hrel
    have HJ := Lib.hid hJ; have HG := Lib.hid hg
    clear hJ hg
    by_cases hi : i < 32
    · have hi' : (i : Int) < 32 := by omega
      go_upto_region 7 with fail
      have hpow : (2 : Int) ^ i % 4294967296 = iw (1#32 <<< i) := by
        rw [← iw_shl]
        show _ = (1 : Int) * _ % 4294967296
        rw [Int.one_mul]; push_cast; rfl
      rw [hpow]
      obtain ⟨c1, hc1⟩ : ∃ c, c = 1#32 <<< i := ⟨_, rfl⟩
      rw [← hc1]
      have HC1 := Lib.hid hc1
      clear hpow hc1 hi
      have e5 := iw_xor; have e16 := iw_16th
      obtain ⟨q1, hq1⟩ : ∃ q, q = (c1 &&& 15#32).toNat := ⟨_, rfl⟩
      have hz1 : bits .and .u32 (iw c1) 15 = (q1 : Int) := by rw [iw_low4, hq1]
      have hq16 : q1 < 16 := by rw [hq1]; exact low4_lt c1
      have hl1 : (q1 : Int) < 16 := by omega
      have k1 := wblk_cell HJ.out.nib (nibL_get hq16)
      have HQ1 := Lib.hid hq1
      clear hq1 hq16
      go_upto_region 8 with fail
      clear k1 hz1 hl1
      obtain ⟨c2, hc2⟩ : ∃ c, c = c1 >>> 4 ^^^ nibW q1 := ⟨_, rfl⟩
      rw [← hc2]
      obtain ⟨q2, hq2⟩ : ∃ q, q = (c2 &&& 15#32).toNat := ⟨_, rfl⟩
      have hz1 : bits .and .u32 (iw c2) 15 = (q2 : Int) := by rw [iw_low4, hq2]
      have hq16 : q2 < 16 := by rw [hq2]; exact low4_lt c2
      have hl1 : (q2 : Int) < 16 := by omega
      have k1 := wblk_cell HJ.out.nib (nibL_get hq16)
      have HC2 := Lib.hid hc2; have HQ2 := Lib.hid hq2
      obtain ⟨y, hy⟩ : ∃ y, gs[i]? = some y := ⟨_, List.getElem?_eq_getElem (by have := HJ.out.len; omega)⟩
      have k2 := wblk_cell HJ.out.grid hy
      have f2 := HJ.out.grid.free i
      clear hc2 hq2 hq16 hy
      go_wp2_with fail
      go_roundg (32 - (i + 1))
      case measure => omega
      case rel =>
        have e : c2 >>> 4 ^^^ nibW q2 = bytW (1#32 <<< i) := by
          rw [← HC1.out, HQ2.out, HC2.out, HQ1.out]; rfl
        rw [e]
        refine ⟨i + 1, _, by go_num, by omega, HJ.out.set i _, fun j hj => ?_⟩
        rcases Nat.lt_succ_iff_lt_or_eq.1 hj with h1 | rfl
        · rw [List.getElem?_set_ne (by omega)]; exact HG.out j h1
        · rw [List.getElem?_set_self (by have := HJ.out.len; omega)]
    · obtain rfl : i = 32 := by omega
      have hgr : gs = grid0 := by
        apply List.ext_getElem?
        intro j
        by_cases hj : j < 32
        · rw [HG.out j hj, grid0_get hj]
        · rw [List.getElem?_eq_none (by rw [HJ.out.len]; omega), List.getElem?_eq_none (by rw [grid0_len]; omega)]
      subst hgr
      obtain ⟨R, hR⟩ : ∃ R, R = joinL a grid0 n := ⟨_, rfl⟩
      have HR := Lib.hid hR
      clear hR hi hi32
      go_wp2_with fail
      go_loopg [0, 2] n (fun gg v0 v2 wr => ∃ (a' : Wd) (gs : List Wd) (m : Nat), v0 = wC a' ∧ v2 = .int .u64 (m : Int) ∧ gg = m ∧ joinL a' gs m = R ∧ JnS w wr T7 T8 gs ∧ m < 18446744073709551616)
      case atStart => exact ⟨a, grid0, n, rfl, rfl, rfl, HR.out.symm, HJ.out, HN0.out⟩
      case round =>
        obtain ⟨a', gs, m, rfl, rfl, hgm, hR, hJ2, hm64⟩ := hrel
        have HJ2 := Lib.hid hJ2; have HR2 := Lib.hid hR; have HGM := Lib.hid hgm
        clear hJ2 hR hgm
        by_cases hm : m = 0
        · subst hm
          have hRe : a' = R := by have := HR2.out; rwa [joinL, dif_pos rfl] at this
          subst hRe
          have e5 := iw_xor
          go_wp2_with fail
          go_ret
          exact ⟨by rw [HR.out]; rfl, HJ2.out.ext⟩
        · have hm0 : (0 : Int) < (m : Int) := by omega
          obtain ⟨m2, hm2⟩ : ∃ k, k = m / 2 := ⟨_, rfl⟩
          have hz2 : (m : Int) / 2 = (m2 : Int) := by omega
          obtain ⟨a2, ha2⟩ : ∃ x, x = if m % 2 = 1 then gridW gs a' else a' := ⟨_, rfl⟩
          have hjn : joinL a2 (gs.map (gridW gs)) m2 = R := by have := HR2.out; rw [joinL, dif_neg hm, ← ha2, ← hm2] at this; exact this
          have HJN := Lib.hid hjn; have HM2 := Lib.hid hm2; have HA2 := Lib.hid ha2
          clear hjn hm2 ha2 hm
          have h1 : bits .and .u64 (m : Int) 1 = ((m % 2 : Nat) : Int) := u64_and1 m hm64
          obtain ⟨r, hr⟩ : ∃ r, r = m % 2 := ⟨_, rfl⟩
          rw [← hr] at h1
          have HR1 := Lib.hid hr
          have hr2 : r = 1 ∨ r = 0 := by omega
          clear hr
          go_upto_if 42 with fail
          clear h1
          go_cut [0] (fun v0 wc => v0 = wC a2 ∧ wc = wr)
          case first =>
            rcases hr2 with rfl | rfl
            · go_wp2_with fail
              refine (of_c T8 gs a' wr HJ2.out.grid HJ2.out.len).mono ?_
              rintro e w5 ⟨rfl, rfl⟩
              go_wp2_with fail
              go_meet
              exact ⟨by rw [HA2.out, if_pos HR1.out.symm], rfl⟩
            · go_wp2_with fail
              go_meet
              exact ⟨by rw [HA2.out, if_neg (by rw [← HR1.out]; decide)], rfl⟩
          case rest =>
            obtain ⟨rfl, rfl⟩ := hcut
            clear hr2 HR1 HA2
            go_upto_region 15 with fail
            rw [show #[Value.int IntKind.u32 0, Value.int IntKind.u32 0, Value.int IntKind.u32 0, Value.int IntKind.u32 0, Value.int IntKind.u32 0, Value.int IntKind.u32 0, Value.int IntKind.u32 0, Value.int IntKind.u32 0, Value.int IntKind.u32 0, Value.int IntKind.u32 0, Value.int IntKind.u32 0, Value.int IntKind.u32 0, Value.int IntKind.u32 0, Value.int IntKind.u32 0, Value.int IntKind.u32 0, Value.int IntKind.u32 0, Value.int IntKind.u32 0, Value.int IntKind.u32 0, Value.int IntKind.u32 0, Value.int IntKind.u32 0, Value.int IntKind.u32 0, Value.int IntKind.u32 0, Value.int IntKind.u32 0, Value.int IntKind.u32 0, Value.int IntKind.u32 0, Value.int IntKind.u32 0, Value.int IntKind.u32 0, Value.int IntKind.u32 0, Value.int IntKind.u32 0, Value.int IntKind.u32 0, Value.int IntKind.u32 0, Value.int IntKind.u32 0] = ((List.replicate 32 (0 : Wd)).map wC).toArray from rfl]
            obtain ⟨T9, hT9⟩ : ∃ T, T = wc.heap.size := ⟨_, rfl⟩
            have hB9 : Blk (wc.alloc (.cells ((List.replicate 32 (0 : Wd)).map wC).toArray 153)) T9 ((List.replicate 32 (0 : Wd)).map wC).toArray 153 := by rw [hT9]; exact Blk.new _ _ _
            have hJ9 := HJ2.out.ext' (Ext.alloc wc (.cells ((List.replicate 32 (0 : Wd)).map wC).toArray 153))
            have h89 : T8 < T9 := by rw [hT9]; exact HJ2.out.grid.lt
            rw [← hT9]
            generalize wc.alloc (.cells ((List.replicate 32 (0 : Wd)).map wC).toArray 153) = W9 at *
            have HB9 := Lib.hid hB9; have HJ9 := Lib.hid hJ9; have H89 := Lib.hid h89
            clear hT9 hB9 hJ9 h89 HJ2
            go_wp2_with fail
            go_loopg [45] 32 (fun gg v45 wx => ∃ (i : Nat) (ts : List Wd), v45 = .int .i64 (i : Int) ∧ i + gg = 32 ∧ JnS w wx T7 T8 gs ∧ Blk wx T9 (ts.map wC).toArray 153 ∧ ts.length = 32 ∧ ∀ j, j < i → ts[j]? = some (gridW gs (gs.getD j 0#32)))
            case atStart => exact ⟨0, _, rfl, by omega, HJ9.out, HB9.out, by simp, fun j hj => by omega⟩
            case round =>
              obtain ⟨i, ts, rfl, hi32, hJ, hB, hTL, hg⟩ := hrel
              have HJ := Lib.hid hJ; have HB := Lib.hid hB; have HTL := Lib.hid hTL; have HG := Lib.hid hg
              clear hJ hB hTL hg
              by_cases hi : i < 32
              · have hi' : (i : Int) < 32 := by omega
                obtain ⟨y, hy⟩ : ∃ y, gs[i]? = some y := ⟨_, List.getElem?_eq_getElem (by have := HJ.out.len; omega)⟩
                have k1 := wblk_cell HJ.out.grid hy
                have HY := Lib.hid hy
                clear hy
                go_wp2_with fail
                refine (of_c T8 gs y wr HJ.out.grid HJ.out.len).mono ?_
                rintro e w5 ⟨rfl, rfl⟩
                obtain ⟨y2, hy2⟩ : ∃ y, ts[i]? = some y := ⟨_, List.getElem?_eq_getElem (by have := HTL.out; omega)⟩
                have k2 := wblk_cell HB.out hy2
                have f2 := HB.out.free i
                obtain ⟨z, hz⟩ : ∃ z, z = gridW gs y := ⟨_, rfl⟩
                rw [← hz]
                have HZ := Lib.hid hz
                clear k1 hy2 hz
                go_wp2_with fail
                go_roundg (32 - (i + 1))
                case measure => omega
                case rel =>
                  refine ⟨i + 1, _, by go_num, by omega, HJ.out.ext_of (Chg.set T9 i _ (by simp) : Chg [T9] _ _) (by simp; have := H89.out; omega) (by simp; have := H89.out; have := HJ.out.far; omega) (by simp; have := H89.out; have := HJ.out.far; have := HJ.out.low; omega), wblk_set HB.out i _, by rw [List.length_set]; exact HTL.out, fun j hj => ?_⟩
                  rcases Nat.lt_succ_iff_lt_or_eq.1 hj with h1 | rfl
                  · rw [List.getElem?_set_ne (by omega)]; exact HG.out j h1
                  · rw [List.getElem?_set_self (by have := HTL.out; omega), HZ.out, List.getD_eq_getElem?_getD, HY.out]; rfl
              · obtain rfl : i = 32 := by omega
                have hgr : ts = gs.map (gridW gs) := by
                  apply List.ext_getElem?
                  intro j
                  by_cases hj : j < 32
                  · rw [HG.out j hj, List.getElem?_map, List.getD_eq_getElem?_getD]
                    obtain ⟨y, hy⟩ : ∃ y, gs[j]? = some y := ⟨_, List.getElem?_eq_getElem (by have := HJ.out.len; omega)⟩
                    rw [hy]; rfl
                  · rw [List.getElem?_eq_none (by rw [HTL.out]; omega), List.getElem?_eq_none (by rw [List.length_map, HJ.out.len]; omega)]
                have HGR := Lib.hid hgr
                clear hgr hi hi32
                go_wp2_with (first
                  | (refine wpList_load_row rfl 153 (.tmp 11) rfl T9 rfl 153 _ (0, 0) _ HB.out Tryz.underlying153 rfl (grid_info HTL.out) ?_)
                  | (refine wpList_store_row rfl 153 (.tmp 8) (.tmp 55) rfl T8 _ rfl rfl 153 _ HJ.out.grid (by rw [grid_size HTL.out]; exact grid_info' ) (by rw [grid_size HTL.out, grid_size HJ.out.len]) wc_one ?_))
                go_roundg m2
                case measure => have := HM2.out; have := HGM.out; omega
                case rel => exact ⟨a2, ts, m2, rfl, by go_num, rfl, by rw [HGR.out]; exact HJN.out, HJ.out.row ts HTL.out, by have := HM2.out; omega⟩
end Go.Proofs.YtafjjladnghjbaaGreatDoor
