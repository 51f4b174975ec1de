/- Layers 14 and 25: leaves as hashes, the program's and the document's; lists of hashes compared. -/
import Derived.Test.YtgefphfnicjbiaaDoorShc
import Derived.Test.YtgefphfnicjbiaaDoorSku
import Derived.Laws.StructEq
import Derived.Great.BuildSlice
set_option linter.unusedSimpArgs false
set_option linter.unusedVariables false
namespace Go.Proofs.YtgefphfnicjbiaaDoor
open Go Go.RowKit

theorem loop_yield {α β : Type} {P : Program} (f : α → β → Sem (ForInStep β)) (w : World) (b : β) : ∀ (l : List α), (∀ x ∈ l, (f x b).run P w = .ok (.yield b) w) → (forIn l b f).run P w = .ok b w
  | [], _ => by simp
  | x :: l, h => by
    rw [List.forIn_cons, Sem.run_bind, h x (by simp)]
    simp only [Result.andThen_ok]
    exact loop_yield f w b l (fun y hy => h y (by simp [hy]))
set_option maxRecDepth 100000 in
theorem hash_equal' (d : Nat) (h : List Int) (hl : h.length = 32) (W : World) : (Op.equalIn (d + 2) 63 (.agg (u8s h).toArray) (.agg (u8s h).toArray)).run Tryd.prog W = .ok true W := by
  have h63 : Tryd.prog.underlying 63 = some (.array 32 5) := by kernel_rfl
  have h5 : (sizeOf 5).run Tryd.prog W = .ok 1 W := rfl
  rw [Op.equalIn]
  simp only [Sem.run_bind, run_underlying h63, Result.andThen_ok, h5, Std.Legacy.Range.forIn_eq_forIn_range']
  rw [loop_yield]
  · rfl
  · intro i hi
    have hi32 : i < 32 := by simp at hi; omega
    obtain ⟨x, hx⟩ : ∃ x, h[i]? = some x := ⟨_, List.getElem?_eq_getElem (by omega)⟩
    have hp : (part 5 (u8s h).toArray i).run Tryd.prog W = .ok (.int .u8 x) W := by
      have ha : (isAgg 5).run Tryd.prog W = .ok false W := rfl
      have hc : (u8s h)[i]? = some (.int .u8 x) := by simp [u8s, hx]
      simp [part, ha, hc, Sem.run_bind]
    have h1 := run_equalIn_int W d 5 .u8 .u8 x x (P := Tryd.prog) (by kernel_rfl)
    simp [Sem.run_bind, hp, h1]
theorem hash_equal (h : List Int) (hl : h.length = 32) (W : World) : (Op.equalIn 10000 63 (.agg (u8s h).toArray) (.agg (u8s h).toArray)).run Tryd.prog W = .ok true W := hash_equal' 9998 h hl W
/-- The hash of a leaf. -/
def lfH (l : List Int) : List Int := shaB (0 :: l)
theorem lfH_len (l : List Int) : (lfH l).length = 32 := shaB_len _
/-- Rows of hashes under way. -/
structure LvS (w W : World) (p N : Nat) (ls : List (List Int)) (cells : Array Value) (i : Nat) : Prop where
  ext : Ext w W
  blk : Blk W p cells 63
  size : cells.size = N * 32
  low : w.heap.size ≤ p
  rows : ∀ k l, k < i → ls[k]? = some l → ∀ j, j < 32 → cells[k * 32 + j]? = (u8s (lfH l))[j]?
theorem LvS.ext' {w W W' : World} {p N : Nat} {ls : List (List Int)} {cells : Array Value} {i : Nat} (h : LvS w W p N ls cells i) (hE : Ext W W') : LvS w W' p N ls cells i :=
  ⟨h.ext.trans hE, h.blk.ext hE, h.size, h.low, h.rows⟩
theorem LvS.put {w W : World} {p N : Nat} {ls : List (List Int)} {cells : Array Value} {i : Nat} (h : LvS w W p N ls cells i) {l : List Int} (hl : ls[i]? = some l) (hi : i < N) :
    LvS w (W.setRow p (cells.toList.take (i * 32) ++ (u8s (lfH l)).toArray.toList ++ cells.toList.drop (i * 32 + (u8s (lfH l)).toArray.toList.length)).toArray) p N ls (cells.toList.take (i * 32) ++ (u8s (lfH l)).toArray.toList ++ cells.toList.drop (i * 32 + (u8s (lfH l)).toArray.toList.length)).toArray (i + 1) := by
  have hu : (u8s (lfH l)).length = 32 := by rw [u8s_len, lfH_len]
  have hsz := h.size
  have hs2 : i * 32 + 32 ≤ cells.toList.length := by rw [Array.length_toList, hsz]; omega
  have hlow := h.low
  refine ⟨((Chg.ext h.ext : Chg [p] w W).trans (Chg.some (row_grown W p _) (.inl (by simp)))).toExt (fun t ht => by simp at ht; omega), setRow_heap W p _ _ _ (0, 0) h.blk, ?_, h.low, fun k l' hk hl' j hj => ?_⟩
  · simp only [List.size_toArray, List.length_append, List.length_take, List.length_drop, hu, Array.length_toList, hsz]; omega
  · rw [List.getElem?_toArray, List.append_assoc]
    have ht : (cells.toList.take (i * 32)).length = i * 32 := by rw [List.length_take]; omega
    by_cases hki : k < i
    · rw [List.getElem?_append_left (by omega), List.getElem?_take_of_lt (by omega), Array.getElem?_toList]
      exact h.rows k l' hki hl' j hj
    · obtain rfl : k = i := by omega
      rw [hl] at hl'; cases hl'
      rw [List.getElem?_append_right (by omega), ht, show k * 32 + j - k * 32 = j by omega, List.getElem?_append_left (by simp [hu, hj])]
theorem LvS.row {w W : World} {p N : Nat} {ls : List (List Int)} {cells : Array Value} (h : LvS w W p N ls cells N) (hN : N = ls.length) (hm : N ≤ 1000000) : RowV W 32 (.slice (some ⟨p, 0, none⟩) N N) (ls.map fun l => u8s (lfH l)) := by
  refine ⟨_, N, by rw [List.length_map, hN], by rw [List.length_map, hN]; exact Nat.le_refl _, by unfold maxLen; omega, .inr ⟨p, 0, rfl, fun i r hr j u hu => ?_⟩⟩
  rw [List.getElem?_map] at hr
  obtain ⟨l, hl, rfl⟩ := Option.map_eq_some_iff.1 hr
  have hj : j < 32 := by have := (List.getElem?_eq_some_iff.1 hu).1; rw [u8s_len, lfH_len] at this; exact this
  have hi : i < N := by rw [hN]; exact (List.getElem?_eq_some_iff.1 hl).1
  rw [Nat.zero_add]
  exact h.blk.cell _ ((h.rows i l hi hl j hj).trans hu)
theorem flat_get {s : Nat} {rows : List (List Value)} : ∀ (i j : Nat) (r : List Value) (u : Value), (∀ r ∈ rows, r.length = s) → rows[i]? = some r → r[j]? = some u → rows.flatten[i * s + j]? = some u := by
  induction rows with
  | nil => intro i j r u _ h; simp at h
  | cons x t ih =>
    intro i j r u hs hr hu
    have hx := hs x (by simp)
    rw [List.flatten_cons]
    cases i with
    | zero =>
      simp at hr; subst hr
      have := (List.getElem?_eq_some_iff.1 hu).1
      rw [Nat.zero_mul, Nat.zero_add, List.getElem?_append_left (by omega)]; exact hu
    | succ i =>
      rw [List.getElem?_append_right (by rw [Nat.succ_mul]; omega), show (i + 1) * s + j - x.length = i * s + j by rw [Nat.succ_mul]; omega]
      exact ih i j r u (fun r hr => hs r (by simp [hr])) (by simpa using hr) hu
theorem row_own {w : World} {base : Nat} {e : TypeId} {v : Value} {n s : Nat} {rows : List (List Value)} (h : w.ownsRow base e s v n rows.flatten) (hn : rows.length = n) (hs : ∀ r ∈ rows, r.length = s) : RowV w s v rows := by
  obtain ⟨hl, h⟩ := h
  rcases h with ⟨rfl, h0⟩ | ⟨g, cap, cur, rfl, _, hh, h1, h2, h3, h4⟩
  · have : rows = [] := List.eq_nil_of_length_eq_zero (by omega)
    subst this
    exact RowV.nil w s
  · refine ⟨_, cap, by rw [hn], by omega, h2, .inr ⟨g, 0, rfl, fun i r hr j u hu => ?_⟩⟩
    have hf := flat_get i j r u hs hr hu
    rw [← h4, List.getElem?_take] at hf
    split at hf
    · rw [Nat.zero_add]
      exact (show Blk w g cur e from hh).cell _ (by simpa using hf)
    · cases hf
theorem infoH : (Tryd.prog.info? 63).map (fun i => (i.zero, i.size, i.bytes)) = some (some (.agg (u8s (List.replicate 32 0)).toArray), 32, 32) := by kernel_rfl
set_option maxRecDepth 100000 in
set_option maxHeartbeats 4000000 in
theorem leaves_c (v : Value) (b : Bk) (w : World) (h : BookV w v b) (hn : b.leaves.length ≤ 1000000) (hb : ∀ l ∈ b.leaves, l.length ≤ 1000000 ∧ ∀ x ∈ l, 0 ≤ x ∧ x ≤ 255) (hT : Tabs w) :
    Calls Tryd.prog 13 #[.int .i64 256, v] w fun e w' => ∃ v', e = .returned v' ∧ RowV w' 32 v' (b.leaves.map fun l => u8s (lfH l)) ∧ Ext w w' := by
  obtain ⟨lv, cv, L, C, rfl, hL, hC, h3, h4, h5, h6⟩ := h
  obtain ⟨la, lc, rfl, hl1, hl2⟩ := h3.shape
  obtain ⟨ca, cc, rfl, hc1, hc2⟩ := h4.shape
  have e1 : (L.map lfR).length = b.leaves.length := by rw [List.length_map, ← hL, List.length_map]
  rw [e1] at hl1 h3 ⊢
  obtain ⟨N, hN⟩ : ∃ n, n = b.leaves.length := ⟨_, rfl⟩
  obtain ⟨M, hM⟩ : ∃ n, n = (C.map clR).length := ⟨_, rfl⟩
  rw [← hN] at hl1 h3 hn ⊢; rw [← hM] at hc1 ⊢
  have HL := Lib.hid hL; have H3 := Lib.hid h3; have H5 := Lib.hid h5; have HN := Lib.hid hN; have HB := Lib.hid hb; have HT := Lib.hid hT
  clear hL hC h3 h4 h5 h6 hN hM e1 hb hT
  go_enter Tryd.func13, Tryd.ntmps13
  go_upto_region 1 with fail
  obtain ⟨T3, hT3⟩ : ∃ T, T = w.heap.size := ⟨_, rfl⟩
  have hB3 := Blk.new w #[.slice la N lc, .slice ca M cc] 25
  have hE := Ext.alloc w (.cells #[.slice la N lc, .slice ca M cc] 25)
  have hS : (w.alloc (.cells #[.slice la N lc, .slice ca M cc] 25)).heap.size = T3 + 1 := by simp [World.size_alloc, hT3]
  rw [← hT3] at hB3 ⊢
  generalize w.alloc (.cells #[.slice la N lc, .slice ca M cc] 25) = W0 at *
  have c30 := hB3.cell 0 rfl
  simp only [List.getElem_toArray, List.getElem_cons_zero] at c30
  have HB3 := Lib.hid hB3; have HE := Lib.hid hE; have HT3 := Lib.hid hT3; have HS := Lib.hid hS
  clear hB3 hE hT3 hS
  obtain ⟨iH, hiH, hzH, hsH, hbH⟩ := info_parts infoH
  have HI := Lib.hid (And.intro hiH (And.intro hzH (And.intro hsH hbH)))
  clear hiH hzH hsH hbH
  go_wp2_with (refine wpList_make_full W0 rfl (.tmp 10) (.tmp 10) _ rfl (T3 + 1) 63 iH _ 32 Tryd.underlying41 HI.out.1 HI.out.2.1 HI.out.2.2.1 .i64 .i64 (N : Int) (N : Int) N rfl rfl rfl rfl (by rw [HI.out.2.2.2]; omega) (by unfold maxLen; omega) (by rw [HS.out]; omega) ?_)
  intro w1 ho1 hg1
  obtain ⟨p, hp⟩ : ∃ p, p = W0.heap.size := ⟨_, rfl⟩
  rw [← hp] at ho1 ⊢
  have HS0 : Hid (∃ cells, LvS w w1 p N b.leaves cells 0) := Lib.hid (by
    obtain ⟨-, h2⟩ := ho1
    rcases h2 with ⟨h2, _⟩ | ⟨g, cap, cur, hv, hg, hh, k1, k2, k3, k4⟩
    · cases h2
    · cases hv
      exact ⟨cur, HE.out.trans ((Chg.grown hg1 : Chg (none : Option Nat).toList W0 w1).toExt (fun t ht => by simp at ht)), hh, k3, by have := HT3.out; have := HS.out; omega, fun k l hk => by omega⟩)
  have HBk : Hid (Blk w1 T3 #[.slice la N lc, .slice ca M cc] 25) := Lib.hid (HB3.out.chg (Chg.grown hg1) (by simp))
  have HP : Hid (T3 < p) := Lib.hid (by rw [hp, HS.out]; omega)
  have c30 := HBk.out.cell 0 rfl
  simp only [List.getElem_toArray, List.getElem_cons_zero] at c30
  clear ho1 hg1 hp HI HB3
  go_upto_region 3 with fail
  clear c30
  go_loopg [15] N (fun gg v15 wr => ∃ (i : Nat) (cells : Array Value), v15 = .int .i64 (i : Int) ∧ i + gg = N ∧ LvS w wr p N b.leaves cells i)
  case atStart =>
    obtain ⟨cells, h0⟩ := HS0.out
    exact ⟨0, cells, rfl, by omega, h0⟩
  case round =>
    obtain ⟨i, cells, rfl, hiN, hS⟩ := hrel
    have HSS := Lib.hid hS
    clear hS
    by_cases hi : i < N
    · have hi' : (i : Int) < (N : Int) := by omega
      obtain ⟨q, hq⟩ : ∃ q, L[i]? = some q := ⟨_, List.getElem?_eq_getElem (by have h1 := congrArg List.length HL.out; rw [List.length_map] at h1; have := HN.out; omega)⟩
      have hl : b.leaves[i]? = some q.1 := by rw [← HL.out, List.getElem?_map, hq]; rfl
      obtain ⟨s1, o1, rfl, k1⟩ := H3.out.cells1 hq
      have k1 := HSS.out.ext.cell k1
      have hrd := H5.out q (List.mem_of_getElem? hq)
      obtain ⟨hb1, hb2⟩ := HB.out q.1 (List.mem_of_getElem? hl)
      obtain ⟨l, dv⟩ := q
      dsimp only at hl k1 hrd hb1 hb2
      obtain ⟨da, dn, dc, rfl⟩ := hrd.shape
      have HLF := Lib.hid (leaf_c l _ wr hb2 (hrd.ext HSS.out.ext) (by omega) (HT.out.ext HSS.out.ext))
      have HLL := Lib.hid hl
      clear hq hl hrd hb1 hb2 hi
      go_wp2_with fail
      refine HLF.out.mono ?_
      rintro e w3 ⟨rfl, hE3⟩
      have HS3 := Lib.hid (HSS.out.ext' hE3)
      clear hE3 HLF k1
      have HHL := Lib.hid (hash_size (lfH_len l))
      go_wp2_with (refine wpList_store_part rfl 63 (.tmp 25) (.tmp 24) rfl p (i * 32) (u8s (lfH l)).toArray rfl rfl 63 _ HS3.out.blk (by rw [HHL.out]; kernel_rfl) (by rw [HHL.out, HS3.out.size]; omega) u8a_one ?_)
      go_roundg (N - (i + 1))
      case measure => omega
      case rel =>
        have h9 := HS3.out.put HLL.out (by omega)
        rw [List.append_assoc] at h9
        exact ⟨i + 1, _, by go_num, by omega, h9⟩
    · obtain rfl : i = N := by omega
      clear hi hiN
      go_wp2_with fail
      go_ret
      exact ⟨_, rfl, HSS.out.row HN.out hn, HSS.out.ext⟩
theorem fold_set : ∀ (X : List Value) (k : Nat) (cur : Array Value), k + X.length = cur.size → (X.zipIdx k).foldl (fun (cs : Array Value) x => cs.setIfInBounds x.2 x.1) cur = (cur.toList.take k ++ X).toArray
  | [], k, cur, h => by
    rw [List.zipIdx_nil, List.foldl_nil, List.append_nil, List.take_of_length_le (by rw [Array.length_toList]; simp at h; omega)]
  | x :: X, k, cur, h => by
    have hk : k < cur.size := by simp at h; omega
    rw [List.zipIdx_cons, List.foldl_cons, fold_set X (k + 1) _ (by rw [Array.size_setIfInBounds]; simp at h; omega)]
    congr 1
    rw [Array.toList_setIfInBounds, List.take_add_one, List.getElem?_set_self (by simpa using hk), List.take_set_of_le (by omega)]
    simp
theorem fill_whole (X : List Value) (s : Nat) (cur : Array Value) (hl : X.length = s) (hc : cur.size = s) : Instr.fill (fun i => some (i * s, s)) cur [(0, Value.agg X.toArray)] = some X.toArray := by
  have hv : (Value.agg X.toArray).cells = X.toArray := rfl
  have hsz : X.toArray.size = s := by simpa using hl
  have h2 := fold_set X 0 cur (by omega)
  rw [List.take_zero, List.nil_append] at h2
  have h3 : X.toArray.zipIdx.foldl (fun (cs : Array Value) (x : Value × Nat) => cs.setIfInBounds x.2 x.1) cur = X.toArray := by
    rw [← Array.foldl_toList, Array.toList_zipIdx]
    exact h2
  simp only [Instr.fill, hv, hsz, hc, Nat.zero_mul, Nat.zero_add]
  simp [h2, hl]
set_option maxRecDepth 100000 in
set_option maxHeartbeats 4000000 in
theorem rleaves14_c (lv : Value) (L : List LQ) (w : World) (h3 : RowV w 1 lv (L.map lfR)) (h5 : ∀ q ∈ L, Rd w q.2 (u8s q.1)) (hn : L.length ≤ 1000000) (hb : ∀ q ∈ L, q.1.length ≤ 1000000 ∧ ∀ x ∈ q.1, 0 ≤ x ∧ x ≤ 255) (hT : Tabs w) :
    Calls Tryd.prog 28 #[.int .i64 256, lv] w fun e w' => ∃ v', e = .returned v' ∧ RowV w' 32 v' (L.map fun q => u8s (lfH q.1)) ∧ Ext w w' := by
  obtain ⟨la, lc, rfl, hl1, hl2⟩ := h3.shape
  rw [List.length_map] at hl1 h3 ⊢
  obtain ⟨N, hN⟩ : ∃ n, n = L.length := ⟨_, rfl⟩
  rw [← hN] at hl1 h3 hn ⊢
  have H3 := Lib.hid h3; have H5 := Lib.hid h5; have HN := Lib.hid hN; have HB := Lib.hid hb; have HT := Lib.hid hT
  clear h3 h5 hN hb hT
  obtain ⟨iH, hiH, hzH, hsH, hbH⟩ := info_parts infoH
  have HI := Lib.hid (And.intro hiH (And.intro hzH (And.intro hsH hbH)))
  clear hiH hzH hsH hbH
  go_enter Tryd.func28, Tryd.ntmps28
  go_wp2_with fail
  go_loopg [5, 6] N (fun gg v5 v6 wr => ∃ i : Nat, v6 = .int .i64 (i : Int) ∧ i + gg = N ∧ Ext w wr ∧ wr.ownsRow w.heap.size 63 32 v5 i ((L.take i).map fun q => u8s (lfH q.1)).flatten)
  case atStart => exact ⟨0, rfl, by omega, Ext.refl _, World.ownsRow_nil _ _ _ _⟩
  case round =>
    obtain ⟨i, rfl, hiN, hE, ho⟩ := hrel
    obtain ⟨oa, oc, rfl, ho1, ho2, -⟩ := own_slice ho
    have HE := Lib.hid hE; have HO := Lib.hid ho
    clear hE ho
    by_cases hi : i < N
    · have hi' : (i : Int) < (N : Int) := by omega
      obtain ⟨q, hq⟩ : ∃ q, L[i]? = some q := ⟨_, List.getElem?_eq_getElem (by have := HN.out; omega)⟩
      obtain ⟨s1, o1, rfl, k1⟩ := H3.out.cells1 hq
      have k1 := HE.out.cell k1
      have hrd := H5.out q (List.mem_of_getElem? hq)
      obtain ⟨hb1, hb2⟩ := HB.out q (List.mem_of_getElem? hq)
      obtain ⟨l, dv⟩ := q
      dsimp only at k1 hrd hb1 hb2
      obtain ⟨da, dn, dc, rfl⟩ := hrd.shape
      have hlf := rleaf_c l (.slice da dn dc) wr hb2 (hrd.ext HE.out) (by omega) (HT.out.ext HE.out)
      obtain ⟨X, hX⟩ : ∃ X, X = u8s (lfH l) := ⟨_, rfl⟩
      have hXl : X.length = 32 := by rw [hX, u8s_len, lfH_len]
      rw [show u8s (shaB (0 :: l)) = X from hX.symm] at hlf
      have hfold : List.foldl (fun (cs : Array Value) (x : Value × Nat) => cs.setIfInBounds x.2 x.1) #[Value.int IntKind.u8 0, Value.int IntKind.u8 0, Value.int IntKind.u8 0, Value.int IntKind.u8 0, Value.int IntKind.u8 0, Value.int IntKind.u8 0, Value.int IntKind.u8 0, Value.int IntKind.u8 0, Value.int IntKind.u8 0, Value.int IntKind.u8 0, Value.int IntKind.u8 0, Value.int IntKind.u8 0, Value.int IntKind.u8 0, Value.int IntKind.u8 0, Value.int IntKind.u8 0, Value.int IntKind.u8 0, Value.int IntKind.u8 0, Value.int IntKind.u8 0, Value.int IntKind.u8 0, Value.int IntKind.u8 0, Value.int IntKind.u8 0, Value.int IntKind.u8 0, Value.int IntKind.u8 0, Value.int IntKind.u8 0, Value.int IntKind.u8 0, Value.int IntKind.u8 0, Value.int IntKind.u8 0, Value.int IntKind.u8 0, Value.int IntKind.u8 0, Value.int IntKind.u8 0, Value.int IntKind.u8 0, Value.int IntKind.u8 0] X.zipIdx = X.toArray := by
        have := fold_set X 0 #[Value.int IntKind.u8 0, Value.int IntKind.u8 0, Value.int IntKind.u8 0, Value.int IntKind.u8 0, Value.int IntKind.u8 0, Value.int IntKind.u8 0, Value.int IntKind.u8 0, Value.int IntKind.u8 0, Value.int IntKind.u8 0, Value.int IntKind.u8 0, Value.int IntKind.u8 0, Value.int IntKind.u8 0, Value.int IntKind.u8 0, Value.int IntKind.u8 0, Value.int IntKind.u8 0, Value.int IntKind.u8 0, Value.int IntKind.u8 0, Value.int IntKind.u8 0, Value.int IntKind.u8 0, Value.int IntKind.u8 0, Value.int IntKind.u8 0, Value.int IntKind.u8 0, Value.int IntKind.u8 0, Value.int IntKind.u8 0, Value.int IntKind.u8 0, Value.int IntKind.u8 0, Value.int IntKind.u8 0, Value.int IntKind.u8 0, Value.int IntKind.u8 0, Value.int IntKind.u8 0, Value.int IntKind.u8 0, Value.int IntKind.u8 0] (by rw [hXl]; rfl)
        rw [List.take_zero, List.nil_append] at this
        exact this
      have HLF := Lib.hid hlf; have HX := Lib.hid hX
      have HQ := Lib.hid hq
      clear hq hrd hb1 hb2 hi hlf hX
      go_wp2_with fail
      refine HLF.out.mono ?_
      rintro e w3 ⟨rfl, hE3⟩
      have HBG := Lib.hid (Blk.new w3 X.toArray 63)
      have hEG := Ext.alloc w3 (.cells X.toArray 63)
      have HO3 := Lib.hid (own_ext HO.out (hE3.trans hEG))
      have HE3 := Lib.hid ((HE.out.trans hE3).trans hEG)
      clear hE3 HLF k1 hEG
      go_wp2_with (at_builtin; refine wpList_push_blk rfl (.tmp 13) (.tmp 20) _ rfl 32 32 Tryd.underlying41 infoH (by kernel_rfl) (by omega) w.heap.size (.slice oa i oc) i _ X rfl HO3.out hXl w3.heap.size rfl HBG.out (by rw [HX.out]; exact u8s_one _) (by omega) (by unfold maxLen; omega) HE3.out.size ?_)
      intro v4 w4 ho4 hg4
      have hE4 : Ext w w4 := ((Chg.ext HE3.out : Chg (Value.slice oa i oc).ownBlock.toList w _).trans (Chg.grown hg4)).toExt (fun t ht => (own_type HO3.out t ht).1)
      have HE4 := Lib.hid hE4
      have HO4 : Hid (w4.ownsRow w.heap.size 63 32 v4 (i + 1) ((L.take (i + 1)).map fun q => u8s (lfH q.1)).flatten) := Lib.hid (by
        rw [List.take_add_one, HQ.out]
        simp only [Option.toList_some, List.map_append, List.map_cons, List.map_nil, List.flatten_append, List.flatten_cons, List.flatten_nil, List.append_nil]
        rw [HX.out] at ho4
        rw [List.map_take]
        exact ho4)
      clear ho4 hg4 hE4
      go_wp2_with fail
      go_roundg (N - (i + 1))
      case measure => omega
      case rel => exact ⟨i + 1, by go_num, by omega, HE4.out, HO4.out⟩
    · obtain rfl : i = N := by omega
      clear hi hiN
      go_wp2_with fail
      go_ret
      have hrow := row_own (s := 32) (rows := L.map fun q => u8s (lfH q.1)) (by have := HO.out; rwa [List.take_of_length_le (by rw [HN.out]; exact Nat.le_refl _)] at this) (by rw [List.length_map, HN.out]) (fun r hr => by
        obtain ⟨q, -, rfl⟩ := List.mem_map.1 hr
        rw [u8s_len, lfH_len])
      exact ⟨_, rfl, hrow, HE.out⟩
set_option maxRecDepth 100000 in
set_option maxHeartbeats 4000000 in
theorem rleaves_c (v : Value) (b : Bk) (w : World) (h : BookV w v b) (hn : b.leaves.length ≤ 1000000) (hb : ∀ l ∈ b.leaves, l.length ≤ 1000000 ∧ ∀ x ∈ l, 0 ≤ x ∧ x ≤ 255) (hT : Tabs w) :
    Calls Tryd.prog 14 #[.int .i64 256, v] w fun e w' => ∃ v', e = .returned v' ∧ RowV w' 32 v' (b.leaves.map fun l => u8s (lfH l)) ∧ Ext w w' := by
  obtain ⟨lv, cv, L, C, rfl, hL, hC, h3, h4, h5, h6⟩ := h
  obtain ⟨la, lc, rfl, hl1, hl2⟩ := h3.shape
  obtain ⟨ca, cc, rfl, hc1, hc2⟩ := h4.shape
  obtain ⟨N, hN⟩ : ∃ n, n = (L.map lfR).length := ⟨_, rfl⟩
  obtain ⟨M, hM⟩ : ∃ n, n = (C.map clR).length := ⟨_, rfl⟩
  rw [← hN] at hl1 h3 ⊢; rw [← hM] at hc1 ⊢
  have hE := Ext.alloc w (.cells #[.slice la N lc, .slice ca M cc] 25)
  have hB3 := Blk.new w #[.slice la N lc, .slice ca M cc] 25
  have hlv := rleaves14_c (.slice la N lc) L (w.alloc (.cells #[.slice la N lc, .slice ca M cc] 25)) (h3.ext hE) (fun q hq => (h5 q hq).ext hE) (by rw [← hL, List.length_map] at hn; exact hn) (fun q hq => hb q.1 (by rw [← hL]; exact List.mem_map_of_mem hq)) (hT.ext hE)
  rw [show (L.map fun q => u8s (lfH q.1)) = b.leaves.map fun l => u8s (lfH l) by rw [← hL, List.map_map]; rfl] at hlv
  have HLV := Lib.hid hlv; have HE := Lib.hid hE
  clear hlv hE hL hC h3 h4 h5 h6 hN hM hb hT
  go_enter Tryd.func14, Tryd.ntmps14
  go_upto_region 1 with fail
  generalize w.alloc (.cells #[.slice la N lc, .slice ca M cc] 25) = W0 at *
  obtain ⟨T3, hT3⟩ : ∃ T, T = w.heap.size := ⟨_, rfl⟩
  rw [← hT3] at hB3 ⊢
  clear hT3
  have c30 := hB3.cell 0 rfl
  simp only [List.getElem_toArray, List.getElem_cons_zero] at c30
  clear hB3
  go_wp2_with fail
  refine HLV.out.mono ?_
  rintro e w2 ⟨v', rfl, hr, hE2⟩
  have HR := Lib.hid hr; have HE2 := Lib.hid (HE.out.trans hE2)
  clear hr hE2 HLV c30
  go_wp2_with fail
  go_ret
  exact ⟨_, rfl, HR.out, HE2.out⟩
theorem RowV.cellsS {w : World} {s : Nat} {a : Option Addr} {n c : Nat} {rows : List (List Value)} (h : RowV w s (.slice a n c) rows) {i : Nat} {r : List Value} (hr : rows[i]? = some r) : ∃ b o, a = some ⟨b, o, none⟩ ∧ ∀ j u, r[j]? = some u → w.cell? ⟨b, o + i * s + j, none⟩ = some u := by
  obtain ⟨a', c', hv, h1, h2, h3⟩ := h
  cases hv
  rcases h3 with h3 | ⟨b, o, ha, hc⟩
  · rw [h3] at hr; simp at hr
  · exact ⟨b, o, ha, fun j u hu => hc i r hr j u hu⟩
set_option maxRecDepth 100000 in
set_option maxHeartbeats 4000000 in
theorem hashes_c (v v' : Value) (H : List (List Int)) (w : World) (h : RowV w 32 v (H.map u8s)) (h' : RowV w 32 v' (H.map u8s)) (hl : ∀ x ∈ H, x.length = 32) (hn : H.length ≤ 1000000) :
    Calls Tryd.prog 12 #[v, v'] w (RetE (.bool true) w) := by
  obtain ⟨la, lc, rfl, hl1, hl2⟩ := h.shape
  obtain ⟨la', lc', rfl, hl1', hl2'⟩ := h'.shape
  rw [List.length_map] at hl1 hl1' h h' ⊢
  obtain ⟨N, hN⟩ : ∃ n, n = H.length := ⟨_, rfl⟩
  rw [← hN] at hl1 hl1' h h' hn ⊢
  have H3 := Lib.hid h; have H3' := Lib.hid h'; have HN := Lib.hid hN; have HL := Lib.hid hl
  clear h h' hN hl
  go_enter Tryd.func12, Tryd.ntmps12
  go_wp2_with fail
  go_loopg [5] N (fun gg v5 wr => ∃ i : Nat, v5 = .int .i64 (i : Int) ∧ i + gg = N ∧ Ext w wr)
  case atStart => exact ⟨0, rfl, by omega, Ext.refl _⟩
  case round =>
    obtain ⟨i, rfl, hiN, hE⟩ := hrel
    have HE := Lib.hid hE
    clear hE
    by_cases hi : i < N
    · have hi' : (i : Int) < (N : Int) := by omega
      obtain ⟨x, hx⟩ : ∃ x, H[i]? = some x := ⟨_, List.getElem?_eq_getElem (by have := HN.out; omega)⟩
      have hxm : (H.map u8s)[i]? = some (u8s x) := by rw [List.getElem?_map, hx]; rfl
      have hx32 := HL.out x (List.mem_of_getElem? hx)
      obtain ⟨s1, o1, rfl, k1⟩ := H3.out.cellsS hxm
      obtain ⟨s2, o2, rfl, k2⟩ := H3'.out.cellsS hxm
      have K1 := Lib.hid k1; have K2 := Lib.hid k2; have HX := Lib.hid hx32
      have heq := fun W => hash_equal x hx32 W
      have hi8 : (Tryd.prog.info? 63).map (·.size) = some (u8s x).length := by rw [u8s_len, hx32]; kernel_rfl
      have HI8 := Lib.hid hi8
      clear hx hxm hx32 k1 k2 hi8 hi
      go_upto_region 6 with fail
      apply Mono.region1 9 Ext [.is _, .is _, .is _, .is _, .is _, .is _, .is _, .is _, .is _] (by kernel_rfl) Ext.refl (fun _ _ _ => Ext.trans) (by kernel_rfl) rfl rfl trivial
      focus
      iterate 3 (apply Mono.step_is; (· refine Mono.obl_mk fun w9 hE9 _ K hK => ?_; clear hE9; go_wp2_with fail; simp only [Act.put, List.setIfInBounds_toArray, List.set_cons_succ, List.set_cons_zero] at hK; exact hK _ _ (Ext.refl _) (Mono.is_rfl _ _)); simp only [Act.put, List.setIfInBounds_toArray, List.set_cons_succ, List.set_cons_zero])
      apply Mono.step_is
      · refine Mono.obl_mk fun w9 hE9 _ K hK => ?_
        have q1 : ∀ (j : Nat) u, (u8s x)[j]? = some u → w9.cell? ⟨s1, o1 + i * 32 + j, none⟩ = some u := fun j u hu => ((HE.out.trans (Ext.drew wr)).trans hE9).cell (K1.out j u hu)
        have Q1 := Lib.hid q1
        clear hE9 q1
        go_wp2_with (refine wpList_load_part rfl 63 (.tmp 19) rfl s1 (o1 + i * 32) rfl (u8s x) _ Q1.out Tryd.underlying63 rfl HI8.out ?_)
        simp only [Act.put, List.setIfInBounds_toArray, List.set_cons_succ, List.set_cons_zero] at hK ⊢
        exact hK _ _ (Ext.refl _) (Mono.is_rfl _ _)
      simp only [Act.put, List.setIfInBounds_toArray, List.set_cons_succ, List.set_cons_zero]
      iterate 3 (apply Mono.step_is; (· refine Mono.obl_mk fun w9 hE9 _ K hK => ?_; clear hE9; go_wp2_with fail; simp only [Act.put, List.setIfInBounds_toArray, List.set_cons_succ, List.set_cons_zero] at hK; exact hK _ _ (Ext.refl _) (Mono.is_rfl _ _)); simp only [Act.put, List.setIfInBounds_toArray, List.set_cons_succ, List.set_cons_zero])
      apply Mono.step_is
      · refine Mono.obl_mk fun w9 hE9 _ K hK => ?_
        have q1 : ∀ (j : Nat) u, (u8s x)[j]? = some u → w9.cell? ⟨s2, o2 + i * 32 + j, none⟩ = some u := fun j u hu => ((HE.out.trans (Ext.drew wr)).trans hE9).cell (K2.out j u hu)
        have Q1 := Lib.hid q1
        clear hE9 q1
        go_wp2_with (refine wpList_load_part rfl 63 (.tmp 23) rfl s2 (o2 + i * 32) rfl (u8s x) _ Q1.out Tryd.underlying63 rfl HI8.out ?_)
        simp only [Act.put, List.setIfInBounds_toArray, List.set_cons_succ, List.set_cons_zero] at hK ⊢
        exact hK _ _ (Ext.refl _) (Mono.is_rfl _ _)
      simp only [Act.put, List.setIfInBounds_toArray, List.set_cons_succ, List.set_cons_zero]
      apply Mono.step_is
      · refine Mono.obl_mk fun w9 hE9 _ K hK => ?_
        clear hE9
        go_wp2_with fail
        simp only [Act.put, List.setIfInBounds_toArray, List.set_cons_succ, List.set_cons_zero] at hK
        trace_state
        exact hK _ _ (Ext.refl _) (Mono.is_rfl _ _)
      simp only [Act.put, List.setIfInBounds_toArray, List.set_cons_succ, List.set_cons_zero]
      refine Mono.step_end fun w9 hE9 hkn => ?_
      simp only [List.drop_succ_cons, List.drop_zero]
      replace hE9 : Ext wr w9 := (Ext.drew wr).trans hE9
      have HE9 := Lib.hid (HE.out.trans hE9)
      clear hkn hE9 heq
      go_wp2_with fail
      go_roundg (N - (i + 1))
      case measure => omega
      case rel => exact ⟨i + 1, by go_num, by omega, HE9.out⟩
    · obtain rfl : i = N := by omega
      clear hi hiN
      go_wp2_with fail
      go_ret
      exact ⟨rfl, HE.out⟩
end Go.Proofs.YtgefphfnicjbiaaDoor
