/- Layer 3 (sha): State.Write. -/
import Derived.Test.YtgefphfnicjbiaaDoorBun5
set_option linter.unusedSimpArgs false
set_option linter.unusedVariables false
namespace Go.Proofs.YtgefphfnicjbiaaDoor
open Go Go.RowKit

theorem u64_and63 (n : Nat) (hn : n < 18446744073709551616) : bits .and .u64 (n : Int) 63 = ((n % 64 : Nat) : Int) := by
  have h127 : (BitVec.ofInt 64 63).toNat = 2 ^ 6 - 1 := by decide
  have key : (BitVec.ofInt 64 (n : Int) &&& BitVec.ofInt 64 63).toNat = ((n : Int) % ((2 ^ 64 : Nat) : Int)).toNat % 2 ^ 6 := by
    rw [BitVec.toNat_and, BitVec.toNat_ofInt, h127, Nat.and_two_pow_sub_one_eq_mod]
  show IntKind.u64.wrap ((BitVec.ofInt 64 (n : Int) &&& BitVec.ofInt 64 63).toNat : Nat) = ((n % 64 : Nat) : Int)
  rw [key, IntKind.wrap_u64]
  omega
theorem write_ret (b : Nat) (cs : Array Value) (hs : cs.size = 73) (F : World) (tmps : Array Value) (R : Ending → World → Prop) (hB : Blk F b cs 82)
    (hz : tmps[4]? = some (.pointer (some ⟨b, 0, none⟩))) (h : R (.returned (.agg cs)) F) :
    bodyPost Tryd.prog Tryd.f40 R .ret { tmps := tmps, defers := [] } F := by
  refine bodyPost_ret ?_ rfl h
  exact results_cell_row Tryd.results40 tmps F b _ cs (0, 0) _ (by simp [hz]) hB Tryd.underlying82 rfl (by rw [hs]; kernel_rfl)
section
variable {P : Program}
/-- A value of several cells is laid into a part of a block. -/
theorem wpList_store_part {ops : Array Oper} {rest : List Oper} {o : Oper} {a : Act} {w : World} {Q : Exit → Act → World → Prop} (hgd : o.guard = none) (ty : TypeId) (x y : Operand) (ho : o.op = .store ty x y)
    (g k : Nat) (cells : Array Value) (hx : a.eval x = .pointer (some ⟨g, k, none⟩)) (hy : a.eval y = .agg cells)
    (t : TypeId) (old : Array Value) (hg : w.heap[g]? = some (.cells old t (0, 0))) (hi : (P.info? ty).map (·.size) = some cells.size)
    (hfit : k + cells.size ≤ old.size) (h1 : cells.all (·.oneCell') = true)
    (h : wpList P ops Q rest (a.put o.dst undef) (w.setRow g (old.toList.take k ++ cells.toList ++ old.toList.drop (k + cells.toList.length)).toArray)) : wpList P ops Q (o :: rest) a w := by
  refine wpList_plain hgd fun _ hK => ?_
  have hst := run_storeCells_at P g k t cells.toList 0 old w hg (by simpa using hfit) (fun v hv => (Array.all_eq_true_iff_forall_mem.1 h1) v (by simpa using hv))
  have key : (storeVar ty ⟨g, k, none⟩ (.agg cells)).run P w = .ok () (w.setRow g (old.toList.take k ++ cells.toList ++ old.toList.drop (k + cells.toList.length)).toArray) := by
    cases hq : P.info? ty with
    | none => simp [hq] at hi
    | some i =>
      have hs : cells.size = i.size := by simp [hq] at hi; omega
      rw [Nat.add_zero] at hst
      simp only [storeVar, sizeOf, typeInfo, hq, Value.cells, hs, Sem.run_bind, Sem.run_pure, Result.andThen_ok]
      simp [hq, hs, hst]
  unfold Oper.wp execOp
  simp only [ho, hx, hy, Instr.storeAt, Instr.sureAddr, Sem.run_bind, Sem.run_pure, Result.andThen_ok, key]
  exact hK _ _ h
end
/-- A part of a block is loaded whole. -/
theorem wpList_load_part {P : Program} {ops : Array Oper} {rest : List Oper} {o : Oper} {a : Act} {w : World} {Q : Exit → Act → World → Prop} (hgd : o.guard = none) (ty : TypeId) (x : Operand) (ho : o.op = .load ty x)
    (g k : Nat) (hx : a.eval x = .pointer (some ⟨g, k, none⟩)) (cs : List Value) (d : TypeDesc) (hc : ∀ j v, cs[j]? = some v → w.cell? ⟨g, k + j, none⟩ = some v)
    (hu : P.underlying ty = some d) (hd : (match d with | .struct _ | .array _ _ => true | _ => false) = true) (hi : (P.info? ty).map (·.size) = some cs.length)
    (h : wpList P ops Q rest (a.put o.dst (.agg cs.toArray)) w) : wpList P ops Q (o :: rest) a w := by
  refine wpList_plain hgd fun _ hK => ?_
  have hl := run_loadCells_list (P := P) w ⟨g, k, none⟩ cs (fun j v hv => by rw [Addr.add_lit]; exact hc j v hv)
  have key : (loadVar ty ⟨g, k, none⟩).run P w = .ok (.agg cs.toArray) w := by
    cases hq : P.info? ty with
    | none => simp [hq] at hi
    | some i =>
      have hs : i.size = cs.length := by simpa [hq] using hi
      have hagg : (isAgg ty).run P w = .ok true w := by
        unfold isAgg
        rw [Sem.run_bind, run_underlying hu w]
        cases d <;> simp_all
      simp [loadVar, Sem.run_bind, hagg, sizeOf, typeInfo, hq, hs, hl]
  unfold Oper.wp execOp
  simp only [ho, hx, Instr.loadAt, Instr.sureAddr, Sem.run_bind, Sem.run_pure, Result.andThen_ok, key]
  exact hK _ _ h
set_option maxRecDepth 100000 in
theorem slice_all64 (b o : Nat) (W : World) : (Instr.sliceAt 80 (.pointer (some ⟨b, o, none⟩)) none none none).run Tryd.prog W = .ok (.slice (some ⟨b, o, none⟩) 64 64) W := by
  have hal : Tryd.prog.arrayLen 80 = 64 := by kernel_rfl
  rw [run_sliceAt_array_all W 80 _ (by kernel_rfl), hal]
  have hsz : (sizeOf (Tryd.prog.elem 80)).run Tryd.prog W = .ok 1 W := rfl
  rw [hsz]
  simp [Result.andThen, slicedAt, Addr.add]
/-- Bytes are copied over a part of a block. -/
theorem run_copy_u8 {P : Program} (W : World) (g o dLen dCap : Nat) (cur : Array Value) (e t ty el : TypeId) (sa : Option Addr) (sn sc : Nat) (D : List Int) (K : Nat) (hu : P.underlying t = some (.slice el)) (hs : (P.info? el).map (·.size) = some 1)
    (hB : Blk W g cur e) (hD : Rd W (.slice sa sn sc) (u8s D)) (hK : K = min D.length dLen) (hfit : o + K ≤ cur.size) :
    (Builtin.copy_ #[t, t] ty #[.slice (some ⟨g, o, none⟩) dLen dCap, .slice sa sn sc]).run P W = .ok (.int .i64 (K : Int)) (W.setRow g (cur.toList.take o ++ u8s (D.take K) ++ cur.toList.drop (o + (u8s (D.take K)).length)).toArray) := by
  have hl : (u8s (D.take K)).length = K := by simp [u8s, List.length_take]; omega
  obtain ⟨a, c, hv, hc1, hc2, hc⟩ := hD
  obtain ⟨rfl, hn, rfl⟩ : sa = a ∧ sn = (u8s D).length ∧ sc = c := by simpa using hv
  rw [show (u8s D).length = D.length by simp [u8s]] at hn
  have hmin : Nat.min D.length dLen = K := hK.symm
  cases sa with
  | none =>
    have h0 : D = [] := by
      rcases hc with h | ⟨b, o', h1, _⟩
      · simpa [u8s] using h
      · cases h1
    subst h0
    have hK0 : K = 0 := by simpa using hK
    subst hK0 hn
    have he : (cur.toList.take o ++ u8s (([] : List Int).take 0) ++ cur.toList.drop (o + (u8s (([] : List Int).take 0)).length)).toArray = cur := by simp [u8s]
    rw [he, setRow_self W g cur e (0, 0) hB]
    simp [Builtin.copy_, run_underlying hu, Builtin.lenOf, sizeOf, typeInfo, run_firstCells_none, storeCells]
    cases hq : P.info? el with
    | none => simp [hq] at hs
    | some i => simp [Builtin.firstCells, loadCells, storeCells, goInt]
  | some ad =>
    subst hn
    have := run_copy_rowK (P := P) W t t ty el 1 g o dLen dCap ad D.length sc cur e (u8s (D.take K)) hu hs hB (by rw [hl, hmin, Nat.mul_one]) (fun j v hj => by
      have hjl : j < K := by have := (List.getElem?_eq_some_iff.1 hj).1; omega
      have hj' : (u8s D)[j]? = some v := by
        rw [← hj]; simp only [u8s, List.getElem?_map]; rw [List.getElem?_take_of_lt hjl]
      rcases hc with h | ⟨b, o', h1, h2⟩
      · rw [h] at hj'; simp at hj'
      · cases h1
        have := h2 j v hj'
        rw [Addr.add_lit]
        exact this) (by rw [hl]; exact hfit) (fun v hv => by
        obtain ⟨x, -, rfl⟩ := List.mem_map.1 hv
        rfl)
    rw [hmin] at this
    exact this
/-- The end of a slice. -/
theorem run_slice_rd {P : Program} (W : World) (t : TypeId) (a : Option Addr) (n c k : Nat) (cs : List Value) (ht : P.underlying t = some (.slice (P.elem t))) (hs : (P.info? (P.elem t)).map (·.size) = some 1) (h : Rd W (.slice a n c) cs) (hk : k ≤ n) :
    ∃ a2, (∀ kd W, (Instr.slice t (.slice a n c) (some (.int kd (k : Int))) none none).run P W = .ok (.slice a2 (n - k) (c - k)) W) ∧ ∀ W, Rd W (.slice a n c) cs → Rd W (.slice a2 (n - k) (c - k)) (cs.drop k) := by
  have hnl : n = cs.length := by obtain ⟨a', c', hv, _⟩ := h; cases hv; rfl
  refine ⟨if c = k then a else a.map (·.add k), fun kd W => ?_, fun W h => ?_⟩
  · rw [run_slice_l W t a n c ht kd (k : Int) (by omega) (by omega)]
    cases hq : P.info? (P.elem t) with
    | none => simp [hq] at hs
    | some i =>
      have hi : i.size = 1 := by simpa [hq] using hs
      simp [sizeOf, typeInfo, hq, hi, Result.andThen, sliced]
  · obtain ⟨a', c', hv, h1, h2, h3⟩ := h
    obtain ⟨rfl, -, rfl⟩ : a = a' ∧ n = cs.length ∧ c = c' := by simpa using hv
    refine ⟨_, c - k, by rw [List.length_drop, hnl], by rw [List.length_drop]; omega, by omega, ?_⟩
    by_cases hd : cs.drop k = []
    · exact .inl hd
    · refine .inr ?_
      have hlt : k < cs.length := by
        rcases Nat.lt_or_ge k cs.length with h | h
        · exact h
        · exact absurd (List.drop_eq_nil_of_le h) hd
      rcases h3 with h3 | ⟨b, o, rfl, hc⟩
      · rw [h3] at hlt; simp at hlt
      · refine ⟨b, o + k, ?_, fun j u hj => ?_⟩
        · rw [if_neg (by omega)]
          simp [Addr.add]
        · rw [List.getElem?_drop] at hj
          have := hc (k + j) u hj
          rw [Nat.add_assoc]; exact this
/-- A state in its box, the answer's box behind it. -/
structure WrS (w W : World) (T2 : Nat) (o : List Wd) (r : List Int) (n : Int) : Prop where
  ext : Ext w W
  st : Blk W T2 (stC o r n) 82
  ans : ∃ z : Array Value, z.size = 73 ∧ Blk W (T2 + 1) z 82
  low : w.heap.size ≤ T2
section
variable {w W W' : World} {T2 : Nat} {o : List Wd} {r : List Int} {n : Int}
theorem WrS.chg (h : WrS w W T2 o r n) (hC : Chg [T2] W W') {o' : List Wd} {r' : List Int} {n' : Int} (hB : Blk W' T2 (stC o' r' n') 82) : WrS w W' T2 o' r' n' := by
  obtain ⟨z, hz, hz2⟩ := h.ans
  exact ⟨((Chg.ext h.ext : Chg [T2] w W).trans hC).toExt (fun t ht => by simp at ht; subst ht; exact h.low), hB, ⟨z, hz, hz2.chg hC (by simp)⟩, h.low⟩
theorem WrS.setN (h : WrS w W T2 o r n) (ho : o.length = 8) (hr : r.length = 64) (m : Int) : WrS w (W.setCell ⟨T2, 72, none⟩ (.int .u64 m)) T2 o r m := by
  have := h.st.set 72 (.int .u64 m)
  rw [stC_set_n ho hr] at this
  exact h.chg (Chg.set T2 72 _ (by simp)) this
theorem WrS.put (h : WrS w W T2 o r n) (ho : o.length = 8) (hr : r.length = 64) {C : List Int} {a : Nat} (hf : a + C.length ≤ 64) :
    WrS w (W.setRow T2 ((stC o r n).toList.take (8 + a) ++ u8s C ++ (stC o r n).toList.drop (8 + a + (u8s C).length)).toArray) T2 o (r.take a ++ C ++ r.drop (a + C.length)) n := by
  rw [stC_put ho hr hf]
  have hg : W.grownBy (W.setRow T2 (stC o (r.take a ++ C ++ r.drop (a + C.length)) n)) (some T2) := ⟨rfl, rfl, rfl, by simp [World.setRow], fun k _ hk => setRow_other W T2 k _ (fun e => hk (by rw [e]))⟩
  exact h.chg (Chg.some hg (.inl (by simp))) (setRow_heap W T2 _ _ _ (0, 0) h.st)
theorem stC_one : (stC o r n).all (·.oneCell') = true := by
  rw [Array.all_eq_true_iff_forall_mem]
  intro v hv
  unfold stC at hv
  simp only [List.mem_toArray, List.mem_append, List.mem_map, u8s, List.mem_singleton] at hv
  rcases hv with (⟨x, -, rfl⟩ | ⟨x, -, rfl⟩) | rfl <;> rfl
theorem WrS.fin (h : WrS w W T2 o r n) (cs : Array Value) : Ext w (W.setRow (T2 + 1) cs) := by
  have hg : W.grownBy (W.setRow (T2 + 1) cs) (some (T2 + 1)) := ⟨rfl, rfl, rfl, by simp [World.setRow], fun k _ hk => setRow_other W (T2 + 1) k _ (fun e => hk (by rw [e]))⟩
  have := h.low
  exact ((Chg.ext h.ext : Chg [T2 + 1] w W).trans (Chg.some hg (.inl (by simp)))).toExt (fun t ht => by simp at ht; omega)
end
theorem state_info {o : List Wd} {r : List Int} {n : Int} (ho : o.length = 8) (hr : r.length = 64) : (Tryd.prog.info? 82).map (·.size) = some (stC o r n).size := by
  rw [stC_size ho hr]; kernel_rfl
set_option maxRecDepth 100000 in
set_option maxHeartbeats 8000000 in
theorem write_c (T B : List Int) (bv : Value) (w : World) (hT8 : ∀ x ∈ T, 0 ≤ x ∧ x ≤ 255) (hB8 : ∀ x ∈ B, 0 ≤ x ∧ x ≤ 255) (hb : Rd w bv (u8s B)) (hl : T.length + B.length ≤ 140737488355328) (hT : Tabs w) :
    Calls Tryd.prog 40 #[.agg (absC T), bv] w fun e w' => e = .returned (.agg (absC (T ++ B))) ∧ Ext w w' := by
  obtain ⟨ba, bn, bc, rfl⟩ := hb.shape
  have hbn : bn = B.length := by obtain ⟨a, c, h, -⟩ := hb; cases h; simp [u8s]
  subst hbn
  have HRB := Lib.hid hb; have HT := Lib.hid hT; have HT8 := Lib.hid hT8; have HB8 := Lib.hid hB8
  clear hb hT hT8 hB8
  obtain ⟨L, hL⟩ : ∃ L, L = T.length := ⟨_, rfl⟩
  obtain ⟨N, hN⟩ : ∃ N, N = B.length := ⟨_, rfl⟩
  have hsz : (absC T).size = 73 := stC_size (absO_len T _) (absR_len T)
  have hcn : (absC T)[72]? = some (Value.int .u64 (L : Int)) := by rw [hL]; exact stC_n (absO_len T _) (absR_len T)
  have hand : bits .and .u64 (L : Int) 63 = ((L % 64 : Nat) : Int) := u64_and63 L (by omega)
  obtain ⟨at0, hat⟩ : ∃ q, q = L % 64 := ⟨_, rfl⟩
  rw [← hat] at hand
  rw [← hN, ← hL] at hl
  rw [← hN]
  have HL := Lib.hid hL; have HN := Lib.hid hN; have HAT := Lib.hid hat
  clear hL hN hat
  obtain ⟨X, hX⟩ : ∃ X, X = T ++ B := ⟨_, rfl⟩
  have hXl : X.length = L + N := by rw [hX, List.length_append, HL.out, HN.out]
  have HX := Lib.hid hX; have HXL := Lib.hid hXl
  rw [← hX]
  clear hX hXl
  go_enter Tryd.func40, Tryd.ntmps40
  go_upto_region 1 with fail
  have HW0 : Hid (WrS w ((w.alloc (.cells (absC T) 82)).alloc (.cells Tryd.zeroCells82 82)) w.heap.size (absO T (L / 64)) (absR T) (L : Int)) := Lib.hid (by
    have h2 := Blk.new (w.alloc (.cells (absC T) 82)) Tryd.zeroCells82 82
    simp only [World.size_alloc] at h2
    refine ⟨(Ext.alloc _ _).trans (Ext.alloc _ _), ?_, ⟨_, rfl, h2⟩, Nat.le_refl _⟩
    have h1 := (Blk.new w (absC T) 82).alloc (.cells Tryd.zeroCells82 82)
    rw [HL.out]
    exact h1)
  obtain ⟨T2, hT2⟩ : ∃ T, T = w.heap.size := ⟨_, rfl⟩
  rw [← hT2] at HW0 ⊢
  generalize (w.alloc (.cells (absC T) 82)).alloc (.cells Tryd.zeroCells82 82) = W0 at *
  have HT2 := Lib.hid hT2
  clear hT2 hsz hcn
  have kn : W0.cell? ⟨T2, 72, none⟩ = some (.int .u64 (L : Int)) := HW0.out.st.cell 72 (stC_n (absO_len T _) (absR_len T))
  have fn : W0.frozen? ⟨T2, 72, none⟩ = false := HW0.out.st.free 72
  have h64 : at0 < 64 := by have := HAT.out; omega
  go_upto_region 3 with fail
  have HW1 := Lib.hid (HW0.out.setN (absO_len T _) (absR_len T) ((L : Int) + (N : Int)))
  generalize W0.setCell ⟨T2, 72, none⟩ (.int .u64 ((L : Int) + (N : Int))) = W1 at *
  clear kn fn HW0 hand
  go_upto_if 19 with fail
  go_cut [1] (fun v1 wc => ∃ k : Nat, 64 * k ≤ L + N ∧ L < 64 * k + 64 ∧ Rd w v1 (u8s (X.drop (64 * k))) ∧ WrS w wc T2 (absO X k) (List.replicate 64 0) ((L : Int) + (N : Int)))
  case first =>
    by_cases h0 : at0 = 0
    · subst h0
      go_wp2_with fail
      go_meet
      refine ⟨L / 64, by omega, by omega, ?_, ?_⟩
      · have hd : X.drop (64 * (L / 64)) = B := by have := HAT.out; rw [HX.out, List.drop_left' (by rw [← HL.out]; omega)]
        rw [hd, HN.out]
        exact HRB.out
      · have := HW1.out
        rw [absR_even T (by rw [← HL.out]; exact HAT.out.symm)] at this
        rw [HX.out, absO_append T B _ (by rw [← HL.out]; omega)]
        exact this
    · have hsl : ∀ W, (Instr.sliceAt 80 (.pointer (some ⟨T2, 8, none⟩)) (some (.int .i64 (at0 : Int))) none none).run Tryd.prog W = .ok (.slice (some ⟨T2, 8 + at0, none⟩) (64 - at0) (64 - at0)) W := by
        intro W
        have hal : Tryd.prog.arrayLen 80 = 64 := by kernel_rfl
        rw [run_sliceAt_array_l W 80 _ (by kernel_rfl) .i64 (at0 : Int) (by omega) (by rw [hal]; omega), hal]
        have hsz : (sizeOf (Tryd.prog.elem 80)).run Tryd.prog W = .ok 1 W := rfl
        rw [hsz]
        simp [Result.andThen, slicedAt, Addr.add, show ¬ (64 = at0) by omega, h0]
      have h0' : (0 : Int) < (at0 : Int) := by omega
      have hrd := HRB.out.ext HW1.out.ext
      rw [← HN.out] at hrd
      by_cases h1 : at0 + N < 64
      · have hcp := run_copy_u8 (P := Tryd.prog) W1 T2 (8 + at0) (64 - at0) (64 - at0) _ _ 27 3 5 ba N bc B N Tryd.underlying27 (by kernel_rfl) HW1.out.st hrd (by rw [← HN.out]; omega) (by rw [stC_size (absO_len T _) (absR_len T)]; omega)
        have hp := HW1.out.put (absO_len T _) (absR_len T) (C := B.take N) (a := at0) (by rw [List.length_take]; omega)
        rw [List.take_of_length_le (l := B) (by rw [← HN.out]; omega)] at hp
        rw [List.take_of_length_le (l := B) (by rw [← HN.out]; omega)] at hcp
        generalize W1.setRow T2 _ = W2 at hp hcp
        obtain ⟨a2, hs2, -⟩ := run_slice_rd (P := Tryd.prog) W1 27 ba N bc N _ Tryd.underlying27 (by kernel_rfl) hrd (Nat.le_refl _)
        have HP := Lib.hid hp
        clear hrd hp
        go_upto_region 7 with fail
        have hr2 : (absR T).take at0 ++ B ++ (absR T).drop (at0 + B.length) = absR X := by
          have h3 : at0 = T.length % 64 := by rw [← HL.out]; exact HAT.out
          rw [h3, HX.out]
          exact absR_more T B (by rw [← h3, ← HN.out]; omega)
        have ho2 : absO T (L / 64) = absO X (X.length / 64) := by
          have h3 := HAT.out
          rw [HXL.out, show (L + N) / 64 = L / 64 by omega, HX.out, absO_append T B _ (by rw [← HL.out]; omega)]
        have hn2 : (L : Int) + (N : Int) = (X.length : Int) := by rw [HXL.out]; omega
        have HQ : Hid (WrS w W2 T2 (absO X (X.length / 64)) (absR X) (X.length : Int)) := Lib.hid (by rw [← ho2, ← hr2, ← hn2]; exact HP.out)
        clear hr2 ho2 hn2 hcp hs2 hsl HP
        obtain ⟨z, hz1, hz2⟩ := HQ.out.ans
        have HZ := Lib.hid hz2; have HZ1 := Lib.hid hz1
        clear hz1 hz2
        go_wp2_with (first | (refine wpList_load_row rfl 82 (.tmp 2) rfl T2 rfl 82 _ (0, 0) _ HQ.out.st Tryd.underlying82 rfl (state_info (absO_len X _) (absR_len X)) ?_) | (refine wpList_store_row rfl 82 (.tmp 4) (.tmp 32) rfl (T2 + 1) _ rfl rfl 82 z HZ.out (state_info (absO_len X _) (absR_len X)) (by rw [HZ1.out, stC_size (absO_len X _) (absR_len X)]) stC_one ?_))
        exact write_ret (T2 + 1) _ (stC_size (absO_len X _) (absR_len X)) _ _ _ (setRow_heap W2 (T2 + 1) _ _ _ (0, 0) HZ.out) rfl ⟨rfl, HQ.out.fin _⟩
      · have hcp := run_copy_u8 (P := Tryd.prog) W1 T2 (8 + at0) (64 - at0) (64 - at0) _ _ 27 3 5 ba N bc B (64 - at0) Tryd.underlying27 (by kernel_rfl) HW1.out.st hrd (by rw [← HN.out]; omega) (by rw [stC_size (absO_len T _) (absR_len T)]; omega)
        have hp := HW1.out.put (absO_len T _) (absR_len T) (C := B.take (64 - at0)) (a := at0) (by rw [List.length_take]; omega)
        have h3 : at0 = T.length % 64 := by rw [← HL.out]; exact HAT.out
        have hf := absR_fill T B (by rw [← h3, ← HN.out]; omega)
        rw [← h3] at hf
        rw [hf] at hp
        generalize W1.setRow T2 _ = W2 at hp hcp
        obtain ⟨a2, hs2, hr2⟩ := run_slice_rd (P := Tryd.prog) W1 27 ba N bc (64 - at0) _ Tryd.underlying27 (by kernel_rfl) hrd (by omega)
        have HP := Lib.hid hp; have HR2 := Lib.hid hr2; have HRB2 := Lib.hid hrd
        clear hrd hp hf h3 hr2
        go_upto_region 8 with fail
        have hall := slice_all64 T2 8
        obtain ⟨Y, hY⟩ : ∃ Y, Y = ((T ++ B).drop (64 * (T.length / 64))).take 64 := ⟨_, rfl⟩
        have hY8 : ∀ j, j < 64 → 0 ≤ Y.getD j 0 ∧ Y.getD j 0 ≤ 255 := fun j hj => by
          rw [hY, List.getD_eq_getElem?_getD]
          cases hq : (((T ++ B).drop (64 * (T.length / 64))).take 64)[j]? with
          | none => simp
          | some x =>
            have hm := List.mem_of_mem_drop (List.mem_of_mem_take (List.mem_of_getElem? hq))
            rcases List.mem_append.1 hm with h | h
            · exact HT8.out x h
            · exact HB8.out x h
        have hYl : Y.length = 64 := by
          have h3 := HAT.out; have h4 := HL.out; have h5 := HN.out
          rw [hY, List.length_take, List.length_drop, List.length_append]; omega
        have HP2 := HP.out
        rw [← hY] at HP2
        have HMX := Lib.hid (mix_l T2 T2 8 64 64 _ (absO_len T _) Y ((L : Int) + (N : Int)) Y W2 HP2.st (Nat.le_refl _) (Nat.le_refl _) (by omega) (fun j hj => by
          refine HP2.st.cell (8 + j) ?_
          have : Y[j]? = some (Y.getD j 0) := by rw [List.getD_eq_getElem?_getD, List.getElem?_eq_getElem (by omega)]; rfl
          exact stC_rest (absO_len T _) this) hY8 (HT.out.ext HP2.ext))
        have HY := Lib.hid hY; have HYL := Lib.hid hYl; have HP2 := Lib.hid HP2
        clear hY hYl hY8 hcp hs2 hsl HP
        go_wp2_with fail
        refine HMX.out.mono ?_
        rintro e W3 ⟨rfl, hC3, hB3⟩
        have hW3 := HP2.out.chg hC3 hB3
        have ho3 : mixO (absO T (L / 64)) Y = absO X (L / 64 + 1) := by
          rw [absO, HY.out, mixO_take, ← HX.out, ← HL.out]
          rw [show absO T (L / 64) = absO X (L / 64) by rw [HX.out, absO_append T B _ (by rw [← HL.out]; omega)]]
        rw [ho3] at hW3
        have HW3 := Lib.hid hW3
        clear hC3 hB3 hW3 ho3 HMX HP2 hall
        have hW4 := HW3.out.put (absO_len X _) HYL.out (C := List.replicate 64 0) (a := 0) (by simp)
        have hr4 : Y.take 0 ++ List.replicate 64 0 ++ Y.drop (0 + (List.replicate 64 (0 : Int)).length) = List.replicate 64 0 := by
          rw [List.take_zero, List.nil_append, List.length_replicate, List.drop_eq_nil_of_le (by rw [HYL.out]; omega), List.append_nil]
        rw [hr4] at hW4
        clear hr4
        have HW4 := Lib.hid hW4
        clear hW4
        go_wp2_with (refine wpList_store_part rfl 80 (.tmp 37) (.tmp 36) rfl T2 8 (u8s (List.replicate 64 0)).toArray rfl rfl 82 _ HW3.out.st (by kernel_rfl) (by rw [stC_size (absO_len X _) HYL.out]; simp [u8s]) (by kernel_rfl) ?_)
        go_meet
        refine ⟨L / 64 + 1, by have := HAT.out; omega, by have := HAT.out; omega, ?_, HW4.out⟩
        have h3 := HR2.out w (HRB.out |> fun h => by rw [← HN.out] at h; exact h)
        rw [show X.drop (64 * (L / 64 + 1)) = B.drop (64 - at0) by
          have h4 := HAT.out; have h5 := HL.out
          rw [HX.out, List.drop_append, List.drop_eq_nil_of_le (by omega), List.nil_append]
          congr 1; omega]
        rw [show u8s (B.drop (64 - at0)) = (u8s B).drop (64 - at0) by simp [u8s, List.map_drop]]
        exact h3
  case rest =>
    obtain ⟨k0, hk1, hk2, hrd, hW⟩ := hcut
    have HRD := Lib.hid hrd; have HW := Lib.hid hW
    clear hrd hW hk2
    go_wp2_with fail
    go_loopg [1] ((L + N) / 64 - k0) (fun g v1 wr => ∃ k : Nat, 64 * k ≤ L + N ∧ k + g = (L + N) / 64 ∧ Rd w v1 (u8s (X.drop (64 * k))) ∧ WrS w wr T2 (absO X k) (List.replicate 64 0) ((L : Int) + (N : Int)))
    case atStart => exact ⟨k0, hk1, by omega, HRD.out, HW.out⟩
    case round =>
      obtain ⟨k, hk1, hk3, hrd, hW⟩ := hrel
      obtain ⟨a1, n1, c1, rfl⟩ := hrd.shape
      have hX8 : ∀ j, 0 ≤ (X.drop (64 * k)).getD j 0 ∧ (X.drop (64 * k)).getD j 0 ≤ 255 := fun j => by
        rw [List.getD_eq_getElem?_getD]
        cases hq : (X.drop (64 * k))[j]? with
        | none => simp
        | some x =>
          have hm := List.mem_of_mem_drop (List.mem_of_getElem? hq)
          rw [HX.out] at hm
          rcases List.mem_append.1 hm with h | h
          · exact HT8.out x h
          · exact HB8.out x h
      have hrd0 := hrd
      obtain ⟨a', c', hv, hc1, hc2, hc3⟩ := hrd
      obtain ⟨rfl, hn1, rfl⟩ : a1 = a' ∧ n1 = (u8s (X.drop (64 * k))).length ∧ c1 = c' := by simpa using hv
      have hul : (u8s (X.drop (64 * k))).length = L + N - 64 * k := by have := HXL.out; simp [u8s]; omega
      have hn2 : n1 = L + N - 64 * k := hn1.trans hul
      rw [← hn1] at hc1
      have hc2' : c1 ≤ 9223372036854775807 := hc2
      have HW2 := Lib.hid hW
      clear hW hv
      by_cases h64 : 64 ≤ n1
      · have h64' : (64 : Int) ≤ (n1 : Int) := by omega
        obtain ⟨b, o, rfl, hc4⟩ : ∃ b o, a1 = some ⟨b, o, none⟩ ∧ ∀ (j : Nat) u, (u8s (X.drop (64 * k)))[j]? = some u → w.cell? ⟨b, o + j, none⟩ = some u := by
          rcases hc3 with h | h
          · rw [h] at hn1; simp at hn1; omega
          · exact h
        have HMX := Lib.hid (mix_l T2 b o n1 c1 _ (absO_len X k) (List.replicate 64 0) ((L : Int) + (N : Int)) (X.drop (64 * k)) wr HW2.out.st h64 hc1 hc2' (fun j hj => HW2.out.ext.cell (hc4 j _ (by
          have : (X.drop (64 * k))[j]? = some ((X.drop (64 * k)).getD j 0) := by rw [List.getD_eq_getElem?_getD, List.getElem?_eq_getElem (by rw [List.length_drop, HXL.out]; omega)]; rfl
          show (List.map (Value.int .u8) (X.drop (64 * k)))[j]? = _
          rw [List.getElem?_map, this]; rfl))) (fun j _ => hX8 j) (HT.out.ext HW2.out.ext))
        obtain ⟨a2, hs2, hr2⟩ := run_slice_rd (P := Tryd.prog) w 27 (some ⟨b, o, none⟩) n1 c1 64 _ Tryd.underlying27 (by kernel_rfl) hrd0 h64
        have hs3 : ∀ W, (Instr.slice 27 (.slice (some ⟨b, o, none⟩) n1 c1) (some (.int .i64 (64 : Int))) none none).run Tryd.prog W = .ok (.slice a2 (n1 - 64) (c1 - 64)) W := fun W => hs2 .i64 W
        have HRD0 := Lib.hid hrd0; have HR2 := Lib.hid hr2; have HN1 := Lib.hid hn2
        clear hs2 hc4 hc3 hrd0 hr2 hn1 hul hX8 hn2
        go_wp2_with fail
        refine HMX.out.mono ?_
        rintro e W3 ⟨rfl, hC3, hB3⟩
        have HW3 := Lib.hid (HW2.out.chg hC3 hB3)
        have HC3 := Lib.hid hC3
        clear hC3 hB3 HMX
        go_wp2_with fail
        go_roundg (gk - 1)
        case measure => have := HN1.out; omega
        case rel =>
          have h3 := HR2.out w HRD0.out
          have h4 := HW3.out
          refine ⟨k + 1, by have := HN1.out; omega, by have := HN1.out; omega, ?_, ?_⟩
          · rw [show u8s (X.drop (64 * (k + 1))) = (u8s (X.drop (64 * k))).drop 64 by simp only [u8s, List.map_drop, List.drop_drop]; rfl]
            exact h3
          · rw [absO]; exact h4
      · have h64' : (n1 : Int) < 64 := by omega
        have hk4 : k = X.length / 64 := by rw [HXL.out]; omega
        have hn2 : (L : Int) + (N : Int) = (X.length : Int) := by rw [HXL.out]; omega
        rw [hn2] at HW2
        have hall := slice_all64 T2 8
        have hrd := hrd0.ext HW2.out.ext
        have hXd : (X.drop (64 * k)).length = n1 := by rw [hn1]; simp [u8s]
        have hcp := run_copy_u8 (P := Tryd.prog) wr T2 8 64 64 _ _ 27 3 5 a1 n1 c1 (X.drop (64 * k)) n1 Tryd.underlying27 (by kernel_rfl) HW2.out.st hrd (by rw [hXd]; omega) (by rw [stC_size (absO_len X _) (by simp)]; omega)
        have hp := HW2.out.put (absO_len X _) (by simp) (C := (X.drop (64 * k)).take n1) (a := 0) (by rw [List.length_take]; omega)
        rw [Nat.add_zero] at hp
        rw [List.take_of_length_le (l := X.drop (64 * k)) (by omega)] at hcp hp
        generalize wr.setRow T2 _ = W2 at hp hcp
        rw [hk4] at hp
        rw [absR_tail X] at hp
        have HQ := Lib.hid hp
        obtain ⟨z, hz1, hz2⟩ := hp.ans
        have HZ := Lib.hid hz2; have HZ1 := Lib.hid hz1
        clear hX8 hz1 hz2 hp hXd hrd hc3 hrd0 hn1 hul hn2 hk4 hk3 hk1
        clear hn2
        go_wp2_with (first | (refine wpList_load_row rfl 82 (.tmp 2) rfl T2 rfl 82 _ (0, 0) _ HQ.out.st Tryd.underlying82 rfl (state_info (absO_len X _) (absR_len X)) ?_) | (refine wpList_store_row rfl 82 (.tmp 4) (.tmp 49) rfl (T2 + 1) _ rfl rfl 82 z HZ.out (state_info (absO_len X _) (absR_len X)) (by rw [HZ1.out, stC_size (absO_len X _) (absR_len X)]) stC_one ?_))
        exact write_ret (T2 + 1) _ (stC_size (absO_len X _) (absR_len X)) _ _ _ (setRow_heap W2 (T2 + 1) _ _ _ (0, 0) HZ.out) rfl ⟨rfl, HQ.out.fin _⟩
end Go.Proofs.YtgefphfnicjbiaaDoor
