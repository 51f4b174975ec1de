/- Layer 3 (sha): State.Sum. -/
import Derived.Test.YtgefphfnicjbiaaDoorBun6
set_option linter.unusedSimpArgs false
set_option linter.unusedVariables false
namespace Go.Proofs.YtgefphfnicjbiaaDoor
open Go Go.RowKit

theorem sum_ret (b : Nat) (cs : Array Value) (hs : cs.size = 32) (F : World) (tmps : Array Value) (R : Ending → World → Prop) (hB : Blk F b cs 63)
    (hz : tmps[2]? = some (.pointer (some ⟨b, 0, none⟩))) (h : R (.returned (.agg cs)) F) :
    bodyPost Tryd.prog Tryd.f41 R .ret { tmps := tmps, defers := [] } F := by
  refine bodyPost_ret ?_ rfl h
  exact results_cell_row Tryd.results41 tmps F b _ cs (0, 0) _ (by simp [hz]) hB Tryd.underlying63 rfl (by rw [hs]; kernel_rfl)
/-- A state in its box, the answer's box behind it. -/
structure SmS (w W : World) (T1 : Nat) (o : List Wd) (r : List Int) (n : Int) (out : List Int) : Prop where
  ext : Ext w W
  st : Blk W T1 (stC o r n) 82
  ans : Blk W (T1 + 1) (u8s out).toArray 63
  low : w.heap.size ≤ T1
section
variable {w W W' : World} {T1 : Nat} {o : List Wd} {r out : List Int} {n : Int}
theorem SmS.chg (h : SmS w W T1 o r n out) (hC : Chg [T1] W W') {o' : List Wd} {r' : List Int} {n' : Int} (hB : Blk W' T1 (stC o' r' n') 82) : SmS w W' T1 o' r' n' out :=
  ⟨((Chg.ext h.ext : Chg [T1] w W).trans hC).toExt (fun t ht => by simp at ht; subst ht; exact h.low), hB, h.ans.chg hC (by simp), h.low⟩
theorem SmS.setR (h : SmS w W T1 o r n out) (ho : o.length = 8) {j : Nat} (hj : j < r.length) (x : Int) : SmS w (W.setCell ⟨T1, 8 + j, none⟩ (.int .u8 x)) T1 o (r.set j x) n out := by
  have := h.st.set (8 + j) (.int .u8 x)
  rw [stC_set_rest ho hj] at this
  exact h.chg (Chg.set T1 (8 + j) _ (by simp)) this
theorem SmS.zero (h : SmS w W T1 o r n out) (ho : o.length = 8) (hr : r.length = 64) :
    SmS w (W.setRow T1 ((stC o r n).toList.take 8 ++ u8s (List.replicate 64 0) ++ (stC o r n).toList.drop (8 + (u8s (List.replicate 64 0)).length)).toArray) T1 o (List.replicate 64 0) n out := by
  have e := stC_put (n := n) ho hr (C := List.replicate 64 0) (a := 0) (by simp)
  rw [List.take_zero, List.nil_append, Nat.add_zero, List.length_replicate, show r.drop (0 + 64) = [] from List.drop_eq_nil_of_le (by omega), List.append_nil] at e
  rw [e]
  have hg : W.grownBy (W.setRow T1 (stC o (List.replicate 64 0) n)) (some T1) := ⟨rfl, rfl, rfl, by simp [World.setRow], fun k _ hk => setRow_other W T1 k _ (fun e => hk (by rw [e]))⟩
  exact h.chg (Chg.some hg (.inl (by simp))) (setRow_heap W T1 _ _ _ (0, 0) h.st)
theorem SmS.setO (h : SmS w W T1 o r n out) {j : Nat} (x : Int) : SmS w (W.setCell ⟨T1 + 1, j, none⟩ (.int .u8 x)) T1 o r n (out.set j x) := by
  have h1 := h.ans.set j (.int .u8 x)
  rw [List.setIfInBounds_toArray, show (u8s out).set j (Value.int .u8 x) = u8s (out.set j x) by simp [u8s, List.map_set]] at h1
  have hC : Chg [T1 + 1] W (W.setCell ⟨T1 + 1, j, none⟩ (.int .u8 x)) := Chg.set (T1 + 1) j _ (by simp)
  have := h.low
  exact ⟨((Chg.ext h.ext : Chg [T1 + 1] w W).trans hC).toExt (fun t ht => by simp at ht; subst ht; omega), h.st.chg hC (by simp), h1, h.low⟩
end
theorem u8a_one {l : List Int} : (u8s l).toArray.all (·.oneCell') = true := by
  rw [Array.all_eq_true_iff_forall_mem]
  intro v hv
  simp only [List.mem_toArray, u8s, List.mem_map] at hv
  obtain ⟨x, -, rfl⟩ := hv
  rfl
set_option maxRecDepth 100000 in
theorem index8 (o : List Wd) (ho : o.length = 8) (i : Nat) (x : Wd) (hx : o[i]? = some x) (W : World) :
    (Instr.index 79 (.agg (o.map wC).toArray) (.int .i64 (i : Int))).run Tryd.prog W = .ok (wC x) W := by
  have hi : i < 8 := by have := (List.getElem?_eq_some_iff.1 hx).1; omega
  match o, ho with
  | [o0, o1, o2, o3, o4, o5, o6, o7], _ =>
    match i, hi, hx with
    | 0, _, h | 1, _, h | 2, _, h | 3, _, h | 4, _, h | 5, _, h | 6, _, h | 7, _, h => simp at h; subst h; rfl
set_option maxRecDepth 100000 in
set_option maxHeartbeats 8000000 in
theorem sum_c (X : List Int) (w : World) (hX8 : ∀ x ∈ X, 0 ≤ x ∧ x ≤ 255) (hl : X.length ≤ 140737488355328) (hT : Tabs w) :
    Calls Tryd.prog 41 #[.agg (absC X)] w fun e w' => e = .returned (.agg (u8s (shaB X)).toArray) ∧ Ext w w' := by
  have HT := Lib.hid hT; have HX8 := Lib.hid hX8
  clear hT hX8
  obtain ⟨L, hL⟩ : ∃ L, L = X.length := ⟨_, rfl⟩
  have hand : bits .and .u64 (L : Int) 63 = ((L % 64 : Nat) : Int) := u64_and63 L (by omega)
  obtain ⟨at0, hat⟩ : ∃ q, q = L % 64 := ⟨_, rfl⟩
  rw [← hat] at hand
  rw [← hL] at hl
  have HL := Lib.hid hL; have HAT := Lib.hid hat
  have h64 : at0 < 64 := by omega
  obtain ⟨P, hP⟩ : ∃ P, P = padT X := ⟨_, rfl⟩
  have HP := Lib.hid hP
  clear hL hat hP
  go_enter Tryd.func41, Tryd.ntmps41
  go_upto_region 1 with fail
  rw [show #[Value.int IntKind.u8 0, Value.int IntKind.u8 0, Value.int IntKind.u8 0, Value.int IntKind.u8 0, Value.int IntKind.u8 0, Value.int IntKind.u8 0, Value.int IntKind.u8 0, Value.int IntKind.u8 0, Value.int IntKind.u8 0, Value.int IntKind.u8 0, Value.int IntKind.u8 0, Value.int IntKind.u8 0, Value.int IntKind.u8 0, Value.int IntKind.u8 0, Value.int IntKind.u8 0, Value.int IntKind.u8 0, Value.int IntKind.u8 0, Value.int IntKind.u8 0, Value.int IntKind.u8 0, Value.int IntKind.u8 0, Value.int IntKind.u8 0, Value.int IntKind.u8 0, Value.int IntKind.u8 0, Value.int IntKind.u8 0, Value.int IntKind.u8 0, Value.int IntKind.u8 0, Value.int IntKind.u8 0, Value.int IntKind.u8 0, Value.int IntKind.u8 0, Value.int IntKind.u8 0, Value.int IntKind.u8 0, Value.int IntKind.u8 0] = (u8s (List.replicate 32 0)).toArray from rfl]
  have HW0 : Hid (SmS w ((w.alloc (.cells (absC X) 82)).alloc (.cells (u8s (List.replicate 32 0)).toArray 63)) w.heap.size (absO X (L / 64)) (absR X) (L : Int) (List.replicate 32 0)) := Lib.hid (by
    have h2 := Blk.new (w.alloc (.cells (absC X) 82)) (u8s (List.replicate 32 0)).toArray 63
    simp only [World.size_alloc] at h2
    refine ⟨(Ext.alloc _ _).trans (Ext.alloc _ _), ?_, h2, Nat.le_refl _⟩
    have h1 := (Blk.new w (absC X) 82).alloc (.cells (u8s (List.replicate 32 0)).toArray 63)
    rw [HL.out]
    exact h1)
  obtain ⟨T1, hT1⟩ : ∃ T, T = w.heap.size := ⟨_, rfl⟩
  rw [← hT1] at HW0 ⊢
  generalize (w.alloc (.cells (absC X) 82)).alloc (.cells (u8s (List.replicate 32 0)).toArray 63) = W0 at *
  have HT1 := Lib.hid hT1
  clear hT1
  have kn : W0.cell? ⟨T1, 72, none⟩ = some (.int .u64 (L : Int)) := HW0.out.st.cell 72 (stC_n (absO_len X _) (absR_len X))
  obtain ⟨y0, hy0⟩ : ∃ y, W0.cell? ⟨T1, 8 + at0, none⟩ = some (.int .u8 y) := ⟨_, HW0.out.st.cell (8 + at0) (stC_rest (absO_len X _) (List.getElem?_eq_getElem (by rw [absR_len]; omega)))⟩
  have fn : W0.frozen? ⟨T1, 8 + at0, none⟩ = false := HW0.out.st.free _
  have h64' : (at0 : Int) < 64 := by omega
  go_upto_region 3 with fail
  obtain ⟨R1, hR1⟩ : ∃ R, R = (absR X).set at0 128 := ⟨_, rfl⟩
  have hw1 := HW0.out.setR (absO_len X _) (j := at0) (by rw [absR_len]; omega) 128
  have hPX : absO X (L / 64) = absO P (L / 64) := by rw [HP.out]; unfold padT; rw [absO_append X _ _ (by rw [← HL.out]; omega)]
  rw [← hR1, hPX] at hw1
  have hRl : R1.length = 64 := by rw [hR1, List.length_set, absR_len]
  have hlo : ∀ j, j ≤ at0 → R1.getD j 0 = P.getD (64 * (L / 64) + j) 0 := fun j hj => by
    have h1 := HL.out; have h2 := HAT.out
    rw [hR1, HP.out, List.getD_eq_getElem?_getD]
    by_cases he : j = at0
    · subst he
      rw [List.getElem?_set_self (by rw [absR_len]; omega), show 64 * (L / 64) + j = X.length by omega, padT_at]; rfl
    · rw [List.getElem?_set_ne (by omega), ← List.getD_eq_getElem?_getD, absR_lo (by omega), padT_lo (by omega), h1]
  have hhi : ∀ j, at0 < j → R1.getD j 0 = 0 := fun j hj => by
    have h1 := HL.out; have h2 := HAT.out
    rw [hR1, List.getD_eq_getElem?_getD, List.getElem?_set_ne (by omega), ← List.getD_eq_getElem?_getD, absR_hi (by omega)]
  have hR8 : ∀ j, j < 64 → 0 ≤ R1.getD j 0 ∧ R1.getD j 0 ≤ 255 := fun j _ => by
    by_cases hj : j ≤ at0
    · rw [hlo j hj, HP.out]; exact getD_ok (padT_ok HX8.out) _
    · rw [hhi j (by omega)]; omega
  generalize W0.setCell ⟨T1, 8 + at0, none⟩ (.int .u8 128) = W1 at *
  have HW1 := Lib.hid hw1; have HRL := Lib.hid hRl; have HLO := Lib.hid hlo; have HHI := Lib.hid hhi; have HR8 := Lib.hid hR8
  clear hw1 hRl hlo hhi hR8 kn hy0 fn HW0 hand hR1 hPX h64'
  go_upto_if 15 with fail
  go_cut [] (fun wc => ∃ (k : Nat) (r' : List Int), SmS w wc T1 (absO P k) r' (L : Int) (List.replicate 32 0) ∧ r'.length = 64 ∧ 64 * k + 56 = L + 1 + zN L ∧ ∀ j, j < 56 → r'.getD j 0 = P.getD (64 * k + j) 0)
  case first =>
    by_cases h0 : at0 < 56
    · have h0' : ¬ (56 : Int) ≤ (at0 : Int) := by omega
      go_wp2_with fail
      go_meet
      have h1 := HL.out; have h2 := HAT.out
      refine ⟨L / 64, R1, HW1.out, HRL.out, by have h5 := pad_one (X := X) (by omega); rw [← h1] at h5; omega, fun j hj => ?_⟩
      by_cases hj2 : j ≤ at0
      · exact HLO.out j hj2
      · have h3 := pad_one (X := X) (by omega)
        rw [HHI.out j (by omega), HP.out, padT_z (by omega) (by omega)]
    · have h0' : (56 : Int) ≤ (at0 : Int) := by omega
      have hall := slice_all64 T1 8
      have HMX := Lib.hid (mix_l T1 T1 8 64 64 _ (absO_len P _) R1 (L : Int) R1 W1 HW1.out.st (Nat.le_refl _) (Nat.le_refl _) (by omega) (fun j hj => by
        refine HW1.out.st.cell (8 + j) ?_
        have : R1[j]? = some (R1.getD j 0) := by rw [List.getD_eq_getElem?_getD, List.getElem?_eq_getElem (by have := HRL.out; omega)]; rfl
        exact stC_rest (absO_len P _) this) HR8.out (HT.out.ext HW1.out.ext))
      go_wp2_with fail
      refine HMX.out.mono ?_
      rintro e W3 ⟨rfl, hC3, hB3⟩
      have hW3 := HW1.out.chg hC3 hB3
      have h1 := HL.out; have h2 := HAT.out
      have h3 := pad_two (X := X) (by omega)
      rw [absO_step (P := P) (Y := R1) (k := L / 64) (fun j hj => by
        by_cases hj2 : j ≤ at0
        · exact HLO.out j hj2
        · rw [HHI.out j (by omega), HP.out, padT_z (by omega) (by omega)])] at hW3
      have HW3 := Lib.hid hW3; have H3 := Lib.hid h3
      clear hC3 hB3 hW3 HMX hall h1 h2 h3
      have HW4 := Lib.hid (HW3.out.zero (absO_len P _) HRL.out)
      go_wp2_with (refine wpList_store_part rfl 80 (.tmp 20) (.tmp 19) rfl T1 8 (u8s (List.replicate 64 0)).toArray rfl rfl 82 _ HW3.out.st (by kernel_rfl) (by rw [stC_size (absO_len P _) HRL.out]; simp [u8s]) (by kernel_rfl) ?_)
      go_meet
      have h1 := HL.out; have h2 := HAT.out; have h3 := H3.out
      refine ⟨L / 64 + 1, List.replicate 64 0, HW4.out, by simp, by rw [← h1] at h3; omega, fun j hj => ?_⟩
      rw [HP.out, padT_z (by omega) (by omega), List.getD_eq_getElem?_getD, List.getElem?_replicate]
      split <;> rfl
  case rest =>
    obtain ⟨k, r2, hW2, hr2, hk, hz2⟩ := hcut
    have HW2 := Lib.hid hW2; have HR2 := Lib.hid hr2; have HK := Lib.hid hk; have HZ2 := Lib.hid hz2
    clear hW2 hr2 hk hz2
    go_wp2_with fail
    go_loopg [21] 8 (fun g v21 wr => ∃ (i : Nat) (r' : List Int), v21 = .int .i64 (i : Int) ∧ i + g = 8 ∧ SmS w wr T1 (absO P k) r' (L : Int) (List.replicate 32 0) ∧ r'.length = 64 ∧ ∀ j, j < 56 + i → r'.getD j 0 = P.getD (64 * k + j) 0)
    case atStart => exact ⟨0, r2, rfl, by omega, HW2.out, HR2.out, HZ2.out⟩
    case round =>
      obtain ⟨i, r', rfl, hi8, hW, hrl, hz⟩ := hrel
      have HW := Lib.hid hW; have HRL' := Lib.hid hrl; have HZ := Lib.hid hz
      clear hW hrl hz
      by_cases hi : i < 8
      · have hi' : (i : Int) < 8 := by omega
        obtain ⟨p, hp⟩ : ∃ p, p = 56 + i := ⟨_, rfl⟩
        obtain ⟨s, hs⟩ : ∃ s, s = 56 - 8 * i := ⟨_, rfl⟩
        have hp1 : (56 : Int) + (i : Int) = (p : Int) := by omega
        have hs1 : (56 : Int) - 8 * (i : Int) = (s : Int) := by omega
        have hp2 : (p : Int) < 64 := by omega
        have kn : wr.cell? ⟨T1, 72, none⟩ = some (.int .u64 (L : Int)) := HW.out.st.cell 72 (stC_n (absO_len P _) HRL'.out)
        obtain ⟨y0, hy0⟩ : ∃ y, wr.cell? ⟨T1, 8 + p, none⟩ = some (.int .u8 y) := ⟨_, HW.out.st.cell (8 + p) (stC_rest (absO_len P _) (List.getElem?_eq_getElem (by have := HRL'.out; omega)))⟩
        have fn : wr.frozen? ⟨T1, 8 + p, none⟩ = false := HW.out.st.free _
        have HP1 := Lib.hid hp; have HS1 := Lib.hid hs
        clear hp hs hi
        go_wp2_with fail
        go_roundg (8 - (i + 1))
        case measure => omega
        case rel =>
          have h1 := HP1.out; have h2 := HL.out
          have hv : (L : Int) * 8 / 2 ^ s % 256 = lenI L i := by
            unfold lenI; rw [← HS1.out]; push_cast; rfl
          rw [hv]
          refine ⟨i + 1, r'.set p (lenI L i), by go_num, by omega, HW.out.setR (absO_len P _) (by have := HRL'.out; omega) _, by rw [List.length_set]; exact HRL'.out, fun j hj => ?_⟩
          rw [List.getD_eq_getElem?_getD]
          by_cases hj2 : j = p
          · subst hj2
            rw [List.getElem?_set_self (by have := HRL'.out; omega), HP.out, show 64 * k + j = X.length + 1 + zN X.length + i by have := HK.out; rw [← h2]; omega, padT_n (by omega), h2]; rfl
          · rw [List.getElem?_set_ne (by omega), ← List.getD_eq_getElem?_getD]
            exact HZ.out j (by omega)
      · obtain rfl : i = 8 := by omega
        have hall := slice_all64 T1 8
        have HMX := Lib.hid (mix_l T1 T1 8 64 64 _ (absO_len P _) r' (L : Int) r' wr HW.out.st (Nat.le_refl _) (Nat.le_refl _) (by omega) (fun j hj => by
          refine HW.out.st.cell (8 + j) ?_
          have : r'[j]? = some (r'.getD j 0) := by rw [List.getD_eq_getElem?_getD, List.getElem?_eq_getElem (by have := HRL'.out; omega)]; rfl
          exact stC_rest (absO_len P _) this) (fun j hj => by rw [HZ.out j (by omega), HP.out]; exact getD_ok (padT_ok HX8.out) _) (HT.out.ext HW.out.ext))
        go_wp2_with fail
        refine HMX.out.mono ?_
        rintro e W3 ⟨rfl, hC3, hB3⟩
        have hW3 := HW.out.chg hC3 hB3
        rw [absO_step (P := P) (Y := r') (k := k) (fun j hj => HZ.out j (by omega)), show k + 1 = P.length / 64 by have h1 := HK.out; have h2 := padT_len X; rw [HP.out]; rw [HL.out] at h1; omega] at hW3
        obtain ⟨o, ho⟩ : ∃ o, o = absO P (P.length / 64) := ⟨_, rfl⟩
        have hol : o.length = 8 := by rw [ho]; exact absO_len P _
        rw [← ho] at hW3
        have HW3 := Lib.hid hW3; have HO := Lib.hid ho; have HOL := Lib.hid hol
        clear hC3 hB3 hW3 HMX hall ho hol
        go_upto_region 13 with (refine wpList_load_part rfl 79 (.tmp 40) rfl T1 0 rfl (o.map wC) _ (fun j v hv => by rw [Nat.zero_add]; exact HW3.out.st.cell j (by unfold stC; rw [List.getElem?_toArray, List.append_assoc, List.getElem?_append_left (List.getElem?_eq_some_iff.1 hv).1, hv])) Tryd.underlying79 rfl (by rw [List.length_map, HOL.out]; kernel_rfl) ?_)
        have hso : ∀ i x, o[i]? = some x → (shaO X).getD i 0 = x + gW i := fun i x hx => by
          have hi : i < 8 := by have := (List.getElem?_eq_some_iff.1 hx).1; have := HOL.out; omega
          unfold shaO
          rw [← HP.out, ← HO.out, List.getD_eq_getElem?_getD, List.getElem?_zipWith, List.getElem?_map, List.getElem?_range hi, hx]
          exact BitVec.add_comm _ _
        have HSO := Lib.hid hso
        clear hso
        go_loopg [42] 8 (fun g v42 wr => ∃ (i : Nat) (out : List Int), v42 = .int .i64 (i : Int) ∧ i + g = 8 ∧ SmS w wr T1 o r' (L : Int) out ∧ out.length = 32 ∧ ∀ j, j < 4 * i → out[j]? = some (digI (shaO X) j))
        case atStart => exact ⟨0, _, rfl, by omega, HW3.out, by simp, fun j hj => by omega⟩
        case round =>
          obtain ⟨i, out, rfl, hi8, hW, hol, hz⟩ := hrel
          have HWo := Lib.hid hW; have HOl := Lib.hid hol; have HZo := Lib.hid hz
          clear hW hol hz
          by_cases hi : i < 8
          · have hi' : (i : Int) < 8 := by omega
            obtain ⟨q, hq⟩ : ∃ q, q = 4 * i := ⟨_, rfl⟩
            have hq1 : (4 : Int) * (i : Int) = (q : Int) := by omega
            have hq2 : (q : Int) + 3 < 32 := by omega
            obtain ⟨x, hx⟩ : ∃ x, o[i]? = some x := ⟨_, List.getElem?_eq_getElem (by have := HOL.out; omega)⟩
            have hix := index8 o HOL.out i x hx
            have kg : wr.cell? ⟨0, i, none⟩ = some (wC (gW i)) := (HT.out.ext HWo.out.ext).bg i hi
            have fo0 : wr.frozen? ⟨T1 + 1, q, none⟩ = false := HWo.out.ans.free _
            have fo1 : wr.frozen? ⟨T1 + 1, q + 1, none⟩ = false := HWo.out.ans.free _
            have fo2 : wr.frozen? ⟨T1 + 1, q + 2, none⟩ = false := HWo.out.ans.free _
            have fo3 : wr.frozen? ⟨T1 + 1, q + 3, none⟩ = false := HWo.out.ans.free _
            have hcell : ∀ j, j < 32 → ∃ y, wr.cell? ⟨T1 + 1, j, none⟩ = some (.int .u8 y) := fun j hj => ⟨_, HWo.out.ans.cell j (by simp [u8s, List.getElem?_eq_getElem (show j < out.length by rw [HOl.out]; omega)]; rfl)⟩
            obtain ⟨y0, c0⟩ := hcell q (by omega)
            obtain ⟨y1, c1⟩ := hcell (q + 1) (by omega)
            obtain ⟨y2, c2⟩ := hcell (q + 2) (by omega)
            obtain ⟨y3, c3⟩ := hcell (q + 3) (by omega)
            have hs3 : (q : Int) + 3 < 32 := hq2
            have hs2 : (q : Int) + 2 < 32 := by omega
            have hs1 : (q : Int) + 1 < 32 := by omega
            have hs0 : (q : Int) < 32 := by omega
            have hadd := iw_add
            have HQ := Lib.hid hq; have HXi := Lib.hid hx
            clear hq hx hi hcell hq2
            go_upto_region 16 with fail
            obtain ⟨y, hy⟩ : ∃ y, y = x + gW i := ⟨_, rfl⟩
            rw [← hy]
            have HY := Lib.hid hy
            have hy1 := iw_lo y; have hy2 := iw_hi y
            clear hix kg hadd hy HW HZ HW2 HZ2 HR8 HHI HLO HW1 HRL HR2 hi
            go_wp2_with fail
            go_roundg (8 - (i + 1))
            case measure => omega
            case rel =>
              have hq := HQ.out
              have e0 : iw y / 16777216 = digI (shaO X) q := by
                unfold digI; rw [HQ.out, show 4 * i / 4 = i by omega, show 4 * i % 4 = 0 by omega, HSO.out i _ HXi.out, ← HY.out]
                show iw y / 16777216 = iw y / 16777216 % 256
                omega
              have e1 : iw y / 65536 % 256 = digI (shaO X) (q + 1) := by
                unfold digI; rw [HQ.out, show (4 * i + 1) / 4 = i by omega, show (4 * i + 1) % 4 = 1 by omega, HSO.out i _ HXi.out, ← HY.out]; rfl
              have e2 : iw y / 256 % 256 = digI (shaO X) (q + 2) := by
                unfold digI; rw [HQ.out, show (4 * i + 2) / 4 = i by omega, show (4 * i + 2) % 4 = 2 by omega, HSO.out i _ HXi.out, ← HY.out]; rfl
              have e3 : iw y % 256 = digI (shaO X) (q + 3) := by
                unfold digI; rw [HQ.out, show (4 * i + 3) / 4 = i by omega, show (4 * i + 3) % 4 = 3 by omega, HSO.out i _ HXi.out, ← HY.out]
                show iw y % 256 = iw y / 1 % 256
                rw [Int.ediv_one]
              rw [e0, e1, e2, e3]
              refine ⟨i + 1, _, by go_num, by omega, (((HWo.out.setO _).setO _).setO _).setO _, by simp only [List.length_set]; exact HOl.out, fun j hj => ?_⟩
              have hol := HOl.out
              rcases (by omega : j < 4 * i ∨ j = q ∨ j = q + 1 ∨ j = q + 2 ∨ j = q + 3) with h | h | h | h | h
              · rw [List.getElem?_set_ne (by omega), List.getElem?_set_ne (by omega), List.getElem?_set_ne (by omega), List.getElem?_set_ne (by omega)]
                exact HZo.out j h
              · subst h
                rw [List.getElem?_set_ne (by omega), List.getElem?_set_ne (by omega), List.getElem?_set_ne (by omega), List.getElem?_set_self (by omega)]
              · subst h
                rw [List.getElem?_set_ne (by omega), List.getElem?_set_ne (by omega), List.getElem?_set_self (by simp only [List.length_set]; omega)]
              · subst h
                rw [List.getElem?_set_ne (by omega), List.getElem?_set_self (by simp only [List.length_set]; omega)]
              · subst h
                rw [List.getElem?_set_self (by simp only [List.length_set]; omega)]
          · obtain rfl : i = 8 := by omega
            have hout : out = shaB X := by
              apply List.ext_getElem?
              intro j
              by_cases hj : j < 32
              · rw [HZo.out j (by omega), shaB_get X hj]
              · rw [List.getElem?_eq_none (by rw [HOl.out]; omega), List.getElem?_eq_none (by rw [shaB_len]; omega)]
            subst hout
            have hsz : (u8s (shaB X)).toArray.size = 32 := by simp [u8s, shaB_len]
            have HSZ := Lib.hid hsz
            clear hsz hi
            have HBo := Lib.hid HWo.out.ans
            go_wp2_with (first | (refine wpList_load_row rfl 63 (.tmp 2) rfl (T1 + 1) rfl 63 _ (0, 0) _ HBo.out Tryd.underlying63 rfl (by rw [HSZ.out]; kernel_rfl) ?_) | (refine wpList_store_row rfl 63 (.tmp 2) (.tmp 78) rfl (T1 + 1) _ rfl rfl 63 _ HBo.out (by rw [HSZ.out]; kernel_rfl) rfl u8a_one ?_))
            have hE : Ext w (wr.setRow (T1 + 1) (u8s (shaB X)).toArray) := by
              have hg : wr.grownBy (wr.setRow (T1 + 1) (u8s (shaB X)).toArray) (some (T1 + 1)) := ⟨rfl, rfl, rfl, by simp [World.setRow], fun k _ hk => setRow_other wr (T1 + 1) k _ (fun e => hk (by rw [e]))⟩
              have := HWo.out.low
              exact ((Chg.ext HWo.out.ext : Chg [T1 + 1] w wr).trans (Chg.some hg (.inl (by simp)))).toExt (fun t ht => by simp at ht; omega)
            exact sum_ret (T1 + 1) _ HSZ.out _ _ _ (setRow_heap wr (T1 + 1) _ _ _ (0, 0) HBo.out) rfl ⟨rfl, hE⟩
end Go.Proofs.YtgefphfnicjbiaaDoor
