/- Layer 25 (seq): slices.Insert of one client where a new row is needed. -/
import Derived.Test.YtgefphfnicjbiaaDoorSqi
set_option linter.unusedSimpArgs false
set_option linter.unusedVariables false
namespace Go.Proofs.YtgefphfnicjbiaaDoor
open Go Go.RowKit

theorem zc_size2 (n : Nat) : (Builtin.zeroCells (Value.agg #[.int .u64 0, .slice none 0 0]).cells n).size = n * 2 := by
  simp [Builtin.zeroCells, Value.cells]
set_option maxRecDepth 100000 in
set_option maxHeartbeats 8000000 in
theorem ins_new (B : Nat) (w : World) (g n cap P vb : Nat) (xs : List Value) (ky : Int) (h : w.ownsRow B 47 2 (.slice (some ⟨g, 0, none⟩) n cap) n xs) (h1 : ∀ u ∈ xs, u.oneCell' = true) (hn : n ≤ 1000) (hP : P < n) (hroom : cap < n + 1) (hB : B ≤ w.heap.size)
    (hv : Blk w vb #[.int .u64 ky, .slice none 0 0] 47) :
    Calls Tryd.prog 18 #[.slice (some ⟨g, 0, none⟩) n cap, .int .i64 (P : Int), .slice (some ⟨vb, 0, none⟩) 1 1] w (InsOut B w (.slice (some ⟨g, 0, none⟩) n cap) n (xs.take (P * 2) ++ [.int .u64 ky, .slice none 0 0] ++ xs.drop (P * 2))) := by
  obtain ⟨hxl, ⟨h2, _⟩ | ⟨g', cap', cur, hv2, hgB, hh, k1, k2, k3, k4⟩⟩ := h
  · cases h2
  cases hv2
  have hcap : cap ≤ 9223372036854775807 := by unfold maxLen at k2; omega
  obtain ⟨N1, hN1⟩ : ∃ N1, N1 = n + 1 := ⟨_, rfl⟩
  obtain ⟨j, hj⟩ : ∃ j, j = P + 1 := ⟨_, rfl⟩
  obtain ⟨X, hX⟩ : ∃ X, X = w.heap.size := ⟨_, rfl⟩
  have hi1 : (n : Int) + 1 = (N1 : Int) := by omega
  have hi2 : (P : Int) + 1 = (j : Int) := by omega
  have hlt1 : ¬ ((P : Int) = (n : Int)) := by omega
  have hgt1 : (cap : Int) < (N1 : Int) := by omega
  obtain ⟨i0, hi0, hz0, hz1, hz2⟩ := info_parts infoCl
  have hsrc : ∀ (W : World), Ext w W → ∀ i v, xs[i]? = some v → W.cell? ⟨g, i, none⟩ = some v := fun W hE i v hi => by
    refine ((show Blk w g cur _ from hh).ext hE).cell _ ?_
    rw [← k4, List.getElem?_take] at hi
    split at hi
    · rw [← Array.getElem?_toList]; exact hi
    · cases hi
  have htl : (xs.take (P * 2)).length = P * 2 := by rw [List.length_take, hxl]; omega
  have hold : (Builtin.firstCells i0.size P (.slice (some ⟨g, 0, none⟩) P cap)).run Tryd.prog w.drew = .ok (xs.take (P * 2)).toArray w.drew := by
    rw [hz1]
    exact run_firstCells_some w.drew 2 P ⟨g, 0, none⟩ P cap (xs.take (P * 2)) (by rw [htl]) (fun i v hi => by
      rw [Addr.add_lit, Nat.zero_add]
      rw [List.getElem?_take] at hi
      split at hi
      · exact hsrc w.drew (Ext.drew w) i v hi
      · cases hi)
  obtain ⟨G, hG⟩ : ∃ G, G = grownCap w N1 cap 47 := ⟨_, rfl⟩
  have hGn : N1 ≤ G := by rw [hG]; exact grownCap_ge w _ _ _
  have hG63 : G ≤ maxLen := by rw [hG]; exact grownCap_le_maxLen w N1 cap 47 (by unfold maxLen; omega)
  obtain ⟨ROW, hROW⟩ : ∃ ROW : Array Value, ROW = (xs.take (P * 2)).toArray ++ Builtin.zeroCells (Value.agg #[.int .u64 0, .slice none 0 0]).cells (N1 - P) ++ Builtin.zeroCells (Value.agg #[.int .u64 0, .slice none 0 0]).cells (G - N1) := ⟨_, rfl⟩
  have hRs : ROW.size = G * 2 := by
    rw [hROW, Array.size_append, Array.size_append, zc_size2, zc_size2, List.size_toArray, htl]
    omega
  have hRt : ROW.toList.take (P * 2) = xs.take (P * 2) := by
    rw [hROW, Array.append_assoc, Array.toList_append, List.take_append_of_le_length (by simp only [List.toList_toArray]; omega)]
    simp only [List.toList_toArray]
    rw [List.take_take, Nat.min_self]
  have hrz : ∀ ty, (Builtin.append_ #[23, 3] ty #[.slice (some ⟨g, 0, none⟩) P cap, .int .i64 ((N1 : Int) - (P : Int))]).run Tryd.prog w =
      .ok (.slice (some ⟨X, 0, none⟩) N1 G) (w.drew.alloc (.cells ROW 47)) := fun ty => by
    have h := Lib.run_append_grow_zeros (P := Tryd.prog) w 23 3 ty 47 i0 _ .i64 .i64 Tryd.underlying23 Tryd.underlying3 hi0 hz0 (some ⟨g, 0, none⟩) P cap (xs.take (P * 2)) hold (N1 - P) (by omega) (by omega) (by omega) (by omega) (by rw [hz2]; omega) (by rw [hz2]; exact growslice_fits (by omega) (by omega))
    rw [show P + (N1 - P) = N1 by omega, ← hG] at h
    rw [show (N1 : Int) - (P : Int) = ((N1 - P : Nat) : Int) by omega, h, hX, hROW]
  obtain ⟨c1, hc1⟩ : ∃ c1, c1 = ROW.toList.take (P * 2) ++ [Value.int .u64 ky, .slice none 0 0] ++ ROW.toList.drop (P * 2 + [Value.int .u64 ky, .slice none 0 0].length) := ⟨_, rfl⟩
  obtain ⟨c2, hc2⟩ : ∃ c2, c2 = c1.take ((P + 1) * 2) ++ xs.drop (P * 2) ++ c1.drop ((P + 1) * 2 + (xs.drop (P * 2)).length) := ⟨_, rfl⟩
  obtain ⟨hr1, hr2, hr3⟩ := ins_grow ROW.toList xs [.int .u64 ky, .slice none 0 0] n P rfl hxl hRt (by rw [Array.length_toList, hRs]; omega) (by omega) c1 c2 hc1 hc2
  have hdl : (xs.drop (P * 2)).length = (N1 - j) * 2 := by rw [List.length_drop, hxl]; omega
  obtain ⟨W1, hW1⟩ : ∃ W1, W1 = w.drew.alloc (.cells ROW 47) := ⟨_, rfl⟩
  rw [← hW1] at hrz
  have hE1 : Ext w W1 := by rw [hW1]; exact (Ext.drew w).trans (Ext.alloc _ _)
  have hBX : Blk W1 X ROW 47 := by rw [hW1, hX]; exact Blk.new w.drew ROW _
  have hvX : vb ≠ X := by have := hv.lt; omega
  have hgX : g ≠ X := by have := (show Blk w g cur _ from hh).lt; omega
  have hcp1 : ∀ ty dc, (Builtin.copy_ #[23, 23] ty #[.slice (some ⟨X, P * 2, none⟩) (N1 - P) dc, .slice (some ⟨vb, 0, none⟩) 1 1]).run Tryd.prog W1 = .ok (goInt (Nat.min 1 (N1 - P))) (W1.setRow X c1.toArray) := fun ty dc => by
    have := run_copy_rowK (P := Tryd.prog) W1 23 23 ty 47 2 X (P * 2) (N1 - P) dc ⟨vb, 0, none⟩ 1 1 ROW 47 [.int .u64 ky, .slice none 0 0] Tryd.underlying23 (by kernel_rfl) hBX
      (by rw [show Nat.min 1 (N1 - P) = 1 from Nat.min_eq_left (by omega)]; rfl) (fun i v hi => by rw [Addr.add_lit, Nat.zero_add]; exact (hv.ext hE1).cell i (by simpa using hi)) (by rw [hRs]; simp only [List.length_cons, List.length_nil]; omega) (fun v hv => by simp at hv; rcases hv with rfl | rfl <;> rfl)
    rw [this, hc1]
  have hB2 : Blk (W1.setRow X c1.toArray) X c1.toArray 47 := setRow_heap W1 X _ _ _ (0, 0) hBX
  have hE2 : Ext w (W1.setRow X c1.toArray) := ((Chg.ext hE1 : Chg [X] w W1).trans (Chg.some (grown_rowS W1 X _) (.inl (by simp)))).toExt (fun t ht => by simp at ht; omega)
  obtain ⟨W2, hW2⟩ : ∃ W2, W2 = W1.setRow X c1.toArray := ⟨_, rfl⟩
  rw [← hW2] at hcp1 hB2 hE2
  have hcp2 : ∀ (W : World), Ext W2 W → ∀ ty dc sc, (Builtin.copy_ #[23, 23] ty #[.slice (some ⟨X, j * 2, none⟩) (N1 - j) dc, .slice (some ⟨g, P * 2, none⟩) (n - P) sc]).run Tryd.prog W = .ok (goInt (Nat.min (n - P) (N1 - j))) (W.setRow X c2.toArray) := fun W hE ty dc sc => by
    have := run_copy_rowK (P := Tryd.prog) W 23 23 ty 47 2 X (j * 2) (N1 - j) dc ⟨g, P * 2, none⟩ (n - P) sc c1.toArray 47 (xs.drop (P * 2)) Tryd.underlying23 (by kernel_rfl) (hB2.ext hE)
      (by rw [hdl, show Nat.min (n - P) (N1 - j) = N1 - j from Nat.min_eq_right (by omega)]) (fun i v hi => by
        rw [Addr.add_lit]
        rw [List.getElem?_drop] at hi
        exact hsrc W (hE2.trans hE) _ v hi) (by rw [List.size_toArray, hr3, Array.length_toList (xs := ROW), hRs, hdl]; omega) (fun v hv => h1 v (List.mem_of_mem_drop hv))
    rw [this, hc2, hj]
  have HRZ := Lib.hid hrz; have HC1 := Lib.hid hcp1; have HC2 := Lib.hid hcp2; have HB2 := Lib.hid hB2; have HE2 := Lib.hid hE2
  have HR := Lib.hid (show c2.take (N1 * 2) = _ ∧ c2.length = G * 2 from by rw [hN1]; exact ⟨hr1, by rw [hr2, Array.length_toList (xs := ROW), hRs]⟩)
  have HXL := Lib.hid hxl; have HN1 := Lib.hid hN1; have HGB := Lib.hid (show B ≤ X by omega); have HKC := Lib.hid hG63; have HXX := Lib.hid hX
  replace hG63 : G ≤ 9223372036854775807 := by unfold maxLen at hG63; omega
  have hcP : ¬ (cap = P) := by omega
  have hGP : ¬ (G = P) := by omega
  have hGj : ¬ (G = j) := by omega
  have hPG : (P : Int) ≤ (G : Int) := by omega
  have hPcc : (P : Int) ≤ (cap : Int) := by omega
  have hPcn : P ≤ cap := by omega
  have hjN : (j : Int) ≤ (N1 : Int) := by omega
  have hPN : (P : Int) ≤ (N1 : Int) := by omega
  have hPn : (P : Int) ≤ (n : Int) := by omega
  have hPn' : P ≤ n := by omega
  have hjN' : j ≤ N1 := by omega
  have hPN' : P ≤ N1 := by omega
  clear hc1 hc2 hr1 hr2 hr3 hdl hcp1 hcp2 hh hv k1 k2 k3 k4 hN1 hj hxl h1 hgB hrz hB2 hE2 hsrc htl hold hG hROW hRs hRt hW1 hE1 hBX hvX hgX hW2 hX hi0 hz0 hz1 hz2 hB
  go_enter Tryd.func18, Tryd.ntmps18
  go_upto_region 10 with (at_builtin; refine Lib.wpList_append_run _ (o := ⟨some 40, _, _, _, _, _⟩) rfl (.tmp 34) (.tmp 39) 23 3 rfl _ _ rfl rfl _ _ (HRZ.out _) ?_)
  go_upto_region 11 with (refine wpList_copy_eq _ (o := ⟨some 45, _, _, _, _, _⟩) rfl (.tmp 43) (.tmp 44) _ _ rfl _ _ rfl rfl (HC1.out _ _) ?_)
  clear HRZ HC1
  apply Mono.region1 8 Ext [.is _, .is _, .is _, .is _, .is _, .is _, .is _, .is _] (by kernel_rfl) Ext.refl (fun _ _ _ => Ext.trans) (by kernel_rfl) rfl rfl trivial
  focus
    iterate 8 (apply Mono.step_is; (· refine Mono.obl_mk fun w9 hE9 _ K hK => ?_; clear hE9; go_wp2_with fail; simp only [Act.put, List.setIfInBounds_toArray, List.set_cons_succ, List.set_cons_zero] at hK; exact hK _ _ (Ext.refl _) (Mono.is_rfl _ _)); simp only [Act.put, List.setIfInBounds_toArray, List.set_cons_succ, List.set_cons_zero])
    refine Mono.step_end fun w9 hE9 hkn => ?_
    simp only [List.drop_succ_cons, List.drop_zero]
    have HE9 := Lib.hid ((Ext.drew W2).trans hE9)
    clear hkn hE9
    go_wp2_with (refine wpList_copy_eq _ (o := ⟨some 54, _, _, _, _, _⟩) rfl (.tmp 50) (.tmp 53) _ _ rfl _ _ rfl rfl (HC2.out w9 HE9.out _ _ _) ?_)
    go_ret
    refine ⟨_, rfl, ⟨?_, .inr ⟨X, G, c2.toArray, (show Value.slice (some ⟨X, 0, none⟩) N1 G = Value.slice (some ⟨X, 0, none⟩) (n + 1) G by rw [HN1.out]), HGB.out, setRow_heap w9 X _ _ _ (0, 0) (HB2.out.ext HE9.out), by omega, HKC.out, ?_, ?_⟩⟩, ?_, .inr ⟨X, rfl, by rw [HXX.out]; exact Nat.le_refl _⟩⟩
    · have hx := HXL.out
      rw [List.length_append, List.length_append, List.length_take, List.length_drop]
      simp only [List.length_cons, List.length_nil]
      omega
    · rw [List.size_toArray, HR.out.2]
    · have h1 := HR.out.1
      rw [HN1.out] at h1
      rw [h1]
    · have hC := Chg.some (S := [X]) (grown_rowS w9 X c2.toArray) (.inl (by simp))
      exact Chg.ext (((Chg.ext (HE2.out.trans HE9.out) : Chg [X] w w9).trans hC).toExt (fun t ht => by simp at ht; rw [ht, HXX.out]; exact Nat.le_refl _))
end Go.Proofs.YtgefphfnicjbiaaDoor
