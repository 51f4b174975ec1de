/- Layer 25 (seq): slices.Insert of one client. -/
import Derived.Test.YtgefphfnicjbiaaDoorBun3
import Derived.Test.YtgefphfnicjbiaaDoorSqd
set_option linter.unusedSimpArgs false
set_option linter.unusedVariables false
namespace Go.Proofs.YtgefphfnicjbiaaDoor
open Go Go.RowKit

theorem ins_room (cur xs nw : List Value) (n P : Nat) (hnw : nw.length = 2) (hx : cur.take (n * 2) = xs) (hl : (n + 1) * 2 ≤ cur.length) (hP : P ≤ n) (c1 c2 : List Value)
    (e1 : c1 = cur.take ((P + 1) * 2) ++ xs.drop (P * 2) ++ cur.drop ((P + 1) * 2 + (xs.drop (P * 2)).length)) (e2 : c2 = c1.take (P * 2) ++ nw ++ c1.drop (P * 2 + nw.length)) :
    c2.take ((n + 1) * 2) = xs.take (P * 2) ++ nw ++ xs.drop (P * 2) ∧ c2.length = cur.length ∧ c1.length = cur.length := by
  have hxl : xs.length = n * 2 := by rw [← hx, List.length_take]; omega
  have h1 : (cur.take ((P + 1) * 2)).length = (P + 1) * 2 := by rw [List.length_take]; omega
  have hdl : (xs.drop (P * 2)).length = n * 2 - P * 2 := by rw [List.length_drop, hxl]
  have hc1 : c1.length = cur.length := by rw [e1, List.length_append, List.length_append, h1, hdl, List.length_drop]; omega
  have ht : c1.take (P * 2) = xs.take (P * 2) := by
    rw [e1, List.append_assoc, List.take_append_of_le_length (by omega), List.take_take, Nat.min_eq_left (by omega), ← hx, List.take_take, Nat.min_eq_left (by omega)]
  have hd : c1.drop (P * 2 + nw.length) = xs.drop (P * 2) ++ cur.drop ((P + 1) * 2 + (xs.drop (P * 2)).length) := by
    rw [e1, List.append_assoc, show P * 2 + nw.length = (cur.take ((P + 1) * 2)).length by omega, List.drop_left]
  have htl : (xs.take (P * 2)).length = P * 2 := by rw [List.length_take]; omega
  refine ⟨?_, ?_, hc1⟩
  · rw [e2, ht, hd, ← List.append_assoc]
    rw [show (n + 1) * 2 = (xs.take (P * 2) ++ nw ++ xs.drop (P * 2)).length by rw [List.length_append, List.length_append, htl, hdl]; omega, List.take_left]
  · rw [e2, List.length_append, List.length_append, ht, htl, hnw, List.length_drop, hc1]; omega
theorem ins_grow (row xs nw : List Value) (n P : Nat) (hnw : nw.length = 2) (hxl : xs.length = n * 2) (hx : row.take (P * 2) = xs.take (P * 2)) (hl : (n + 1) * 2 ≤ row.length) (hP : P ≤ n) (c1 c2 : List Value)
    (e1 : c1 = row.take (P * 2) ++ nw ++ row.drop (P * 2 + nw.length)) (e2 : c2 = c1.take ((P + 1) * 2) ++ xs.drop (P * 2) ++ c1.drop ((P + 1) * 2 + (xs.drop (P * 2)).length)) :
    c2.take ((n + 1) * 2) = xs.take (P * 2) ++ nw ++ xs.drop (P * 2) ∧ c2.length = row.length ∧ c1.length = row.length := by
  have hdl : (xs.drop (P * 2)).length = n * 2 - P * 2 := by rw [List.length_drop, hxl]
  have htl : (xs.take (P * 2)).length = P * 2 := by rw [List.length_take]; omega
  have hc1 : c1.length = row.length := by rw [e1, hx, List.length_append, List.length_append, htl, List.length_drop]; omega
  have ht : c1.take ((P + 1) * 2) = xs.take (P * 2) ++ nw := by
    rw [e1, hx, show (P + 1) * 2 = (xs.take (P * 2) ++ nw).length by rw [List.length_append]; omega, List.take_left]
  refine ⟨?_, ?_, hc1⟩
  · rw [e2, ht, show (n + 1) * 2 = (xs.take (P * 2) ++ nw ++ xs.drop (P * 2)).length by rw [List.length_append, List.length_append, htl, hdl]; omega, List.take_left]
  · rw [e2, List.length_append, List.length_append, ht, List.length_append, htl, hdl, List.length_drop, hc1]; omega
/-- What Insert leaves. -/
def InsOut (B : Nat) (w : World) (cv : Value) (n : Nat) (ys : List Value) (e : Ending) (w' : World) : Prop := ∃ cv', e = .returned cv' ∧ w'.ownsRow B 47 2 cv' (n + 1) ys ∧ Chg cv.ownBlock.toList w w' ∧
  (cv'.ownBlock = cv.ownBlock ∨ ∃ q, cv'.ownBlock = some q ∧ w.heap.size ≤ q)
set_option maxRecDepth 100000 in
set_option maxHeartbeats 4000000 in
theorem ins_end (B : Nat) (w : World) (cv : Value) (n vb : Nat) (xs : List Value) (ky : Int) (h : w.ownsRow B 47 2 cv n xs) (hn : n ≤ 1000) (hv : Blk w vb #[.int .u64 ky, .slice none 0 0] 47) (hB : B ≤ w.heap.size) :
    Calls Tryd.prog 18 #[cv, .int .i64 (n : Int), .slice (some ⟨vb, 0, none⟩) 1 1] w (InsOut B w cv n (xs ++ [.int .u64 ky, .slice none 0 0])) := by
  have HV := Lib.hid hv
  unfold InsOut
  obtain ⟨ob, hob⟩ : ∃ ob, ob = cv.ownBlock := ⟨_, rfl⟩
  rw [← hob]
  obtain ⟨a, c, rfl, hc1, hc2, -⟩ := own_slice h
  have HO := Lib.hid h; have HOB := Lib.hid hob
  obtain ⟨i0, hi0, hz0, hz1, hz2⟩ := info_parts infoCl
  clear h hv hob
  go_enter Tryd.func18, Tryd.ntmps18
  go_wp2_with (at_builtin; refine wpList_append_own_at w rfl (.tmp 23) (.tmp 24) _ rfl B 47 i0 _ 2 32 Tryd.underlying23 hi0 hz0 hz1 hz2 rfl (by decide) (.slice a n c) n xs rfl HO.out ⟨vb, 0, none⟩ 1 1 [.int .u64 ky, .slice none 0 0] rfl rfl (fun j u hj => by rw [Addr.add_lit, Nat.zero_add]; exact HV.out.cell j (by simpa using hj)) (fun u hu => by simp at hu; rcases hu with rfl | rfl <;> rfl) (by unfold maxLen; omega) (by omega) hB fun v' w' g1 g2 _ g4 => ?_; rw [← HOB.out] at g2 g4; have G1 := Lib.hid g1; have G2 := Lib.hid g2; have G4 := Lib.hid g4; clear g1 g2 g4)
  go_wp2_with fail
  all_goals go_ret
  all_goals exact ⟨_, rfl, G1.out, Chg.grown G2.out, G4.out.imp (fun h => h) fun h => ⟨_, h, Nat.le_refl _⟩⟩
set_option maxRecDepth 100000 in
set_option maxHeartbeats 8000000 in
theorem ins_shift (B : Nat) (w : World) (g n cap P vb : Nat) (xs : List Value) (ky : Int) (h : w.ownsRow B 47 2 (.slice (some ⟨g, 0, none⟩) n cap) n xs) (h1 : ∀ u ∈ xs, u.oneCell' = true) (hn : n ≤ 1000) (hP : P < n) (hroom : n + 1 ≤ cap)
    (hv : Blk w vb #[.int .u64 ky, .slice none 0 0] 47) (hvb : vb ≠ g) :
    Calls Tryd.prog 18 #[.slice (some ⟨g, 0, none⟩) n cap, .int .i64 (P : Int), .slice (some ⟨vb, 0, none⟩) 1 1] w (InsOut B w (.slice (some ⟨g, 0, none⟩) n cap) n (xs.take (P * 2) ++ [.int .u64 ky, .slice none 0 0] ++ xs.drop (P * 2))) := by
  obtain ⟨hxl, ⟨h2, _⟩ | ⟨g', cap', cur, hv2, hgB, hh, k1, k2, k3, k4⟩⟩ := h
  · cases h2
  cases hv2
  have hcap : cap ≤ 9223372036854775807 := by unfold maxLen at k2; omega
  obtain ⟨N1, hN1⟩ : ∃ N1, N1 = n + 1 := ⟨_, rfl⟩
  obtain ⟨j, hj⟩ : ∃ j, j = P + 1 := ⟨_, rfl⟩
  have hi1 : (n : Int) + 1 = (N1 : Int) := by omega
  have hi2 : (P : Int) + 1 = (j : Int) := by omega
  have hlt1 : ¬ ((P : Int) = (n : Int)) := by omega
  have hle1 : (N1 : Int) ≤ (cap : Int) := by omega
  have hcj : ¬ (cap = j) := by omega
  have hcP : ¬ (cap = P) := by omega
  have hPc : (P : Int) ≤ (cap : Int) := by omega
  have hjN : (j : Int) ≤ (N1 : Int) := by omega
  have hPN : (P : Int) ≤ (N1 : Int) := by omega
  have hPn : P ≤ n := by omega
  have hjN' : j ≤ N1 := by omega
  have hPN' : P ≤ N1 := by omega
  have hN1c : N1 ≤ cap := by omega
  obtain ⟨c1, hc1⟩ : ∃ c1, c1 = cur.toList.take ((P + 1) * 2) ++ xs.drop (P * 2) ++ cur.toList.drop ((P + 1) * 2 + (xs.drop (P * 2)).length) := ⟨_, rfl⟩
  obtain ⟨c2, hc2⟩ : ∃ c2, c2 = c1.take (P * 2) ++ [Value.int .u64 ky, .slice none 0 0] ++ c1.drop (P * 2 + [Value.int .u64 ky, .slice none 0 0].length) := ⟨_, rfl⟩
  obtain ⟨hr1, hr2, hr3⟩ := ins_room cur.toList xs [.int .u64 ky, .slice none 0 0] n P rfl k4 (by rw [Array.length_toList, k3]; omega) (by omega) c1 c2 hc1 hc2
  have hdl : (xs.drop (P * 2)).length = (N1 - j) * 2 := by rw [List.length_drop, hxl]; omega
  have hov : ∀ lb cb, (callFunc 34 #[.slice (some ⟨vb, 0, none⟩) 1 1, .slice (some ⟨g, j * 2, none⟩) lb cb]).run Tryd.prog w = .ok (.value (.bool false)) w := fun lb cb => by
    rw [run_callFunc_extern Tryd.func34 (by kernel_rfl) (by kernel_rfl) (by kernel_rfl) (e := Extern.SlicesOverlaps.overlaps #[23, 23] #[4]) (by kernel_rfl),
      Lib.run_overlaps_apart w 23 4 47 Tryd.underlying23 2 Tryd.sizeOf47 ⟨vb, 0, none⟩ ⟨g, j * 2, none⟩ 1 1 lb cb hvb 47 47 2 cur.size (by unfold World.shape?; rw [show w.heap[vb]? = _ from hv]; rfl) (by unfold World.shape?; rw [hh]) (by omega) (hv.free 0) (hv.free 2)]
    rfl
  have hcp1 : ∀ (W : World), Ext w W → ∀ ty dc sc, (Builtin.copy_ #[23, 23] ty #[.slice (some ⟨g, j * 2, none⟩) (N1 - j) dc, .slice (some ⟨g, P * 2, none⟩) (N1 - P) sc]).run Tryd.prog W = .ok (goInt (Nat.min (N1 - P) (N1 - j))) (W.setRow g c1.toArray) := fun W hE ty dc sc => by
    have := run_copy_rowK (P := Tryd.prog) W 23 23 ty 47 2 g (j * 2) (N1 - j) dc ⟨g, P * 2, none⟩ (N1 - P) sc cur 47 (xs.drop (P * 2)) Tryd.underlying23 (by kernel_rfl) ((show Blk w g cur _ from hh).ext hE)
      (by rw [hdl, show Nat.min (N1 - P) (N1 - j) = N1 - j from Nat.min_eq_right (by omega)]) (fun i v hi => by
        rw [Addr.add_lit]
        refine ((show Blk w g cur _ from hh).ext hE).cell _ ?_
        rw [List.getElem?_drop, ← k4, List.getElem?_take] at hi
        split at hi
        · rw [← Array.getElem?_toList]; exact hi
        · cases hi) (by rw [hdl, k3]; omega) (fun v hv => h1 v (List.mem_of_mem_drop hv))
    rw [this, hc1, hj]
  have HOV := Lib.hid hov; have HCP := Lib.hid hcp1; have HBG := Lib.hid (show Blk w g cur 47 from hh); have HV := Lib.hid hv; have HVB := Lib.hid hvb
  have HR := Lib.hid (show c2.take (N1 * 2) = _ ∧ c2.length = cur.toList.length ∧ c1.length = cur.toList.length from by rw [hN1]; exact ⟨hr1, hr2, hr3⟩)
  have HK := Lib.hid (show cur.size = cap * 2 from k3); have HC2 := Lib.hid hc2; have HXL := Lib.hid hxl; have HN1 := Lib.hid hN1; have HGB := Lib.hid hgB; have HKC := Lib.hid k2
  clear hc1 hc2 hr1 hr2 hr3 hdl hcp1 hh hv hvb k1 k2 k3 k4 hN1 hj hxl h1 hgB
  go_enter Tryd.func18, Tryd.ntmps18
  go_upto_region 15 with (simp only [hov])
  clear hov
  rw [show ((P : Int) == (n : Int)) = false from by simpa using hlt1, decide_eq_false (show ¬ cap < N1 by omega)]
  apply Mono.region1 8 Ext [.is _, .is _, .is _, .is _, .is _, .is _, .is _, .is _] (by kernel_rfl) Ext.refl (fun _ _ _ => Ext.trans) (by kernel_rfl) rfl rfl trivial
  focus
    iterate 8 (apply Mono.step_is; (· refine Mono.obl_mk fun w9 hE9 _ K hK => ?_; clear hE9; go_wp2_with fail; simp only [Act.put, List.setIfInBounds_toArray, List.set_cons_succ, List.set_cons_zero] at hK; exact hK _ _ (Ext.refl _) (Mono.is_rfl _ _)); simp only [Act.put, List.setIfInBounds_toArray, List.set_cons_succ, List.set_cons_zero])
    refine Mono.step_end fun w9 hE9 hkn => ?_
    simp only [List.drop_succ_cons, List.drop_zero]
    have HE9 := Lib.hid ((Ext.drew w).trans hE9)
    clear hkn hE9
    go_upto_region 16 with (refine wpList_copy_eq _ (o := ⟨some 77, _, _, _, _, _⟩) rfl (.tmp 73) (.tmp 76) _ _ rfl _ _ rfl rfl (HCP.out w9 HE9.out _ _ _) ?_)
    have hb10 : Blk (w9.setRow g c1.toArray) g c1.toArray 47 := setRow_heap w9 g cur _ _ (0, 0) (HBG.out.ext HE9.out)
    have hv10 : Blk (w9.setRow g c1.toArray) vb #[.int .u64 ky, .slice none 0 0] 47 := by
      unfold Blk
      rw [setRow_other w9 g vb _ HVB.out]
      exact HV.out.ext HE9.out
    have hC10 : Chg [g] w (w9.setRow g c1.toArray) := (Chg.ext HE9.out : Chg [g] w w9).trans (Chg.some (grown_rowS w9 g _) (.inl (by simp)))
    generalize w9.setRow g c1.toArray = w10 at *
    have hfit : P * 2 + 2 ≤ c1.toArray.size := by
      have h1 := HR.out.2.2
      have h2 := HK.out
      rw [Array.length_toList (xs := cur), h2] at h1
      rw [List.size_toArray, h1]
      omega
    have hcp2 : ∀ ty dc, (Builtin.copy_ #[23, 23] ty #[.slice (some ⟨g, P * 2, none⟩) (N1 - P) dc, .slice (some ⟨vb, 0, none⟩) 1 1]).run Tryd.prog w10 = .ok (goInt (Nat.min 1 (N1 - P))) (w10.setRow g c2.toArray) := fun ty dc => by
      have := run_copy_rowK (P := Tryd.prog) w10 23 23 ty 47 2 g (P * 2) (N1 - P) dc ⟨vb, 0, none⟩ 1 1 c1.toArray 47 [.int .u64 ky, .slice none 0 0] Tryd.underlying23 (by kernel_rfl) hb10
        (by rw [show Nat.min 1 (N1 - P) = 1 from Nat.min_eq_left (by omega)]; rfl) (fun i v hi => by rw [Addr.add_lit, Nat.zero_add]; exact hv10.cell i (by simpa using hi)) hfit (fun v hv => by simp at hv; rcases hv with rfl | rfl <;> rfl)
      rw [this, HC2.out]
    have HCP2 := Lib.hid hcp2; have HB10 := Lib.hid hb10; have HC10 := Lib.hid hC10
    clear hcp2 hb10 hv10 hC10 hfit
    go_wp2_with (refine wpList_copy_eq _ (o := ⟨some 82, _, _, _, _, _⟩) rfl (.tmp 80) (.tmp 81) _ _ rfl _ _ rfl rfl (HCP2.out _ _) ?_)
    go_ret
    refine ⟨_, rfl, ⟨?_, .inr ⟨g, cap, c2.toArray, (show Value.slice (some ⟨g, 0, none⟩) N1 cap = Value.slice (some ⟨g, 0, none⟩) (n + 1) cap by rw [HN1.out]), HGB.out, setRow_heap w10 g _ _ _ (0, 0) HB10.out, by omega, HKC.out, ?_, ?_⟩⟩, ?_, .inl rfl⟩
    · have hx := HXL.out
      rw [List.length_append, List.length_append, List.length_take, List.length_drop]
      simp only [List.length_cons, List.length_nil]
      omega
    · have h1 := HR.out.2.1; have h2 := HK.out
      rw [Array.length_toList (xs := cur)] at h1
      simp only [List.size_toArray, h1, h2]
    · have h1 := HR.out.1
      rw [HN1.out] at h1
      rw [h1]
    · have hC11 := Chg.some (S := [g]) (grown_rowS w10 g c2.toArray) (.inl (by simp))
      exact HC10.out.trans hC11
end Go.Proofs.YtgefphfnicjbiaaDoor
