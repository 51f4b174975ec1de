/- Layer 25 (seq): tabellionref25.slotted. -/
import Derived.Test.YtgefphfnicjbiaaDoorBun8
set_option linter.unusedSimpArgs false
set_option linter.unusedVariables false
namespace Go.Proofs.YtgefphfnicjbiaaDoor
open Go Go.RowKit

theorem insL_get (l : List (Int × Int)) (s : Int × Int) (i : Nat) (h : posL (l.map (·.1)) s.1 ≤ i) (hl : (l.map (·.1)).Pairwise (· < ·)) : (insL l s)[i + 1]? = l[i]? := by
  have hP := (posL_cut (l.map (·.1)) s.1 hl).le
  rw [List.length_map] at hP
  unfold insL
  generalize posL (l.map (·.1)) s.1 = P at *
  rw [List.append_assoc, List.getElem?_append_right (by rw [List.length_take]; omega), List.length_take, Nat.min_eq_left hP, List.singleton_append, show i + 1 - P = (i - P) + 1 by omega, List.getElem?_cons_succ, List.getElem?_drop, show P + (i - P) = i by omega]
theorem take_snoc {α : Type} {l : List α} {i : Nat} {x : α} (h : l[i]? = some x) : l.take (i + 1) = l.take i ++ [x] := by rw [List.take_add_one, h]; rfl
/-- What is put so far. -/
def slSt (l : List (Int × Int)) (s : Int × Int) (i : Nat) (z : Bool) (out : List (Int × Int)) : Prop :=
  if z then posL (l.map (·.1)) s.1 < i ∧ out = (insL l s).take (i + 1) else i ≤ posL (l.map (·.1)) s.1 ∧ out = l.take i
theorem slSt_skip {l : List (Int × Int)} {s : Int × Int} (hl : (l.map (·.1)).Pairwise (· < ·)) {i : Nat} {out : List (Int × Int)} {x : Int × Int} (h : slSt l s i false out) (hx : l[i]? = some x) (hlt : ¬ s.1 < x.1) (hne : x.1 ≠ s.1) : slSt l s (i + 1) false (out ++ [x]) := by
  unfold slSt at h ⊢
  simp only [Bool.false_eq_true, if_false] at h ⊢
  have hc := posL_cut (l.map (·.1)) s.1 hl
  refine ⟨Nat.lt_of_not_le fun h1 => ?_, by rw [h.2, take_snoc hx]⟩
  have := hc.hi i x.1 h1 (by rw [List.getElem?_map, hx]; rfl)
  omega
theorem slSt_put {l : List (Int × Int)} {s : Int × Int} (hl : (l.map (·.1)).Pairwise (· < ·)) {i : Nat} {out : List (Int × Int)} {x : Int × Int} (h : slSt l s i false out) (hx : l[i]? = some x) (hlt : s.1 < x.1) : slSt l s (i + 1) true (out ++ [s] ++ [x]) := by
  unfold slSt at h ⊢
  simp only [Bool.false_eq_true, if_false, if_true] at h ⊢
  have hc := posL_cut (l.map (·.1)) s.1 hl
  have hP : posL (l.map (·.1)) s.1 = i := by
    rcases Nat.lt_or_ge i (posL (l.map (·.1)) s.1) with h1 | h1
    · have := hc.lo i x.1 h1 (by rw [List.getElem?_map, hx]; rfl); omega
    · omega
  refine ⟨by omega, ?_⟩
  have h1 := insL_get l s i (by omega) hl
  rw [hx] at h1
  rw [take_snoc h1]
  congr 1
  unfold insL
  rw [hP, h.2]
  have hil := (List.getElem?_eq_some_iff.1 hx).1
  rw [List.take_left' (by rw [List.length_append, List.length_take, Nat.min_eq_left (by omega)]; rfl)]
theorem slSt_go {l : List (Int × Int)} {s : Int × Int} (hl : (l.map (·.1)).Pairwise (· < ·)) {i : Nat} {out : List (Int × Int)} {x : Int × Int} (h : slSt l s i true out) (hx : l[i]? = some x) : slSt l s (i + 1) true (out ++ [x]) := by
  unfold slSt at h ⊢
  simp only [if_true] at h ⊢
  refine ⟨by omega, ?_⟩
  have h1 := insL_get l s i (by omega) hl
  rw [hx] at h1
  rw [h.2, take_snoc h1]
theorem slSt_end {l : List (Int × Int)} {s : Int × Int} {z : Bool} {out : List (Int × Int)} (hl : (l.map (·.1)).Pairwise (· < ·)) (h : slSt l s l.length z out) : (if z then out else out ++ [s]) = insL l s := by
  unfold slSt at h
  cases z with
  | true =>
    simp only [if_true] at h ⊢
    rw [h.2, List.take_of_length_le (by rw [insL_len]; omega)]
  | false =>
    simp only [Bool.false_eq_true, if_false] at h ⊢
    have hP := (posL_cut (l.map (·.1)) s.1 hl).le
    rw [List.length_map] at hP
    unfold insL
    rw [show posL (l.map (·.1)) s.1 = l.length by omega, h.2]
    simp
set_option maxRecDepth 100000 in
set_option maxHeartbeats 4000000 in
theorem slotted_c (lv : Value) (l : List (Int × Int)) (s : Int × Int) (w : World) (h : RowV w 2 lv (l.map slR)) (hl : (l.map (·.1)).Pairwise (· < ·)) (hn : s.1 ∉ l.map (·.1)) (h4 : l.length ≤ 4) :
    Calls Tryd.prog 24 #[lv, .agg #[.int .u64 s.1, .int .u64 s.2]] w fun e w' => ∃ v', e = .returned v' ∧ RowV w' 2 v' ((lastF (insL l s)).map slR) ∧ SlB w.heap.size w' 49 v' ∧ Ext w w' := by
  obtain ⟨la, lc, rfl, hl1, hl2⟩ := h.shape
  rw [List.length_map] at hl1 ⊢
  obtain ⟨N, hN⟩ : ∃ n, n = l.length := ⟨_, rfl⟩
  have H := Lib.hid h; have HL := Lib.hid hl; have HNN := Lib.hid hn
  rw [List.length_map] at H
  rw [← hN] at hl1 H h4 ⊢
  have HN := Lib.hid hN
  clear h hl hn hN
  obtain ⟨s1, s2⟩ := s
  dsimp only
  go_enter Tryd.func24, Tryd.ntmps24
  obtain ⟨T3, hT3⟩ : ∃ T, T = w.heap.size := ⟨_, rfl⟩
  have hB := Blk.new w #[.int .u64 s1, .int .u64 s2] 49
  have hE := Ext.alloc w (.cells #[.int .u64 s1, .int .u64 s2] 49)
  rw [← hT3] at hB
  have hsz : T3 + 1 = (w.alloc (.cells #[.int .u64 s1, .int .u64 s2] 49)).heap.size := by rw [hT3]; simp
  go_wp2_with fail
  rw [← hT3]
  generalize w.alloc (.cells #[.int .u64 s1, .int .u64 s2] 49) = W1 at *
  have HB := Lib.hid hB; have HE := Lib.hid hE; have HSZ := Lib.hid hsz
  have HT3 := Lib.hid hT3
  clear hB hE hsz hT3
  go_loopg [5, 6, 7] N (fun g v5 v6 v7 wr => ∃ (i : Nat) (z : Bool) (out : List (Int × Int)), v7 = .int .i64 (i : Int) ∧ v6 = .bool z ∧ i + g = N ∧ Ext W1 wr ∧ wr.ownsRow (T3 + 1) 49 2 v5 out.length (out.map slR).flatten ∧ slSt l (s1, s2) i z out ∧ out.length ≤ i + 1)
  case atStart => exact ⟨0, false, [], rfl, rfl, by omega, Ext.refl _, ⟨rfl, .inl ⟨rfl, rfl⟩⟩, ⟨Nat.zero_le _, rfl⟩, by simp⟩
  case round =>
    obtain ⟨i, z, out, rfl, rfl, hiN, hE4, hO, hst, hol⟩ := hrel
    have HE4 := Lib.hid hE4; have HO := Lib.hid hO; have HST := Lib.hid hst
    clear hE4 hO hst
    by_cases hi : i < N
    · have hi' : (i : Int) < (N : Int) := by omega
      obtain ⟨x, hx⟩ : ∃ x, l[i]? = some x := ⟨_, List.getElem?_eq_getElem (by have := HN.out; omega)⟩
      have hne : x.1 ≠ s1 := fun e => HNN.out (by rw [← e]; exact List.mem_map.2 ⟨x, List.mem_of_getElem? hx, rfl⟩)
      obtain ⟨sb, so, rfl, hc⟩ := H.out.cells2 hx
      have d0 := (HE.out.trans HE4.out).cell (hc 0 _ rfl); have d1 := (HE.out.trans HE4.out).cell (hc 1 _ rfl)
      rw [Nat.add_zero] at d0
      have b0 := (HB.out.ext HE4.out).cell 0 rfl
      simp only [List.getElem_toArray, List.getElem_cons_zero] at b0
      have HX := Lib.hid hx; have HNE := Lib.hid hne
      obtain ⟨x1, x2⟩ := x
      dsimp only at d0 d1
      obtain ⟨oa, oc, rfl, -, -, -⟩ := own_slice HO.out
      have h0 := Lib.hid hc
      clear hc hx hne hi
      have HOE := Lib.hid (And.intro HE4.out HO.out)
      have f0 := HB.out
      cases z with
      | true =>
        have hgo := slSt_go HL.out HST.out HX.out
        have HGO := Lib.hid hgo
        clear hgo f0
        go_wp2_with fail
        go_big_quiet (fail)
        generalize hwq : wr.drewN _ = wq
        have hEq : Ext wr wq := by rw [← hwq]; exact Ext.drewN _ _
        have HOE := Lib.hid (And.intro (HE4.out.trans hEq) (own_ext HO.out hEq))
        have d0 := hEq.cell d0; have d1 := hEq.cell d1
        clear hEq hwq b0
        go_wp2_with (at_builtin; refine wpList_push_row rfl (.tmp 30) (.tmp 35) _ rfl 2 16 Tryd.underlying45 infoSl rfl (by omega) (T3 + 1) _ out.length (out.map slR).flatten [.int .u64 x1, .int .u64 x2] rfl HOE.out.2 rfl rfl (by simp [Value.oneCell']) (by omega) (by unfold maxLen; omega) (by rw [HSZ.out]; exact HOE.out.1.size) rfl ?_; intro v' w' ho' hg'; have HN' := Lib.hid (And.intro ho' (own_extG HOE.out.2 hg' HOE.out.1 (by rw [← HSZ.out]; omega))); clear ho' hg')
        go_roundg (N - (i + 1))
        case measure => omega
        case rel => exact ⟨i + 1, true, out ++ [(x1, x2)], by go_num, rfl, by omega, HN'.out.2, by simpa [slR] using HN'.out.1, HGO.out, by simp; omega⟩
      | false =>
        by_cases hlt : s1 < x1
        · have HGO := Lib.hid (slSt_put HL.out HST.out HX.out hlt)
          clear f0
          go_wp2_with fail
          go_big_quiet (fail)
          generalize hwq : wr.drewN _ = wq
          have hEq : Ext wr wq := by rw [← hwq]; exact Ext.drewN _ _
          have HOE := Lib.hid (And.intro (HE4.out.trans hEq) (own_ext HO.out hEq))
          have d0 := hEq.cell d0; have d1 := hEq.cell d1
          clear hEq hwq b0
          have HB3 := Lib.hid (HB.out.ext HOE.out.1)
          go_upto_region 9 with (first | (refine wpList_load_row rfl 49 (.tmp 3) rfl T3 rfl 49 _ (0, 0) _ HB3.out Tryd.underlying49 rfl (by kernel_rfl) ?_) | (at_builtin; refine wpList_push_row rfl (.tmp 26) (.tmp 28) _ rfl 2 16 Tryd.underlying45 infoSl rfl (by omega) (T3 + 1) _ out.length (out.map slR).flatten [.int .u64 s1, .int .u64 s2] rfl HOE.out.2 rfl rfl (by simp [Value.oneCell']) (by first | omega | (simp only [List.length_append, List.length_cons, List.length_nil]; omega)) (by unfold maxLen; first | omega | (simp only [List.length_append, List.length_cons, List.length_nil]; omega)) (by rw [HSZ.out]; exact HOE.out.1.size) rfl ?_; intro v' w' ho' hg'; have HN' := Lib.hid (And.intro ho' (own_extG HOE.out.2 hg' HOE.out.1 (by rw [← HSZ.out]; omega))); clear ho' hg'))
          have HO2 := Lib.hid (And.intro HN'.out.2 (show w'.ownsRow (T3 + 1) 49 2 v' (out ++ [(s1, s2)]).length ((out ++ [(s1, s2)]).map slR).flatten by simpa [slR] using HN'.out.1))
          have e0 := (HE.out.trans HO2.out.1).cell (h0.out 0 _ rfl); have e1 := (HE.out.trans HO2.out.1).cell (h0.out 1 _ rfl)
          rw [Nat.add_zero] at e0
          dsimp only at e0 e1
          obtain ⟨va, vc, rfl, -, -, -⟩ := own_slice HO2.out.2
          clear d0 d1 HN'
          go_wp2_with (at_builtin; refine wpList_push_row rfl (.tmp 30) (.tmp 35) _ rfl 2 16 Tryd.underlying45 infoSl rfl (by omega) (T3 + 1) _ (out ++ [(s1, s2)]).length ((out ++ [(s1, s2)]).map slR).flatten [.int .u64 x1, .int .u64 x2] rfl HO2.out.2 rfl rfl (by simp [Value.oneCell']) (by first | omega | (simp only [List.length_append, List.length_cons, List.length_nil]; omega)) (by unfold maxLen; first | omega | (simp only [List.length_append, List.length_cons, List.length_nil]; omega)) (by rw [HSZ.out]; exact HO2.out.1.size) rfl ?_; intro v' w' ho' hg'; have HN' := Lib.hid (And.intro ho' (own_extG HO2.out.2 hg' HO2.out.1 (by rw [← HSZ.out]; omega))); clear ho' hg')
          have hol' : out.length ≤ i := by
            have := HST.out
            unfold slSt at this
            simp at this
            rw [this.2, List.length_take]; omega
          go_roundg (N - (i + 1))
          case measure => omega
          case rel => exact ⟨i + 1, true, out ++ [(s1, s2)] ++ [(x1, x2)], by go_num, rfl, by omega, HN'.out.2, by simpa [slR] using HN'.out.1, HGO.out, by simp; omega⟩
        · have HGO := Lib.hid (slSt_skip HL.out HST.out HX.out hlt HNE.out)
          have hle : x1 ≤ s1 := by omega
          clear f0 hlt
          go_wp2_with fail
          go_big_quiet (fail)
          generalize hwq : wr.drewN _ = wq
          have hEq : Ext wr wq := by rw [← hwq]; exact Ext.drewN _ _
          have HOE := Lib.hid (And.intro (HE4.out.trans hEq) (own_ext HO.out hEq))
          have d0 := hEq.cell d0; have d1 := hEq.cell d1
          clear hEq hwq b0
          go_wp2_with (at_builtin; refine wpList_push_row rfl (.tmp 30) (.tmp 35) _ rfl 2 16 Tryd.underlying45 infoSl rfl (by omega) (T3 + 1) _ out.length (out.map slR).flatten [.int .u64 x1, .int .u64 x2] rfl HOE.out.2 rfl rfl (by simp [Value.oneCell']) (by first | omega | (simp only [List.length_append, List.length_cons, List.length_nil]; omega)) (by unfold maxLen; first | omega | (simp only [List.length_append, List.length_cons, List.length_nil]; omega)) (by rw [HSZ.out]; exact HOE.out.1.size) rfl ?_; intro v' w' ho' hg'; have HN' := Lib.hid (And.intro ho' (own_extG HOE.out.2 hg' HOE.out.1 (by rw [← HSZ.out]; omega))); clear ho' hg')
          go_roundg (N - (i + 1))
          case measure => omega
          case rel => exact ⟨i + 1, false, out ++ [(x1, x2)], by go_num, rfl, by omega, HN'.out.2, by simpa [slR] using HN'.out.1, HGO.out, by simp; omega⟩
    · have hge : (N : Int) ≤ (i : Int) := by omega
      obtain rfl : i = N := by omega
      have hend := slSt_end HL.out (by have := HST.out; rw [HN.out] at this; exact this)
      have hlN := HN.out
      clear hi hge hiN
      have hlen0 : (insL l (s1, s2)).length = i + 1 := by rw [insL_len]; omega
      cases z with
      | true =>
        have hm : out = insL l (s1, s2) := by simpa using hend
        have hml : out.length = i + 1 := by rw [hm, hlen0]
        have HM := Lib.hid hm
        obtain ⟨oa, oc, rfl, hoc1, hoc2, hob⟩ := own_slice HO.out
        clear hend hm hlen0 hlN
        by_cases h5 : 3 < i
        · have h5' : 4 < out.length := by omega
          obtain ⟨g, hg⟩ := hob (by omega)
          subst hg
          have hz : (0 : Int) ≤ (out.length : Int) := by omega
          go_wp2_with fail
          go_ret
          have hr := RowV.of_own (rows := out.map slR) (by rw [List.length_map]; exact HO.out) (sl_lens _)
          have hr := RowV.drop (k := 1) hr (by omega)
          refine ⟨_, rfl, ?_, ?_, (HE.out.trans HE4.out)⟩
          · rw [← HM.out]
            unfold lastF
            rw [show out.length - 4 = 1 by omega, List.map_drop]
            have e : out.length - 1 = i := by omega
            rw [e] at hr
            exact hr
          · refine fun a n c hv => ?_
            cases hv
            have hb := (SlB.own HO.out : SlB _ _ _ _) _ _ _ rfl
            exact ⟨by have := hb.1; (try dsimp only at this ⊢); first | omega | (rw [← HT3.out]; omega), hb.2⟩
        · have h5' : ¬ (4 < out.length) := by omega
          have h6 : out.length ≤ 4 := by omega
          clear h5'
          go_wp2_with fail
          go_ret
          have hr := RowV.of_own (rows := out.map slR) (by rw [List.length_map]; exact HO.out) (sl_lens _)
          refine ⟨_, rfl, ?_, ?_, (HE.out.trans HE4.out)⟩
          · rw [← HM.out]
            unfold lastF
            rw [show out.length - 4 = 0 by omega, List.drop_zero]
            exact hr
          · refine fun a n c hv => ?_
            have hb := (SlB.own HO.out : SlB _ _ _ _) _ _ _ hv
            exact ⟨by have := hb.1; (try dsimp only at this ⊢); first | omega | (rw [← HT3.out]; omega), hb.2⟩
      | false =>
        have hm : out ++ [(s1, s2)] = insL l (s1, s2) := by simpa using hend
        have hol' : out.length ≤ i := by
          have := HST.out
          unfold slSt at this
          simp at this
          rw [this.2, List.length_take]; omega
        have HM := Lib.hid hm
        have HL0 := Lib.hid hlen0
        obtain ⟨oa, oc, rfl, -, -, -⟩ := own_slice HO.out
        clear hend hm hlen0 hlN
        have HB3 := Lib.hid (HB.out.ext HE4.out)
        go_upto_region 12 with (first | (refine wpList_load_row rfl 49 (.tmp 3) rfl T3 rfl 49 _ (0, 0) _ HB3.out Tryd.underlying49 rfl (by kernel_rfl) ?_) | (at_builtin; refine wpList_push_row rfl (.tmp 39) (.tmp 41) _ rfl 2 16 Tryd.underlying45 infoSl rfl (by omega) (T3 + 1) _ out.length (out.map slR).flatten [.int .u64 s1, .int .u64 s2] rfl HO.out rfl rfl (by simp [Value.oneCell']) (by omega) (by unfold maxLen; omega) (by rw [HSZ.out]; exact HE4.out.size) rfl ?_; intro v' w' ho' hg'; have HN' := Lib.hid (And.intro ho' (own_extG HO.out hg' HE4.out (by rw [← HSZ.out]; omega))); clear ho' hg'))
        have HO2 := Lib.hid (And.intro HN'.out.2 (show w'.ownsRow (T3 + 1) 49 2 v' (out ++ [(s1, s2)]).length ((out ++ [(s1, s2)]).map slR).flatten by simpa [slR] using HN'.out.1))
        obtain ⟨M, hM⟩ : ∃ M, M = out ++ [(s1, s2)] := ⟨_, rfl⟩
        rw [← hM] at HO2 HM
        have hml : M.length = i + 1 := by rw [HM.out, insL_len]; have := HN.out; omega
        obtain ⟨va, vc, rfl, hoc1, hoc2, hob⟩ := own_slice HO2.out.2
        clear hM HN' hol hol'
        by_cases h5 : 3 < i
        · have h5' : 4 < M.length := by omega
          obtain ⟨g, hg⟩ := hob (by omega)
          subst hg
          have hz : (0 : Int) ≤ (M.length : Int) := by omega
          go_wp2_with fail
          go_ret
          have hr := RowV.of_own (rows := M.map slR) (by rw [List.length_map]; exact HO2.out.2) (sl_lens _)
          have hr := RowV.drop (k := 1) hr (by omega)
          refine ⟨_, rfl, ?_, ?_, (HE.out.trans HO2.out.1)⟩
          · rw [← HM.out]
            unfold lastF
            rw [show M.length - 4 = 1 by omega, List.map_drop]
            have e : M.length - 1 = i := by omega
            rw [e] at hr
            exact hr
          · refine fun a n c hv => ?_
            cases hv
            have hb := (SlB.own HO2.out.2 : SlB _ _ _ _) _ _ _ rfl
            exact ⟨by have := hb.1; (try dsimp only at this ⊢); first | omega | (rw [← HT3.out]; omega), hb.2⟩
        · have h5' : ¬ (4 < M.length) := by omega
          have h6 : M.length ≤ 4 := by omega
          clear h5'
          go_wp2_with fail
          go_ret
          have hr := RowV.of_own (rows := M.map slR) (by rw [List.length_map]; exact HO2.out.2) (sl_lens _)
          refine ⟨_, rfl, ?_, ?_, (HE.out.trans HO2.out.1)⟩
          · rw [← HM.out]
            unfold lastF
            rw [show M.length - 4 = 0 by omega, List.drop_zero]
            exact hr
          · refine fun a n c hv => ?_
            have hb := (SlB.own HO2.out.2 : SlB _ _ _ _) _ _ _ hv
            exact ⟨by have := hb.1; (try dsimp only at this ⊢); first | omega | (rw [← HT3.out]; omega), hb.2⟩
end Go.Proofs.YtgefphfnicjbiaaDoor
