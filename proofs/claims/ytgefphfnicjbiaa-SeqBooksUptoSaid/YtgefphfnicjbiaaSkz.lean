/- Layer 25 (seq): tabellionref25.Get. PRINTED BY gen/rkget2.py -/
import Derived.Test.YtgefphfnicjbiaaSky
set_option linter.unusedSimpArgs false
set_option linter.unusedVariables false
namespace Go.Proofs.Ytgefphfnicjbiaa
open Go Go.RowKit

theorem rdRaw_err' {most : Int} {bs : List Int} {e : Int} (h : rdRaw most bs = .error e) : e ≠ 0 := by
  simp only [rdRaw] at h
  split at h
  · rename_i heq; cases h; exact rdNum_err' heq
  · split at h
    · cases h; decide
    · split at h
      · cases h; decide
      · cases h
/-- What is known of Get's answer's variable at all times. -/
structure RGD (w W : World) : Prop where
  ext : Ext w W
  b2 : Blk W w.heap.size #[.slice none 0 0, .slice none 0 0] 27
theorem RG.door {w W : World} {v : Value} {full : List Int} {a : Nat} {lv cv : Value} {L : List LQ} {C : List CQ} (h : RG w W v full a lv cv L C) : RGD w W := ⟨h.ext, h.b2⟩
theorem RGD.chg {w W W' : World} {S : List Nat} (h : RGD w W) (hC : Chg S W W') (hS : ∀ t ∈ S, w.heap.size < t) : RGD w W' :=
  ⟨((Chg.ext h.ext : Chg S w W).trans hC).toExt (fun t ht => by have := hS t ht; omega), h.b2.chg hC (fun hm => by have := hS _ hm; omega)⟩
theorem RG.doorg {w W W' : World} {v : Value} {full : List Int} {a : Nat} {lv cv : Value} {L : List LQ} {C : List CQ} (h : RG w W v full a lv cv L C) (hg : W.grownBy W' (some (w.heap.size + 1))) : RGD w W' := h.door.chg (Chg.grown hg) (fun t ht => by simp at ht; omega)
theorem rkget_ret (b : Nat) (c0 c1 f : Value) (F : World) (tmps : Array Value) (R : Ending → World → Prop) (hB : Blk F b #[c0, c1] 27)
    (hz : tmps[2]? = some (.pointer (some ⟨b, 0, none⟩))) (h3 : tmps[3]? = some f) (h : R (.returned (.tuple #[.agg #[c0, c1], f])) F) :
    bodyPost Try.prog Try.f16 R .ret { tmps := tmps, defers := [] } F := by
  have x0 := hB.cell 0 rfl; have x1 := hB.cell 1 rfl
  simp at x0 x1
  refine bodyPost_ret ?_ rfl h
  simp [results, Try.results16, go_sem, hz, h3, x0, x1]
theorem rkget_err {w W : World} {X : Except Int Bk} {no : Int} {tmps : Array Value} (h : RGD w W) (hX : X = .error no) (hz : tmps[2]? = some (.pointer (some ⟨w.heap.size, 0, none⟩))) (h3 : tmps[3]? = some (.int .i64 no)) :
    bodyPost Try.prog Try.f16 (KOut X w) .ret { tmps := tmps, defers := [] } (W.setRow w.heap.size #[.slice none 0 0, .slice none 0 0]) := by
  have hC : Chg [w.heap.size] W (W.setRow w.heap.size #[.slice none 0 0, .slice none 0 0]) := Chg.some (grown_rowS W _ _) (.inl (by simp))
  refine rkget_ret w.heap.size _ _ _ _ _ _ (setRow_heap W _ _ _ _ (0, 0) h.b2) hz h3 ⟨((Chg.ext h.ext : Chg [w.heap.size] w W).trans hC).toExt (fun t ht => by simp at ht; omega), _, no, ⟨[], []⟩, rfl, BookT.nil _, ?_⟩
  rw [hX]
  exact ⟨rfl, rfl⟩
theorem sl_get (S : List (Int × Int)) (i : Nat) (q : Int × Int) (h : S[i]? = some q) : (S.map slR).flatten[i * 2]? = some (.int .u64 q.1) ∧ (S.map slR).flatten[i * 2 + 1]? = some (.int .u64 q.2) := by
  induction S generalizing i with
  | nil => simp at h
  | cons p r ih =>
    cases i with
    | zero =>
      simp at h; subst h
      exact ⟨rfl, rfl⟩
    | succ i =>
      have := ih i (by simpa using h)
      simp only [List.map_cons, List.flatten_cons]
      rw [show (i + 1) * 2 = (slR p).length + i * 2 by simp [slR]; omega, List.getElem?_append_right (by omega), Nat.add_sub_cancel_left, Nat.add_assoc, List.getElem?_append_right (by omega), Nat.add_sub_cancel_left]
      exact this
theorem BookT.chgE {w w' : World} {v : Value} {b : Bk} {S : List Nat} {e : TypeId} (h : BookT w v b) (hC : Chg S w w') (hS : ∀ t ∈ S, ∃ c, Blk w t c e) (h1 : e ≠ 29) (h2 : e ≠ 55) (h3 : e ≠ 5) (h4 : e ≠ 59) : BookT w' v b := by
  obtain ⟨lv, cv, L, C, e', g1, g2, g3, g4, g5, g6, g7, g8⟩ := h
  have nt : ∀ {t : Nat} {e' : TypeId} {cs : Array Value}, Blk w t cs e' → e ≠ e' → t ∉ S := fun hb he hm => by
    obtain ⟨c, h3⟩ := hS _ hm
    exact he (blk_type h3 hb)
  have ns : ∀ {e' : TypeId} {u : Value}, SlB 0 w e' u → e ≠ e' → ∀ a n c, u = .slice (some a) n c → a.block ∉ S := fun h he a n c hv => by
    obtain ⟨_, cur, h3⟩ := h a n c hv
    exact nt h3 he
  exact ⟨lv, cv, L, C, e', g1, g2, g3.chg hC (fun a n c hv _ => ns g7 h1 a n c hv), g4.chg hC (fun a n c hv _ => ns g8 h2 a n c hv), fun q hq => leaf_chg (g5 q hq) hC (fun t ht cs hb => nt hb h3 ht),
    fun q hq => ⟨RowV.chg (g6 q hq).1 hC (fun a n c hv _ => ns (g6 q hq).2 h4 a n c hv), (g6 q hq).2.chg hC (ns (g6 q hq).2 h4)⟩, g7.chg hC (ns g7 h1), g8.chg hC (ns g8 h2)⟩
theorem RG.ext' {w W W' : World} {v : Value} {full : List Int} {a : Nat} {lv cv : Value} {L : List LQ} {C : List CQ} (h : RG w W v full a lv cv L C) (hE : Ext W W') : RG w W' v full a lv cv L C :=
  h.chg (S := []) (e := 27) (Chg.ext hE) (by simp) (by decide) (by decide) (by decide) (by decide) (by simp) (h.rr.chg (S := []) (Chg.ext hE) (by simp) (fun _ _ _ _ _ => by simp))
set_option maxRecDepth 100000 in
set_option maxHeartbeats 8000000 in
theorem rkget_c (v : Value) (full : List Int) (w : World) (hR : Rd w v (u8s full)) (hb8 : B8 full) (hl : full.length ≤ 140737488355000) : Calls Try.prog 16 #[v] w (KOut (getK full) w) := by
  have hlow : ∀ a n c, v = .slice (some a) n c → u8s full ≠ [] → a.block < w.heap.size := fun a n c hv hne => by
    obtain ⟨a', c', h1, -, -, h4⟩ := hR
    rw [hv] at h1
    rcases h4 with h4 | ⟨b', o, h4, h5⟩
    · exact absurd h4 hne
    · cases h1; cases h4
      obtain ⟨u, hu⟩ : ∃ u, (u8s full)[0]? = some u := ⟨_, List.getElem?_eq_getElem (List.length_pos_iff.2 hne)⟩
      have := h5 0 u hu
      exact World.block_lt_of_cell? _ _ this
  have hup := fun a most W h => upto_c (w.heap.size + 1) v full a most W hb8 hl h
  have hnm := fun a W h => rnum_c (w.heap.size + 1) v full a 0 W hb8 (by omega) h
  have hrw := fun a W h => rraw_c (w.heap.size + 1) v full a 0 64 W hb8 hl (by omega) h
  have hen := fun a W h => rend_c (w.heap.size + 1) v full a 0 W h
  have HUP := Lib.hid hup; have HNM := Lib.hid hnm; have HRW := Lib.hid hrw; have HEN := Lib.hid hen
  have HR := Lib.hid hR; have HLOW := Lib.hid hlow; have HL := Lib.hid hl
  obtain ⟨va, vn, vc, rfl⟩ := hR.shape
  obtain ⟨X, hX⟩ : ∃ X, X = getK full := ⟨_, rfl⟩
  rw [← hX]
  rw [getK_kN] at hX
  have HX0 := Lib.hid hX
  clear hR hb8 hl hlow hup hnm hrw hen hX
  go_enter Try.func16, Try.ntmps16
  go_upto_region 3 with fail
  obtain ⟨w0, hw0⟩ : ∃ w0, w0 = ((w.alloc (.cells #[.slice none 0 0, .slice none 0 0] 27)).alloc (.cells #[.slice va vn vc, .int .i64 0, .int .i64 0] 82)).alloc (.cells #[.slice none 0 0, .slice none 0 0] 27) := ⟨_, rfl⟩
  have hE0 : Ext w w0 := by rw [hw0]; exact ((Ext.alloc _ _).trans (Ext.alloc _ _)).trans (Ext.alloc _ _)
  have hRG : RG w w0 (.slice va vn vc) full 0 (.slice none 0 0) (.slice none 0 0) [] [] := by
    have b2 : Blk w0 w.heap.size #[.slice none 0 0, .slice none 0 0] 27 := by rw [hw0]; exact ((Blk.new _ _ _).alloc _).alloc _
    have b4 : Blk w0 (w.heap.size + 1) #[.slice va vn vc, .int .i64 0, .int .i64 0] 82 := by
      rw [hw0]; have := (Blk.new (w.alloc (.cells #[.slice none 0 0, .slice none 0 0] 27)) #[.slice va vn vc, .int .i64 0, .int .i64 0] 82).alloc (.cells #[.slice none 0 0, .slice none 0 0] 27); simpa using this
    have b5 : Blk w0 (w.heap.size + 2) #[.slice none 0 0, .slice none 0 0] 27 := by
      rw [hw0]; have := Blk.new ((w.alloc (.cells #[.slice none 0 0, .slice none 0 0] 27)).alloc (.cells #[.slice va vn vc, .int .i64 0, .int .i64 0] 82)) #[.slice none 0 0, .slice none 0 0] 27; simpa using this
    exact ⟨hE0, b2, ⟨b4, HR.out.ext hE0, Nat.zero_le _, fun a n c hv hne => by have := HLOW.out a n c hv hne; intro e; simp at e; omega⟩, b5, World.ownsRow_nil _ _ _ _, World.ownsRow_nil _ _ _ _, (fun q hq => by cases hq), (fun q hq => by cases hq), HLOW.out⟩
  rw [← hw0]
  have HG0 := Lib.hid hRG
  clear hE0 hRG hw0 HR
  -- the number of leaves
  go_wp2_with fail
  refine (HUP.out 0 64 _ HG0.out.rr).mono ?_
  rintro en w1 ⟨hg1, h1⟩
  rw [List.drop_zero] at h1
  have HD1 := Lib.hid (HG0.out.doorg hg1)
  cases hn : rdMany 64 full with
  | error no =>
    rw [hn] at h1
    obtain ⟨hne, z, rfl⟩ := h1
    have hnb : (no != 0) = true := by simpa using hne
    have HX : Hid (X = .error no) := Lib.hid (by rw [HX0.out, hn]; rfl)
    clear hn hne hg1 HX0 HUP HNM HRW HEN HLOW HG0
    go_wp2_with (refine wpList_store_row rfl 27 (.tmp 2) (.tmp 31) rfl w.heap.size #[.slice none 0 0, .slice none 0 0] rfl rfl 27 _ HD1.out.b2 (book_size _ _) rfl (by simp [Value.oneCell']) ?_)
    exact rkget_err HD1.out HX.out rfl rfl
  | ok y =>
  obtain ⟨n, r1⟩ := y
  rw [hn] at h1
  obtain ⟨a1, rfl, hr1, rfl⟩ := h1
  have hn2 : 0 ≤ n ∧ n ≤ 64 := by
    unfold rdMany at hn
    split at hn
    · cases hn
    · rename_i heq
      split at hn
      · cases hn
      · cases hn; have := rdNum_ok heq; omega
  obtain ⟨N, rfl⟩ := Int.eq_ofNat_of_zero_le hn2.1
  have hN : N ≤ 64 := by omega
  have HG1 := Lib.hid (HG0.out.read (Chg.grown hg1) hr1)
  have HX1 : Hid (X = kL (N : Int) (rdLfs N [] (full.drop a1))) := Lib.hid (by rw [HX0.out, hn]; simp only [kN, Int.toNat_natCast])
  clear hn hn2 hg1 hr1 HX0 HG0 HD1
  go_wp2_with fail
  go_loopg [8] N (fun g v8 wr => ∃ (i a : Nat) (lv : Value) (L : List LQ), v8 = .int .u64 (i : Int) ∧ i + g = N ∧ RG w wr (.slice va vn vc) full a lv (.slice none 0 0) L [] ∧ L.length = i ∧ X = kL (N : Int) (rdLfs (N - i) (L.map (·.1)) (full.drop a)))
  case atStart => exact ⟨0, a1, _, [], rfl, by omega, HG1.out, rfl, HX1.out⟩
  case round =>
    obtain ⟨i, a, lv, L, rfl, hiN, hG, hLi, hX⟩ := hrel
    have HG := Lib.hid hG; have HLI := Lib.hid hLi; have HX := Lib.hid hX
    obtain ⟨la, lc, rfl, -, -, -⟩ := own_slice hG.lo
    clear hG hLi hX HG1 HX1
    by_cases hi : i < N
    · have hi' : (i : Int) < (N : Int) := by omega
      clear hi
      go_wp2_with fail
      refine (HRW.out a _ HG.out.rr).mono ?_
      rintro en w2 ⟨hg2, h2⟩
      simp only [stuckR, if_true] at h2
      have HD2 := Lib.hid (HG.out.doorg hg2)
      have HXS : Hid (X = kL (N : Int) (rdLfs (N - (i + 1) + 1) (L.map (·.1)) (full.drop a))) := Lib.hid (by rw [HX.out, show N - (i + 1) + 1 = N - i by omega])
      cases hq : rdRaw 64 (full.drop a) with
      | error no =>
        rw [hq] at h2
        obtain ⟨rfl, -⟩ := h2
        have hne := rdRaw_err' hq
        have hnb : (no != 0) = true := by simpa using hne
        have HX : Hid (X = .error no) := Lib.hid (by rw [HXS.out]; simp only [rdLfs]; rw [hq]; rfl)
        clear hq hne hg2 HUP HNM HRW HEN HLOW HG HXS
        go_wp2_with (refine wpList_store_row rfl 27 (.tmp 2) (.tmp 45) rfl w.heap.size #[.slice none 0 0, .slice none 0 0] rfl rfl 27 _ HD2.out.b2 (book_size _ _) rfl (by simp [Value.oneCell']) ?_)
        exact rkget_err HD2.out HX.out rfl rfl
      | ok y =>
        obtain ⟨l, r2⟩ := y
        rw [hq] at h2
        obtain ⟨u, a2, rfl, ⟨hu1, -, hu2⟩, hr2, rfl⟩ := h2
        have HG2 := Lib.hid (HG.out.read (Chg.grown hg2) hr2)
        have HU := Lib.hid (And.intro hu1 hu2)
        have HX2 : Hid (X = kL (N : Int) (rdLfs (N - (i + 1)) ((L ++ [((l, u) : LQ)]).map (·.1)) (full.drop a2))) := Lib.hid (by rw [HXS.out]; simp only [rdLfs]; rw [hq]; simp)
        obtain ⟨ua, un, uc, rfl⟩ := hu1.shape
        have b0 := HG2.out.b5.cell 0 rfl
        simp only [List.getElem_toArray, List.getElem_cons_zero] at b0
        clear hq hg2 hr2 hu1 hu2 HG HD2 HXS HX
        have hLn : L.length ≤ 64 := by have := HLI.out; omega
        go_upto_region 12 with fail
        have HB5 := Lib.hid HG2.out.b5
        go_wp2_with (first | fail | (at_builtin; refine wpList_push_row rfl (.tmp 48) (.tmp 50) _ rfl 1 24 Try.underlying24 infoLf rfl (by omega) (w.heap.size + 3) _ L.length (L.map (·.2)) [.slice ua un uc] rfl HG2.out.lo rfl rfl (by simp [Value.oneCell']) (by omega) (by unfold maxLen; omega) (by have := HB5.out.lt; omega) rfl ?_; intro v' w' ho' hg'; have HL2 := Lib.hid (HG2.out.leaf HU.out ho' hg'); have hb := HB5.out.chg (Chg.grown hg') (own_notin HG2.out.lo HB5.out (by decide)); obtain ⟨xa, xc, hxe, -, -, -⟩ := own_slice ho'; subst hxe; have f0 := hb.free 0; have k0 := hb.cell 0 rfl; simp only [List.getElem_toArray, List.getElem_cons_zero] at k0; clear ho' hg' hb))
        go_roundg (N - (i + 1))
        case measure => omega
        case rel => exact ⟨i + 1, a2, _, _, by go_num, by omega, HL2.out, by simp [HLI.out], HX2.out⟩
    · obtain rfl : i = N := by omega
      have HX3 : Hid (X = kM (i : Int) (L.map (·.1)) (rdMany 8 (full.drop a))) := Lib.hid (by rw [HX.out, Nat.sub_self]; rfl)
      clear hi hiN HX
      go_upto_region 13 with fail
      obtain ⟨wa, hwa⟩ : ∃ W, W = wr := ⟨_, rfl⟩
      subst hwa
      -- the number of clients
      go_wp2_with fail
      refine (HUP.out a 8 _ HG.out.rr).mono ?_
      rintro en w3 ⟨hg3, h3⟩
      have HD3 := Lib.hid (HG.out.doorg hg3)
      cases hm : rdMany 8 (full.drop a) with
      | error no =>
        rw [hm] at h3
        obtain ⟨hne, z, rfl⟩ := h3
        have hnb : (no != 0) = true := by simpa using hne
        have HX : Hid (X = .error no) := Lib.hid (by rw [HX3.out, hm]; rfl)
        clear hm hne hg3 HUP HNM HRW HEN HLOW HG HX3
        go_wp2_with (refine wpList_store_row rfl 27 (.tmp 2) (.tmp 60) rfl w.heap.size #[.slice none 0 0, .slice none 0 0] rfl rfl 27 _ HD3.out.b2 (book_size _ _) rfl (by simp [Value.oneCell']) ?_)
        exact rkget_err HD3.out HX.out rfl rfl
      | ok y =>
      obtain ⟨m, r3⟩ := y
      rw [hm] at h3
      obtain ⟨a3, rfl, hr3, rfl⟩ := h3
      have hm2 : 0 ≤ m ∧ m ≤ 8 := by
        unfold rdMany at hm
        split at hm
        · cases hm
        · rename_i heq
          split at hm
          · cases hm
          · cases hm; have := rdNum_ok heq; omega
      obtain ⟨M, rfl⟩ := Int.eq_ofNat_of_zero_le hm2.1
      have hM : M ≤ 8 := by omega
      have HG3 := Lib.hid (HG.out.read (Chg.grown hg3) hr3)
      have HX4 : Hid (X = kC (L.map (·.1)) (rdCls (i : Int) M [] (full.drop a3))) := Lib.hid (by rw [HX3.out, hm]; simp only [kM, Int.toNat_natCast])
      clear hm hm2 hg3 hr3 HX3 HG HD3
      go_wp2_with fail
      go_loopg [12] M (fun g v12 wr => ∃ (j a : Nat) (cv : Value) (C : List CQ), v12 = .int .u64 (j : Int) ∧ j + g = M ∧ RG w wr (.slice va vn vc) full a (.slice la L.length lc) cv L C ∧ C.length = j ∧ X = kC (L.map (·.1)) (rdCls (i : Int) (M - j) (C.map (·.1)) (full.drop a)))
      case atStart => exact ⟨0, a3, _, [], rfl, by omega, HG3.out, rfl, HX4.out⟩
      case round =>
        obtain ⟨j, a4, cv, C, rfl, hjM, hG, hCj, hX⟩ := hrel
        have HG := Lib.hid hG; have HCJ := Lib.hid hCj; have HX := Lib.hid hX
        obtain ⟨ca, cc, rfl, -, hcc2, hcg⟩ := own_slice hG.co
        have HCG := Lib.hid hcg
        clear hG hCj hX HG3 HX4 hcg
        by_cases hj : j < M
        · have hj' : (j : Int) < (M : Int) := by omega
          clear hj
          go_wp2_with fail
          refine (HNM.out a4 _ HG.out.rr).mono ?_
          rintro en w4 ⟨hg4, h4⟩
          simp only [stuckR, if_true] at h4
          have HD4 := Lib.hid (HG.out.doorg hg4)
          obtain ⟨K, hK⟩ : ∃ K, K = M - (j + 1) := ⟨_, rfl⟩
          have HXS : Hid (X = kC (L.map (·.1)) (rdCls (i : Int) (K + 1) (C.map (·.1)) (full.drop a4))) := Lib.hid (by rw [HX.out, hK, show M - (j + 1) + 1 = M - j by omega])
          have HK := Lib.hid hK
          clear hK HX
          cases hq : rdNum (full.drop a4) with
          | error no =>
            rw [hq] at h4
            obtain ⟨rfl, -⟩ := h4
            have hne := rdNum_err' hq
            have hnb : (no != 0) = true := by simpa using hne
            have HX : Hid (X = .error no) := Lib.hid (by rw [HXS.out]; simp only [rdCls]; rw [hq]; rfl)
            clear hq hne hg4 HUP HNM HRW HEN HLOW HG HXS
            go_wp2_with (refine wpList_store_row rfl 27 (.tmp 2) (.tmp 74) rfl w.heap.size #[.slice none 0 0, .slice none 0 0] rfl rfl 27 _ HD4.out.b2 (book_size _ _) rfl (by simp [Value.oneCell']) ?_)
            exact rkget_err HD4.out HX.out rfl rfl
          | ok y =>
          obtain ⟨x, r4⟩ := y
          rw [hq] at h4
          obtain ⟨_, a5, rfl, rfl, hr4, rfl⟩ := h4
          have HG4 := Lib.hid (HG.out.read (Chg.grown hg4) hr4)
          have HXT : Hid (rdCls (i : Int) (K + 1) (C.map (·.1)) (full.drop a4) = if upTo ((C.map (·.1)).map (·.id)) x then (match rdMany 4 (full.drop a5) with
            | .error e => .error e
            | .ok (m, r) => if 0 < m then kSl (i : Int) K (C.map (·.1)) x (rdSls (i : Int) m.toNat [] r) else .error 3) else .error 3) := Lib.hid (by
              simp only [rdCls]; rw [hq]
              dsimp only
              split
              · cases rdMany 4 (full.drop a5) with
                | error e => rfl
                | ok y =>
                  dsimp only
                  split
                  · unfold kSl; rfl
                  · rfl
              · rfl)
          clear hq hg4 hr4 HG HD4
          have b1 := HG4.out.b5.cell 1 rfl
          simp only [List.getElem_toArray, List.getElem_cons_zero, List.getElem_cons_succ] at b1
          -- is the number above the last one's?
          have hup : upTo ((C.map (·.1)).map (·.id)) x = false ∧ (∃ (k : Nat) (q : CQ), j = k + 1 ∧ C[k]? = some q ∧ x ≤ q.1.id) ∨ upTo ((C.map (·.1)).map (·.id)) x = true ∧ (j = 0 ∨ ∃ (k : Nat) (q : CQ), j = k + 1 ∧ C[k]? = some q ∧ q.1.id < x) := by
            have hcl := HCJ.out
            unfold upTo
            rcases Nat.eq_zero_or_pos j with h0 | h0
            · right
              have : C = [] := List.length_eq_zero_iff.1 (by omega)
              subst this
              exact ⟨rfl, .inl h0⟩
            · obtain ⟨k, rfl⟩ : ∃ k, j = k + 1 := ⟨j - 1, by omega⟩
              obtain ⟨q, hq⟩ : ∃ q, C[k]? = some q := ⟨_, List.getElem?_eq_getElem (by omega)⟩
              have hl : ((C.map (·.1)).map (·.id)).getLast? = some q.1.id := by
                rw [List.getLast?_eq_getElem?, List.length_map, List.length_map, hcl, Nat.add_sub_cancel, List.getElem?_map, List.getElem?_map, hq]; rfl
              rw [hl]
              dsimp only
              by_cases hle : x ≤ q.1.id
              · exact .inl ⟨by simpa using hle, k, q, rfl, hq, hle⟩
              · exact .inr ⟨by simp; omega, .inr ⟨k, q, rfl, hq, by omega⟩⟩
          rcases hup with ⟨hup, k, q, hjk, hq, hle⟩ | ⟨hup, hor⟩
          · have HX : Hid (X = .error 3) := Lib.hid (by rw [HXS.out, HXT.out, hup]; rfl)
            have HD4 := Lib.hid HG4.out.door
            obtain ⟨g, hge⟩ := HCG.out (by have := HCJ.out; omega)
            subst hge
            have hco := HG4.out.co
            have d0 := own_cell hco (k * 2) (cl_get C k q hq).1
            have hsub : (j : Int) - 1 = (k : Int) := by omega
            have hkn : (k : Int) < (C.length : Int) := by have := HCJ.out; omega
            have hj0 : (0 : Int) < (j : Int) := by omega
            have hj0d : decide (0 < j) = true := by simp; omega
            generalize q.1.id = qi at *
            generalize C.length = nC at *
            clear hq hjk hup HUP HNM HRW HEN HLOW HXS HXT hco HG4
            go_wp2_with (refine wpList_store_row rfl 27 (.tmp 2) (.tmp 89) rfl w.heap.size #[.slice none 0 0, .slice none 0 0] rfl rfl 27 _ HD4.out.b2 (book_size _ _) rfl (by simp [Value.oneCell']) ?_)
            exact rkget_err HD4.out HX.out rfl rfl
          · have HXU : Hid (X = kC (L.map (·.1)) (match rdMany 4 (full.drop a5) with
              | .error e => .error e
              | .ok (m, r) => if 0 < m then kSl (i : Int) K (C.map (·.1)) x (rdSls (i : Int) m.toNat [] r) else .error 3)) := Lib.hid (by rw [HXS.out, HXT.out, hup, if_pos rfl])
            clear hup HXS HXT
            go_upto_region 22 with fail
            go_cut [88] (fun v88 wc => v88 = .bool false ∧ wc = w4)
            case first =>
              rcases hor with hj0 | ⟨k, q, hjk, hq, hle⟩
              · have hj0' : (j : Int) ≤ 0 := by omega
                clear hj0
                go_wp2_with fail
                go_meet
                exact ⟨rfl, rfl⟩
              · obtain ⟨g, hge⟩ := HCG.out (by have := HCJ.out; omega)
                subst hge
                have d0 := own_cell HG4.out.co (k * 2) (cl_get C k q hq).1
                have hsub : (j : Int) - 1 = (k : Int) := by omega
                have hkn : (k : Int) < (C.length : Int) := by have := HCJ.out; omega
                have hj0 : (0 : Int) < (j : Int) := by omega
                have hCJ := HCJ.out
                generalize q.1.id = qi at *
                clear hq hjk HUP HNM HRW HEN HLOW HXU HG4
                generalize C.length = nC at *
                clear hCJ
                have HLE := Lib.hid hle
                go_wp2_with fail
                go_meet
                exact ⟨by have := HLE.out; first | rfl | (simp; omega), rfl⟩
            case rest =>
              obtain ⟨rfl, hw⟩ := hcut
              subst hw
              clear hor b1
              go_upto_region 24 with fail
              -- the number of slots
              go_wp2_with fail
              refine (HUP.out a5 4 _ HG4.out.rr).mono ?_
              rintro en w6 ⟨hg6, h6⟩
              have HD6 := Lib.hid (HG4.out.doorg hg6)
              cases hm : rdMany 4 (full.drop a5) with
              | error no =>
                rw [hm] at h6
                obtain ⟨hne, z, rfl⟩ := h6
                have hnb : (no != 0) = true := by simpa using hne
                have HX : Hid (X = .error no) := Lib.hid (by rw [HXU.out, hm]; rfl)
                clear hm hne hg6 HUP HNM HRW HEN HLOW HG4 HXU
                go_wp2_with (refine wpList_store_row rfl 27 (.tmp 2) (.tmp 97) rfl w.heap.size #[.slice none 0 0, .slice none 0 0] rfl rfl 27 _ HD6.out.b2 (book_size _ _) rfl (by simp [Value.oneCell']) ?_)
                exact rkget_err HD6.out HX.out rfl rfl
              | ok y =>
              obtain ⟨m, r6⟩ := y
              rw [hm] at h6
              obtain ⟨a6, rfl, hr6, rfl⟩ := h6
              have hm2 : 0 ≤ m ∧ m ≤ 4 := by
                unfold rdMany at hm
                split at hm
                · cases hm
                · rename_i heq
                  split at hm
                  · cases hm
                  · cases hm; have := rdNum_ok heq; omega
              obtain ⟨Q, rfl⟩ := Int.eq_ofNat_of_zero_le hm2.1
              have hQ : Q ≤ 4 := by omega
              have HG6 := Lib.hid (HG4.out.read (Chg.grown hg6) hr6)
              by_cases hQ0 : Q = 0
              · subst hQ0
                have HX : Hid (X = .error 3) := Lib.hid (by rw [HXU.out, hm]; rfl)
                clear hm hm2 hg6 hr6 HUP HNM HRW HEN HLOW HG4 HXU HG6
                go_wp2_with (refine wpList_store_row rfl 27 (.tmp 2) (.tmp 101) rfl w.heap.size #[.slice none 0 0, .slice none 0 0] rfl rfl 27 _ HD6.out.b2 (book_size _ _) rfl (by simp [Value.oneCell']) ?_)
                exact rkget_err HD6.out HX.out rfl rfl
              have HX6 : Hid (X = kC (L.map (·.1)) (kSl (i : Int) K (C.map (·.1)) x (rdSls (i : Int) Q [] (full.drop a6)))) := Lib.hid (by rw [HXU.out, hm]; dsimp only; rw [if_pos (by omega), Int.toNat_natCast])
              have hQb : ((Q : Int) == 0) = false := by simpa using hQ0
              have hQp : 0 < Q := by omega
              clear hm hm2 hg6 hr6 HG4 HXU HD6 hQ0
              go_upto_region 30 with (refine wpList_store_row rfl 55 (.tmp 16) (.tmp 103) rfl w6.heap.size #[.int .u64 x, .slice none 0 0] rfl rfl 55 _ (Blk.new w6 #[.int .u64 0, .slice none 0 0] 55) (client_size _ _) rfl (by simp [Value.oneCell']) ?_)
              have hB8 : Blk ((w6.alloc (.cells #[.int .u64 0, .slice none 0 0] 55)).setRow w6.heap.size #[.int .u64 x, .slice none 0 0]) w6.heap.size #[.int .u64 x, .slice none 0 0] 55 := setRow_heap _ _ _ _ _ (0, 0) (Blk.new w6 #[.int .u64 0, .slice none 0 0] 55)
              have hE8 : Ext w6 ((w6.alloc (.cells #[.int .u64 0, .slice none 0 0] 55)).setRow w6.heap.size #[.int .u64 x, .slice none 0 0]) := ((Chg.ext (Ext.alloc w6 (.cells #[.int .u64 0, .slice none 0 0] 55)) : Chg [w6.heap.size] w6 _).trans (Chg.some (grown_rowS _ w6.heap.size _) (.inl (by simp)))).toExt (fun t ht => by simp at ht; omega)
              obtain ⟨T8, hT8⟩ : ∃ T, T = w6.heap.size := ⟨_, rfl⟩
              rw [← hT8] at hB8 hE8 ⊢
              generalize (w6.alloc (.cells #[.int .u64 0, .slice none 0 0] 55)).setRow T8 #[.int .u64 x, .slice none 0 0] = W8 at *
              have HB8 := Lib.hid hB8; have HE8 := Lib.hid hE8; have HT8 := Lib.hid hT8
              have HTW : Hid (w.heap.size + 2 < T8) := Lib.hid (by rw [hT8]; exact HG6.out.b5.lt)
              clear hB8 hE8 hT8
              go_wp2_with fail
              go_loopg [17] Q (fun g v17 wr => ∃ (k a : Nat) (sv : Value) (S : List (Int × Int)), v17 = .int .u64 (k : Int) ∧ k + g = Q ∧ Chg [w.heap.size + 1] w6 wr ∧ RR wr (w.heap.size + 1) (.slice va vn vc) full a 0 ∧ Blk wr T8 #[.int .u64 x, sv] 55 ∧ wr.ownsRow (T8 + 1) 59 2 sv S.length (S.map slR).flatten ∧ S.length = k ∧
                X = kC (L.map (·.1)) (kSl (i : Int) K (C.map (·.1)) x (rdSls (i : Int) (Q - k) S (full.drop a))))
              case atStart => exact ⟨0, a6, _, [], rfl, by omega, Chg.ext HE8.out, (HG6.out.ext' HE8.out).rr, HB8.out, World.ownsRow_nil _ _ _ _, rfl, HX6.out⟩
              case round =>
                obtain ⟨k, a7, sv, S, rfl, hkQ, hC7, hr7, hb7, ho7, hSk, hX7⟩ := hrel
                obtain ⟨sa, sc, rfl, -, hsc2, hsg⟩ := own_slice ho7
                have HC7 := Lib.hid hC7; have HR7 := Lib.hid hr7; have HB7 := Lib.hid hb7; have HO7 := Lib.hid ho7; have HSK := Lib.hid hSk; have HX7 := Lib.hid hX7; have HSG := Lib.hid hsg
                have HD7 := Lib.hid (HG6.out.door.chg hC7 (fun t ht => by simp at ht; omega))
                clear hC7 hr7 hb7 ho7 hSk hX7 HX6 HB8 HE8 hsg
                by_cases hk : k < Q
                · have hk' : (k : Int) < (Q : Int) := by omega
                  clear hk
                  obtain ⟨J, hJ⟩ : ∃ J, J = Q - (k + 1) := ⟨_, rfl⟩
                  have HXS : Hid (X = kC (L.map (·.1)) (kSl (i : Int) K (C.map (·.1)) x (rdSls (i : Int) (J + 1) S (full.drop a7)))) := Lib.hid (by rw [HX7.out, hJ, show Q - (k + 1) + 1 = Q - k by omega])
                  have HJ := Lib.hid hJ
                  clear hJ HX7
                  go_wp2_with fail
                  refine (HNM.out a7 _ HR7.out).mono ?_
                  rintro en w7 ⟨hg7, h7⟩
                  simp only [stuckR, if_true] at h7
                  have HD8 := Lib.hid (HD7.out.chg (Chg.grown hg7) (fun t ht => by simp at ht; omega))
                  cases hq : rdNum (full.drop a7) with
                  | error no =>
                    rw [hq] at h7
                    obtain ⟨rfl, -⟩ := h7
                    have hne := rdNum_err' hq
                    have hnb : (no != 0) = true := by simpa using hne
                    have HX : Hid (X = .error no) := Lib.hid (by rw [HXS.out]; simp only [rdSls]; rw [hq]; rfl)
                    clear hq hne hg7 HUP HNM HRW HEN HLOW HXS HD7
                    go_wp2_with (refine wpList_store_row rfl 27 (.tmp 2) (.tmp 116) rfl w.heap.size #[.slice none 0 0, .slice none 0 0] rfl rfl 27 _ HD8.out.b2 (book_size _ _) rfl (by simp [Value.oneCell']) ?_)
                    exact rkget_err HD8.out HX.out rfl rfl
                  | ok y =>
                  obtain ⟨x1, r7⟩ := y
                  rw [hq] at h7
                  obtain ⟨_, a8, rfl, rfl, hr8, rfl⟩ := h7
                  have HXT : Hid (rdSls (i : Int) (J + 1) S (full.drop a7) = if upTo (S.map (·.1)) x1 then (match rdNum (full.drop a8) with
                    | .error e => .error e
                    | .ok (y, r) => if y < (i : Int) then rdSls (i : Int) J (S ++ [(x1, y)]) r else .error 3) else .error 3) := Lib.hid (by
                      simp only [rdSls]; rw [hq]
                      dsimp only
                      split
                      · cases rdNum (full.drop a8) with
                        | error e => rfl
                        | ok y => rfl
                      · rfl)
                  have HC8 := Lib.hid (HC7.out.trans (Chg.grown hg7)); have HR8 := Lib.hid hr8
                  have HB8 := Lib.hid (HB7.out.grown hg7 (by have := HTW.out; simp; omega))
                  have HO8 := Lib.hid (own_off HO7.out (Chg.grown hg7 : Chg [w.heap.size + 1] _ _) (fun t ht hm => by have := (own_type HO7.out t ht).1; have := HTW.out; simp at hm; omega))
                  clear hq hg7 hr8 HC7 HR7 HB7 HO7 HD7
                  have b1 := HB8.out.cell 1 rfl
                  simp only [List.getElem_toArray, List.getElem_cons_zero, List.getElem_cons_succ] at b1
                  have hup : upTo (S.map (·.1)) x1 = false ∧ (∃ (l : Nat) (q : Int × Int), k = l + 1 ∧ S[l]? = some q ∧ x1 ≤ q.1) ∨ upTo (S.map (·.1)) x1 = true ∧ (k = 0 ∨ ∃ (l : Nat) (q : Int × Int), k = l + 1 ∧ S[l]? = some q ∧ q.1 < x1) := by
                    have hcl := HSK.out
                    unfold upTo
                    rcases Nat.eq_zero_or_pos k with h0 | h0
                    · right
                      have : S = [] := List.length_eq_zero_iff.1 (by omega)
                      subst this
                      exact ⟨rfl, .inl h0⟩
                    · obtain ⟨l, rfl⟩ : ∃ l, k = l + 1 := ⟨k - 1, by omega⟩
                      obtain ⟨q, hq⟩ : ∃ q, S[l]? = some q := ⟨_, List.getElem?_eq_getElem (by omega)⟩
                      have hl : (S.map (·.1)).getLast? = some q.1 := by
                        rw [List.getLast?_eq_getElem?, List.length_map, hcl, Nat.add_sub_cancel, List.getElem?_map, hq]; rfl
                      rw [hl]
                      dsimp only
                      by_cases hle : x1 ≤ q.1
                      · exact .inl ⟨by simpa using hle, l, q, rfl, hq, hle⟩
                      · exact .inr ⟨by simp; omega, .inr ⟨l, q, rfl, hq, by omega⟩⟩
                  rcases hup with ⟨hup, l, q, hkl, hq, hle⟩ | ⟨hup, hor⟩
                  · have HX : Hid (X = .error 3) := Lib.hid (by rw [HXS.out, HXT.out, hup]; rfl)
                    obtain ⟨g, hge⟩ := HSG.out (by have := HSK.out; omega)
                    subst hge
                    have d0 := own_cell HO8.out (l * 2) (sl_get S l q hq).1
                    have hsub : (k : Int) - 1 = (l : Int) := by omega
                    have hkn : (l : Int) < (S.length : Int) := by have := HSK.out; omega
                    have hj0 : (0 : Int) < (k : Int) := by omega
                    have hSK := HSK.out
                    generalize q.1 = qi at *
                    clear hq hkl hup HUP HNM HRW HEN HLOW HXS HXT HG6 HO8 HB8
                    generalize S.length = nS at *
                    clear hSK
                    go_wp2_with (refine wpList_store_row rfl 27 (.tmp 2) (.tmp 131) rfl w.heap.size #[.slice none 0 0, .slice none 0 0] rfl rfl 27 _ HD8.out.b2 (book_size _ _) rfl (by simp [Value.oneCell']) ?_)
                    exact rkget_err HD8.out HX.out rfl rfl
                  · have HXU : Hid (X = kC (L.map (·.1)) (kSl (i : Int) K (C.map (·.1)) x (match rdNum (full.drop a8) with
                      | .error e => .error e
                      | .ok (y, r) => if y < (i : Int) then rdSls (i : Int) J (S ++ [(x1, y)]) r else .error 3))) := Lib.hid (by rw [HXS.out, HXT.out, hup, if_pos rfl])
                    clear hup HXS HXT
                    go_upto_region 36 with fail
                    go_cut [130] (fun v130 wc => v130 = .bool false ∧ wc = w7)
                    case first =>
                      rcases hor with hj0 | ⟨l, q, hkl, hq, hle⟩
                      · have hj0' : (k : Int) ≤ 0 := by omega
                        clear hj0
                        go_wp2_with fail
                        go_meet
                        exact ⟨rfl, rfl⟩
                      · obtain ⟨g, hge⟩ := HSG.out (by have := HSK.out; omega)
                        subst hge
                        have d0 := own_cell HO8.out (l * 2) (sl_get S l q hq).1
                        have hsub : (k : Int) - 1 = (l : Int) := by omega
                        have hkn : (l : Int) < (S.length : Int) := by have := HSK.out; omega
                        have hj0 : (0 : Int) < (k : Int) := by omega
                        have hSK := HSK.out
                        generalize q.1 = qi at *
                        clear hq hkl HUP HNM HRW HEN HLOW HXU HG6 HO8 HB8
                        generalize S.length = nS at *
                        clear hSK
                        have HLE := Lib.hid hle
                        go_wp2_with fail
                        go_meet
                        exact ⟨by have := HLE.out; first | rfl | (simp; omega), rfl⟩
                    case rest =>
                      obtain ⟨rfl, hw⟩ := hcut
                      subst hw
                      clear hor b1
                      go_upto_region 38 with fail
                      go_wp2_with fail
                      refine (HNM.out a8 _ HR8.out).mono ?_
                      rintro en w9 ⟨hg9, h9⟩
                      simp only [stuckR, if_true] at h9
                      have HD9 := Lib.hid (HD8.out.chg (Chg.grown hg9) (fun t ht => by simp at ht; omega))
                      cases hq : rdNum (full.drop a8) with
                      | error no =>
                        rw [hq] at h9
                        obtain ⟨rfl, -⟩ := h9
                        have hne := rdNum_err' hq
                        have hnb : (no != 0) = true := by simpa using hne
                        have HX : Hid (X = .error no) := Lib.hid (by rw [HXU.out, hq]; rfl)
                        clear hq hne hg9 HUP HNM HRW HEN HLOW HXU HD8
                        go_wp2_with (refine wpList_store_row rfl 27 (.tmp 2) (.tmp 139) rfl w.heap.size #[.slice none 0 0, .slice none 0 0] rfl rfl 27 _ HD9.out.b2 (book_size _ _) rfl (by simp [Value.oneCell']) ?_)
                        exact rkget_err HD9.out HX.out rfl rfl
                      | ok y =>
                      obtain ⟨x2, r9⟩ := y
                      rw [hq] at h9
                      obtain ⟨_, a9, rfl, rfl, hr9, rfl⟩ := h9
                      by_cases hx2 : x2 < (i : Int)
                      · have HX9 : Hid (X = kC (L.map (·.1)) (kSl (i : Int) K (C.map (·.1)) x (rdSls (i : Int) J (S ++ [(x1, x2)]) (full.drop a9)))) := Lib.hid (by rw [HXU.out, hq]; dsimp only; rw [if_pos hx2])
                        have HC9 := Lib.hid (HC8.out.trans (Chg.grown hg9)); have HR9 := Lib.hid hr9
                        have HB9 := Lib.hid (HB8.out.grown hg9 (by have := HTW.out; simp; omega))
                        have HO9 := Lib.hid (own_off HO8.out (Chg.grown hg9 : Chg [w.heap.size + 1] _ _) (fun t ht hm => by have := (own_type HO8.out t ht).1; have := HTW.out; simp at hm; omega))
                        clear hq hg9 hr9 HC8 HR8 HB8 HO8 HD8 HXU
                        have b1 := HB9.out.cell 1 rfl
                        simp only [List.getElem_toArray, List.getElem_cons_zero, List.getElem_cons_succ] at b1
                        have hSl : S.length ≤ 4 := by have := HSK.out; omega
                        go_upto_region 43 with fail
                        go_wp2_with (at_builtin; refine wpList_push_row rfl (.tmp 146) (.tmp 150) _ rfl 2 16 Try.underlying53 infoSl rfl (by omega) (T8 + 1) _ S.length ((S.map slR).flatten) [.int .u64 x1, .int .u64 x2] rfl HO9.out rfl rfl (by simp [Value.oneCell']) (by omega) (by unfold maxLen; omega) (by have := HB9.out.lt; omega) rfl ?_; intro v' w' ho' hg'; have HO' := Lib.hid ho'; have HG' := Lib.hid hg'; have hb := HB9.out.chg (Chg.grown hg') (own_notin HO9.out HB9.out (by decide)); have HB' := Lib.hid hb; obtain ⟨xa, xc, hxe, -, -, -⟩ := own_slice ho'; subst hxe; have f0 := hb.free 1; have k0 := hb.cell 1 rfl; simp only [List.getElem_toArray, List.getElem_cons_zero, List.getElem_cons_succ] at k0; clear ho' hg' hb)
                        go_roundg (Q - (k + 1))
                        case measure => omega
                        case rel =>
                          have hCg : Chg (Value.slice sa S.length sc).ownBlock.toList w9 w' := Chg.grown HG'.out
                          have hCs : Chg [T8] w' (w'.setCell ⟨T8, 1, none⟩ (.slice xa (S.length + 1) xc)) := Chg.set T8 1 _ (by simp)
                          have hlow : ∀ t ∈ (Value.slice sa S.length sc).ownBlock.toList, T8 + 1 ≤ t := fun t ht => (own_type HO9.out t ht).1
                          have hTW := HTW.out
                          refine ⟨k + 1, a9, _, S ++ [(x1, x2)], by go_num, by omega, ?_, ?_, by simpa using HB'.out.set 1 (.slice xa (S.length + 1) xc), ?_, by simp [HSK.out], by rw [HX9.out, HJ.out]⟩
                          · have h6 := HT8.out
                            exact (HC9.out.trans' hCg (fun t ht => .inr (by have := hlow t ht; omega))).trans' hCs (fun t ht => .inr (by simp at ht; omega))
                          · exact (HR9.out.chg hCg (fun hm => by have := hlow _ hm; omega) (fun a n c hv hne hm => by have := HLOW.out a n c hv hne; have := hlow _ hm; omega)).chg hCs (by simp; omega) (fun a n c hv hne hm => by have := HLOW.out a n c hv hne; simp at hm; omega)
                          · have ho2 : w'.ownsRow (T8 + 1) 59 2 (.slice xa (S.length + 1) xc) (S ++ [(x1, x2)]).length ((S ++ [(x1, x2)]).map slR).flatten := by simpa [slR] using HO'.out
                            exact own_off ho2 hCs (fun t ht hm => by have := (own_type ho2 t ht).1; simp at hm; omega)
                      · have HX : Hid (X = .error 3) := Lib.hid (by rw [HXU.out, hq]; dsimp only; rw [if_neg hx2]; rfl)
                        have hge : (i : Int) ≤ x2 := by omega
                        clear hq hx2 hg9 HUP HNM HRW HEN HLOW HXU HD8
                        go_wp2_with (refine wpList_store_row rfl 27 (.tmp 2) (.tmp 144) rfl w.heap.size #[.slice none 0 0, .slice none 0 0] rfl rfl 27 _ HD9.out.b2 (book_size _ _) rfl (by simp [Value.oneCell']) ?_)
                        exact rkget_err HD9.out HX.out rfl rfl
                · obtain rfl : k = Q := by omega
                  have HX8 : Hid (X = kC (L.map (·.1)) (rdCls (i : Int) K ((C.map (·.1)) ++ [⟨x, S⟩]) (full.drop a7))) := Lib.hid (by rw [HX7.out, Nat.sub_self]; rfl)
                  have HG8 := Lib.hid (HG6.out.read HC7.out HR7.out)
                  have b1 := HG8.out.b5.cell 1 rfl
                  simp only [List.getElem_toArray, List.getElem_cons_zero, List.getElem_cons_succ] at b1
                  have hcl : C.length ≤ 8 := by have := HCJ.out; omega
                  have HSV : Hid (∀ W, Ext wr W → ClV W (⟨x, S⟩, .slice sa S.length sc) ∧ SlB 0 W 59 (.slice sa S.length sc)) := Lib.hid fun W hE => ⟨RowV.of_own (by rw [List.length_map]; exact own_ext HO7.out hE) (sl_lens _), SlB.own (own_low (own_ext HO7.out hE) (Nat.zero_le _))⟩
                  clear hk hkQ HX7
                  have HB5 := Lib.hid HG8.out.b5
                  go_wp2_with (first | (refine wpList_load_row rfl 55 (.tmp 16) rfl T8 rfl 55 _ (0, 0) _ HB7.out Try.underlying55 rfl (by kernel_rfl) ?_) | (at_builtin; refine wpList_push_row rfl (.tmp 154) (.tmp 156) _ rfl 2 32 Try.underlying25 infoCl rfl (by omega) (w.heap.size + 3) _ C.length ((C.map clR).flatten) [.int .u64 x, .slice sa S.length sc] rfl HG8.out.co rfl rfl (by simp [Value.oneCell']) (by omega) (by unfold maxLen; omega) (by have := HB5.out.lt; omega) rfl ?_; intro v' w' ho' hg'; have HL2 := Lib.hid (HG8.out.client (HSV.out _ (Ext.refl _)) ho' hg'); have hb := HB5.out.chg (Chg.grown hg') (own_notin HG8.out.co HB5.out (by decide)); obtain ⟨xa, xc, hxe, -, -, -⟩ := own_slice ho'; subst hxe; have f0 := hb.free 1; have k0 := hb.cell 1 rfl; simp only [List.getElem_toArray, List.getElem_cons_zero, List.getElem_cons_succ] at k0; clear ho' hg' hb))
                  go_roundg (M - (j + 1))
                  case measure => omega
                  case rel => exact ⟨j + 1, a7, _, _, by go_num, by omega, HL2.out, by simp [HCJ.out], by rw [HX8.out, HK.out]; simp⟩
        · obtain rfl : j = M := by omega
          have HX5 : Hid (X = if full.drop a4 = [] then .ok ⟨L.map (·.1), C.map (·.1)⟩ else .error 5) := Lib.hid (by rw [HX.out, Nat.sub_self]; rfl)
          clear hj hjM HX HCG
          go_wp2_with fail
          refine (HEN.out a4 _ HG.out.rr).mono ?_
          rintro en w5 ⟨rfl, hg5⟩
          have HD5 := Lib.hid (HG.out.doorg hg5)
          by_cases hend : full.drop a4 = []
          · have HX : Hid (X = .ok ⟨L.map (·.1), C.map (·.1)⟩) := Lib.hid (by rw [HX5.out, if_pos hend])
            have hC5 : Chg [w.heap.size + 1] wr w5 := Chg.grown hg5
            have hbk := HG.out.book.chgE hC5 (e := 82) (fun t ht => by simp at ht; subst ht; exact ⟨_, HG.out.rr.blk⟩) (by decide) (by decide) (by decide) (by decide)
            have hb5 := HG.out.b5.chg hC5 (by simp)
            rw [if_neg (fun h => h.2 hend)]
            have HBK := Lib.hid hbk; have HB5 := Lib.hid hb5
            clear hend hg5 HUP HNM HRW HEN HLOW HG HX5 hC5 hbk hb5
            go_wp2_with (first | (refine wpList_load_row rfl 27 (.tmp 5) rfl (w.heap.size + 2) rfl 27 _ (0, 0) _ HB5.out Try.underlying27 rfl (by kernel_rfl) ?_) | (refine wpList_store_row rfl 27 (.tmp 2) (.tmp 165) rfl w.heap.size #[.slice la L.length lc, .slice ca C.length cc] rfl rfl 27 _ HD5.out.b2 (book_size _ _) rfl (by simp [Value.oneCell']) ?_))
            have hC : Chg [w.heap.size] w5 (w5.setRow w.heap.size #[.slice la L.length lc, .slice ca C.length cc]) := Chg.some (grown_rowS w5 _ _) (.inl (by simp))
            refine rkget_ret w.heap.size _ _ _ _ _ _ (setRow_heap w5 _ _ _ _ (0, 0) HD5.out.b2) rfl rfl ⟨((Chg.ext HD5.out.ext : Chg [w.heap.size] w w5).trans hC).toExt (fun t ht => by simp at ht; omega), _, 0, _, rfl, HBK.out.chg hC (fun t ht => by simp at ht; subst ht; exact ⟨_, HD5.out.b2⟩), ?_⟩
            rw [HX.out]
            exact ⟨rfl, rfl⟩
          · have HX : Hid (X = .error 5) := Lib.hid (by rw [HX5.out, if_neg hend])
            rw [if_pos ⟨trivial, hend⟩]
            clear hend hg5 HUP HNM HRW HEN HLOW HG HX5
            go_wp2_with (refine wpList_store_row rfl 27 (.tmp 2) (.tmp 163) rfl w.heap.size #[.slice none 0 0, .slice none 0 0] rfl rfl 27 _ HD5.out.b2 (book_size _ _) rfl (by simp [Value.oneCell']) ?_)
            exact rkget_err HD5.out HX.out rfl rfl
end Go.Proofs.Ytgefphfnicjbiaa
