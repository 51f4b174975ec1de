/- cmd.Get. -/
import Derived.Test.YtjodgbabfhcilaaBun3
import Derived.Test.YtjodgbabfhcilaaBun2
import Derived.Test.YtjodgbabfhcilaaBun4
set_option linter.unusedSimpArgs false
set_option linter.unusedVariables false
namespace Go.Proofs.Ytjodgbabfhcilaa
open Go Go.RowKit

set_option maxHeartbeats 4000000 in
theorem get_c (v : Value) (bs : List Int) (w : World) (hR : Rd w v (u8s bs)) (hb8 : B8 bs) (hl : bs.length ≤ 140737488355328) : Calls Try.prog 91 #[v] w (GetOut (getB bs) w) := by
  have hmf : ∀ (fn : Fn) (first cap : Array Value) (w : World), (Instr.makeFunc fn first cap).run Try.prog w = .ok (.func fn first cap) w := fun _ _ _ _ => rfl
  obtain ⟨X, hX⟩ : ∃ X, X = getB bs := ⟨_, rfl⟩
  rw [← hX]
  have HX := Lib.hid hX; have HR := Lib.hid hR; clear hX hR
  go_enter_defers Try.func91, Try.ntmps91
  go_wp2_with fail
  have hE0 : Ext w ((w.alloc (.cells #[.int .u64 0, .int .i64 0, .int .u64 0, .int .u64 0, .slice none 0 0, .slice none 0 0] 67)).alloc (.cells #[.int .i64 0] 27)) := (Ext.alloc _ _).trans (Ext.alloc _ _)
  refine (new_m v bs _ (HR.out.ext hE0) hl).mono ?_
  rintro en w1 ⟨b, rfl, hb, hr1, hE1⟩
  have hx0 : Blk w1 w.heap.size #[.int .u64 0, .int .i64 0, .int .u64 0, .int .u64 0, .slice none 0 0, .slice none 0 0] 67 := ((Blk.new w _ _).alloc _).ext hE1
  have he0 : Blk w1 (w.heap.size + 1) #[.int .i64 0] 27 := by
    have := Blk.new (w.alloc (.cells #[.int .u64 0, .int .i64 0, .int .u64 0, .int .u64 0, .slice none 0 0, .slice none 0 0] 67)) #[.int .i64 0] 27
    simp at this; exact this.ext hE1
  have hG1 : GS w w1 b #[.int .u64 0, .int .i64 0, .int .u64 0, .int .u64 0, .slice none 0 0, .slice none 0 0] bs :=
    ⟨hE0.trans hE1, hx0, by intro c hc y; simp at hc; rcases hc with h | h | h | h <;> (subst h; simp), he0, hr1, by simpa using hb, hb8, hl⟩
  have G1 := Lib.hid hG1
  clear hG1 hx0 he0 hr1 hE1 hE0 hb
  go_wp2_with fail
  refine (num_m b bs 0 w1 hb8 G1.out.r).mono ?_
  rintro en w2 ⟨hg, hm⟩
  simp only [stuck?, if_true] at hm
  rcases hY : rdNum bs with no | ⟨t, r1⟩
  · rw [hY] at hm
    obtain ⟨rfl, hr⟩ := hm
    have hne := rdNum_err hY
    have HD := Lib.hid (G1.out.door hg)
    have HZ : Hid (X = .error no) := Lib.hid (by rw [HX.out]; simp [getB, rdEnt, hY])
    clear hr hg hY
    go_wp2_with fail
    refine (must_u64 _ no w2).mono ?_
    rintro en w2' ⟨hw, rfl⟩
    subst w2'
    rw [if_neg hne]
    exact get_door _ _ _ _ _ _ no w _ _ _ HZ.out HD.out rfl rfl
  rw [hY] at hm
  obtain ⟨_, rfl, rfl, hr⟩ := hm
  obtain ⟨h8_2, hu_2, hlr⟩ := rdNum_b8 hb8 hY
  have hG := G1.out.read hg hr h8_2 hlr
  have HG2 := Lib.hid hg
  have G2 := Lib.hid hG
  have HY2 := Lib.hid hY
  clear hg hr hlr hY hG
  go_wp2_with fail
  refine (must_u64 _ 0 w2).mono ?_
  rintro en w2' ⟨hw, rfl⟩
  subst w2'
  simp only [if_true]
  obtain ⟨c0, c1, c2, c3, c4, c5⟩ := G2.out.x.six
  obtain ⟨f0, f1, f2, f3, f4, f5⟩ := G2.out.x.six_free
  have hG := G2.out.set 0 (.int .u64 t) (by simp)
  simp only [List.setIfInBounds_toArray, List.set_cons_zero] at hG
  have G3 := Lib.hid hG
  clear hG
  by_cases ht : t < 1 ∨ 4611686018427387904 < t
  · have HZ : Hid (X = .error 3) := Lib.hid (by rw [HX.out]; simp [getB, rdEnt, HY2.out, ht])
    have hlt : ¬ IntKind.u64.wrap (t - 1) < 4611686018427387904 := by rw [IntKind.wrap_u64]; have := hu_2.1; have := hu_2.2; omega
    go_wp2_with fail
    refine (ought_c false _).mono ?_
    rintro en w4 ⟨hw, rfl⟩
    subst w4
    exact get_door _ _ _ _ _ _ 3 w _ _ _ HZ.out G3.out.here rfl rfl
  have HT := Lib.hid ht
  have hlt : IntKind.u64.wrap (t - 1) < 4611686018427387904 := by rw [IntKind.wrap_u64]; omega
  clear ht
  go_wp2_with fail
  refine (ought_c true _).mono ?_
  rintro en w4 ⟨hw, rfl⟩
  subst w4
  simp only [if_true]
  clear hlt
  clear c0 c1 c2 c3 c4 c5 f0 f1 f2 f3 f4 f5
  generalize w2.setCell ⟨w.heap.size, 0, none⟩ (.int .u64 t) = w3 at *
  go_wp2_with fail
  refine (byte_m b r1 0 w3 G3.out.r).mono ?_
  rintro en w4 ⟨hg, hm⟩
  simp only [stuck?, if_true] at hm
  rcases hY : rdByte r1 with no | ⟨k, r2⟩
  · rw [hY] at hm
    obtain ⟨rfl, hr⟩ := hm
    have hne := rdByte_err hY
    have HD := Lib.hid (G3.out.door hg)
    have HZ : Hid (X = .error no) := Lib.hid (by rw [HX.out]; simp [getB, rdEnt, hY, HY2.out, HT.out])
    clear hr hg hY
    go_wp2_with fail
    refine (must_u8 _ no w4).mono ?_
    rintro en w4' ⟨hw, rfl⟩
    subst w4'
    rw [if_neg hne]
    exact get_door _ _ _ _ _ _ no w _ _ _ HZ.out HD.out rfl rfl
  rw [hY] at hm
  obtain ⟨_, rfl, rfl, hr⟩ := hm
  obtain ⟨h8_4, hu_4, hlr⟩ := rdByte_b8 h8_2 hY
  have hG := G3.out.read hg hr h8_4 hlr
  have HG4 := Lib.hid hg
  have G4 := Lib.hid hG
  have HY4 := Lib.hid hY
  clear hg hr hlr hY hG
  go_wp2_with fail
  refine (must_u8 _ 0 w4).mono ?_
  rintro en w4' ⟨hw, rfl⟩
  subst w4'
  simp only [if_true]
  obtain ⟨c0, c1, c2, c3, c4, c5⟩ := G4.out.x.six
  obtain ⟨f0, f1, f2, f3, f4, f5⟩ := G4.out.x.six_free
  have hG := G4.out.set 1 (.int .i64 k) (by simp)
  simp only [List.setIfInBounds_toArray, List.set_cons_succ, List.set_cons_zero] at hG
  have G5 := Lib.hid hG
  clear hG
  by_cases hk1 : k = 1
  · subst hk1
    go_wp2_with fail
    clear c0 c1 c2 c3 c4 c5 f0 f1 f2 f3 f4 f5
    generalize w4.setCell ⟨w.heap.size, 1, none⟩ (.int .i64 1) = w5 at *
    by_cases hrn : r2 = []
    · have HZ : Hid (X = .ok ⟨t, 1, 0, 0, [], []⟩) := Lib.hid (by rw [HX.out]; simp [getB, rdEnt, HY2.out, HT.out, HY4.out, hrn])
      obtain ⟨c0, c1, c2, c3, c4, c5⟩ := G5.out.x.six
      obtain ⟨f0, f1, f2, f3, f4, f5⟩ := G5.out.x.six_free
      have g0 := G5.out.e.free 0
      have h0 := G5.out.e.cell 0 rfl
      refine wp_region_orders [[0, 1, 2, 3, 4, 5], [1, 0, 2, 3, 4, 5], [1, 2, 0, 3, 4, 5], [1, 2, 3, 0, 4, 5]] (by kernel_rfl) (by kernel_rfl) ?_
      intro l hl
      simp only [List.mem_cons, List.not_mem_nil, or_false] at hl
      rcases hl with rfl | rfl | rfl | rfl
      all_goals simp only [List.filterMap_cons, List.filterMap_nil, List.getElem?_toArray, List.getElem?_cons_zero, List.getElem?_cons_succ]
      all_goals change wpList _ _ _ [_, _, _, _, _, _] _ _
      all_goals go_wp2_with fail
      all_goals
        refine (end_m b r2 0 _ G5.out.drew.r).mono ?_
        rintro en w8 ⟨rfl, hg8, hr8⟩
        have he : endE 0 r2 = 0 := by simp [endE, hrn]
        rw [he] at hr8 ⊢
        have hG8 := G5.out.drew.read hg8 hr8 h8_4 (Nat.le_refl _)
        obtain ⟨d0, d1, d2, d3, d4, d5⟩ := hG8.x.six
        obtain ⟨k0, k1, k2, k3, k4, k5⟩ := hG8.x.six_free
        have m0 := hG8.e.free 0
        have m1 := hG8.e.cell 0 rfl
        have G8 := Lib.hid hG8; have HG8 := Lib.hid hg8
        clear hG8 hg8 hr8 he
        go_wp2_with fail
        refine (must_err (.int .i64 0) 0 w8).mono ?_
        rintro en w9 ⟨hw, rfl⟩
        subst w9
        simp only [if_true]
        go_wp2_with fail
        exact get_fin _ _ _ _ _ _ _ _ w w8 _ _ HZ.out G8.out.here (NewV.nil _ _) (NewV.nil _ _) rfl rfl
    have HZ : Hid (X = .error 5) := Lib.hid (by rw [HX.out]; simp [getB, rdEnt, HY2.out, HT.out, HY4.out, hrn])
    have HRN := Lib.hid hrn
    clear hrn
    obtain ⟨c0, c1, c2, c3, c4, c5⟩ := G5.out.x.six
    obtain ⟨f0, f1, f2, f3, f4, f5⟩ := G5.out.x.six_free
    have g0 := G5.out.e.free 0
    have h0 := G5.out.e.cell 0 rfl
    refine wp_region_orders [[0, 1, 2, 3, 4, 5], [1, 0, 2, 3, 4, 5], [1, 2, 0, 3, 4, 5], [1, 2, 3, 0, 4, 5]] (by kernel_rfl) (by kernel_rfl) ?_
    intro l hl
    simp only [List.mem_cons, List.not_mem_nil, or_false] at hl
    rcases hl with rfl | rfl | rfl | rfl
    all_goals simp only [List.filterMap_cons, List.filterMap_nil, List.getElem?_toArray, List.getElem?_cons_zero, List.getElem?_cons_succ]
    all_goals change wpList _ _ _ [_, _, _, _, _, _] _ _
    all_goals go_wp2_with fail
    all_goals
      refine (end_m b r2 0 _ G5.out.drew.r).mono ?_
      rintro en w8 ⟨rfl, hg8, hr8⟩
      have he : endE 0 r2 = 5 := by simp [endE, HRN.out]
      rw [he]
      have hG8 := G5.out.drew.door hg8
      obtain ⟨d0, d1, d2, d3, d4, d5⟩ := hG8.x.six
      obtain ⟨k0, k1, k2, k3, k4, k5⟩ := hG8.x.six_free
      have m0 := hG8.e.free 0
      have m1 := hG8.e.cell 0 rfl
      have G8 := Lib.hid hG8
      clear hG8 hg8 hr8 he
      go_wp2_with fail
      refine (must_err (.int .i64 0) 5 w8).mono ?_
      rintro en w9 ⟨hw, rfl⟩
      subst w9
      rw [if_neg (by decide)]
      exact get_door _ _ _ _ _ _ 5 w _ _ _ HZ.out G8.out rfl rfl
  by_cases hk2 : k = 2
  · subst hk2
    go_wp2_with fail
    clear c0 c1 c2 c3 c4 c5 f0 f1 f2 f3 f4 f5
    generalize w4.setCell ⟨w.heap.size, 1, none⟩ (.int .i64 2) = w5 at *
    go_wp2_with fail
    refine (num_m b r2 0 w5 h8_4 G5.out.r).mono ?_
    rintro en w6 ⟨hg, hm⟩
    simp only [stuck?, if_true] at hm
    rcases hY : rdNum r2 with no | ⟨cl, r3⟩
    · rw [hY] at hm
      obtain ⟨rfl, hr⟩ := hm
      have hne := rdNum_err hY
      have HD := Lib.hid (G5.out.door hg)
      have HZ : Hid (X = .error no) := Lib.hid (by rw [HX.out]; simp [getB, rdEnt, hY, HY2.out, HT.out, HY4.out])
      clear hr hg hY
      go_wp2_with fail
      refine (must_u64 _ no w6).mono ?_
      rintro en w6' ⟨hw, rfl⟩
      subst w6'
      rw [if_neg hne]
      exact get_door _ _ _ _ _ _ no w _ _ _ HZ.out HD.out rfl rfl
    rw [hY] at hm
    obtain ⟨_, rfl, rfl, hr⟩ := hm
    obtain ⟨h8_6, hu_6, hlr⟩ := rdNum_b8 h8_4 hY
    have hG := G5.out.read hg hr h8_6 hlr
    have HG6 := Lib.hid hg
    have G6 := Lib.hid hG
    have HY6 := Lib.hid hY
    clear hg hr hlr hY hG
    go_wp2_with fail
    refine (must_u64 _ 0 w6).mono ?_
    rintro en w6' ⟨hw, rfl⟩
    subst w6'
    simp only [if_true]
    obtain ⟨c0, c1, c2, c3, c4, c5⟩ := G6.out.x.six
    obtain ⟨f0, f1, f2, f3, f4, f5⟩ := G6.out.x.six_free
    have hG := G6.out.set 2 (.int .u64 cl) (by simp)
    simp only [List.setIfInBounds_toArray, List.set_cons_succ, List.set_cons_zero] at hG
    have G7 := Lib.hid hG
    clear hG
    go_wp2_with fail
    clear c0 c1 c2 c3 c4 c5 f0 f1 f2 f3 f4 f5
    generalize w6.setCell ⟨w.heap.size, 2, none⟩ (.int .u64 cl) = w7 at *
    go_wp2_with fail
    refine (num_m b r3 0 w7 h8_6 G7.out.r).mono ?_
    rintro en w8 ⟨hg, hm⟩
    simp only [stuck?, if_true] at hm
    rcases hY : rdNum r3 with no | ⟨sq, r4⟩
    · rw [hY] at hm
      obtain ⟨rfl, hr⟩ := hm
      have hne := rdNum_err hY
      have HD := Lib.hid (G7.out.door hg)
      have HZ : Hid (X = .error no) := Lib.hid (by rw [HX.out]; simp [getB, rdEnt, hY, HY2.out, HT.out, HY4.out, HY6.out])
      clear hr hg hY
      go_wp2_with fail
      refine (must_u64 _ no w8).mono ?_
      rintro en w8' ⟨hw, rfl⟩
      subst w8'
      rw [if_neg hne]
      exact get_door _ _ _ _ _ _ no w _ _ _ HZ.out HD.out rfl rfl
    rw [hY] at hm
    obtain ⟨_, rfl, rfl, hr⟩ := hm
    obtain ⟨h8_8, hu_8, hlr⟩ := rdNum_b8 h8_6 hY
    have hG := G7.out.read hg hr h8_8 hlr
    have HG8 := Lib.hid hg
    have G8 := Lib.hid hG
    have HY8 := Lib.hid hY
    clear hg hr hlr hY hG
    go_wp2_with fail
    refine (must_u64 _ 0 w8).mono ?_
    rintro en w8' ⟨hw, rfl⟩
    subst w8'
    simp only [if_true]
    obtain ⟨c0, c1, c2, c3, c4, c5⟩ := G8.out.x.six
    obtain ⟨f0, f1, f2, f3, f4, f5⟩ := G8.out.x.six_free
    have hG := G8.out.set 3 (.int .u64 sq) (by simp)
    simp only [List.setIfInBounds_toArray, List.set_cons_succ, List.set_cons_zero] at hG
    have G9 := Lib.hid hG
    clear hG
    go_wp2_with fail
    clear c0 c1 c2 c3 c4 c5 f0 f1 f2 f3 f4 f5
    generalize w8.setCell ⟨w.heap.size, 3, none⟩ (.int .u64 sq) = w9 at *
    go_wp2_with fail
    refine (raw_m b r4 0 64 w9 h8_8 G9.out.hl (by omega) G9.out.r).mono ?_
    rintro en w10 ⟨hg, hm⟩
    simp only [stuck?, if_true] at hm
    rcases hY : rdRaw 64 r4 with no | ⟨dd, r5⟩
    · rw [hY] at hm
      obtain ⟨rfl, hr⟩ := hm
      have hne := rdRaw_err hY
      have HD := Lib.hid (G9.out.door hg)
      have HZ : Hid (X = .error no) := Lib.hid (by rw [HX.out]; simp [getB, rdEnt, hY, HY2.out, HT.out, HY4.out, HY6.out, HY8.out])
      clear hr hg hY
      go_wp2_with fail
      refine (must_raw _ no w10).mono ?_
      rintro en w10' ⟨hw, rfl⟩
      subst w10'
      rw [if_neg hne]
      exact get_door _ _ _ _ _ _ no w _ _ _ HZ.out HD.out rfl rfl
    rw [hY] at hm
    obtain ⟨dv, rfl, hN, hr⟩ := hm
    obtain ⟨dva, dvn, dvc, rfl⟩ := Rd.shape hN.1
    have HN := Lib.hid hN; clear hN
    obtain ⟨h8_10, hu_10, hlr, hd_10⟩ := rdRaw_b8 h8_8 hY
    have hG := G9.out.read hg hr h8_10 hlr
    have HG10 := Lib.hid hg
    have G10 := Lib.hid hG
    have HY10 := Lib.hid hY
    clear hg hr hlr hY hG
    go_wp2_with fail
    refine (must_raw _ 0 w10).mono ?_
    rintro en w10' ⟨hw, rfl⟩
    subst w10'
    simp only [if_true]
    obtain ⟨c0, c1, c2, c3, c4, c5⟩ := G10.out.x.six
    obtain ⟨f0, f1, f2, f3, f4, f5⟩ := G10.out.x.six_free
    have hG := G10.out.set 4 (.slice dva dvn dvc) (by simp)
    simp only [List.setIfInBounds_toArray, List.set_cons_succ, List.set_cons_zero] at hG
    have G11 := Lib.hid hG
    clear hG
    have hV : NewV w w10 (.slice dva dvn dvc) (u8s dd) := ⟨HN.out.1, (fun a n c h => Nat.le_trans G9.out.size2 (HN.out.2.1 a n c h)), HN.out.2.2⟩
    have hVb : ∀ a n c, Value.slice dva dvn dvc = .slice (some a) n c → b ≠ a.block := fun a n c h => by have := HN.out.2.1 a n c h; have := G9.out.r.lt; omega
    have hV' := hV.set (p := w.heap.size) (by omega) 4 (.slice dva dvn dvc)
    have HV := Lib.hid hV'; have HVB := Lib.hid hVb
    clear hV hV' hVb
    go_wp2_with fail
    clear c0 c1 c2 c3 c4 c5 f0 f1 f2 f3 f4 f5
    generalize w10.setCell ⟨w.heap.size, 4, none⟩ (.slice dva dvn dvc) = w11 at *
    by_cases hrn : r5 = []
    · have HZ : Hid (X = .ok ⟨t, 2, cl, sq, dd, []⟩) := Lib.hid (by rw [HX.out]; simp [getB, rdEnt, HY2.out, HT.out, HY4.out, HY6.out, HY8.out, HY10.out, hrn])
      obtain ⟨c0, c1, c2, c3, c4, c5⟩ := G11.out.x.six
      obtain ⟨f0, f1, f2, f3, f4, f5⟩ := G11.out.x.six_free
      have g0 := G11.out.e.free 0
      have h0 := G11.out.e.cell 0 rfl
      refine wp_region_orders [[0, 1, 2, 3, 4, 5], [1, 0, 2, 3, 4, 5], [1, 2, 0, 3, 4, 5], [1, 2, 3, 0, 4, 5]] (by kernel_rfl) (by kernel_rfl) ?_
      intro l hl
      simp only [List.mem_cons, List.not_mem_nil, or_false] at hl
      rcases hl with rfl | rfl | rfl | rfl
      all_goals simp only [List.filterMap_cons, List.filterMap_nil, List.getElem?_toArray, List.getElem?_cons_zero, List.getElem?_cons_succ]
      all_goals change wpList _ _ _ [_, _, _, _, _, _] _ _
      all_goals go_wp2_with fail
      all_goals
        refine (end_m b r5 0 _ G11.out.drew.r).mono ?_
        rintro en w8 ⟨rfl, hg8, hr8⟩
        have he : endE 0 r5 = 0 := by simp [endE, hrn]
        rw [he] at hr8 ⊢
        have hG8 := G11.out.drew.read hg8 hr8 h8_10 (Nat.le_refl _)
        obtain ⟨d0, d1, d2, d3, d4, d5⟩ := hG8.x.six
        obtain ⟨k0, k1, k2, k3, k4, k5⟩ := hG8.x.six_free
        have m0 := hG8.e.free 0
        have m1 := hG8.e.cell 0 rfl
        have G8 := Lib.hid hG8; have HG8 := Lib.hid hg8
        clear hG8 hg8 hr8 he
        go_wp2_with fail
        refine (must_err (.int .i64 0) 0 w8).mono ?_
        rintro en w9 ⟨hw, rfl⟩
        subst w9
        simp only [if_true]
        go_wp2_with fail
        exact get_fin _ _ _ _ _ _ _ _ w w8 _ _ HZ.out G8.out.here (HV.out.drew.grown HVB.out HG8.out) (NewV.nil _ _) rfl rfl
    have HZ : Hid (X = .error 5) := Lib.hid (by rw [HX.out]; simp [getB, rdEnt, HY2.out, HT.out, HY4.out, HY6.out, HY8.out, HY10.out, hrn])
    have HRN := Lib.hid hrn
    clear hrn
    obtain ⟨c0, c1, c2, c3, c4, c5⟩ := G11.out.x.six
    obtain ⟨f0, f1, f2, f3, f4, f5⟩ := G11.out.x.six_free
    have g0 := G11.out.e.free 0
    have h0 := G11.out.e.cell 0 rfl
    refine wp_region_orders [[0, 1, 2, 3, 4, 5], [1, 0, 2, 3, 4, 5], [1, 2, 0, 3, 4, 5], [1, 2, 3, 0, 4, 5]] (by kernel_rfl) (by kernel_rfl) ?_
    intro l hl
    simp only [List.mem_cons, List.not_mem_nil, or_false] at hl
    rcases hl with rfl | rfl | rfl | rfl
    all_goals simp only [List.filterMap_cons, List.filterMap_nil, List.getElem?_toArray, List.getElem?_cons_zero, List.getElem?_cons_succ]
    all_goals change wpList _ _ _ [_, _, _, _, _, _] _ _
    all_goals go_wp2_with fail
    all_goals
      refine (end_m b r5 0 _ G11.out.drew.r).mono ?_
      rintro en w8 ⟨rfl, hg8, hr8⟩
      have he : endE 0 r5 = 5 := by simp [endE, HRN.out]
      rw [he]
      have hG8 := G11.out.drew.door hg8
      obtain ⟨d0, d1, d2, d3, d4, d5⟩ := hG8.x.six
      obtain ⟨k0, k1, k2, k3, k4, k5⟩ := hG8.x.six_free
      have m0 := hG8.e.free 0
      have m1 := hG8.e.cell 0 rfl
      have G8 := Lib.hid hG8
      clear hG8 hg8 hr8 he
      go_wp2_with fail
      refine (must_err (.int .i64 0) 5 w8).mono ?_
      rintro en w9 ⟨hw, rfl⟩
      subst w9
      rw [if_neg (by decide)]
      exact get_door _ _ _ _ _ _ 5 w _ _ _ HZ.out G8.out rfl rfl
  by_cases hk3 : k = 3
  · subst hk3
    go_wp2_with fail
    clear c0 c1 c2 c3 c4 c5 f0 f1 f2 f3 f4 f5
    generalize w4.setCell ⟨w.heap.size, 1, none⟩ (.int .i64 3) = w5 at *
    go_wp2_with fail
    refine (num_m b r2 0 w5 h8_4 G5.out.r).mono ?_
    rintro en w6 ⟨hg, hm⟩
    simp only [stuck?, if_true] at hm
    rcases hY : rdNum r2 with no | ⟨n, r3⟩
    · rw [hY] at hm
      obtain ⟨rfl, hr⟩ := hm
      have hne := rdNum_err hY
      have HD := Lib.hid (G5.out.door hg)
      have HZ : Hid (X = .error no) := Lib.hid (by rw [HX.out]; simp [getB, rdEnt, hY, HY2.out, HT.out, HY4.out])
      clear hr hg hY
      go_wp2_with fail
      refine (must_u64 _ no w6).mono ?_
      rintro en w6' ⟨hw, rfl⟩
      subst w6'
      rw [if_neg hne]
      exact get_door _ _ _ _ _ _ no w _ _ _ HZ.out HD.out rfl rfl
    rw [hY] at hm
    obtain ⟨_, rfl, rfl, hr⟩ := hm
    obtain ⟨h8_6, hu_6, hlr⟩ := rdNum_b8 h8_4 hY
    have hG := G5.out.read hg hr h8_6 hlr
    have HG6 := Lib.hid hg
    have G6 := Lib.hid hG
    have HY6 := Lib.hid hY
    clear hg hr hlr hY hG
    go_wp2_with fail
    refine (must_u64 _ 0 w6).mono ?_
    rintro en w6' ⟨hw, rfl⟩
    subst w6'
    simp only [if_true]
    by_cases hn : n < 1 ∨ 7 < n
    · have HZ : Hid (X = .error 3) := Lib.hid (by rw [HX.out]; simp [getB, rdEnt, HY2.out, HT.out, HY4.out, HY6.out, hn])
      have hlt : ¬ IntKind.u64.wrap (n - 1) < 7 := by rw [IntKind.wrap_u64]; have := hu_6.1; have := hu_6.2; omega
      go_wp2_with fail
      refine (ought_c false _).mono ?_
      rintro en w4' ⟨hw, rfl⟩
      subst w4'
      exact get_door _ _ _ _ _ _ 3 w _ _ _ HZ.out G6.out.here rfl rfl
    have HN := Lib.hid hn
    have hlt : IntKind.u64.wrap (n - 1) < 7 := by rw [IntKind.wrap_u64]; omega
    obtain ⟨N, rfl⟩ := Int.eq_ofNat_of_zero_le hu_6.1
    obtain ⟨Y, hY⟩ : ∃ Y, Y = rdIds N [] r3 := ⟨_, rfl⟩
    have HX2 : Hid ((∀ er, Y = .error er → X = .error er) ∧ (∀ ms r, Y = .ok (ms, r) → X = if r = [] then .ok ⟨t, 3, 0, 0, [], ms⟩ else .error 5)) := by
      refine Lib.hid ⟨fun er he => ?_, fun ms r he => ?_⟩
      all_goals
        rw [HX.out]
        rw [hY] at he
        simp [getB, rdEnt, HY2.out, HT.out, HY4.out, HY6.out, hn, he]
    have HYY := Lib.hid hY
    clear hn hY
    go_wp2_with fail
    refine (ought_c true _).mono ?_
    rintro en w4' ⟨hw, rfl⟩
    subst w4'
    simp only [if_true]
    clear hlt
    have hB6 : b < w6.heap.size := G6.out.r.lt
    go_wp2_with fail
    go_loopg [64] N (fun g i wr => ∃ (j : Nat) (acc r : List Int) (mv : Value), j + g = N ∧ i = .int .u64 (j : Int) ∧ GS w wr b #[.int .u64 t, .int .i64 3, .int .u64 0, .int .u64 0, .slice none 0 0, mv] r ∧ wr.ownsRow w6.heap.size 29 1 mv acc.length (u64s acc) ∧ w6.heap.size ≤ wr.heap.size ∧ acc.length = j ∧ rdIds (N - j) acc r = Y)
    case atStart =>
      exact ⟨0, [], r3, .slice none 0 0, by omega, rfl, G6.out, World.ownsRow_nil _ _ _ _, Nat.le_refl _, rfl, HYY.out.symm⟩
    case round =>
      obtain ⟨j, acc, r, mv, hj, rfl, hG, ho, hs, hl, hd⟩ := hrel
      by_cases hlt : j < N
      · have G := Lib.hid hG; have HO := Lib.hid ho; have HD := Lib.hid hd
        clear hG ho hd
        obtain ⟨c0, c1, c2, c3, c4, c5⟩ := G.out.x.six
        obtain ⟨f0, f1, f2, f3, f4, f5⟩ := G.out.x.six_free
        obtain ⟨M, hM⟩ : ∃ M, N - j = M + 1 := ⟨N - j - 1, by omega⟩
        go_wp2_with fail
        rcases hm : rdNum r with no | ⟨m, r'⟩
        · have HZ : Hid (X = .error no) := Lib.hid (HX2.out.1 no (by rw [← HD.out, hM]; simp [rdIds, hm]))
          have hne := rdNum_err hm
          have HM := Lib.hid hm; clear hm
          refine wp_region_orders [[0, 1, 2, 3, 4, 5, 6, 7, 8, 9, 10], [0, 1, 2, 3, 5, 4, 6, 7, 8, 9, 10], [0, 2, 1, 3, 4, 5, 6, 7, 8, 9, 10], [0, 2, 1, 3, 5, 4, 6, 7, 8, 9, 10], [0, 2, 3, 1, 4, 5, 6, 7, 8, 9, 10], [0, 2, 3, 1, 5, 4, 6, 7, 8, 9, 10], [0, 2, 3, 4, 1, 5, 6, 7, 8, 9, 10], [0, 2, 3, 4, 5, 1, 6, 7, 8, 9, 10], [0, 2, 3, 4, 5, 6, 1, 7, 8, 9, 10], [0, 2, 3, 4, 5, 6, 7, 1, 8, 9, 10], [0, 2, 3, 5, 1, 4, 6, 7, 8, 9, 10], [0, 2, 3, 5, 4, 1, 6, 7, 8, 9, 10], [0, 2, 3, 5, 4, 6, 1, 7, 8, 9, 10], [0, 2, 3, 5, 4, 6, 7, 1, 8, 9, 10], [2, 0, 1, 3, 4, 5, 6, 7, 8, 9, 10], [2, 0, 1, 3, 5, 4, 6, 7, 8, 9, 10], [2, 0, 3, 1, 4, 5, 6, 7, 8, 9, 10], [2, 0, 3, 1, 5, 4, 6, 7, 8, 9, 10], [2, 0, 3, 4, 1, 5, 6, 7, 8, 9, 10], [2, 0, 3, 4, 5, 1, 6, 7, 8, 9, 10], [2, 0, 3, 4, 5, 6, 1, 7, 8, 9, 10], [2, 0, 3, 4, 5, 6, 7, 1, 8, 9, 10], [2, 0, 3, 5, 1, 4, 6, 7, 8, 9, 10], [2, 0, 3, 5, 4, 1, 6, 7, 8, 9, 10], [2, 0, 3, 5, 4, 6, 1, 7, 8, 9, 10], [2, 0, 3, 5, 4, 6, 7, 1, 8, 9, 10], [2, 3, 0, 1, 4, 5, 6, 7, 8, 9, 10], [2, 3, 0, 1, 5, 4, 6, 7, 8, 9, 10], [2, 3, 0, 4, 1, 5, 6, 7, 8, 9, 10], [2, 3, 0, 4, 5, 1, 6, 7, 8, 9, 10], [2, 3, 0, 4, 5, 6, 1, 7, 8, 9, 10], [2, 3, 0, 4, 5, 6, 7, 1, 8, 9, 10], [2, 3, 0, 5, 1, 4, 6, 7, 8, 9, 10], [2, 3, 0, 5, 4, 1, 6, 7, 8, 9, 10], [2, 3, 0, 5, 4, 6, 1, 7, 8, 9, 10], [2, 3, 0, 5, 4, 6, 7, 1, 8, 9, 10], [2, 3, 4, 0, 1, 5, 6, 7, 8, 9, 10], [2, 3, 4, 0, 5, 1, 6, 7, 8, 9, 10], [2, 3, 4, 0, 5, 6, 1, 7, 8, 9, 10], [2, 3, 4, 0, 5, 6, 7, 1, 8, 9, 10], [2, 3, 4, 5, 0, 1, 6, 7, 8, 9, 10], [2, 3, 4, 5, 0, 6, 1, 7, 8, 9, 10], [2, 3, 4, 5, 0, 6, 7, 1, 8, 9, 10], [2, 3, 4, 5, 6, 0, 1, 7, 8, 9, 10], [2, 3, 4, 5, 6, 0, 7, 1, 8, 9, 10], [2, 3, 4, 5, 6, 7, 0, 1, 8, 9, 10], [2, 3, 5, 0, 1, 4, 6, 7, 8, 9, 10], [2, 3, 5, 0, 4, 1, 6, 7, 8, 9, 10], [2, 3, 5, 0, 4, 6, 1, 7, 8, 9, 10], [2, 3, 5, 0, 4, 6, 7, 1, 8, 9, 10], [2, 3, 5, 4, 0, 1, 6, 7, 8, 9, 10], [2, 3, 5, 4, 0, 6, 1, 7, 8, 9, 10], [2, 3, 5, 4, 0, 6, 7, 1, 8, 9, 10], [2, 3, 5, 4, 6, 0, 1, 7, 8, 9, 10], [2, 3, 5, 4, 6, 0, 7, 1, 8, 9, 10], [2, 3, 5, 4, 6, 7, 0, 1, 8, 9, 10]] (by kernel_rfl) (by kernel_rfl) ?_
          intro l hl
          simp only [List.mem_cons, List.not_mem_nil, or_false] at hl
          rcases hl with rfl | rfl | rfl | rfl | rfl | rfl | rfl | rfl | rfl | rfl | rfl | rfl | rfl | rfl | rfl | rfl | rfl | rfl | rfl | rfl | rfl | rfl | rfl | rfl | rfl | rfl | rfl | rfl | rfl | rfl | rfl | rfl | rfl | rfl | rfl | rfl | rfl | rfl | rfl | rfl | rfl | rfl | rfl | rfl | rfl | rfl | rfl | rfl | rfl | rfl | rfl | rfl | rfl | rfl | rfl | rfl
          all_goals skip
          all_goals simp only [List.filterMap_cons, List.filterMap_nil, List.getElem?_toArray, List.getElem?_cons_zero, List.getElem?_cons_succ]
          all_goals change wpList _ _ _ [_, _, _, _, _, _, _, _, _, _, _] _ _
          all_goals go_wp2_with fail
          all_goals
            refine (num_m b r 0 _ G.out.b8 G.out.drew.r).mono ?_
            rintro en w8 ⟨hg8, hr8⟩
            simp only [stuck?, if_true, HM.out] at hr8
            obtain ⟨rfl, _⟩ := hr8
            have hG8 := G.out.drew.door hg8
            obtain ⟨d0, d1, d2, d3, d4, d5⟩ := hG8.x.six
            have G8 := Lib.hid hG8; clear hG8 hg8
            go_wp2_with fail
            refine (must_u64 _ no w8).mono ?_
            rintro en w9 ⟨hw, rfl⟩
            subst w9
            rw [if_neg hne]
            exact get_door _ _ _ _ _ _ no w _ _ _ HZ.out G8.out rfl rfl
        · obtain ⟨hb8', hmu, hlr⟩ := rdNum_b8 G.out.b8 hm
          have hst := rdIds_step (acc := acc) hM hm
          rw [HD.out] at hst
          have HST := Lib.hid hst
          have HM := Lib.hid hm
          have hN7 : N ≤ 7 := by have := HN.out; omega
          have hb1 : (acc.length + 1) * 8 ≤ 140737488355328 := by omega
          have hb2 : acc.length + 1 ≤ maxLen := by unfold maxLen; omega
          clear hst hm
          refine wp_region_orders [[0, 1, 2, 3, 4, 5, 6, 7, 8, 9, 10], [0, 1, 2, 3, 5, 4, 6, 7, 8, 9, 10], [0, 2, 1, 3, 4, 5, 6, 7, 8, 9, 10], [0, 2, 1, 3, 5, 4, 6, 7, 8, 9, 10], [0, 2, 3, 1, 4, 5, 6, 7, 8, 9, 10], [0, 2, 3, 1, 5, 4, 6, 7, 8, 9, 10], [0, 2, 3, 4, 1, 5, 6, 7, 8, 9, 10], [0, 2, 3, 4, 5, 1, 6, 7, 8, 9, 10], [0, 2, 3, 4, 5, 6, 1, 7, 8, 9, 10], [0, 2, 3, 4, 5, 6, 7, 1, 8, 9, 10], [0, 2, 3, 5, 1, 4, 6, 7, 8, 9, 10], [0, 2, 3, 5, 4, 1, 6, 7, 8, 9, 10], [0, 2, 3, 5, 4, 6, 1, 7, 8, 9, 10], [0, 2, 3, 5, 4, 6, 7, 1, 8, 9, 10], [2, 0, 1, 3, 4, 5, 6, 7, 8, 9, 10], [2, 0, 1, 3, 5, 4, 6, 7, 8, 9, 10], [2, 0, 3, 1, 4, 5, 6, 7, 8, 9, 10], [2, 0, 3, 1, 5, 4, 6, 7, 8, 9, 10], [2, 0, 3, 4, 1, 5, 6, 7, 8, 9, 10], [2, 0, 3, 4, 5, 1, 6, 7, 8, 9, 10], [2, 0, 3, 4, 5, 6, 1, 7, 8, 9, 10], [2, 0, 3, 4, 5, 6, 7, 1, 8, 9, 10], [2, 0, 3, 5, 1, 4, 6, 7, 8, 9, 10], [2, 0, 3, 5, 4, 1, 6, 7, 8, 9, 10], [2, 0, 3, 5, 4, 6, 1, 7, 8, 9, 10], [2, 0, 3, 5, 4, 6, 7, 1, 8, 9, 10], [2, 3, 0, 1, 4, 5, 6, 7, 8, 9, 10], [2, 3, 0, 1, 5, 4, 6, 7, 8, 9, 10], [2, 3, 0, 4, 1, 5, 6, 7, 8, 9, 10], [2, 3, 0, 4, 5, 1, 6, 7, 8, 9, 10], [2, 3, 0, 4, 5, 6, 1, 7, 8, 9, 10], [2, 3, 0, 4, 5, 6, 7, 1, 8, 9, 10], [2, 3, 0, 5, 1, 4, 6, 7, 8, 9, 10], [2, 3, 0, 5, 4, 1, 6, 7, 8, 9, 10], [2, 3, 0, 5, 4, 6, 1, 7, 8, 9, 10], [2, 3, 0, 5, 4, 6, 7, 1, 8, 9, 10], [2, 3, 4, 0, 1, 5, 6, 7, 8, 9, 10], [2, 3, 4, 0, 5, 1, 6, 7, 8, 9, 10], [2, 3, 4, 0, 5, 6, 1, 7, 8, 9, 10], [2, 3, 4, 0, 5, 6, 7, 1, 8, 9, 10], [2, 3, 4, 5, 0, 1, 6, 7, 8, 9, 10], [2, 3, 4, 5, 0, 6, 1, 7, 8, 9, 10], [2, 3, 4, 5, 0, 6, 7, 1, 8, 9, 10], [2, 3, 4, 5, 6, 0, 1, 7, 8, 9, 10], [2, 3, 4, 5, 6, 0, 7, 1, 8, 9, 10], [2, 3, 4, 5, 6, 7, 0, 1, 8, 9, 10], [2, 3, 5, 0, 1, 4, 6, 7, 8, 9, 10], [2, 3, 5, 0, 4, 1, 6, 7, 8, 9, 10], [2, 3, 5, 0, 4, 6, 1, 7, 8, 9, 10], [2, 3, 5, 0, 4, 6, 7, 1, 8, 9, 10], [2, 3, 5, 4, 0, 1, 6, 7, 8, 9, 10], [2, 3, 5, 4, 0, 6, 1, 7, 8, 9, 10], [2, 3, 5, 4, 0, 6, 7, 1, 8, 9, 10], [2, 3, 5, 4, 6, 0, 1, 7, 8, 9, 10], [2, 3, 5, 4, 6, 0, 7, 1, 8, 9, 10], [2, 3, 5, 4, 6, 7, 0, 1, 8, 9, 10]] (by kernel_rfl) (by kernel_rfl) ?_
          intro l hl
          simp only [List.mem_cons, List.not_mem_nil, or_false] at hl
          rcases hl with rfl | rfl | rfl | rfl | rfl | rfl | rfl | rfl | rfl | rfl | rfl | rfl | rfl | rfl | rfl | rfl | rfl | rfl | rfl | rfl | rfl | rfl | rfl | rfl | rfl | rfl | rfl | rfl | rfl | rfl | rfl | rfl | rfl | rfl | rfl | rfl | rfl | rfl | rfl | rfl | rfl | rfl | rfl | rfl | rfl | rfl | rfl | rfl | rfl | rfl | rfl | rfl | rfl | rfl | rfl | rfl
          all_goals skip
          all_goals simp only [List.filterMap_cons, List.filterMap_nil, List.getElem?_toArray, List.getElem?_cons_zero, List.getElem?_cons_succ]
          all_goals change wpList _ _ _ [_, _, _, _, _, _, _, _, _, _, _] _ _
          all_goals go_wp2_with fail
          all_goals
            refine (num_m b r 0 _ G.out.b8 G.out.drew.r).mono ?_
            rintro en w8 ⟨hg8, hr8⟩
            simp only [stuck?, if_true, HM.out] at hr8
            obtain ⟨_, rfl, rfl, hr8⟩ := hr8
            have hG8 := G.out.drew.read hg8 hr8 hb8' hlr
            obtain ⟨d0, d1, d2, d3, d4, d5⟩ := hG8.x.six
            have q5 : ∀ o : Obj, (w8.alloc o).cell? ⟨w.heap.size, 5, none⟩ = some mv := fun o => (Ext.alloc w8 o).cell d5
            have ho8 := own_grown (w := wr.drew) HO.out hg8 hB6
            have hs8 : w6.heap.size ≤ w8.heap.size := Nat.le_trans hs hg8.size
            have G8 := Lib.hid hG8; have HO8 := Lib.hid ho8; clear hG8 hg8 ho8 hr8
            go_wp2_with fail
            refine (must_u64 _ 0 w8).mono ?_
            rintro en w9 ⟨hw, rfl⟩
            subst w9
            simp only [if_true]
            go_wp2_with (at_builtin; go_loud (refine wpList_push rfl (.tmp 67) (.tmp 73) _ rfl el64 w6.heap.size _ acc.length (u64s acc) (.int .u64 m) rfl HO8.out _ rfl rfl hb1 hb2 hs8 ?_))
            intro v9 w9 ho9 hg9
            have hG9 := G8.out.own hg9 (fun k hk => (HO8.out.lt k hk).1) hB6
            obtain ⟨a9, n9, q9, rfl⟩ := Rd.shape (Rd.of_own ho9)
            have hG10 := hG9.set 5 (.slice a9 n9 q9) (by simp)
            simp only [List.setIfInBounds_toArray, List.set_cons_succ, List.set_cons_zero] at hG10
            have ho10 := ownsRow_setCell_below ho9 (a := ⟨w.heap.size, 5, none⟩) (by have := G6.out.size2; simp; omega) (.slice a9 n9 q9)
            rw [← u64s_one'', ← u64s_append] at ho10
            have hs10 : w6.heap.size ≤ (w9.setCell ⟨w.heap.size, 5, none⟩ (.slice a9 n9 q9)).heap.size := by have := hg9.size; simp [World.setCell]; omega
            obtain ⟨e0, e1, e2, e3, e4, e5⟩ := hG9.x.six
            obtain ⟨y0, y1, y2, y3, y4, y5⟩ := hG9.x.six_free
            obtain ⟨z0, z1, z2, z3, z4, z5⟩ := hG10.x.six
            have G10 := Lib.hid hG10; have HO10 := Lib.hid ho10
            clear hG9 hG10 ho9 ho10 hg9
            go_wp2_with fail
            have HS10 := Lib.hid hs10
            clear e0 e1 e2 e3 e4 e5 y0 y1 y2 y3 y4 y5 z0 z1 z2 z3 z4 z5 d0 d1 d2 d3 d4 d5 q5 hs10
            generalize w9.setCell ⟨w.heap.size, 5, none⟩ (.slice a9 n9 q9) = w10 at *
            refine (members_ret _ (acc ++ [m]) w10 (Rd.of_own HO10.out)).mono ?_
            rintro en w11 ⟨rfl, hE11⟩
            have G11 := Lib.hid (G10.out.own (hE11.grownBy none) (by intro k hk; cases hk) hB6)
            have HO11 := Lib.hid (own_ext HO10.out hE11)
            have HS11 := Lib.hid (Nat.le_trans HS10.out hE11.size)
            clear hE11
            by_cases hmb : membersB (acc ++ [m]) = true
            · have HST' := HST.out
              rw [if_pos hmb] at HST'
              have HSTT := Lib.hid HST'
              rw [hmb]
              clear hmb HST'
              go_wp2_with fail
              refine (ought_c true w11).mono ?_
              rintro en w12 ⟨hw, rfl⟩
              subst w12
              simp only [if_true]
              have hjw : IntKind.u64.wrap ((j : Int) + 1) = ((j + 1 : Nat) : Int) := by rw [IntKind.wrap_u64]; omega
              go_wp2_with fail
              go_roundg M
              case rel => exact ⟨j + 1, acc ++ [m], r', .slice a9 n9 q9, by omega, by simp, G11.out, by have := HO11.out; simpa [hl] using this, HS11.out, by simp [hl], HSTT.out.symm⟩
              case measure => omega
            · have HST' := HST.out
              rw [if_neg hmb] at HST'
              have HZ : Hid (X = .error 3) := Lib.hid (HX2.out.1 3 HST')
              rw [show membersB (acc ++ [m]) = false by simpa using hmb]
              clear hmb HST'
              go_wp2_with fail
              refine (ought_c false w11).mono ?_
              rintro en w12 ⟨hw, rfl⟩
              subst w12
              exact get_door _ _ _ _ _ _ 3 w _ _ _ HZ.out G11.out.here rfl rfl
      · have hjN : j = N := by omega
        have hYr : Y = .ok (acc, r) := by rw [← hd, hjN]; simp [rdIds]
        have HYR := Lib.hid (HX2.out.2 acc r hYr)
        obtain ⟨hVm, hVb⟩ := newV_own ho (w := w) G6.out.size2
        obtain ⟨am, nm, qm, rfl⟩ := Rd.shape hVm.1
        have HV := Lib.hid hVm
        have HVB : Hid (∀ a n c, Value.slice am nm qm = .slice (some a) n c → b ≠ a.block) := Lib.hid (fun a n c h => by have := hVb a n c h; omega)
        have G := Lib.hid hG
        clear hG ho hs hd hYr hVm hVb
        go_wp2_with fail
        by_cases hrn : r = []
        · have HZ : Hid (X = .ok ⟨t, 3, 0, 0, [], acc⟩) := Lib.hid (by rw [HYR.out, if_pos hrn])
          obtain ⟨c0, c1, c2, c3, c4, c5⟩ := G.out.x.six
          obtain ⟨f0, f1, f2, f3, f4, f5⟩ := G.out.x.six_free
          have g0 := G.out.e.free 0
          have h0 := G.out.e.cell 0 rfl
          refine wp_region_orders [[0, 1, 2, 3, 4, 5], [1, 0, 2, 3, 4, 5], [1, 2, 0, 3, 4, 5], [1, 2, 3, 0, 4, 5]] (by kernel_rfl) (by kernel_rfl) ?_
          intro l hl
          simp only [List.mem_cons, List.not_mem_nil, or_false] at hl
          rcases hl with rfl | rfl | rfl | rfl
          all_goals simp only [List.filterMap_cons, List.filterMap_nil, List.getElem?_toArray, List.getElem?_cons_zero, List.getElem?_cons_succ]
          all_goals change wpList _ _ _ [_, _, _, _, _, _] _ _
          all_goals go_wp2_with fail
          all_goals
            refine (end_m b r 0 _ G.out.drew.r).mono ?_
            rintro en w8 ⟨rfl, hg8, hr8⟩
            have he : endE 0 r = 0 := by simp [endE, hrn]
            rw [he] at hr8 ⊢
            have hG8 := G.out.drew.read hg8 hr8 G.out.b8 (Nat.le_refl _)
            obtain ⟨d0, d1, d2, d3, d4, d5⟩ := hG8.x.six
            obtain ⟨k0, k1, k2, k3, k4, k5⟩ := hG8.x.six_free
            have m0 := hG8.e.free 0
            have m1 := hG8.e.cell 0 rfl
            have G8 := Lib.hid hG8; have HG8 := Lib.hid hg8
            clear hG8 hg8 hr8 he
            go_wp2_with fail
            refine (must_err (.int .i64 0) 0 w8).mono ?_
            rintro en w9 ⟨hw, rfl⟩
            subst w9
            simp only [if_true]
            go_wp2_with fail
            exact get_fin _ _ _ _ _ _ _ _ w w8 _ _ HZ.out G8.out.here (NewV.nil _ _) (HV.out.drew.grown HVB.out HG8.out) rfl rfl
        have HZ : Hid (X = .error 5) := Lib.hid (by rw [HYR.out, if_neg hrn])
        have HRN := Lib.hid hrn
        clear hrn
        obtain ⟨c0, c1, c2, c3, c4, c5⟩ := G.out.x.six
        obtain ⟨f0, f1, f2, f3, f4, f5⟩ := G.out.x.six_free
        have g0 := G.out.e.free 0
        have h0 := G.out.e.cell 0 rfl
        refine wp_region_orders [[0, 1, 2, 3, 4, 5], [1, 0, 2, 3, 4, 5], [1, 2, 0, 3, 4, 5], [1, 2, 3, 0, 4, 5]] (by kernel_rfl) (by kernel_rfl) ?_
        intro l hl
        simp only [List.mem_cons, List.not_mem_nil, or_false] at hl
        rcases hl with rfl | rfl | rfl | rfl
        all_goals simp only [List.filterMap_cons, List.filterMap_nil, List.getElem?_toArray, List.getElem?_cons_zero, List.getElem?_cons_succ]
        all_goals change wpList _ _ _ [_, _, _, _, _, _] _ _
        all_goals go_wp2_with fail
        all_goals
          refine (end_m b r 0 _ G.out.drew.r).mono ?_
          rintro en w8 ⟨rfl, hg8, hr8⟩
          have he : endE 0 r = 5 := by simp [endE, HRN.out]
          rw [he]
          have hG8 := G.out.drew.door hg8
          obtain ⟨d0, d1, d2, d3, d4, d5⟩ := hG8.x.six
          obtain ⟨k0, k1, k2, k3, k4, k5⟩ := hG8.x.six_free
          have m0 := hG8.e.free 0
          have m1 := hG8.e.cell 0 rfl
          have G8 := Lib.hid hG8
          clear hG8 hg8 hr8 he
          go_wp2_with fail
          refine (must_err (.int .i64 0) 5 w8).mono ?_
          rintro en w9 ⟨hw, rfl⟩
          subst w9
          rw [if_neg (by decide)]
          exact get_door _ _ _ _ _ _ 5 w _ _ _ HZ.out G8.out rfl rfl
  have HZ : Hid (X = .error 3) := Lib.hid (by rw [HX.out]; simp [getB, rdEnt, HY2.out, HT.out, HY4.out, hk1, hk2, hk3])
  go_wp2_with fail
  exact get_door _ _ _ _ _ _ 3 w _ _ _ HZ.out G5.out.here rfl rfl
end Go.Proofs.Ytjodgbabfhcilaa
