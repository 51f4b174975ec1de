/- tabellionref12.Read: the walk. -/
import Derived.Test.YtnhfjoelfnmgaaaBun4
set_option linter.unusedSimpArgs false
set_option linter.unusedVariables false
namespace Go.Proofs.Ytnhfjoelfnmgaaa
open Go Go.RowKit

set_option maxHeartbeats 4000000 in
theorem read_c (b : Nat) (v : Value) (full : List Int) (a : Nat) (w : World) (hb8 : B8 full) (hl : full.length ≤ 140737488355000) (h : RR w b v full a 0) :
    Calls Try.prog 53 #[.pointer (some ⟨b, 0, none⟩)] w (ROut' b v full (fun x y w' => EntV w' y x ∧ EntNew w y) (fun z w' => EntV w' z ⟨0, 0, 0, 0, [], []⟩) (rdEnt (full.drop a)) w) := by
  obtain ⟨X, hX⟩ : ∃ X, X = rdEnt (full.drop a) := ⟨_, rfl⟩
  rw [← hX]
  have H := Lib.hid h; have HX := Lib.hid hX
  clear h hX
  go_enter Try.func53, Try.ntmps53
  go_wp2_with fail
  have hG0 : RS w ((w.alloc (.cells #[.int .u64 0, .int .i64 0, .int .u64 0, .int .u64 0, .slice none 0 0, .slice none 0 0] 62)).alloc (.cells #[.int .u64 0, .int .i64 0, .int .u64 0, .int .u64 0, .slice none 0 0, .slice none 0 0] 62)) b v full a 0 #[.int .u64 0, .int .i64 0, .int .u64 0, .int .u64 0, .slice none 0 0, .slice none 0 0] := by
    have hE := (Ext.alloc w (.cells #[.int .u64 0, .int .i64 0, .int .u64 0, .int .u64 0, .slice none 0 0, .slice none 0 0] 62)).trans (Ext.alloc _ (.cells #[.int .u64 0, .int .i64 0, .int .u64 0, .int .u64 0, .slice none 0 0, .slice none 0 0] 62))
    refine ⟨Ext.grownBy hE _, H.out.blk.lt, (Blk.new w _ _).alloc _, ?_, H.out.ext9 (Ext.grownBy hE none), ?_⟩
    · have := Blk.new (w.alloc (.cells #[.int .u64 0, .int .i64 0, .int .u64 0, .int .u64 0, .slice none 0 0, .slice none 0 0] 62)) #[.int .u64 0, .int .i64 0, .int .u64 0, .int .u64 0, .slice none 0 0, .slice none 0 0] 62
      simpa using this
    · intro p n c hv hne
      have := H.out.rd.off_new (row := some p.block)
      by_cases hp : p.block < w.heap.size
      · exact hp
      · exact absurd rfl (this (fun k hk => by cases hk; omega) p n c hv (by simpa [u8s] using hne))
  have G0 := Lib.hid hG0; clear hG0
  generalize (w.alloc (.cells #[.int .u64 0, .int .i64 0, .int .u64 0, .int .u64 0, .slice none 0 0, .slice none 0 0] 62)).alloc (.cells #[.int .u64 0, .int .i64 0, .int .u64 0, .int .u64 0, .slice none 0 0, .slice none 0 0] 62) = w0 at *
  refine (rnum_c b v full a 0 w0 hb8 (by omega) G0.out.r).mono ?_
  rintro en w1 ⟨hg, hm⟩
  simp only [stuckR, if_true] at hm
  rcases hY : rdNum (full.drop a) with no | ⟨t, r⟩
  · rw [hY] at hm
    obtain ⟨rfl, hr⟩ := hm
    have hne : (no != 0) = true := by have := rdNum_err' hY; simpa using this
    have HZ : Hid (X = .error no) := Lib.hid (by rw [HX.out]; simp [rdEnt, hY])
    have hG := G0.out.readD hg
    obtain ⟨c0, c1, c2, c3, c4, c5⟩ := hG.res.six
    obtain ⟨f0, f1, f2, f3, f4, f5⟩ := hG.res.six_free
    obtain ⟨x0, x1, x2, x3, x4, x5⟩ := hG.x.six
    obtain ⟨y0, y1, y2, y3, y4, y5⟩ := hG.x.six_free
    have G1 := Lib.hid hG
    clear hG hg hY
    go_wp2
    exact read_err no w _ _ b v full X _ G1.out.res G1.out.g HZ.out rfl rfl
  rw [hY] at hm
  obtain ⟨_, a1, rfl, rfl, hr, rfl⟩ := hm
  have hG := G0.out.read hg hr
  obtain ⟨c0, c1, c2, c3, c4, c5⟩ := hG.res.six
  obtain ⟨f0, f1, f2, f3, f4, f5⟩ := hG.res.six_free
  obtain ⟨x0, x1, x2, x3, x4, x5⟩ := hG.x.six
  obtain ⟨y0, y1, y2, y3, y4, y5⟩ := hG.x.six_free
  have G1 := Lib.hid hG
  have HY1 := Lib.hid hY
  clear hG hg hr hY
  by_cases ht : t < 1 ∨ 4611686018427387904 < t
  · have HZ : Hid (X = .error 3) := Lib.hid (by rw [HX.out]; simp [rdEnt, HY1.out, ht])
    by_cases ht1 : t < 1
    · clear ht
      go_wp2
      exact read_err 3 w _ _ b v full X _ G1.out.res G1.out.g HZ.out rfl rfl
    · have ht2 : 4611686018427387904 < t := by omega
      clear ht
      go_wp2
      exact read_err 3 w _ _ b v full X _ G1.out.res G1.out.g HZ.out rfl rfl
  have HT := Lib.hid ht
  have ht1 : ¬ t < 1 := by omega
  have ht2 : ¬ 4611686018427387904 < t := by omega
  clear ht
  have hG := G1.out.set 0 (.int .u64 t)
  simp only [List.setIfInBounds_toArray, List.set_cons_zero] at hG
  have G2 := Lib.hid hG
  clear hG
  go_wp2_with fail
  clear ht1 ht2
  clear c0 c1 c2 c3 c4 c5 f0 f1 f2 f3 f4 f5 x0 x1 x2 x3 x4 x5 y0 y1 y2 y3 y4 y5
  generalize w1.setCell ⟨w.heap.size + 1, 0, none⟩ (.int .u64 t) = w2 at *
  obtain ⟨c0, c1, c2, c3, c4, c5⟩ := G2.out.res.six
  obtain ⟨f0, f1, f2, f3, f4, f5⟩ := G2.out.res.six_free
  obtain ⟨x0, x1, x2, x3, x4, x5⟩ := G2.out.x.six
  obtain ⟨y0, y1, y2, y3, y4, y5⟩ := G2.out.x.six_free
  go_wp2_with fail
  refine (rbyte_c b v full a1 0 w2 (by omega) G2.out.r).mono ?_
  rintro en w3 ⟨hg, hm⟩
  simp only [stuckR, if_true] at hm
  rcases hY : rdByte (full.drop a1) with no | ⟨k, r⟩
  · rw [hY] at hm
    obtain ⟨rfl, hr⟩ := hm
    have hne : (no != 0) = true := by have := rdByte_err' hY; simpa using this
    have HZ : Hid (X = .error no) := Lib.hid (by rw [HX.out]; simp [rdEnt, hY, HY1.out, HT.out])
    have hG := G2.out.readD hg
    obtain ⟨c0, c1, c2, c3, c4, c5⟩ := hG.res.six
    obtain ⟨f0, f1, f2, f3, f4, f5⟩ := hG.res.six_free
    obtain ⟨x0, x1, x2, x3, x4, x5⟩ := hG.x.six
    obtain ⟨y0, y1, y2, y3, y4, y5⟩ := hG.x.six_free
    have G3 := Lib.hid hG
    clear hG hg hY
    go_wp2
    exact read_err no w _ _ b v full X _ G3.out.res G3.out.g HZ.out rfl rfl
  rw [hY] at hm
  obtain ⟨_, a2, rfl, rfl, hr, rfl⟩ := hm
  have hG := G2.out.read hg hr
  obtain ⟨c0, c1, c2, c3, c4, c5⟩ := hG.res.six
  obtain ⟨f0, f1, f2, f3, f4, f5⟩ := hG.res.six_free
  obtain ⟨x0, x1, x2, x3, x4, x5⟩ := hG.x.six
  obtain ⟨y0, y1, y2, y3, y4, y5⟩ := hG.x.six_free
  have G3 := Lib.hid hG
  have HY3 := Lib.hid hY
  clear hG hg hr hY
  by_cases hk : k < 1 ∨ 3 < k
  · have HZ : Hid (X = .error 3) := Lib.hid (by rw [HX.out]; simp [rdEnt, HY1.out, HT.out, HY3.out]; split <;> (try split) <;> (try split) <;> first | omega | rfl)
    by_cases hk1 : k < 1
    · clear hk
      go_wp2
      exact read_err 3 w _ _ b v full X _ G3.out.res G3.out.g HZ.out rfl rfl
    · have hk2 : 3 < k := by omega
      clear hk
      go_wp2
      exact read_err 3 w _ _ b v full X _ G3.out.res G3.out.g HZ.out rfl rfl
  have hk1 : ¬ k < 1 := by omega
  have hk2 : ¬ 3 < k := by omega
  clear hk
  have hG := G3.out.set 1 (.int .i64 k)
  simp only [List.setIfInBounds_toArray, List.set_cons_succ, List.set_cons_zero] at hG
  have G4 := Lib.hid hG
  clear hG
  by_cases hk2' : k = 2
  · subst hk2'
    go_wp2_with fail
    clear c0 c1 c2 c3 c4 c5 f0 f1 f2 f3 f4 f5 x0 x1 x2 x3 x4 x5 y0 y1 y2 y3 y4 y5
    generalize w3.setCell ⟨w.heap.size + 1, 1, none⟩ (.int .i64 2) = w4 at *
    obtain ⟨c0, c1, c2, c3, c4, c5⟩ := G4.out.res.six
    obtain ⟨f0, f1, f2, f3, f4, f5⟩ := G4.out.res.six_free
    obtain ⟨x0, x1, x2, x3, x4, x5⟩ := G4.out.x.six
    obtain ⟨y0, y1, y2, y3, y4, y5⟩ := G4.out.x.six_free
    go_wp2_with fail
    refine (rnum_c b v full a2 0 w4 hb8 (by omega) G4.out.r).mono ?_
    rintro en w5 ⟨hg, hm⟩
    simp only [stuckR, if_true] at hm
    rcases hY : rdNum (full.drop a2) with no | ⟨cl, r⟩
    · rw [hY] at hm
      obtain ⟨rfl, hr⟩ := hm
      have hne : (no != 0) = true := by have := rdNum_err' hY; simpa using this
      have HZ : Hid (X = .error no) := Lib.hid (by rw [HX.out]; simp [rdEnt, hY, HY1.out, HT.out, HY3.out])
      have hG := G4.out.readD hg
      obtain ⟨c0, c1, c2, c3, c4, c5⟩ := hG.res.six
      obtain ⟨f0, f1, f2, f3, f4, f5⟩ := hG.res.six_free
      obtain ⟨x0, x1, x2, x3, x4, x5⟩ := hG.x.six
      obtain ⟨y0, y1, y2, y3, y4, y5⟩ := hG.x.six_free
      have G5 := Lib.hid (hG.setx 2 (.int .u64 0))
      clear hG hg hY
      go_wp2
      exact read_err no w _ _ b v full X _ G5.out.res G5.out.g HZ.out rfl rfl
    rw [hY] at hm
    obtain ⟨_, a3, rfl, rfl, hr, rfl⟩ := hm
    have hG := G4.out.read hg hr
    obtain ⟨c0, c1, c2, c3, c4, c5⟩ := hG.res.six
    obtain ⟨f0, f1, f2, f3, f4, f5⟩ := hG.res.six_free
    obtain ⟨x0, x1, x2, x3, x4, x5⟩ := hG.x.six
    obtain ⟨y0, y1, y2, y3, y4, y5⟩ := hG.x.six_free
    have G5 := Lib.hid hG
    have HY5 := Lib.hid hY
    clear hG hg hr hY
    have hG := G5.out.set 2 (.int .u64 cl)
    simp only [List.setIfInBounds_toArray, List.set_cons_succ, List.set_cons_zero] at hG
    have G6 := Lib.hid hG
    clear hG
    go_wp2_with fail
    clear c0 c1 c2 c3 c4 c5 f0 f1 f2 f3 f4 f5 x0 x1 x2 x3 x4 x5 y0 y1 y2 y3 y4 y5
    generalize w5.setCell ⟨w.heap.size + 1, 2, none⟩ (.int .u64 cl) = w6 at *
    obtain ⟨c0, c1, c2, c3, c4, c5⟩ := G6.out.res.six
    obtain ⟨f0, f1, f2, f3, f4, f5⟩ := G6.out.res.six_free
    obtain ⟨x0, x1, x2, x3, x4, x5⟩ := G6.out.x.six
    obtain ⟨y0, y1, y2, y3, y4, y5⟩ := G6.out.x.six_free
    go_wp2_with fail
    refine (rnum_c b v full a3 0 w6 hb8 (by omega) G6.out.r).mono ?_
    rintro en w7 ⟨hg, hm⟩
    simp only [stuckR, if_true] at hm
    rcases hY : rdNum (full.drop a3) with no | ⟨sq, r⟩
    · rw [hY] at hm
      obtain ⟨rfl, hr⟩ := hm
      have hne : (no != 0) = true := by have := rdNum_err' hY; simpa using this
      have HZ : Hid (X = .error no) := Lib.hid (by rw [HX.out]; simp [rdEnt, hY, HY1.out, HT.out, HY3.out, HY5.out])
      have hG := G6.out.readD hg
      obtain ⟨c0, c1, c2, c3, c4, c5⟩ := hG.res.six
      obtain ⟨f0, f1, f2, f3, f4, f5⟩ := hG.res.six_free
      obtain ⟨x0, x1, x2, x3, x4, x5⟩ := hG.x.six
      obtain ⟨y0, y1, y2, y3, y4, y5⟩ := hG.x.six_free
      have G7 := Lib.hid (hG.setx 3 (.int .u64 0))
      clear hG hg hY
      go_wp2
      exact read_err no w _ _ b v full X _ G7.out.res G7.out.g HZ.out rfl rfl
    rw [hY] at hm
    obtain ⟨_, a4, rfl, rfl, hr, rfl⟩ := hm
    have hG := G6.out.read hg hr
    obtain ⟨c0, c1, c2, c3, c4, c5⟩ := hG.res.six
    obtain ⟨f0, f1, f2, f3, f4, f5⟩ := hG.res.six_free
    obtain ⟨x0, x1, x2, x3, x4, x5⟩ := hG.x.six
    obtain ⟨y0, y1, y2, y3, y4, y5⟩ := hG.x.six_free
    have G7 := Lib.hid hG
    have HY7 := Lib.hid hY
    clear hG hg hr hY
    have hG := G7.out.set 3 (.int .u64 sq)
    simp only [List.setIfInBounds_toArray, List.set_cons_succ, List.set_cons_zero] at hG
    have G8 := Lib.hid hG
    clear hG
    go_wp2_with fail
    clear c0 c1 c2 c3 c4 c5 f0 f1 f2 f3 f4 f5 x0 x1 x2 x3 x4 x5 y0 y1 y2 y3 y4 y5
    generalize w7.setCell ⟨w.heap.size + 1, 3, none⟩ (.int .u64 sq) = w8 at *
    obtain ⟨c0, c1, c2, c3, c4, c5⟩ := G8.out.res.six
    obtain ⟨f0, f1, f2, f3, f4, f5⟩ := G8.out.res.six_free
    obtain ⟨x0, x1, x2, x3, x4, x5⟩ := G8.out.x.six
    obtain ⟨y0, y1, y2, y3, y4, y5⟩ := G8.out.x.six_free
    go_wp2_with fail
    refine (rraw_c b v full a4 0 64 w8 hb8 hl (by omega) G8.out.r).mono ?_
    rintro en w9 ⟨hg, hm⟩
    simp only [stuckR, if_true] at hm
    rcases hY : rdRaw 64 (full.drop a4) with no | ⟨dd, r⟩
    · rw [hY] at hm
      obtain ⟨rfl, hr⟩ := hm
      have hne : (no != 0) = true := by have := rdRaw_err' hY; simpa using this
      have HZ : Hid (X = .error no) := Lib.hid (by rw [HX.out]; simp [rdEnt, hY, HY1.out, HT.out, HY3.out, HY5.out, HY7.out])
      have hG := G8.out.readD hg
      obtain ⟨c0, c1, c2, c3, c4, c5⟩ := hG.res.six
      obtain ⟨f0, f1, f2, f3, f4, f5⟩ := hG.res.six_free
      obtain ⟨x0, x1, x2, x3, x4, x5⟩ := hG.x.six
      obtain ⟨y0, y1, y2, y3, y4, y5⟩ := hG.x.six_free
      have G9 := Lib.hid (hG.setx 4 (.slice none 0 0))
      clear hG hg hY
      go_wp2
      exact read_err no w _ _ b v full X _ G9.out.res G9.out.g HZ.out rfl rfl
    rw [hY] at hm
    obtain ⟨dv, a5, rfl, hN, hr, rfl⟩ := hm
    obtain ⟨dva, dvn, dvc, rfl⟩ := Rd.shape hN.1
    have HN := Lib.hid hN; clear hN
    have hG := G8.out.read hg hr
    obtain ⟨c0, c1, c2, c3, c4, c5⟩ := hG.res.six
    obtain ⟨f0, f1, f2, f3, f4, f5⟩ := hG.res.six_free
    obtain ⟨x0, x1, x2, x3, x4, x5⟩ := hG.x.six
    obtain ⟨y0, y1, y2, y3, y4, y5⟩ := hG.x.six_free
    have G9 := Lib.hid hG
    have HY9 := Lib.hid hY
    clear hG hg hr hY
    have hG := G9.out.set 4 (.slice dva dvn dvc)
    simp only [List.setIfInBounds_toArray, List.set_cons_succ, List.set_cons_zero] at hG
    have G10 := Lib.hid hG
    clear hG
    have hV : NewV w w9 (.slice dva dvn dvc) (u8s dd) := ⟨HN.out.1, fun p n c h => Nat.le_trans (by have := G8.out.x.lt; omega) (HN.out.2 p n c h)⟩
    have hV' := hV.set (p := w.heap.size + 1) (by omega) 4 (.slice dva dvn dvc)
    have HV := Lib.hid hV'
    clear hV hV'
    have HZ : Hid (X = .ok (⟨t, 2, cl, sq, dd, []⟩, full.drop a5)) := Lib.hid (by rw [HX.out]; simp [rdEnt, HY1.out, HT.out, HY3.out, HY5.out, HY7.out, HY9.out])
    go_wp2
    exact read_ok _ _ _ _ _ _ _ _ _ _ _ _ w _ _ b v full a5 X HZ.out G10.out HV.out (NewV.nil _ _) rfl rfl
  by_cases hk3' : k = 3
  · subst hk3'
    go_wp2_with fail
    clear c0 c1 c2 c3 c4 c5 f0 f1 f2 f3 f4 f5 x0 x1 x2 x3 x4 x5 y0 y1 y2 y3 y4 y5
    generalize w3.setCell ⟨w.heap.size + 1, 1, none⟩ (.int .i64 3) = w4 at *
    obtain ⟨c0, c1, c2, c3, c4, c5⟩ := G4.out.res.six
    obtain ⟨f0, f1, f2, f3, f4, f5⟩ := G4.out.res.six_free
    obtain ⟨x0, x1, x2, x3, x4, x5⟩ := G4.out.x.six
    obtain ⟨y0, y1, y2, y3, y4, y5⟩ := G4.out.x.six_free
    go_wp2_with fail
    refine (rids_c b v full a2 w4 hb8 (by omega) G4.out.r).mono ?_
    rintro en w5 ⟨hg, hm⟩
    rcases hY : idsB (full.drop a2) with no | ⟨ms, r⟩
    · rw [hY] at hm
      obtain ⟨_, rfl, rfl⟩ := hm
      have hne : (no != 0) = true := by have := idsB_err' hY; simpa using this
      have HZ : Hid (X = .error no) := Lib.hid (by rw [HX.out, rdEnt_k3 HY1.out HT.out HY3.out, hY])
      have hG := G4.out.readD hg
      obtain ⟨c0, c1, c2, c3, c4, c5⟩ := hG.res.six
      obtain ⟨f0, f1, f2, f3, f4, f5⟩ := hG.res.six_free
      obtain ⟨x0, x1, x2, x3, x4, x5⟩ := hG.x.six
      obtain ⟨y0, y1, y2, y3, y4, y5⟩ := hG.x.six_free
      have G5 := Lib.hid (hG.setx 5 (.slice none 0 0))
      clear hG hg hY
      go_wp2
      exact read_err no w _ _ b v full X _ G5.out.res G5.out.g HZ.out rfl rfl
    rw [hY] at hm
    obtain ⟨dv, a3, rfl, hN, hr, rfl⟩ := hm
    obtain ⟨dva, dvn, dvc, rfl⟩ := Rd.shape hN.1
    have HN := Lib.hid hN; clear hN
    have hG := G4.out.read hg hr
    obtain ⟨c0, c1, c2, c3, c4, c5⟩ := hG.res.six
    obtain ⟨f0, f1, f2, f3, f4, f5⟩ := hG.res.six_free
    obtain ⟨x0, x1, x2, x3, x4, x5⟩ := hG.x.six
    obtain ⟨y0, y1, y2, y3, y4, y5⟩ := hG.x.six_free
    have G5 := Lib.hid hG
    have HY5 := Lib.hid hY
    clear hG hg hr hY
    have hG := G5.out.set 5 (.slice dva dvn dvc)
    simp only [List.setIfInBounds_toArray, List.set_cons_succ, List.set_cons_zero] at hG
    have G6 := Lib.hid hG
    clear hG
    have hV : NewV w w5 (.slice dva dvn dvc) (u64s ms) := ⟨HN.out.1, fun p n c h => Nat.le_trans (by have := G4.out.x.lt; omega) (HN.out.2 p n c h)⟩
    have hV' := hV.set (p := w.heap.size + 1) (by omega) 5 (.slice dva dvn dvc)
    have HV := Lib.hid hV'
    clear hV hV'
    have HZ : Hid (X = .ok (⟨t, 3, 0, 0, [], ms⟩, full.drop a3)) := Lib.hid (by rw [HX.out, rdEnt_k3 HY1.out HT.out HY3.out, HY5.out])
    go_wp2
    exact read_ok _ _ _ _ _ _ _ _ _ _ _ _ w _ _ b v full a3 X HZ.out G6.out (NewV.nil _ _) HV.out rfl rfl
  have hk1' : k = 1 := by omega
  subst hk1'
  have HZ : Hid (X = .ok (⟨t, 1, 0, 0, [], []⟩, full.drop a2)) := Lib.hid (by rw [HX.out]; simp [rdEnt, HY1.out, HT.out, HY3.out])
  go_wp2
  exact read_ok _ _ _ _ _ _ _ _ _ _ _ _ w _ _ b v full a2 X HZ.out G4.out (NewV.nil _ _) (NewV.nil _ _) rfl rfl
end Go.Proofs.Ytnhfjoelfnmgaaa
