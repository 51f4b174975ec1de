/- tabellionref12.Get. -/
import Derived.Test.YtiaiicgpiiabnaaRrd2
namespace Go.Proofs.Ytiaiicgpiiabnaa
open Go Go.RowKit

theorem rdEnt_err {bs : List Int} {e : Int} (h : rdEnt bs = .error e) : e ≠ 0 := by
  simp only [rdEnt] at h
  repeat' split at h
  all_goals first | (cases h; done) | (cases h; first | decide | (rename_i heq; first | exact rdNum_err' heq | exact rdByte_err' heq | exact rdRaw_err' heq | exact rdIds_err' _ _ _ _ heq))
/-- How the reference's Get ends. -/
def RGetOut (X : Except Int Ent) (w : World) (en : Ending) (w' : World) : Prop :=
  Ext w w' ∧ ∃ v e x, en = .returned (.tuple #[v, .int .i64 e]) ∧ EntV w' v x ∧ match X with
  | .error no => e = no ∧ x = ⟨0, 0, 0, 0, [], []⟩
  | .ok y => e = 0 ∧ x = y

set_option maxHeartbeats 1000000 in
theorem rget_ret (c0 c1 c2 c3 c4 c5 : Value) (t k cl sq no : Int) (a4 a5 : Option Addr) (n4 m4 n5 m5 : Nat) (w W : World) (tmps : Array Value) (R : Ending → World → Prop) (hr : Blk W w.heap.size #[c0, c1, c2, c3, c4, c5] 26)
    (hz : tmps[2]? = some (.pointer (some ⟨w.heap.size, 0, none⟩))) (he : tmps[3]? = some (.int .i64 no))
    (hR : ∀ F, F = (((((W.setCell ⟨w.heap.size, 0, none⟩ (.int .u64 t)).setCell ⟨w.heap.size, 1, none⟩ (.int .i64 k)).setCell ⟨w.heap.size, 2, none⟩ (.int .u64 cl)).setCell ⟨w.heap.size, 3, none⟩ (.int .u64 sq)).setCell ⟨w.heap.size, 4, none⟩ (.slice a4 n4 m4)).setCell ⟨w.heap.size, 5, none⟩ (.slice a5 n5 m5) → R (.returned (.tuple #[.agg #[.int .u64 t, .int .i64 k, .int .u64 cl, .int .u64 sq, .slice a4 n4 m4, .slice a5 n5 m5], .int .i64 no])) F) :
    bodyPost Try.prog Try.f19 R .ret { tmps := tmps, defers := [] }
      ((((((W.setCell ⟨w.heap.size, 0, none⟩ (.int .u64 t)).setCell ⟨w.heap.size, 1, none⟩ (.int .i64 k)).setCell ⟨w.heap.size, 2, none⟩ (.int .u64 cl)).setCell ⟨w.heap.size, 3, none⟩ (.int .u64 sq)).setCell ⟨w.heap.size, 4, none⟩ (.slice a4 n4 m4)).setCell ⟨w.heap.size, 5, none⟩ (.slice a5 n5 m5)) := by
  have hx' := (((((hr.set 0 (.int .u64 t)).set 1 (.int .i64 k)).set 2 (.int .u64 cl)).set 3 (.int .u64 sq)).set 4 (.slice a4 n4 m4)).set 5 (.slice a5 n5 m5)
  have h := hR _ rfl
  generalize ((((((W.setCell ⟨w.heap.size, 0, none⟩ (.int .u64 t)).setCell ⟨w.heap.size, 1, none⟩ (.int .i64 k)).setCell ⟨w.heap.size, 2, none⟩ (.int .u64 cl)).setCell ⟨w.heap.size, 3, none⟩ (.int .u64 sq)).setCell ⟨w.heap.size, 4, none⟩ (.slice a4 n4 m4)).setCell ⟨w.heap.size, 5, none⟩ (.slice a5 n5 m5)) = F at *
  simp only [List.setIfInBounds_toArray, List.set_cons_succ, List.set_cons_zero] at hx'
  obtain ⟨x0, x1, x2, x3, x4, x5⟩ := hx'.six
  refine bodyPost_ret ?_ rfl h
  simp [results, Try.results19, go_sem, hz, he, x0, x1, x2, x3, x4, x5]

theorem heap_size_alloc2 (w : World) (o o' : Obj) : ((w.alloc o).alloc o').heap.size = w.heap.size + 2 := by simp
theorem ext_six {w W : World} (h : Ext w W) (u0 u1 u2 u3 u4 u5 : Value) :
    Ext w ((((((W.setCell ⟨w.heap.size, 0, none⟩ u0).setCell ⟨w.heap.size, 1, none⟩ u1).setCell ⟨w.heap.size, 2, none⟩ u2).setCell ⟨w.heap.size, 3, none⟩ u3).setCell ⟨w.heap.size, 4, none⟩ u4).setCell ⟨w.heap.size, 5, none⟩ u5) := by
  show Below w.heap.size w _
  repeat (refine Below.setCell ?_ (by simp) _)
  exact h

theorem rget_err (no : Int) (w W : World) (tmps : Array Value) (X : Except Int Ent) {c0 c1 c2 c3 c4 c5 : Value} (hr : Blk W w.heap.size #[c0, c1, c2, c3, c4, c5] 26) (hg : Ext w W) (hX : X = .error no)
    (hz : tmps[2]? = some (.pointer (some ⟨w.heap.size, 0, none⟩))) (he : tmps[3]? = some (.int .i64 no)) :
    bodyPost Try.prog Try.f19 (RGetOut X w) .ret { tmps := tmps, defers := [] }
      ((((((W.setCell ⟨w.heap.size, 0, none⟩ (.int .u64 0)).setCell ⟨w.heap.size, 1, none⟩ (.int .i64 0)).setCell ⟨w.heap.size, 2, none⟩ (.int .u64 0)).setCell ⟨w.heap.size, 3, none⟩ (.int .u64 0)).setCell ⟨w.heap.size, 4, none⟩ (.slice none 0 0)).setCell ⟨w.heap.size, 5, none⟩ (.slice none 0 0)) := by
  subst hX
  refine rget_ret _ _ _ _ _ _ 0 0 0 0 no none none 0 0 0 0 w W tmps _ hr hz he fun F hF => ?_
  subst hF
  exact ⟨ext_six hg _ _ _ _ _ _, _, no, ⟨0, 0, 0, 0, [], []⟩, rfl, ⟨_, _, rfl, Rd.nil _, Rd.nil _⟩, rfl, rfl⟩

set_option maxHeartbeats 2000000 in
theorem rget_c (v : Value) (bs : List Int) (w : World) (hR : Rd w v (u8s bs)) (hb8 : B8 bs) (hl : bs.length ≤ 140737488355000) : Calls Try.prog 19 #[v] w (RGetOut (getB bs) w) := by
  obtain ⟨X, hX⟩ : ∃ X, X = getB bs := ⟨_, rfl⟩
  rw [← hX]
  obtain ⟨av, nv, cv, rfl⟩ := Rd.shape hR
  have hoff : Off (.slice av nv cv) (u8s bs) (some (w.heap.size + 1)) := hR.off_new (fun k hk => by cases hk; omega)
  have hE0 : Ext w ((w.alloc (.cells #[.int .u64 0, .int .i64 0, .int .u64 0, .int .u64 0, .slice none 0 0, .slice none 0 0] 26)).alloc (.cells #[.slice av nv cv, .int .i64 0, .int .i64 0] 62)) := (Ext.alloc _ _).trans (Ext.alloc _ _)
  have hr0 : RR ((w.alloc (.cells #[.int .u64 0, .int .i64 0, .int .u64 0, .int .u64 0, .slice none 0 0, .slice none 0 0] 26)).alloc (.cells #[.slice av nv cv, .int .i64 0, .int .i64 0] 62)) (w.heap.size + 1) (.slice av nv cv) bs 0 0 := by
    refine ⟨?_, hR.ext hE0, Nat.zero_le _, hoff⟩
    have := Blk.new (w.alloc (.cells #[.int .u64 0, .int .i64 0, .int .u64 0, .int .u64 0, .slice none 0 0, .slice none 0 0] 26)) #[.slice av nv cv, .int .i64 0, .int .i64 0] 62
    simpa using this
  have HX := Lib.hid hX; have HR := Lib.hid hR; have HR0 := Lib.hid hr0; have HE0 := Lib.hid hE0
  clear hX hR hoff hr0 hE0
  go_enter Try.func19, Try.ntmps19
  go_wp2_with fail
  refine (read_c (w.heap.size + 1) _ bs 0 _ hb8 hl HR0.out).mono ?_
  rintro en w1 ⟨hg, hm⟩
  rw [List.drop_zero] at hm
  have hres : Blk w1 w.heap.size #[.int .u64 0, .int .i64 0, .int .u64 0, .int .u64 0, .slice none 0 0, .slice none 0 0] 26 := ((Blk.new w _ _).alloc _).grown hg (by simp)
  have hE1 : Ext w w1 := Below.grown HE0.out hg HE0.out.size fun k hk => by cases hk; omega
  have hsz := hg.size
  simp at hsz
  have HRES := Lib.hid hres; have HE1 := Lib.hid hE1
  clear hg hres hE1
  rcases hY : rdEnt bs with no | ⟨x, r⟩
  · rw [hY] at hm
    obtain ⟨z, rfl, dv, mv, rfl, hd, hmm⟩ := hm
    have HX' : Hid (X = .error no) := Lib.hid (by rw [HX.out]; simp [getB, hY])
    obtain ⟨a4, n4, c4, rfl⟩ := Rd.shape hd
    obtain ⟨a5, n5, c5, rfl⟩ := Rd.shape hmm
    have hne : (no == 0) = false := by have := rdEnt_err hY; simpa using this
    have hne' : (no != 0) = true := by have := rdEnt_err hY; simpa using this
    clear hY hd hmm
    have hA := HRES.out.alloc (.cells #[.int .u64 0, .int .i64 0, .int .u64 0, .int .u64 0, .slice a4 n4 c4, .slice a5 n5 c5] 26)
    obtain ⟨x0, x1, x2, x3, x4, x5⟩ := hA.six
    obtain ⟨f0, f1, f2, f3, f4, f5⟩ := hA.six_free
    have HA := Lib.hid hA; clear hA
    go_wp2_with fail
    exact rget_err no w _ _ X HA.out (HE1.out.trans (Ext.alloc _ _)) HX'.out rfl rfl
  · rw [hY] at hm
    obtain ⟨z, a2, rfl, ⟨⟨dv, mv, rfl, hd, hmm⟩, hnew⟩, hr1, rfl⟩ := hm
    obtain ⟨t, k, cl, sq, d, ms⟩ := x
    obtain ⟨a4, n4, c4, rfl⟩ := Rd.shape hd
    obtain ⟨a5, n5, c5, rfl⟩ := Rd.shape hmm
    have hX1 := HX.out
    simp only [getB, hY] at hX1
    have HX1 := Lib.hid hX1
    obtain ⟨_, _, _, _, _, _, hagg, hn4, hn5⟩ := hnew
    cases hagg
    have HD := Lib.hid hd; have HM := Lib.hid hmm; have HR1 := Lib.hid hr1; have HN4 := Lib.hid hn4; have HN5 := Lib.hid hn5
    clear hX1 hY hd hmm hr1 hn4 hn5
    go_wp2_with fail
    generalize hV : w1.alloc (.cells #[.int .u64 t, .int .i64 k, .int .u64 cl, .int .u64 sq, .slice a4 n4 c4, .slice a5 n5 c5] 26) = W at *
    have hEW : Ext w1 W := by rw [← hV]; exact Ext.alloc _ _
    have hBW : Blk W w1.heap.size #[.int .u64 t, .int .i64 k, .int .u64 cl, .int .u64 sq, .slice a4 n4 c4, .slice a5 n5 c5] 26 := by rw [← hV]; exact Blk.new _ _ _
    have hrW : RR W (w.heap.size + 1) (.slice av nv cv) bs a2 0 := HR1.out.ext9 (Ext.grownBy hEW none)
    have HRW := Lib.hid hrW
    have HEW := Lib.hid hEW
    clear hV hrW hEW
    refine (rend_c (w.heap.size + 1) _ bs a2 0 W HRW.out).mono ?_
    rintro en w2 ⟨rfl, hg⟩
    have hE2 : Ext w w2 := Below.grown (HE1.out.trans HEW.out) hg (HE1.out.trans HEW.out).size fun k hk => by cases hk; omega
    have hres := (HRES.out.ext HEW.out).grown hg (by simp)
    have hbw := hBW.grown hg (by simp; omega)
    obtain ⟨x0, x1, x2, x3, x4, x5⟩ := hres.six
    obtain ⟨f0, f1, f2, f3, f4, f5⟩ := hres.six_free
    obtain ⟨y0, y1, y2, y3, y4, y5⟩ := hbw.six
    have HE2 := Lib.hid hE2
    have HRES2 := Lib.hid hres
    have HG := Lib.hid hg
    clear hE2 hres hbw hBW hg
    by_cases hr : bs.drop a2 = []
    · rw [if_neg (by simp [hr])]
      have HX2 : Hid (X = .ok ⟨t, k, cl, sq, d, ms⟩) := Lib.hid (by rw [HX1.out, if_pos hr])
      clear hr
      go_wp2_with fail
      refine rget_ret _ _ _ _ _ _ t k cl sq 0 a4 a5 n4 c4 n5 c5 w w2 _ _ HRES2.out rfl rfl fun F hF => ?_
      subst hF
      have n4 := HN4.out
      have n5 := HN5.out
      simp only [heap_size_alloc2] at n4 n5
      have q : ∀ {W' : World} {a : Option Addr} {n c : Nat} {cs : List Value} (j : Nat) (u : Value), (∀ p m c', Value.slice a n c = .slice (some p) m c' → w.heap.size + 2 ≤ p.block) → Rd W' (.slice a n c) cs → Rd (W'.setCell ⟨w.heap.size, j, none⟩ u) (.slice a n c) cs := fun j u hn h => h.grown (grown_set _ _ j u) fun p m c' hv _ e => by have := hn p m c' hv; have := Option.some.inj e; omega
      have hd2 := (HD.out.ext HEW.out).grown HG.out (fun p m c' hv _ e => by have := n4 p m c' hv; have := Option.some.inj e; omega)
      have hm2 := (HM.out.ext HEW.out).grown HG.out (fun p m c' hv _ e => by have := n5 p m c' hv; have := Option.some.inj e; omega)
      rw [HX2.out]
      exact ⟨ext_six HE2.out _ _ _ _ _ _, _, 0, ⟨t, k, cl, sq, d, ms⟩, rfl, ⟨_, _, rfl, q _ _ n4 (q _ _ n4 (q _ _ n4 (q _ _ n4 (q _ _ n4 (q _ _ n4 hd2))))), q _ _ n5 (q _ _ n5 (q _ _ n5 (q _ _ n5 (q _ _ n5 (q _ _ n5 hm2)))))⟩, rfl, rfl⟩
    · rw [if_pos (by simp [hr])]
      have HX2 : Hid (X = .error 5) := Lib.hid (by rw [HX1.out, if_neg hr])
      clear hr
      go_wp2_with fail
      exact rget_err 5 w _ _ X HRES2.out HE2.out HX2.out rfl rfl
end Go.Proofs.Ytiaiicgpiiabnaa
