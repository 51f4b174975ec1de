/- Parts of the proof, in plain words at the head of each: Rget, Mr3, MsgL, Tk. -/
import Derived.Test.YtnhfjoelfnmgaaaRrd2
import Derived.Test.YtnhfjoelfnmgaaaBun4
import Derived.Test.YtnhfjoelfnmgaaaGet
set_option linter.unusedSimpArgs false
set_option linter.unusedVariables false
/- tabellionref12.Get. -/
namespace Go.Proofs.Ytnhfjoelfnmgaaa
open Go Go.RowKit

theorem rdEnt_err {bs : List Int} {e : Int} (h : rdEnt bs = .error e) : e ≠ 0 := by
  simp only [rdEnt] at h
  repeat' split at h
  all_goals first | (cases h; done) | (cases h; first | decide | (rename_i heq; first | exact rdNum_err' heq | exact rdByte_err' heq | exact rdRaw_err' heq | exact rdIds_err' _ _ _ _ heq))
/-- How the reference's Get ends. -/
def RGetOut (X : Except Int Ent) (w : World) (en : Ending) (w' : World) : Prop :=
  Ext w w' ∧ ∃ v e x, en = .returned (.tuple #[v, .int .i64 e]) ∧ (EntV w' v x ∧ EntNew w v) ∧ match X with
  | .error no => e = no ∧ x = ⟨0, 0, 0, 0, [], []⟩
  | .ok y => e = 0 ∧ x = y

set_option maxHeartbeats 1000000 in
theorem rget_ret (c0 c1 c2 c3 c4 c5 : Value) (t k cl sq no : Int) (a4 a5 : Option Addr) (n4 m4 n5 m5 : Nat) (w W : World) (tmps : Array Value) (R : Ending → World → Prop) (hr : Blk W w.heap.size #[c0, c1, c2, c3, c4, c5] 62)
    (hz : tmps[2]? = some (.pointer (some ⟨w.heap.size, 0, none⟩))) (he : tmps[3]? = some (.int .i64 no))
    (hR : ∀ F, F = (((((W.setCell ⟨w.heap.size, 0, none⟩ (.int .u64 t)).setCell ⟨w.heap.size, 1, none⟩ (.int .i64 k)).setCell ⟨w.heap.size, 2, none⟩ (.int .u64 cl)).setCell ⟨w.heap.size, 3, none⟩ (.int .u64 sq)).setCell ⟨w.heap.size, 4, none⟩ (.slice a4 n4 m4)).setCell ⟨w.heap.size, 5, none⟩ (.slice a5 n5 m5) → R (.returned (.tuple #[.agg #[.int .u64 t, .int .i64 k, .int .u64 cl, .int .u64 sq, .slice a4 n4 m4, .slice a5 n5 m5], .int .i64 no])) F) :
    bodyPost Try.prog Try.f29 R .ret { tmps := tmps, defers := [] }
      ((((((W.setCell ⟨w.heap.size, 0, none⟩ (.int .u64 t)).setCell ⟨w.heap.size, 1, none⟩ (.int .i64 k)).setCell ⟨w.heap.size, 2, none⟩ (.int .u64 cl)).setCell ⟨w.heap.size, 3, none⟩ (.int .u64 sq)).setCell ⟨w.heap.size, 4, none⟩ (.slice a4 n4 m4)).setCell ⟨w.heap.size, 5, none⟩ (.slice a5 n5 m5)) := by
  have hx' := (((((hr.set 0 (.int .u64 t)).set 1 (.int .i64 k)).set 2 (.int .u64 cl)).set 3 (.int .u64 sq)).set 4 (.slice a4 n4 m4)).set 5 (.slice a5 n5 m5)
  have h := hR _ rfl
  generalize ((((((W.setCell ⟨w.heap.size, 0, none⟩ (.int .u64 t)).setCell ⟨w.heap.size, 1, none⟩ (.int .i64 k)).setCell ⟨w.heap.size, 2, none⟩ (.int .u64 cl)).setCell ⟨w.heap.size, 3, none⟩ (.int .u64 sq)).setCell ⟨w.heap.size, 4, none⟩ (.slice a4 n4 m4)).setCell ⟨w.heap.size, 5, none⟩ (.slice a5 n5 m5)) = F at *
  simp only [List.setIfInBounds_toArray, List.set_cons_succ, List.set_cons_zero] at hx'
  obtain ⟨x0, x1, x2, x3, x4, x5⟩ := hx'.six
  refine bodyPost_ret ?_ rfl h
  simp [results, Try.results29, go_sem, hz, he, x0, x1, x2, x3, x4, x5]

theorem heap_size_alloc2 (w : World) (o o' : Obj) : ((w.alloc o).alloc o').heap.size = w.heap.size + 2 := by simp
theorem ext_six {w W : World} (h : Ext w W) (u0 u1 u2 u3 u4 u5 : Value) :
    Ext w ((((((W.setCell ⟨w.heap.size, 0, none⟩ u0).setCell ⟨w.heap.size, 1, none⟩ u1).setCell ⟨w.heap.size, 2, none⟩ u2).setCell ⟨w.heap.size, 3, none⟩ u3).setCell ⟨w.heap.size, 4, none⟩ u4).setCell ⟨w.heap.size, 5, none⟩ u5) := by
  show Below w.heap.size w _
  repeat (refine Below.setCell ?_ (by simp) _)
  exact h

theorem rget_err (no : Int) (w W : World) (tmps : Array Value) (X : Except Int Ent) {c0 c1 c2 c3 c4 c5 : Value} (hr : Blk W w.heap.size #[c0, c1, c2, c3, c4, c5] 62) (hg : Ext w W) (hX : X = .error no)
    (hz : tmps[2]? = some (.pointer (some ⟨w.heap.size, 0, none⟩))) (he : tmps[3]? = some (.int .i64 no)) :
    bodyPost Try.prog Try.f29 (RGetOut X w) .ret { tmps := tmps, defers := [] }
      ((((((W.setCell ⟨w.heap.size, 0, none⟩ (.int .u64 0)).setCell ⟨w.heap.size, 1, none⟩ (.int .i64 0)).setCell ⟨w.heap.size, 2, none⟩ (.int .u64 0)).setCell ⟨w.heap.size, 3, none⟩ (.int .u64 0)).setCell ⟨w.heap.size, 4, none⟩ (.slice none 0 0)).setCell ⟨w.heap.size, 5, none⟩ (.slice none 0 0)) := by
  subst hX
  refine rget_ret _ _ _ _ _ _ 0 0 0 0 no none none 0 0 0 0 w W tmps _ hr hz he fun F hF => ?_
  subst hF
  exact ⟨ext_six hg _ _ _ _ _ _, _, no, ⟨0, 0, 0, 0, [], []⟩, rfl, ⟨⟨_, _, rfl, Rd.nil _, Rd.nil _⟩, EntNew.nil _ _ _ _ _⟩, rfl, rfl⟩

set_option maxHeartbeats 2000000 in
theorem rget_c (v : Value) (bs : List Int) (w : World) (hR : Rd w v (u8s bs)) (hb8 : B8 bs) (hl : bs.length ≤ 140737488355000) : Calls Try.prog 29 #[v] w (RGetOut (getB bs) w) := by
  obtain ⟨X, hX⟩ : ∃ X, X = getB bs := ⟨_, rfl⟩
  rw [← hX]
  obtain ⟨av, nv, cv, rfl⟩ := Rd.shape hR
  have hoff : Off (.slice av nv cv) (u8s bs) (some (w.heap.size + 1)) := hR.off_new (fun k hk => by cases hk; omega)
  have hE0 : Ext w ((w.alloc (.cells #[.int .u64 0, .int .i64 0, .int .u64 0, .int .u64 0, .slice none 0 0, .slice none 0 0] 62)).alloc (.cells #[.slice av nv cv, .int .i64 0, .int .i64 0] 56)) := (Ext.alloc _ _).trans (Ext.alloc _ _)
  have hr0 : RR ((w.alloc (.cells #[.int .u64 0, .int .i64 0, .int .u64 0, .int .u64 0, .slice none 0 0, .slice none 0 0] 62)).alloc (.cells #[.slice av nv cv, .int .i64 0, .int .i64 0] 56)) (w.heap.size + 1) (.slice av nv cv) bs 0 0 := by
    refine ⟨?_, hR.ext hE0, Nat.zero_le _, hoff⟩
    have := Blk.new (w.alloc (.cells #[.int .u64 0, .int .i64 0, .int .u64 0, .int .u64 0, .slice none 0 0, .slice none 0 0] 62)) #[.slice av nv cv, .int .i64 0, .int .i64 0] 56
    simpa using this
  have HX := Lib.hid hX; have HR := Lib.hid hR; have HR0 := Lib.hid hr0; have HE0 := Lib.hid hE0
  clear hX hR hoff hr0 hE0
  go_enter Try.func29, Try.ntmps29
  go_wp2_with fail
  refine (read_c (w.heap.size + 1) _ bs 0 _ hb8 hl HR0.out).mono ?_
  rintro en w1 ⟨hg, hm⟩
  rw [List.drop_zero] at hm
  have hres : Blk w1 w.heap.size #[.int .u64 0, .int .i64 0, .int .u64 0, .int .u64 0, .slice none 0 0, .slice none 0 0] 62 := ((Blk.new w _ _).alloc _).grown hg (by simp)
  have hE1 : Ext w w1 := Below.grown HE0.out hg HE0.out.size fun k hk => by cases hk; omega
  have hsz := hg.size
  simp at hsz
  have HRES := Lib.hid hres; have HE1 := Lib.hid hE1
  clear hg hres hE1
  rcases hY : rdEnt bs with no | ⟨x, r⟩
  · rw [hY] at hm
    obtain ⟨z, rfl, dv, mv, rfl, hd, hmm⟩ := hm
    have HX' : Hid (X = .error no) := Lib.hid (by rw [HX.out]; simp [getB, hY])
    obtain ⟨a4, n4, c4, rfl⟩ := Rd.shape hd
    obtain ⟨a5, n5, c5, rfl⟩ := Rd.shape hmm
    have hne : (no == 0) = false := by have := rdEnt_err hY; simpa using this
    have hne' : (no != 0) = true := by have := rdEnt_err hY; simpa using this
    clear hY hd hmm
    have hA := HRES.out.alloc (.cells #[.int .u64 0, .int .i64 0, .int .u64 0, .int .u64 0, .slice a4 n4 c4, .slice a5 n5 c5] 62)
    obtain ⟨x0, x1, x2, x3, x4, x5⟩ := hA.six
    obtain ⟨f0, f1, f2, f3, f4, f5⟩ := hA.six_free
    have HA := Lib.hid hA; clear hA
    go_wp2_with fail
    exact rget_err no w _ _ X HA.out (HE1.out.trans (Ext.alloc _ _)) HX'.out rfl rfl
  · rw [hY] at hm
    obtain ⟨z, a2, rfl, ⟨⟨dv, mv, rfl, hd, hmm⟩, hnew⟩, hr1, rfl⟩ := hm
    obtain ⟨t, k, cl, sq, d, ms⟩ := x
    obtain ⟨a4, n4, c4, rfl⟩ := Rd.shape hd
    obtain ⟨a5, n5, c5, rfl⟩ := Rd.shape hmm
    have hX1 := HX.out
    simp only [getB, hY] at hX1
    have HX1 := Lib.hid hX1
    obtain ⟨_, _, _, _, _, _, hagg, hn4, hn5⟩ := hnew
    cases hagg
    have HD := Lib.hid hd; have HM := Lib.hid hmm; have HR1 := Lib.hid hr1; have HN4 := Lib.hid hn4; have HN5 := Lib.hid hn5
    clear hX1 hY hd hmm hr1 hn4 hn5
    go_wp2_with fail
    generalize hV : w1.alloc (.cells #[.int .u64 t, .int .i64 k, .int .u64 cl, .int .u64 sq, .slice a4 n4 c4, .slice a5 n5 c5] 62) = W at *
    have hEW : Ext w1 W := by rw [← hV]; exact Ext.alloc _ _
    have hBW : Blk W w1.heap.size #[.int .u64 t, .int .i64 k, .int .u64 cl, .int .u64 sq, .slice a4 n4 c4, .slice a5 n5 c5] 62 := by rw [← hV]; exact Blk.new _ _ _
    have hrW : RR W (w.heap.size + 1) (.slice av nv cv) bs a2 0 := HR1.out.ext9 (Ext.grownBy hEW none)
    have HRW := Lib.hid hrW
    have HEW := Lib.hid hEW
    clear hV hrW hEW
    refine (rend_c (w.heap.size + 1) _ bs a2 0 W HRW.out).mono ?_
    rintro en w2 ⟨rfl, hg⟩
    have hE2 : Ext w w2 := Below.grown (HE1.out.trans HEW.out) hg (HE1.out.trans HEW.out).size fun k hk => by cases hk; omega
    have hres := (HRES.out.ext HEW.out).grown hg (by simp)
    have hbw := hBW.grown hg (by simp; omega)
    obtain ⟨x0, x1, x2, x3, x4, x5⟩ := hres.six
    obtain ⟨f0, f1, f2, f3, f4, f5⟩ := hres.six_free
    obtain ⟨y0, y1, y2, y3, y4, y5⟩ := hbw.six
    have HE2 := Lib.hid hE2
    have HRES2 := Lib.hid hres
    have HG := Lib.hid hg
    clear hE2 hres hbw hBW hg
    by_cases hr : bs.drop a2 = []
    · rw [if_neg (by simp [hr])]
      have HX2 : Hid (X = .ok ⟨t, k, cl, sq, d, ms⟩) := Lib.hid (by rw [HX1.out, if_pos hr])
      clear hr
      go_wp2_with fail
      refine rget_ret _ _ _ _ _ _ t k cl sq 0 a4 a5 n4 c4 n5 c5 w w2 _ _ HRES2.out rfl rfl fun F hF => ?_
      subst hF
      have n4 := HN4.out
      have n5 := HN5.out
      simp only [heap_size_alloc2] at n4 n5
      have q : ∀ {W' : World} {a : Option Addr} {n c : Nat} {cs : List Value} (j : Nat) (u : Value), (∀ p m c', Value.slice a n c = .slice (some p) m c' → w.heap.size + 2 ≤ p.block) → Rd W' (.slice a n c) cs → Rd (W'.setCell ⟨w.heap.size, j, none⟩ u) (.slice a n c) cs := fun j u hn h => h.grown (grown_set _ _ j u) fun p m c' hv _ e => by have := hn p m c' hv; have := Option.some.inj e; omega
      have hd2 := (HD.out.ext HEW.out).grown HG.out (fun p m c' hv _ e => by have := n4 p m c' hv; have := Option.some.inj e; omega)
      have hm2 := (HM.out.ext HEW.out).grown HG.out (fun p m c' hv _ e => by have := n5 p m c' hv; have := Option.some.inj e; omega)
      rw [HX2.out]
      exact ⟨ext_six HE2.out _ _ _ _ _ _, _, 0, ⟨t, k, cl, sq, d, ms⟩, rfl, ⟨⟨_, _, rfl, q _ _ n4 (q _ _ n4 (q _ _ n4 (q _ _ n4 (q _ _ n4 (q _ _ n4 hd2))))), q _ _ n5 (q _ _ n5 (q _ _ n5 (q _ _ n5 (q _ _ n5 (q _ _ n5 hm2)))))⟩, _, _, _, _, _, _, rfl, fun a n c h => Nat.le_trans (by omega) (n4 a n c h), fun a n c h => Nat.le_trans (by omega) (n5 a n c h)⟩, rfl, rfl⟩
    · rw [if_pos (by simp [hr])]
      have HX2 : Hid (X = .error 5) := Lib.hid (by rw [HX1.out, if_neg hr])
      clear hr
      go_wp2_with fail
      exact rget_err 5 w _ _ X HRES2.out HE2.out HX2.out rfl rfl
end Go.Proofs.Ytnhfjoelfnmgaaa

/- msg.reader: entries. -/
namespace Go.Proofs.Ytnhfjoelfnmgaaa
open Go Go.RowKit

def rdEntsGo : Nat → List Ent → List Int → Except Int (List Ent × List Int)
  | 0, acc, bs => .ok (acc, bs)
  | n + 1, acc, bs => match rdRaw 128 bs with
    | .error e => .error e
    | .ok (d, r) => match getB d with
      | .error e => .error e
      | .ok x => rdEntsGo n (acc ++ [x]) r
def rdEnts (bs : List Int) : Except Int (List Ent × List Int) :=
  match rdNum bs with
  | .error e => .error e
  | .ok (n, r) => if 4 < n then .error 4 else rdEntsGo n.toNat [] r
theorem infoEnt : (Try.prog.info? 62).map (fun i => (i.zero, i.size, i.bytes)) = some (some (.agg #[.int .u64 0, .int .i64 0, .int .u64 0, .int .u64 0, .slice none 0 0, .slice none 0 0]), 6, 80) := by kernel_rfl

theorem getB_err {bs : List Int} {e : Int} (h : getB bs = .error e) : e ≠ 0 := by
  simp only [getB] at h
  split at h
  · rename_i heq; cases h; exact rdEnt_err heq
  · split at h
    · cases h
    · cases h; decide
/-- The new element's cells. -/
def NewE (B : Nat) (E : TypeId) (cs : Array Value) (v : Value) (w : World) : Prop := ∃ g, v = .slice (some ⟨g, 0, none⟩) 1 1 ∧ B ≤ g ∧ Blk w g cs E
def OwnE (w0 B : Nat) (E : TypeId) (o : Option Nat) (n : Nat) (cs : List Value) (v : Value) (w : World) : Prop := w.ownsRow B E 6 v n cs ∧ (v.ownBlock = o ∨ ∃ q, v.ownBlock = some q ∧ w0 ≤ q)
theorem newE_chg {S : List Nat} {B : Nat} {E : TypeId} {cs : Array Value} {v : Value} {w w' : World} (h : NewE B E cs v w) (hg : Chg S w w') (hS : ∀ t ∈ S, t < B) : NewE B E cs v w' := by
  obtain ⟨g, hv, hb, hB⟩ := h
  exact ⟨g, hv, hb, hB.chg hg fun hm => by have := hS _ hm; omega⟩
theorem ownE_ext {w0 B : Nat} {E : TypeId} {o : Option Nat} {n : Nat} {cs : List Value} {v : Value} {w w' : World} (h : OwnE w0 B E o n cs v w) (hE : Ext w w') : OwnE w0 B E o n cs v w' := ⟨own_ext h.1 hE, h.2⟩

set_option maxHeartbeats 8000000 in
theorem rentsM (b mb j : Nat) (T : TypeId) (cs : Array Value) (bs : List Int) (w : World) (hb8 : B8 bs) (hl : bs.length ≤ 140737488355328) (hr : Rdr w b bs 0) (hm : Blk w mb cs T) (hj : cs[j]? = some (.slice none 0 0)) (hne : mb ≠ b) (hnu : ∀ c ∈ cs, ∀ y, c ≠ .int .u8 y) :
    Calls Try.prog 71 #[.agg #[ptr b], .pointer (some ⟨mb, j, none⟩)] w (RM b mb j T cs (fun xs v w' => EntsV w' w.heap.size v xs) (rdEnts bs) w) := by
  obtain ⟨X, hX⟩ : ∃ X, X = rdEnts bs := ⟨_, rfl⟩
  rw [← hX]
  have hltb := rdr_lt hr
  have hltm := hm.lt
  have hjs : j < cs.size := (Array.getElem?_eq_some_iff.1 hj).1
  have hE0 := Ext.alloc w (.cells #[ptr b] 50)
  have hX0 : Blk (w.alloc (.cells #[ptr b] 50)) w.heap.size #[ptr b] 50 := Blk.new _ _ _
  have HX := Lib.hid hX; have HR := Lib.hid hr; have HM := Lib.hid hm; have HJ := Lib.hid hj; have HE0 := Lib.hid hE0; have HX0 := Lib.hid hX0
  clear hX hr hm hj hE0 hX0
  go_enter Try.func71, Try.ntmps71
  go_wp2_with fail
  refine (num_m b bs 0 _ hb8 (HR.out.ext HE0.out)).mono ?_
  rintro en w1 ⟨hg, hm⟩
  simp only [stuck?, if_true] at hm
  have hC1 : Chg [b, mb] w w1 := (Chg.ext HE0.out).trans (Chg.some hg (.inl (by simp)))
  have hM1 : Blk w1 mb cs T := (HM.out.ext HE0.out).grown hg (by intro e; exact hne (Option.some.inj e))
  have hX1' : Blk w1 w.heap.size #[ptr b] 50 := HX0.out.grown hg (by intro e; have := Option.some.inj e; omega)
  have HC1 := Lib.hid hC1; have HM1 := Lib.hid hM1; have HBX := Lib.hid hX1'
  clear hg hC1 hM1 hX1'
  cases hY : rdNum bs with
  | error no =>
    rw [hY] at hm
    obtain ⟨rfl, _⟩ := hm
    have HX1 : Hid (X = .error no) := Lib.hid (by rw [HX.out]; simp [rdEnts, hY])
    have hn0 : ¬ no = 0 := rdNum_err hY
    clear hY
    go_wp2_with fail
    refine (mmust_c no w1).mono ?_
    rintro en w2 ⟨rfl, he⟩
    rw [if_neg hn0] at he
    subst he
    refine ⟨rfl, HC1.out, ?_⟩
    rw [HX1.out]
    exact ⟨rfl, cs, HM1.out, rfl⟩
  | ok y =>
    obtain ⟨n, r⟩ := y
    rw [hY] at hm
    obtain ⟨_, rfl, rfl, hr1⟩ := hm
    obtain ⟨h8, ⟨hu0, hu1⟩, hlr⟩ := rdNum_b8 hb8 hY
    have HY := Lib.hid hY; have HR1 := Lib.hid hr1; have H8 := Lib.hid h8
    clear hY hr1 h8
    go_wp2_with fail
    refine (mmust_c 0 w1).mono ?_
    rintro en w2 ⟨rfl, he⟩
    rw [if_pos rfl] at he
    subst he
    by_cases hin : 4 < n
    · have HX1 : Hid (X = .error 4) := Lib.hid (by rw [HX.out]; simp [rdEnts, HY.out, hin])
      go_wp2_with fail
      rw [show decide (n ≤ 4) = false from decide_eq_false (by omega)]
      refine (mought_c false 4 w2).mono ?_
      rintro en w3 ⟨rfl, he⟩
      subst he
      refine ⟨rfl, HC1.out, ?_⟩
      rw [HX1.out]
      exact ⟨rfl, cs, HM1.out, rfl⟩
    · have h2 : n ≤ 4 := by omega
      obtain ⟨N, rfl⟩ := Int.eq_ofNat_of_zero_le hu0
      have HX1 : Hid (X = rdEntsGo N [] r) := Lib.hid (by rw [HX.out]; simp [rdEnts, HY.out, hin])
      clear hin
      go_wp2_with fail
      refine (mought_c true 4 w2).mono ?_
      rintro en w3 ⟨rfl, he⟩
      subst he
      have hBb : b < w3.heap.size := rdr_lt HR1.out
      have hBm : mb < w3.heap.size := HM1.out.lt
      have hwB : w.heap.size < w3.heap.size := HBX.out.lt
      have hN7 : N ≤ 4 := by omega
      have hcs0 : cs.setIfInBounds j (.slice none 0 0) = cs := by
        apply Array.ext_getElem?
        intro i
        by_cases hij : j = i
        · subst hij; rw [Array.getElem?_setIfInBounds_self_of_lt hjs, HJ.out]
        · rw [Array.getElem?_setIfInBounds_ne hij]
      have HCS := Lib.hid hcs0
      clear hcs0
      go_wp2_with fail
      go_loopg [21] N (fun g i wr => ∃ (k : Nat) (acc : List Ent) (s : List Int) (mv : Value) (cells : List Value), k + g = N ∧ i = .int .u64 (k : Int) ∧ Chg [b, mb] w wr ∧ Rdr wr b s 0 ∧ Blk wr w.heap.size #[ptr b] 50 ∧ Blk wr mb (cs.setIfInBounds j mv) T ∧ wr.ownsRow w3.heap.size 62 6 mv acc.length cells ∧ ECs wr w3.heap.size mv.ownBlock acc cells ∧ acc.length = k ∧ w3.heap.size ≤ wr.heap.size ∧ B8 s ∧ s.length ≤ 140737488355328 ∧ rdEntsGo (N - k) acc s = X)
      case atStart => exact ⟨0, [], r, .slice none 0 0, [], by omega, rfl, HC1.out, HR1.out, HBX.out, by rw [HCS.out]; exact HM1.out, World.ownsRow_nil _ _ _ _, rfl, rfl, Nat.le_refl _, H8.out, by omega, HX1.out.symm⟩
      case round =>
        obtain ⟨k, acc, s, mv, cells, hk, rfl, hC, hR, hBX, hM, ho, hec, hlen, hsz, h8, hls, hd⟩ := hrel
        have HC := Lib.hid hC; have HRR := Lib.hid hR; have HBXX := Lib.hid hBX; have HMM := Lib.hid hM; have HO := Lib.hid ho; have H88 := Lib.hid h8; have HD := Lib.hid hd; have HEC := Lib.hid hec
        have cx := hBX.cell 0 rfl
        clear hC hR hBX hM ho h8 hd hec
        by_cases hlt : k < N
        · obtain ⟨M, hM⟩ : ∃ M, N - k = M + 1 := ⟨N - k - 1, by omega⟩
          go_wp2_with fail
          refine (raw_m b s 0 128 wr H88.out hls (by omega) HRR.out).mono ?_
          rintro en w4 ⟨hg4, hm4⟩
          simp only [stuck?, if_true] at hm4
          have hown : ∀ q, mv.ownBlock = some q → w3.heap.size ≤ q := own_block HO.out
          have HC4 := Lib.hid (HC.out.trans (Chg.some hg4 (.inl (by simp))))
          have HM4 := Lib.hid (HMM.out.grown hg4 (by intro e; exact hne (Option.some.inj e)))
          have HBX4 := Lib.hid (HBXX.out.grown hg4 (by intro e; have := Option.some.inj e; omega))
          have HO4 := Lib.hid (own_growR HO.out hg4 hBb)
          have HEC4 := Lib.hid (HEC.out.chg (Chg.grown hg4) (by intro t ht; simp at ht; subst ht; exact .inl hBb))
          have hsz4 : w3.heap.size ≤ w4.heap.size := Nat.le_trans hsz hg4.size
          clear hg4 cx
          cases hY4 : rdRaw 128 s with
          | error no =>
            rw [hY4] at hm4
            obtain ⟨rfl, _⟩ := hm4
            have HX2 : Hid (X = .error no) := Lib.hid (by rw [← HD.out, hM]; simp [rdEntsGo, hY4])
            have hn0 : ¬ no = 0 := rdRaw_err hY4
            clear hY4
            go_wp2_with fail
            refine (mmust_c no w4).mono ?_
            rintro en w5 ⟨rfl, he⟩
            rw [if_neg hn0] at he
            subst he
            refine ⟨rfl, HC4.out, ?_⟩
            rw [HX2.out]
            exact ⟨rfl, _, HM4.out, by simp⟩
          | ok y4 =>
            obtain ⟨d, s4⟩ := y4
            rw [hY4] at hm4
            obtain ⟨dv, rfl, hdv, hr4⟩ := hm4
            obtain ⟨h84, h8d, hl4, hld⟩ := rdRaw_b8 H88.out hY4
            obtain ⟨da, dn, dc, rfl⟩ := Rd.shape hdv.1
            have HDV := Lib.hid hdv
            have HR4 := Lib.hid hr4; have H84 := Lib.hid h84; have H8D := Lib.hid h8d; have HY4 := Lib.hid hY4
            clear hY4 hr4 h84 h8d hdv
            go_wp2_with fail
            refine (mmust_c 0 w4).mono ?_
            rintro en w5 ⟨rfl, he⟩
            rw [if_pos rfl] at he
            subst he
            go_wp2_with fail
            refine (get_c _ d w5 HDV.out.1 H8D.out (by omega)).mono ?_
            rintro en w6 ⟨hE6, xv, xe, x, rfl, ⟨hxv, hxn⟩, hxo⟩
            have HC6 := Lib.hid (HC4.out.trans (Chg.ext hE6)); have HM6 := Lib.hid (HM4.out.ext hE6); have HBX6 := Lib.hid (HBX4.out.ext hE6); have HO6 := Lib.hid (own_ext HO4.out hE6); have HR6 := Lib.hid (HR4.out.ext hE6)
            have HEC6 := Lib.hid (HEC4.out.chg (S := []) (Chg.ext hE6) (by simp))
            have hsz6 : w3.heap.size ≤ w6.heap.size := Nat.le_trans hsz4 hE6.size
            have h56 := hE6.size
            clear hE6
            obtain ⟨a4, n4, c4, a5, n5, c5, rfl⟩ := hxv.shape
            obtain ⟨dv', mv', hag, hxd, hxm⟩ := hxv
            obtain ⟨_, _, _, _, dv'', mv'', hag2, hfd, hfm⟩ := hxn
            cases hag; cases hag2
            have HXD := Lib.hid hxd; have HXM := Lib.hid hxm; have HFD : Hid (From w5.heap.size (.slice a4 n4 c4)) := Lib.hid hfd; have HFM : Hid (From w5.heap.size (.slice a5 n5 c5)) := Lib.hid hfm
            clear hxd hxm hfd hfm
            go_upto_region 9 with fail
            have HX7 := Lib.hid (Blk.new w6 #[.int .u64 x.term, .int .i64 x.kind, .int .u64 x.client, .int .u64 x.seq, .slice a4 n4 c4, .slice a5 n5 c5] 62)
            have hE7 := Ext.alloc w6 (.cells #[.int .u64 x.term, .int .i64 x.kind, .int .u64 x.client, .int .u64 x.seq, .slice a4 n4 c4, .slice a5 n5 c5] 62)
            generalize w6.alloc (.cells #[.int .u64 x.term, .int .i64 x.kind, .int .u64 x.client, .int .u64 x.seq, .slice a4 n4 c4, .slice a5 n5 c5] 62) = w7 at *
            have HC7 := Lib.hid (HC6.out.trans (Chg.ext hE7)); have HM7 := Lib.hid (HM6.out.ext hE7); have HBX7 := Lib.hid (HBX6.out.ext hE7); have HO7 := Lib.hid (own_ext HO6.out hE7); have HR7 := Lib.hid (HR6.out.ext hE7)
            have HEC7 := Lib.hid (HEC6.out.chg (S := []) (Chg.ext hE7) (by simp))
            have HXD7 := Lib.hid (HXD.out.ext hE7); have HXM7 := Lib.hid (HXM.out.ext hE7)
            have hsz7 : w3.heap.size ≤ w7.heap.size := Nat.le_trans hsz6 hE7.size
            have h67 := hE7.size
            clear hE7
            cases hZ : getB d with
            | error no =>
              rw [hZ] at hxo
              obtain ⟨rfl, _⟩ := hxo
              have HX2 : Hid (X = .error xe) := Lib.hid (by rw [← HD.out, hM]; simp [rdEntsGo, HY4.out, hZ])
              have hn0 : ¬ xe = 0 := getB_err hZ
              clear hZ
              go_wp2_with fail
              refine (mmust_c xe w7).mono ?_
              rintro en w8 ⟨rfl, he⟩
              rw [if_neg hn0] at he
              subst he
              refine ⟨rfl, HC7.out, ?_⟩
              rw [HX2.out]
              exact ⟨rfl, _, HM7.out, by simp⟩
            | ok x' =>
              rw [hZ] at hxo
              obtain ⟨rfl, rfl⟩ := hxo
              have HX2 : Hid (rdEntsGo (N - (k + 1)) (acc ++ [x]) s4 = X) := Lib.hid (by rw [← HD.out, hM, show N - (k + 1) = M by omega]; simp [rdEntsGo, HY4.out, hZ])
              clear hZ
              go_wp2_with fail
              refine (mmust_c 0 w7).mono ?_
              rintro en w8 ⟨rfl, he⟩
              rw [if_pos rfl] at he
              subst he
              obtain ⟨ei, eh, ez, es, eb⟩ := info_parts infoEnt
              obtain ⟨ma, mn, mc, rfl⟩ := own_shape HO7.out
              obtain ⟨rowb, hrowb⟩ : ∃ o, o = (Value.slice ma mn mc).ownBlock := ⟨_, rfl⟩
              have hown2 : ∀ t ∈ rowb.toList, w3.heap.size ≤ t := by
                intro t ht
                rw [hrowb] at ht
                cases hmv : (Value.slice ma mn mc).ownBlock with
                | none => rw [hmv] at ht; cases ht
                | some q => rw [hmv] at ht; simp at ht; subst ht; exact hown _ hmv
              have hown3 : ∀ t ∈ rowb.toList, t < w5.heap.size := by
                intro t ht
                rw [hrowb] at ht
                cases hmv : (Value.slice ma mn mc).ownBlock with
                | none => rw [hmv] at ht; cases ht
                | some q => rw [hmv] at ht; simp at ht; subst ht; exact (HO4.out.lt _ hmv).2
              have HROW := Lib.hid hrowb
              have h85 : w5.heap.size ≤ w8.heap.size := Nat.le_trans h56 h67
              have hn1 : ∀ q, q < w3.heap.size → q ∉ rowb.toList := fun q hq hm => by have := hown2 _ hm; omega
              have hn2 : w6.heap.size ∉ rowb.toList := fun hm => by have := hown3 _ hm; omega
              clear hrowb
              go_upto_region 10 with fail
              apply Mono.region2 7 6 Ext (Chg rowb.toList) [.is _, .is _, .is _, .is _, .is _, .rel (NewE w8.heap.size 62 #[.int .u64 x.term, .int .i64 x.kind, .int .u64 x.client, .int .u64 x.seq, .slice a4 n4 c4, .slice a5 n5 c5]), .rel (OwnE w8.heap.size w3.heap.size 62 rowb (acc.length + 1) (cells ++ eCells x (.slice a4 n4 c4) (.slice a5 n5 c5)))] (by kernel_rfl) ⟨fun _ _ h => Chg.ext h, fun _ _ _ => Ext.trans, fun _ _ _ => Chg.trans⟩ (Ext.refl _) (by kernel_rfl) rfl rfl ⟨fun v wa wb hv hE => newE_chg hv hE (fun t ht => Nat.lt_of_lt_of_le (hown3 t ht) h85), fun v wa wb hv hE => ownE_ext hv hE, trivial⟩
              focus
                iterate 5 (apply Mono.step_is; (· refine Mono.obl_quiet (by decide) fun w9 hE9 _ K hK => ?_; (have cm := (HM7.out.drew.chg hE9 (hn1 _ hBm)).cell j (u := .slice ma mn mc) (by simp [hjs])); (obtain ⟨c0, c1, c2, c3, c4', c5'⟩ := (HX7.out.drew.chg hE9 hn2).six); go_wp2_with fail; simp only [Act.put, List.setIfInBounds_toArray, List.set_cons_succ, List.set_cons_zero] at hK; exact hK _ _ (Ext.refl _) (Mono.is_rfl _ _)); simp only [Act.put, List.setIfInBounds_toArray, List.set_cons_succ, List.set_cons_zero])
                refine Mono.step_rel (Mono.obl_quiet (by decide) fun w9 hE9 _ K hK => ?_) fun v43 => ?_
                · go_wp2_with fail
                  simp only [Act.put, List.setIfInBounds_toArray, List.set_cons_succ, List.set_cons_zero] at hK
                  exact hK _ _ (Ext.alloc _ _) (Mono.rel_mk ⟨_, rfl, hE9.size, Blk.new _ _ _⟩)
                simp only [Act.put, List.setIfInBounds_toArray, List.set_cons_succ, List.set_cons_zero]
                refine Mono.step_rel (Mono.obl_loud fun w9 hE9 hkn K hK => ?_) fun v44 => ?_
                · obtain ⟨g5, rfl, hg5, hb5⟩ := hkn.1 (by kernel_rfl)
                  refine wpList_append_own_at w9 rfl (.tmp 41) (.tmp 43) _ rfl w3.heap.size 62 ei _ 6 80 Try.underlying25 eh ez es eb rfl (by decide) (.slice ma mn mc) acc.length cells rfl (own_ext HO7.out.drew hE9) ⟨g5, 0, none⟩ 1 1 (eCells x (.slice a4 n4 c4) (.slice a5 n5 c5)) rfl rfl (fun i u hi => by rw [Addr.add_lit, Nat.zero_add]; exact hb5.cell i (by simpa [eCells] using hi)) (by intro u hu; simp [eCells] at hu; rcases hu with rfl | rfl | rfl | rfl | rfl | rfl <;> rfl) (by unfold maxLen; omega) (by omega) (Nat.le_trans hsz7 hE9.size) fun v' w' g1 g2 _ g4 => ?_
                  simp only [Act.put, List.setIfInBounds_toArray, List.set_cons_succ, List.set_cons_zero] at hK
                  rw [← HROW.out] at g2 g4
                  exact hK _ _ (Chg.grown g2) (Mono.rel_mk ⟨g1, g4.imp id fun h => ⟨_, h, hE9.size⟩⟩)
                simp only [Act.put, List.setIfInBounds_toArray, List.set_cons_succ, List.set_cons_zero]
                refine Mono.step_end fun w9 hE9 hkn => ?_
                obtain ⟨_, ⟨ho9, hq9⟩, _⟩ := hkn
                simp only [List.drop_succ_cons, List.drop_zero]
                replace hE9 : Chg rowb.toList w8 w9 := Chg.drew.trans hE9
                have hx8 : LV w8 w3.heap.size rowb (.slice a4 n4 c4) (u8s x.data) := ⟨HXD7.out, HFD.out.mono hsz4, HFD.out.off hown3⟩
                have hm8 : LV w8 w3.heap.size rowb (.slice a5 n5 c5) (u64s x.members) := ⟨HXM7.out, HFM.out.mono hsz4, HFM.out.off hown3⟩
                have hec8 := HEC7.out
                rw [← HROW.out] at hec8
                have hec9 := (hec8.push hx8 hm8).step hE9 hq9
                have hR9 := HR7.out.chg hE9 (hn1 _ hBb) (fun v _ hF a n c hv _ hm => by have := hF a n c hv; have := hown2 _ hm; omega)
                have hM9 := HM7.out.chg hE9 (hn1 _ hBm)
                have hBX9 := HBX7.out.chg hE9 (hn1 _ hwB)
                have hC9 : Chg [b, mb] w w9 := HC7.out.trans' hE9 fun t ht => .inr (by have := hown2 _ ht; omega)
                have hs9 : w3.heap.size ≤ w9.heap.size := Nat.le_trans hsz7 hE9.size
                obtain ⟨a9, n9, c9, rfl⟩ := own_shape ho9
                have cm := hM9.cell j (u := .slice ma mn mc) (by simp [hjs])
                have fm := hM9.free j
                have hM10 := hM9.set j (.slice a9 n9 c9)
                rw [set_set] at hM10
                have hR10 := hR9.setM hM9 (nu_set hnu j (by intro y e; cases e)) hne j (.slice a9 n9 c9)
                have hC10 := hC9.setNew mb j (.slice a9 n9 c9) (.inl (by simp))
                have hg10 : Chg [mb] w9 (w9.setCell ⟨mb, j, none⟩ (.slice a9 n9 c9)) := Chg.set mb j _ (by simp)
                have ho10 := own_chg ho9 hg10 (by intro t ht; simp at ht; subst ht; exact .inl hBm)
                have hec10 := hec9.chg hg10 (by intro t ht; simp at ht; subst ht; exact .inl hBm)
                have hBX10 := hBX9.other ⟨mb, j, none⟩ (.slice a9 n9 c9) (by simp; omega)
                have hs10 : w3.heap.size ≤ (w9.setCell ⟨mb, j, none⟩ (.slice a9 n9 c9)).heap.size := by simpa [World.setCell] using hs9
                have HM10 := Lib.hid hM10; have HR10 := Lib.hid hR10; have HC10 := Lib.hid hC10; have HO10 := Lib.hid ho10; have HEC10 := Lib.hid hec10; have HBX10 := Lib.hid hBX10; have HS10 := Lib.hid hs10
                clear hM10 hR10 hC10 ho10 hec10 hBX10 hs10 hec9 hec8 hM9 hBX9 hR9 hC9 hx8 hm8 hE9 hg10 ho9 hq9
                go_wp2_with fail
                go_roundg M
                case rel => exact ⟨k + 1, acc ++ [x], s4, _, _, by omega, rfl, HC10.out, HR10.out, HBX10.out, HM10.out, by simpa using HO10.out, HEC10.out, by simp [hlen], HS10.out, H84.out, by omega, HX2.out⟩
                case measure => omega
        · have hkN : k = N := by omega
          have HX2 : Hid (X = .ok (acc, s)) := Lib.hid (by rw [← HD.out, hkN]; simp [rdEntsGo])
          go_wp2_with fail
          go_end0
          refine ⟨HC.out, ?_⟩
          rw [HX2.out]
          exact ⟨rfl, HRR.out, mv, EntsV.low (EntsV.own HO.out (Nat.le_refl _) HEC.out) (Nat.le_of_lt hwB), HMM.out⟩
end Go.Proofs.Ytnhfjoelfnmgaaa

/- Plain words for messages. No program. -/
namespace Go.Proofs.Ytnhfjoelfnmgaaa
open Go Go.RowKit

structure Msg where
  kind : Int
  src : Int
  dst : Int
  term : Int
  index : Int
  logTerm : Int
  commit : Int
  stamp : Int
  yes : Bool
  entries : List Ent
  members : List Int
  image : List Int

def maxT : Int := 4611686018427387904
def maxU : Int := 18446744073709551615
/-- What is read behind the kind. -/
def rdBody (k : Int) (bs : List Int) : Except Int (Msg × List Int) :=
  match rdRng 1 7 bs with
  | .error e => .error e
  | .ok (f, r) => match rdRng 1 7 r with
  | .error e => .error e
  | .ok (t, r) => match rdRng 1 4611686018427387904 r with
  | .error e => .error e
  | .ok (m, r) =>
    if k = 1 then match rdRng 0 4611686018427387904 r with
      | .error e => .error e
      | .ok (i, r) => match rdRng 0 4611686018427387904 r with
      | .error e => .error e
      | .ok (l, r) => .ok (⟨k, f, t, m, i, l, 0, 0, false, [], [], []⟩, r)
    else if k = 2 then match rdYes r with
      | .error e => .error e
      | .ok (y, r) => .ok (⟨k, f, t, m, 0, 0, 0, 0, y, [], [], []⟩, r)
    else if k = 3 then match rdRng 0 4611686018427387904 r with
      | .error e => .error e
      | .ok (i, r) => match rdRng 0 4611686018427387904 r with
      | .error e => .error e
      | .ok (l, r) => match rdRng 0 4611686018427387904 r with
      | .error e => .error e
      | .ok (c, r) => match rdRng 0 18446744073709551615 r with
      | .error e => .error e
      | .ok (s, r) => match rdEnts r with
      | .error e => .error e
      | .ok (xs, r) => .ok (⟨k, f, t, m, i, l, c, s, false, xs, [], []⟩, r)
    else if k = 4 then match rdYes r with
      | .error e => .error e
      | .ok (y, r) => match rdRng 0 4611686018427387904 r with
      | .error e => .error e
      | .ok (i, r) => match rdRng 0 18446744073709551615 r with
      | .error e => .error e
      | .ok (s, r) => .ok (⟨k, f, t, m, i, 0, 0, s, y, [], [], []⟩, r)
    else if k = 5 then match rdRng 0 4611686018427387904 r with
      | .error e => .error e
      | .ok (i, r) => match rdRng 0 4611686018427387904 r with
      | .error e => .error e
      | .ok (l, r) => match rdRng 0 18446744073709551615 r with
      | .error e => .error e
      | .ok (s, r) => match idsB r with
      | .error e => .error e
      | .ok (ms, r) => match rdRaw 16384 r with
      | .error e => .error e
      | .ok (d, r) => .ok (⟨k, f, t, m, i, l, 0, s, false, [], ms, d⟩, r)
    else .error 3
/-- The message that bytes are. -/
def getM (bs : List Int) : Except Int Msg :=
  match rdByte bs with
  | .error e => .error e
  | .ok (k, r) => if k < 1 ∨ 5 < k then .error 3 else match rdBody k r with
    | .error e => .error e
    | .ok (m, r) => if r = [] then .ok m else .error 5
def mCells (m : Msg) (ev mv iv : Value) : Array Value :=
  #[.int .i64 m.kind, .int .u64 m.src, .int .u64 m.dst, .int .u64 m.term, .int .u64 m.index, .int .u64 m.logTerm, .int .u64 m.commit, .int .u64 m.stamp, .bool m.yes, ev, mv, iv]
end Go.Proofs.Ytnhfjoelfnmgaaa

/- tabellionref18.taker. -/
namespace Go.Proofs.Ytnhfjoelfnmgaaa
open Go Go.RowKit

def tErr : Except Int (List Int) → Int
  | .error e => e
  | .ok _ => 0
structure TS (w : World) (tb rb : Nat) (v : Value) (full : List Int) (s : Except Int (List Int)) : Prop where
  blk : Blk w tb #[.pointer (some ⟨rb, 0, none⟩), .int .i64 (tErr s)] 58
  ne : tb ≠ rb
  off : Off v (u8s full) (some tb)
  lt : rb < w.heap.size
  st : match s with
    | .error no => no ≠ 0
    | .ok r => ∃ a, RR w rb v full a 0 ∧ r = full.drop a
def nextS {α : Type} (s : Except Int (List Int)) (f : List Int → Except Int (α × List Int)) : Except Int (List Int) :=
  match s with
  | .error e => .error e
  | .ok r => match f r with
    | .error e => .error e
    | .ok (_, r') => .ok r'
def TOut {α : Type} (tb rb : Nat) (v : Value) (full : List Int) (s : Except Int (List Int)) (f : List Int → Except Int (α × List Int)) (V : Value → Prop) (val : α → Value) (w : World) (en : Ending) (w' : World) : Prop :=
  ∃ n, en = .returned n ∧ Chg [tb, rb] w w' ∧ TS w' tb rb v full (nextS s f) ∧ V n ∧ ∀ r y r', s = .ok r → f r = .ok (y, r') → n = val y
theorem TS.ext {w w' : World} {tb rb : Nat} {v : Value} {full : List Int} {s : Except Int (List Int)} (h : TS w tb rb v full s) (hE : Ext w w') : TS w' tb rb v full s := by
  refine ⟨h.blk.ext hE, h.ne, h.off, Nat.lt_of_lt_of_le h.lt hE.size, ?_⟩
  have := h.st
  cases s with
  | error no => exact this
  | ok r => obtain ⟨a, hr, e⟩ := this; exact ⟨a, ⟨hr.blk.ext hE, hr.rd.ext hE, hr.le, hr.off⟩, e⟩
/-- What a reading call of the reader leaves, and the taker's error set behind it. -/
theorem TS.put {w w1 : World} {tb rb : Nat} {v : Value} {full : List Int} {s s' : Except Int (List Int)} (h : TS w tb rb v full s) (hg : w.grownBy w1 (some rb)) (e : Int) (he : e = tErr s')
    (hs : match s' with | .error no => no ≠ 0 | .ok r => ∃ a, RR w1 rb v full a 0 ∧ r = full.drop a) : TS (w1.setCell ⟨tb, 1, none⟩ (.int .i64 e)) tb rb v full s' := by
  subst he
  have hb := (h.blk.grown hg (by intro e; exact h.ne (Option.some.inj e))).set 1 (.int .i64 (tErr s'))
  simp only [List.setIfInBounds_toArray, List.set_cons_succ, List.set_cons_zero] at hb
  refine ⟨hb, h.ne, h.off, by have := h.lt; have := hg.size; simp [World.setCell]; omega, ?_⟩
  cases s' with
  | error no => exact hs
  | ok r =>
    obtain ⟨a, hr, e⟩ := hs
    exact ⟨a, hr.grownR (grown_set w1 tb 1 _) (by intro e; exact h.ne (Option.some.inj e).symm) h.off, e⟩

set_option maxHeartbeats 2000000 in
theorem tnum_c (tb rb : Nat) (v : Value) (full : List Int) (s : Except Int (List Int)) (lo hi : Int) (w : World) (hb8 : B8 full) (hl : full.length ≤ 140737488355000) (h : TS w tb rb v full s) :
    Calls Try.prog 26 #[ptr tb, .int .u64 lo, .int .u64 hi] w (TOut tb rb v full s (rdRng lo hi) (fun n => ∃ x, n = .int .u64 x ∧ U64 x) (fun y => .int .u64 y) w) := by
  have c0 := h.blk.cell 0 rfl
  have c1 := h.blk.cell 1 rfl
  have H := Lib.hid h
  cases s with
  | error no =>
    have hne : no ≠ 0 := h.st
    have hb : (no != 0) = true := by simpa using hne
    clear h
    simp only [tErr] at c1
    go_enter Try.func26, Try.ntmps26
    go_wp2_with fail
    go_ret
    exact ⟨_, rfl, Chg.refl _ _, H.out, ⟨0, rfl, by unfold U64; omega⟩, fun r y r' hh => by cases hh⟩
  | ok r =>
    obtain ⟨a, hr, rfl⟩ := h.st
    have HR := Lib.hid hr
    clear h hr
    simp only [tErr] at c1
    go_enter Try.func26, Try.ntmps26
    go_wp2_with fail
    refine (rnum_c rb v full a 0 w hb8 (by omega) HR.out).mono ?_
    rintro en w1 ⟨hg, hm⟩
    simp only [stuckR, if_true] at hm
    have hC := Chg.some (S := [tb, rb]) hg (.inl (by simp))
    have d0 := (H.out.blk.grown hg (by intro e; exact H.out.ne (Option.some.inj e))).cell 1 rfl
    have g0 := (H.out.blk.grown hg (by intro e; exact H.out.ne (Option.some.inj e))).free 1
    have HG := Lib.hid hg; have HC := Lib.hid hC
    clear hg hC c0 c1
    have h8d : B8 (full.drop a) := fun x hx => hb8 x (List.mem_of_mem_drop hx)
    cases hY : rdNum (full.drop a) with
    | error no =>
      rw [hY] at hm
      obtain ⟨rfl, _⟩ := hm
      have hne := rdNum_err hY
      have hb : (no == 0) = false := by simpa using hne
      have hrn : rdRng lo hi (full.drop a) = .error no := by simp [rdRng, hY]
      have HN := Lib.hid hrn
      clear hY hrn
      go_wp2_with fail
      go_ret
      refine ⟨_, rfl, HC.out.setNew _ _ _ (.inl (by simp)), ?_, ⟨0, rfl, by unfold U64; omega⟩, fun r y r' h1 h2 => by cases h1; rw [HN.out] at h2; cases h2⟩
      have : nextS (.ok (full.drop a)) (rdRng lo hi) = .error no := by simp [nextS, HN.out]
      rw [this]
      exact H.out.put HG.out no rfl hne
    | ok y =>
      obtain ⟨n, r'⟩ := y
      rw [hY] at hm
      obtain ⟨_, a2, rfl, rfl, hr2, rfl⟩ := hm
      obtain ⟨_, ⟨hu0, hu1⟩, _⟩ := rdNum_b8 h8d hY
      have HR2 := Lib.hid hr2; have HY := Lib.hid hY
      clear hr2 hY
      by_cases hin : n < lo ∨ hi < n
      · have hrn : rdRng lo hi (full.drop a) = .error 3 := by simp [rdRng, HY.out, hin]
        have HN := Lib.hid hrn
        clear hrn
        by_cases h1 : n < lo
        · clear hin
          go_wp2_with fail
          go_ret
          refine ⟨_, rfl, HC.out.setNew _ _ _ (.inl (by simp)), ?_, ⟨n, rfl, hu0, hu1⟩, fun r y r' h1 h2 => by cases h1; rw [HN.out] at h2; cases h2⟩
          have : nextS (.ok (full.drop a)) (rdRng lo hi) = .error 3 := by simp [nextS, HN.out]
          rw [this]
          exact H.out.put HG.out 3 rfl (by show (3 : Int) ≠ 0; decide)
        · have h2 : hi < n := by omega
          clear hin
          go_wp2_with fail
          go_ret
          refine ⟨_, rfl, HC.out.setNew _ _ _ (.inl (by simp)), ?_, ⟨n, rfl, hu0, hu1⟩, fun r y r' h1 h2 => by cases h1; rw [HN.out] at h2; cases h2⟩
          have : nextS (.ok (full.drop a)) (rdRng lo hi) = .error 3 := by simp [nextS, HN.out]
          rw [this]
          exact H.out.put HG.out 3 rfl (by show (3 : Int) ≠ 0; decide)
      · have hrn : rdRng lo hi (full.drop a) = .ok (n, full.drop a2) := by simp [rdRng, HY.out, hin]
        have HN := Lib.hid hrn
        have h1 : ¬ n < lo := by omega
        have h2 : ¬ hi < n := by omega
        clear hin hrn
        go_wp2_with fail
        go_ret
        refine ⟨_, rfl, HC.out.setNew _ _ _ (.inl (by simp)), ?_, ⟨n, rfl, hu0, hu1⟩, fun r y r' h1 h2 => by cases h1; rw [HN.out] at h2; cases h2; rfl⟩
        have : nextS (.ok (full.drop a)) (rdRng lo hi) = .ok (full.drop a2) := by simp [nextS, HN.out]
        rw [this]
        exact H.out.put HG.out 0 rfl ⟨a2, HR2.out, rfl⟩

set_option maxHeartbeats 2000000 in
theorem tyes_c (tb rb : Nat) (v : Value) (full : List Int) (s : Except Int (List Int)) (w : World) (hb8 : B8 full) (hl : full.length ≤ 140737488355000) (h : TS w tb rb v full s) :
    Calls Try.prog 27 #[ptr tb] w (TOut tb rb v full s rdYes (fun n => ∃ x, n = .bool x) (fun y => .bool y) w) := by
  have c0 := h.blk.cell 0 rfl
  have c1 := h.blk.cell 1 rfl
  have H := Lib.hid h
  cases s with
  | error no =>
    have hne : no ≠ 0 := h.st
    have hb : (no != 0) = true := by simpa using hne
    clear h
    simp only [tErr] at c1
    go_enter Try.func27, Try.ntmps27
    go_wp2_with fail
    go_ret
    exact ⟨_, rfl, Chg.refl _ _, H.out, ⟨_, rfl⟩, fun r y r' hh => by cases hh⟩
  | ok r =>
    obtain ⟨a, hr, rfl⟩ := h.st
    have HR := Lib.hid hr
    clear h hr
    simp only [tErr] at c1
    go_enter Try.func27, Try.ntmps27
    go_wp2_with fail
    refine (rbyte_c rb v full a 0 w (by omega) HR.out).mono ?_
    rintro en w1 ⟨hg, hm⟩
    simp only [stuckR, if_true] at hm
    have hC := Chg.some (S := [tb, rb]) hg (.inl (by simp))
    have d0 := (H.out.blk.grown hg (by intro e; exact H.out.ne (Option.some.inj e))).cell 1 rfl
    have g0 := (H.out.blk.grown hg (by intro e; exact H.out.ne (Option.some.inj e))).free 1
    have HG := Lib.hid hg; have HC := Lib.hid hC
    clear hg hC c0 c1
    have h8d : B8 (full.drop a) := fun x hx => hb8 x (List.mem_of_mem_drop hx)
    cases hY : rdByte (full.drop a) with
    | error no =>
      rw [hY] at hm
      obtain ⟨rfl, _⟩ := hm
      have hne := rdByte_err hY
      have hb : (no == 0) = false := by simpa using hne
      have hrn : rdYes (full.drop a) = .error no := by simp [rdYes, hY]
      have HN := Lib.hid hrn
      clear hY hrn
      go_wp2_with fail
      go_ret
      refine ⟨_, rfl, HC.out.setNew _ _ _ (.inl (by simp)), ?_, ⟨_, rfl⟩, fun r y r' h1 h2 => by cases h1; rw [HN.out] at h2; cases h2⟩
      have : nextS (.ok (full.drop a)) rdYes = .error no := by simp [nextS, HN.out]
      rw [this]
      exact H.out.put HG.out no rfl hne
    | ok y =>
      obtain ⟨n, r'⟩ := y
      rw [hY] at hm
      obtain ⟨_, a2, rfl, rfl, hr2, rfl⟩ := hm
      obtain ⟨_, ⟨hu0, hu1⟩, _⟩ := rdByte_b8 h8d hY
      have HR2 := Lib.hid hr2; have HY := Lib.hid hY
      clear hr2 hY
      by_cases hin : 1 < n
      · have hrn : rdYes (full.drop a) = .error 3 := by simp [rdYes, HY.out, hin]
        have HN := Lib.hid hrn
        clear hrn
        go_wp2_with fail
        go_ret
        refine ⟨_, rfl, HC.out.setNew _ _ _ (.inl (by simp)), ?_, ⟨_, rfl⟩, fun r y r' h1 h2 => by cases h1; rw [HN.out] at h2; cases h2⟩
        have : nextS (.ok (full.drop a)) rdYes = .error 3 := by simp [nextS, HN.out]
        rw [this]
        exact H.out.put HG.out 3 rfl (by show (3 : Int) ≠ 0; decide)
      · obtain ⟨x, hx⟩ : ∃ x, x = decide (n = 1) := ⟨_, rfl⟩
        have hrn : rdYes (full.drop a) = .ok (x, full.drop a2) := by simp [rdYes, HY.out, hin, hx]
        have HN := Lib.hid hrn
        have h1 : n ≤ 1 := by omega
        have hxb : (n == 1) = x := by rw [hx]; exact Bool.eq_iff_iff.2 (by simp)
        clear hin hrn hx
        go_wp2_with fail
        go_ret
        refine ⟨_, rfl, HC.out.setNew _ _ _ (.inl (by simp)), ?_, ⟨_, rfl⟩, fun r y r' h1 h2 => by cases h1; rw [HN.out] at h2; cases h2; simp [hxb]⟩
        have : nextS (.ok (full.drop a)) rdYes = .ok (full.drop a2) := by simp [nextS, HN.out]
        rw [this]
        exact H.out.put HG.out 0 rfl ⟨a2, HR2.out, rfl⟩
end Go.Proofs.Ytnhfjoelfnmgaaa
