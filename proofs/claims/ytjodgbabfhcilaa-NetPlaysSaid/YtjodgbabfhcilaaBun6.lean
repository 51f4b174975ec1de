/- Parts of the proof, in plain words at the head of each: Mget, Msk, Rgm, Wr0, Wr1. -/
import Derived.Test.YtjodgbabfhcilaaMw1
import Derived.Test.YtjodgbabfhcilaaBun4
import Derived.Test.YtjodgbabfhcilaaBun5
import Derived.Deep.CutBlock
import Derived.Deep.DeepCutAuto
set_option linter.unusedSimpArgs false
set_option linter.unusedVariables false
/- msg.Get. -/
namespace Go.Proofs.Ytjodgbabfhcilaa
open Go Go.RowKit

def Msg.zero : Msg := ⟨0, 0, 0, 0, 0, 0, 0, 0, false, [], [], []⟩
/-- v is the message m, its lists in blocks from B on. -/
def MsgV (w : World) (B : Nat) (v : Value) (m : Msg) : Prop :=
  ∃ ev mv iv, v = .agg (mCells m ev mv iv) ∧ EntsV w B ev m.entries ∧ (Rd w mv (u64s m.members) ∧ From B mv) ∧ (Rd w iv (u8s m.image) ∧ From B iv)
/-- All lists of the message v may be written. -/
def MsgU (w : World) (v : Value) : Prop := ∃ m ev mv iv, v = .agg (mCells m ev mv iv) ∧ EntsU w ev ∧ UnA w mv ∧ UnA w iv
/-- How msg.Get ends. -/
def MGetOut (X : Except Int Msg) (w : World) (en : Ending) (w' : World) : Prop :=
  Ext w w' ∧ ∃ v e x, en = .returned (.tuple #[v, .int .i64 e]) ∧ (MsgV w' w.heap.size v x ∧ MsgU w' v) ∧ match X with
  | .error no => e = no ∧ e ≠ 0 ∧ x = Msg.zero
  | .ok y => e = 0 ∧ x = y
abbrev zc (k : Int) : Array Value := #[.int .i64 k, .int .u64 0, .int .u64 0, .int .u64 0, .int .u64 0, .int .u64 0, .int .u64 0, .int .u64 0, .bool false, .slice none 0 0, .slice none 0 0, .slice none 0 0]
theorem rdRng_err {lo hi : Int} {bs : List Int} {e : Int} (h : rdRng lo hi bs = .error e) : e ≠ 0 := by
  simp only [rdRng] at h
  split at h
  · rename_i heq; cases h; exact rdNum_err heq
  · split at h
    · cases h; decide
    · cases h
theorem rdYes_err {bs : List Int} {e : Int} (h : rdYes bs = .error e) : e ≠ 0 := by
  simp only [rdYes] at h
  split at h
  · rename_i heq; cases h; exact rdByte_err heq
  · split at h
    · cases h; decide
    · cases h
theorem rdEntsGo_err : ∀ (n : Nat) (acc : List Ent) (bs : List Int) (e : Int), rdEntsGo n acc bs = .error e → e ≠ 0
  | 0, _, _, _, h => by simp [rdEntsGo] at h
  | n + 1, acc, bs, e, h => by
    simp only [rdEntsGo] at h
    split at h
    · rename_i heq; cases h; exact rdRaw_err heq
    · split at h
      · rename_i heq; cases h; exact getB_err heq
      · exact rdEntsGo_err n _ _ _ h
theorem rdEnts_err {bs : List Int} {e : Int} (h : rdEnts bs = .error e) : e ≠ 0 := by
  simp only [rdEnts] at h
  split at h
  · rename_i heq; cases h; exact rdNum_err heq
  · split at h
    · cases h; decide
    · exact rdEntsGo_err _ _ _ _ h
set_option maxHeartbeats 1000000 in
theorem rdBody_err {k : Int} {bs : List Int} {e : Int} (h : rdBody k bs = .error e) : e ≠ 0 := by
  simp only [rdBody] at h
  repeat' split at h
  all_goals first | (cases h; done) | (cases h; first | decide | (rename_i heq; first | exact rdRng_err heq | exact rdYes_err heq | exact rdEnts_err heq | exact idsB_err' heq | exact rdRaw_err heq))
theorem getM_err {bs : List Int} {e : Int} (h : getM bs = .error e) : e ≠ 0 := by
  simp only [getM] at h
  repeat' split at h
  all_goals first | (cases h; done) | (cases h; first | decide | (rename_i heq; first | exact rdByte_err heq | exact rdBody_err heq))

set_option maxHeartbeats 400000 in
theorem mget_idle (p q : Nat) (w : World) : CallsD Try.prog 42 #[ptr p, ptr q] .returning w fun en u w' => en = .returned (.tuple #[]) ∧ u = .returning ∧ w' = w := by
  refine callsD_of_wpS Try.func42 rfl fun c₀ cs hu => ?_
  have ha := isErr_nil
  apply wpS_seq
  apply wpS_region
  simp [wpOpsS, go_sem, recoverD, hu, ha, Try.ntmps42, Exit.thenS]
  refine wpS_of_wp ?_
  simp [Array.replicate]
  go_wp2
  exact ⟨rfl, .returning, by cases c₀; simp_all, _, results_none rfl _ _ _, rfl, rfl, rfl⟩

theorem twelve {cs : Array Value} (h : cs.size = 12) : ∃ c0 c1 c2 c3 c4 c5 c6 c7 c8 c9 c10 c11, cs = #[c0, c1, c2, c3, c4, c5, c6, c7, c8, c9, c10, c11] := by
  obtain ⟨l⟩ := cs
  match l, h with
  | [c0, c1, c2, c3, c4, c5, c6, c7, c8, c9, c10, c11], _ => exact ⟨c0, c1, c2, c3, c4, c5, c6, c7, c8, c9, c10, c11, rfl⟩

set_option maxHeartbeats 1000000 in
theorem mget_catch (p q : Nat) (cs : Array Value) (hcs : cs.size = 12) (e0 : Value) (no : Int) (older : List PanicEntry) (w : World) (hx : Blk w p cs 34) (he : Blk w q #[e0] 27) (hpq : p ≠ q) :
    CallsD Try.prog 42 #[ptr p, ptr q] (.panicking ({ v := errv no, recovered := false } :: older)) w fun en u w' => en = .returned (.tuple #[]) ∧ u = .panicking ({ v := errv no, recovered := true } :: older) ∧ Chg [p, q] w w' ∧ Blk w' p (zc 0) 34 ∧ Blk w' q #[.int .i64 no] 27 := by
  obtain ⟨c0, c1, c2, c3, c4, c5, c6, c7, c8, c9, c10, c11, rfl⟩ := twelve hcs
  refine callsD_of_wpS Try.func42 rfl fun c₀ cs hu => ?_
  have ha := isErr_some
  have x0 := hx.cell 0 rfl; have x1 := hx.cell 1 rfl; have x2 := hx.cell 2 rfl; have x3 := hx.cell 3 rfl; have x4 := hx.cell 4 rfl; have x5 := hx.cell 5 rfl
  have x6 := hx.cell 6 rfl; have x7 := hx.cell 7 rfl; have x8 := hx.cell 8 rfl; have x9 := hx.cell 9 rfl; have x10 := hx.cell 10 rfl; have x11 := hx.cell 11 rfl
  have f0 := hx.free 0; have f1 := hx.free 1; have f2 := hx.free 2; have f3 := hx.free 3; have f4 := hx.free 4; have f5 := hx.free 5
  have f6 := hx.free 6; have f7 := hx.free 7; have f8 := hx.free 8; have f9 := hx.free 9; have f10 := hx.free 10; have f11 := hx.free 11
  have y0 := he.cell 0 rfl
  have g0 := he.free 0
  apply wpS_seq
  apply wpS_region
  simp [wpOpsS, go_sem, recoverD, hu, ha, Try.ntmps42, Exit.thenS]
  refine wpS_of_wp ?_
  simp [Array.replicate]
  go_wp2
  have hx' := ((((((((((((hx.set 0 (.int .i64 0)).set 1 (.int .u64 0)).set 2 (.int .u64 0)).set 3 (.int .u64 0)).set 4 (.int .u64 0)).set 5 (.int .u64 0)).set 6 (.int .u64 0)).set 7 (.int .u64 0)).set 8 (.bool false)).set 9 (.slice none 0 0)).set 10 (.slice none 0 0)).set 11 (.slice none 0 0)).other ⟨q, 0, none⟩ (.int .i64 no) (Ne.symm hpq)
  have hC := ((((((((((((((Chg.refl [p, q] w).setNew p 0 (.int .i64 0) (.inl (by simp))).setNew p 1 (.int .u64 0) (.inl (by simp))).setNew p 2 (.int .u64 0) (.inl (by simp))).setNew p 3 (.int .u64 0) (.inl (by simp))).setNew p 4 (.int .u64 0) (.inl (by simp))).setNew p 5 (.int .u64 0) (.inl (by simp))).setNew p 6 (.int .u64 0) (.inl (by simp))).setNew p 7 (.int .u64 0) (.inl (by simp))).setNew p 8 (.bool false) (.inl (by simp))).setNew p 9 (.slice none 0 0) (.inl (by simp))).setNew p 10 (.slice none 0 0) (.inl (by simp))).setNew p 11 (.slice none 0 0) (.inl (by simp))).setNew q 0 (.int .i64 no) (.inl (by simp)))
  have he' := (((((((((((((he.other ⟨p, 0, none⟩ (.int .i64 0) hpq).other ⟨p, 1, none⟩ (.int .u64 0) hpq).other ⟨p, 2, none⟩ (.int .u64 0) hpq).other ⟨p, 3, none⟩ (.int .u64 0) hpq).other ⟨p, 4, none⟩ (.int .u64 0) hpq).other ⟨p, 5, none⟩ (.int .u64 0) hpq).other ⟨p, 6, none⟩ (.int .u64 0) hpq).other ⟨p, 7, none⟩ (.int .u64 0) hpq).other ⟨p, 8, none⟩ (.bool false) hpq).other ⟨p, 9, none⟩ (.slice none 0 0) hpq).other ⟨p, 10, none⟩ (.slice none 0 0) hpq).other ⟨p, 11, none⟩ (.slice none 0 0) hpq).set 0 (.int .i64 no))
  clear x0 x1 x2 x3 x4 x5 x6 x7 x8 x9 x10 x11 f0 f1 f2 f3 f4 f5 f6 f7 f8 f9 f10 f11 y0 g0
  generalize (((((((((((((w.setCell ⟨p, 0, none⟩ (.int .i64 0)).setCell ⟨p, 1, none⟩ (.int .u64 0)).setCell ⟨p, 2, none⟩ (.int .u64 0)).setCell ⟨p, 3, none⟩ (.int .u64 0)).setCell ⟨p, 4, none⟩ (.int .u64 0)).setCell ⟨p, 5, none⟩ (.int .u64 0)).setCell ⟨p, 6, none⟩ (.int .u64 0)).setCell ⟨p, 7, none⟩ (.int .u64 0)).setCell ⟨p, 8, none⟩ (.bool false)).setCell ⟨p, 9, none⟩ (.slice none 0 0)).setCell ⟨p, 10, none⟩ (.slice none 0 0)).setCell ⟨p, 11, none⟩ (.slice none 0 0)).setCell ⟨q, 0, none⟩ (.int .i64 no)) = W' at *
  simp only [List.setIfInBounds_toArray, List.set_cons_succ, List.set_cons_zero] at hx' he'
  exact ⟨rfl, _, rfl, _, results_none rfl _ _ _, rfl, rfl, hC, hx', he'⟩

/-- The state of msg.Get: the message's block, the error's, the reader. -/
structure MD (w W : World) (cs : Array Value) : Prop where
  below : Below w.heap.size w W
  x : Blk W w.heap.size cs 34
  n : cs.size = 12
  e : ∃ e0, Blk W (w.heap.size + 1) #[e0] 27

set_option maxHeartbeats 1000000 in
theorem mget_door (cs : Array Value) (no : Int) (w W : World) (tmps : Array Value) (X : Except Int Msg) (hX : X = .error no) (hno : no ≠ 0) (hd : MD w W cs)
    (hz : tmps[2]? = some (ptr w.heap.size)) (he : tmps[3]? = some (ptr (w.heap.size + 1))) :
    bodyPostD Try.prog Try.f32 (MGetOut X w) (.panic [{ v := errv no, recovered := false }]) { tmps := tmps, defers := [{ target := .fn (.func 42) #[ptr w.heap.size, ptr (w.heap.size + 1)], args := #[] }] } W := by
  subst hX
  obtain ⟨e0, hde⟩ := hd.e
  refine leaves_cons (f := 42) (args := #[ptr w.heap.size, ptr (w.heap.size + 1)]) (by simp) (by simp [go_sem]) ?_
  refine (mget_catch _ _ cs hd.n e0 no [] W hd.x hde (by omega)).mono ?_
  rintro en u w2 ⟨rfl, rfl, hC, h1, h2⟩
  have x0 := h1.cell 0 rfl; have x1 := h1.cell 1 rfl; have x2 := h1.cell 2 rfl; have x3 := h1.cell 3 rfl; have x4 := h1.cell 4 rfl; have x5 := h1.cell 5 rfl
  have x6 := h1.cell 6 rfl; have x7 := h1.cell 7 rfl; have x8 := h1.cell 8 rfl; have x9 := h1.cell 9 rfl; have x10 := h1.cell 10 rfl; have x11 := h1.cell 11 rfl
  have y0 := h2.cell 0 rfl
  have hE : Ext w w2 := hC.below hd.below hd.below.size (by simp)
  simp at x0 x1 x2 x3 x4 x5 x6 x7 x8 x9 x10 x11 y0
  simp [Leaves, settle, results, Try.results32, go_sem, hz, he, x0, x1, x2, x3, x4, x5, x6, x7, x8, x9, x10, x11, y0]
  exact ⟨hE, _, no, Msg.zero, rfl, ⟨⟨_, _, _, rfl, EntsV.nil _ _, ⟨Rd.nil _, From.nil _⟩, ⟨Rd.nil _, From.nil _⟩⟩, Msg.zero, _, _, _, rfl, EntsU.nil _, UnA.nil _, UnA.nil _⟩, rfl, hno, rfl⟩
theorem mCells_one (m : Msg) (a9 a10 a11 : Option Addr) (n9 c9 n10 c10 n11 c11 : Nat) : (mCells m (.slice a9 n9 c9) (.slice a10 n10 c10) (.slice a11 n11 c11)).all (·.oneCell') = true := by simp [mCells, Value.oneCell']
theorem mCells_size (m : Msg) (ev mv iv : Value) : (Try.prog.info? 34).map (·.size) = some (mCells m ev mv iv).size := by kernel_rfl
theorem grown_row (w : World) (g : Nat) (cells : Array Value) : w.grownBy (w.setRow g cells) (some g) :=
  ⟨rfl, rfl, rfl, by simp [World.setRow], fun k _ hk => setRow_other w g k _ (fun e => hk (by rw [e]))⟩
theorem Blk.row {w : World} {b : Nat} {cs : Array Value} {e : TypeId} (h : Blk w b cs e) (cells : Array Value) : Blk (w.setRow b cells) b cells e := setRow_heap w b cs cells e (0, 0) h

set_option maxHeartbeats 1000000 in
theorem mget_fin (m : Msg) (ev mv iv : Value) (w F : World) (tmps : Array Value) (X : Except Int Msg) (hX : X = .ok m) (hE : Ext w F) (hx' : Blk F w.heap.size (mCells m ev mv iv) 34) (he' : Blk F (w.heap.size + 1) #[.int .i64 0] 27)
    (h9 : EntsV F w.heap.size ev m.entries) (h10 : Rd F mv (u64s m.members) ∧ From w.heap.size mv) (h11 : Rd F iv (u8s m.image) ∧ From w.heap.size iv) (hu : EntsU F ev ∧ UnA F mv ∧ UnA F iv)
    (hz : tmps[2]? = some (ptr w.heap.size)) (he : tmps[3]? = some (ptr (w.heap.size + 1))) :
    bodyPostD Try.prog Try.f32 (MGetOut X w) .ret { tmps := tmps, defers := [{ target := .fn (.func 42) #[ptr w.heap.size, ptr (w.heap.size + 1)], args := #[] }] } F := by
  subst hX
  simp only [mCells] at hx'
  have x0 := hx'.cell 0 rfl; have x1 := hx'.cell 1 rfl; have x2 := hx'.cell 2 rfl; have x3 := hx'.cell 3 rfl; have x4 := hx'.cell 4 rfl; have x5 := hx'.cell 5 rfl
  have x6 := hx'.cell 6 rfl; have x7 := hx'.cell 7 rfl; have x8 := hx'.cell 8 rfl; have x9 := hx'.cell 9 rfl; have x10 := hx'.cell 10 rfl; have x11 := hx'.cell 11 rfl
  have y0 := he'.cell 0 rfl
  simp at x0 x1 x2 x3 x4 x5 x6 x7 x8 x9 x10 x11 y0
  obtain ⟨b9, n9, c9, rfl⟩ : ∃ a n c, ev = .slice a n c := by obtain ⟨_, cs, o, a, c, h, _⟩ := h9; exact ⟨_, _, _, h⟩
  obtain ⟨b10, n10, c10, rfl⟩ := Rd.shape h10.1
  obtain ⟨b11, n11, c11, rfl⟩ := Rd.shape h11.1
  refine leaves_cons (f := 42) (args := #[ptr w.heap.size, ptr (w.heap.size + 1)]) (by simp) (by simp [go_sem]) ?_
  refine (mget_idle _ _ F).mono ?_
  rintro en u w2 ⟨rfl, rfl, rfl⟩
  simp [Leaves, settle, results, Try.results32, go_sem, hz, he, x0, x1, x2, x3, x4, x5, x6, x7, x8, x9, x10, x11, y0]
  exact ⟨hE, _, 0, m, rfl, ⟨⟨_, _, _, rfl, h9, h10, h11⟩, m, _, _, _, rfl, hu⟩, rfl, rfl⟩

theorem rdByte_k {bs r : List Int} {k : Int} (hb : B8 bs) (h : rdByte bs = .ok (k, r)) : 0 ≤ k ∧ k ≤ 255 := (rdByte_b8 hb h).2.1

set_option maxHeartbeats 4000000 in
theorem mget_c (v : Value) (bs : List Int) (w : World) (hR : Rd w v (u8s bs)) (hb8 : B8 bs) (hl : bs.length ≤ 140737488355328) : Calls Try.prog 32 #[v] w (MGetOut (getM bs) w) := by
  have hmf : ∀ (fn : Fn) (first cap : Array Value) (w : World), (Instr.makeFunc fn first cap).run Try.prog w = .ok (.func fn first cap) w := fun _ _ _ _ => rfl
  obtain ⟨X, hX⟩ : ∃ X, X = getM bs := ⟨_, rfl⟩
  rw [← hX]
  have HX := Lib.hid hX; have HR := Lib.hid hR; clear hX hR
  go_enter_defers Try.func32, Try.ntmps32
  go_wp2_with fail
  have hE0 : Ext w ((w.alloc (.cells (zc 0) 34)).alloc (.cells #[.int .i64 0] 27)) := (Ext.alloc _ _).trans (Ext.alloc _ _)
  refine (new_m v bs _ (HR.out.ext hE0) hl).mono ?_
  rintro en w1 ⟨b, rfl, hb, hr1, hE1⟩
  have hx0 : Blk w1 w.heap.size (zc 0) 34 := ((Blk.new w _ _).alloc _).ext hE1
  have he0 : Blk w1 (w.heap.size + 1) #[.int .i64 0] 27 := by
    have := Blk.new (w.alloc (.cells (zc 0) 34)) #[.int .i64 0] 27
    simp at this; exact this.ext hE1
  have hbe : w.heap.size + 2 ≤ b := by simpa using hb
  have hBl : Below w.heap.size w w1 := hE0.trans hE1
  have HX0 := Lib.hid hx0; have HE0 := Lib.hid he0; have HR1 := Lib.hid hr1; have HB1 := Lib.hid hBl
  clear hx0 he0 hr1 hE1 hE0 hBl hb
  go_wp2_with fail
  refine (byte_m b bs 0 w1 HR1.out).mono ?_
  rintro en w2 ⟨hg, hm⟩
  simp only [stuck?, if_true] at hm
  have hB2 := HB1.out.grown hg HB1.out.size fun k hk => by cases hk; omega
  have hx2 := HX0.out.grown hg (by intro e; cases e; omega)
  have he2 := HE0.out.grown hg (by intro e; cases e; omega)
  have HX2 := Lib.hid hx2; have HE2 := Lib.hid he2; have HB2 := Lib.hid hB2
  clear hx2 he2 hB2 hg
  rcases hY : rdByte bs with no | ⟨k, r1⟩
  · rw [hY] at hm
    obtain ⟨rfl, hr⟩ := hm
    have hne := rdByte_err hY
    have HZ : Hid (X = .error no) := Lib.hid (by rw [HX.out]; simp [getM, hY])
    have e0 := HE2.out.cell 0 rfl
    have g0 := HE2.out.free 0
    clear hr hY
    go_wp2_with fail
    refine (mmust_c no _).mono ?_
    rintro en w3 ⟨rfl, he⟩
    rw [if_neg hne] at he
    subst he
    go_wp2_with fail
    exact mget_door _ no w _ _ _ HZ.out hne ⟨HB2.out.setCell (Nat.le_succ _) _, HX2.out.other _ _ (by simp), rfl, _, HE2.out.set 0 _⟩ rfl rfl
  rw [hY] at hm
  obtain ⟨_, rfl, rfl, hr⟩ := hm
  obtain ⟨h8, hu, hlr⟩ := rdByte_b8 hb8 hY
  have HY := Lib.hid hY; have HR2 := Lib.hid hr; have H8 := Lib.hid h8
  clear hr hY h8
  have e0 := HE2.out.cell 0 rfl
  have g0 := HE2.out.free 0
  go_upto_region 4 with fail
  have hR3 := HR2.out.setM HE2.out (by simp) (by omega) 0 (.int .i64 0)
  have hE3 := HE2.out.set 0 (.int .i64 0)
  have hX3 := HX2.out.other ⟨w.heap.size + 1, 0, none⟩ (.int .i64 0) (by simp)
  have hB3 := below_set HB2.out (w.heap.size + 1) 0 (.int .i64 0) (Nat.le_succ _)
  simp only [List.setIfInBounds_toArray, List.set_cons_zero] at hE3
  have HR3 := Lib.hid hR3; have HE3 := Lib.hid hE3; have HX3 := Lib.hid hX3; have HB3 := Lib.hid hB3
  clear hR3 hE3 hX3 hB3 e0 g0
  generalize w2.setCell ⟨w.heap.size + 1, 0, none⟩ (.int .i64 0) = w3 at *
  have e0 := HE3.out.cell 0 rfl
  go_wp2_with fail
  refine (mmust_c 0 w3).mono ?_
  rintro en w4 ⟨rfl, he⟩
  rw [if_pos rfl] at he
  subst he
  by_cases hin : k < 1 ∨ 5 < k
  · have HZ : Hid (X = .error 3) := Lib.hid (by rw [HX.out]; simp [getM, HY.out, hin])
    by_cases h1 : k < 1
    · clear hin
      go_wp2_with fail
      refine (mought_c false 3 w4).mono ?_
      rintro en w5 ⟨rfl, he⟩
      subst he
      go_wp2_with fail
      exact mget_door _ 3 w _ _ _ HZ.out (by decide) ⟨HB3.out, HX3.out, rfl, _, HE3.out⟩ rfl rfl
    · have h2 : 5 < k := by omega
      clear hin
      go_wp2_with fail
      rw [show decide (k ≤ 5) = false from decide_eq_false (by omega)]
      refine (mought_c false 3 w4).mono ?_
      rintro en w5 ⟨rfl, he⟩
      subst he
      go_wp2_with fail
      exact mget_door _ 3 w _ _ _ HZ.out (by decide) ⟨HB3.out, HX3.out, rfl, _, HE3.out⟩ rfl rfl
  have hk1 : 1 ≤ k := by omega
  have hk5 : k ≤ 5 := by omega
  have HIN := Lib.hid hin
  clear hin
  go_wp2_with fail
  refine (mought_c true 3 w4).mono ?_
  rintro en w5 ⟨rfl, he⟩
  subst he
  have f0 := HX3.out.free 0
  have x0 := HX3.out.cell 0 rfl
  have hwk : IntKind.i64.wrap k = k := by rw [IntKind.wrap_i64]; omega
  go_upto_region 7 with fail
  have hR6 := HR3.out.setM HX3.out (nul_of_rng (by simp)) (by omega) 0 (.int .i64 k)
  have hX6 := HX3.out.set 0 (.int .i64 k)
  have hE6 := HE3.out.other ⟨w.heap.size, 0, none⟩ (.int .i64 k) (by simp)
  have hB6 := below_set HB3.out w.heap.size 0 (.int .i64 k) (Nat.le_refl _)
  simp only [zc, List.setIfInBounds_toArray, List.set_cons_zero] at hX6
  have HR6 := Lib.hid hR6; have HE6 := Lib.hid hE6; have HX6 := Lib.hid hX6; have HB6 := Lib.hid hB6
  clear hR6 hE6 hX6 hB6 e0 f0 x0
  clear hwk
  generalize w5.setCell ⟨w.heap.size, 0, none⟩ (.int .i64 k) = w6 at *
  have hsz6 : w.heap.size + 2 ≤ w6.heap.size := by have := HE6.out.lt; omega
  go_wp2_with fail
  refine (walkR k b w.heap.size r1 w6 H8.out (by omega) HR6.out (by omega) HX6.out).mono ?_
  rintro en w7 ⟨hC, hm⟩
  have hB7 : Below w.heap.size w w7 := hC.below HB6.out HB6.out.size (by intro t ht; simp at ht; omega)
  have hE7 := HE6.out.chg hC (by simp; omega)
  have HE7 := Lib.hid hE7; have HB7 := Lib.hid hB7
  clear hE7 hB7 hC
  rcases hW : rdBody k r1 with no | ⟨m, r⟩
  · rw [hW] at hm
    obtain ⟨rfl, cs', hcs, hsz⟩ := hm
    have HZ : Hid (X = .error no) := Lib.hid (by rw [HX.out]; simp [getM, HY.out, HIN.out, hW])
    have hne := rdBody_err hW
    have HCS := Lib.hid hcs; have HSZ := Lib.hid hsz
    clear hW hcs hsz
    go_wp2_with fail
    exact mget_door _ no w _ _ _ HZ.out hne ⟨HB7.out, HCS.out, HSZ.out, _, HE7.out⟩ rfl rfl
  rw [hW] at hm
  obtain ⟨rfl, hr7, ev, mv, iv, hcs, he7, hm7, hi7⟩ := hm
  have HR7 := Lib.hid hr7; have HCS := Lib.hid hcs; have HEV := Lib.hid he7; have HMV := Lib.hid hm7; have HIV := Lib.hid hi7; have HW := Lib.hid hW
  obtain ⟨b9, n9, c9, rfl⟩ : ∃ a n c, ev = .slice a n c := by obtain ⟨_, cs, o, a, c, h, _⟩ := he7.1; exact ⟨_, _, _, h⟩
  obtain ⟨b10, n10, c10, rfl⟩ := Rd.shape hm7.1
  obtain ⟨b11, n11, c11, rfl⟩ := Rd.shape hi7.1
  clear hr7 hcs he7 hm7 hi7 hW
  go_wp2_with fail
  refine (end_m b r 0 w7 HR7.out).mono ?_
  rintro en w8 ⟨rfl, hg8, hr8⟩
  have hC8 : Chg [b] w7 w8 := Chg.some hg8 (.inl (by simp))
  have hB8 : Below w.heap.size w w8 := hC8.below HB7.out HB7.out.size (by intro t ht; simp at ht; omega)
  have hE8 := HE7.out.chg hC8 (by simp; omega)
  have hX8 := HCS.out.chg hC8 (by simp; omega)
  have HE8 := Lib.hid hE8; have HB8 := Lib.hid hB8; have HX8 := Lib.hid hX8; have HC8 := Lib.hid hC8
  clear hE8 hB8 hX8 hC8 hg8 hr8
  by_cases hrn : r = []
  · have he0 : endE 0 r = 0 := by simp [endE, hrn]
    have HZ : Hid (X = .ok m) := Lib.hid (by rw [HX.out]; simp [getM, HY.out, HIN.out, HW.out, hrn])
    rw [he0]
    clear he0 hrn
    go_wp2_with fail
    refine (mmust_c 0 w8).mono ?_
    rintro en w9 ⟨rfl, he⟩
    rw [if_pos rfl] at he
    subst he
    have hrow := HX8.out.row (mCells m (.slice b9 n9 c9) (.slice b10 n10 c10) (.slice b11 n11 c11))
    have hgr := grown_row w9 w.heap.size (mCells m (.slice b9 n9 c9) (.slice b10 n10 c10) (.slice b11 n11 c11))
    have heR := HE8.out.grown hgr (by simp)
    have HROW := Lib.hid hrow; have HGR := Lib.hid hgr; have HER := Lib.hid heR
    have g0 := heR.free 0; have e0 := heR.cell 0 rfl; have g1 := HE8.out.free 0; have e1 := HE8.out.cell 0 rfl
    have hmc : mCells m (.slice b9 n9 c9) (.slice b10 n10 c10) (.slice b11 n11 c11) = #[.int .i64 m.kind, .int .u64 m.src, .int .u64 m.dst, .int .u64 m.term, .int .u64 m.index, .int .u64 m.logTerm, .int .u64 m.commit, .int .u64 m.stamp, .bool m.yes, .slice b9 n9 c9, .slice b10 n10 c10, .slice b11 n11 c11] := rfl
    have HMC := Lib.hid hmc
    clear hrow hgr heR hmc
    go_wp2_with (first | (refine wpList_load_row rfl 34 (.tmp 2) rfl w.heap.size rfl 34 _ (0, 0) _ HX8.out Try.underlying34 rfl (by kernel_rfl) ?_) | (refine wpList_store_row rfl 34 (.tmp 2) (.tmp 33) rfl w.heap.size (mCells m (.slice b9 n9 c9) (.slice b10 n10 c10) (.slice b11 n11 c11)) rfl rfl 34 _ HX8.out (mCells_size _ _ _ _) rfl (mCells_one _ _ _ _ _ _ _ _ _ _) ?_))
    have hlt8 : ∀ t ∈ [b], t < w6.heap.size := by intro t ht; simp at ht; subst ht; exact rdr_lt HR6.out
    have hc9 : Chg [w.heap.size, w.heap.size + 1] w9 ((w9.setRow w.heap.size (mCells m (.slice b9 n9 c9) (.slice b10 n10 c10) (.slice b11 n11 c11))).setCell ⟨w.heap.size + 1, 0, none⟩ (.int .i64 0)) := (Chg.some HGR.out (.inl (by simp))).setNew _ _ _ (.inl (by simp))
    have hl2 : ∀ t ∈ [w.heap.size, w.heap.size + 1], t < w6.heap.size := by intro t ht; simp at ht; omega
    have k9 := (EntsV.chg (EntsV.chg HEV.out.1 HC8.out hlt8) hc9 hl2).low (show w.heap.size ≤ w6.heap.size by omega)
    have k10 := ((show RdW _ _ _ from ⟨HMV.out.1, HMV.out.2.2⟩).chg HC8.out (HMV.out.2.1.off hlt8)).chg hc9 (HMV.out.2.1.off hl2)
    have k11 := ((show RdW _ _ _ from ⟨HIV.out.1, HIV.out.2.2⟩).chg HC8.out (HIV.out.2.1.off hlt8)).chg hc9 (HIV.out.2.1.off hl2)
    have kU := (HEV.out.2.chg HEV.out.1 HC8.out hlt8).chg (EntsV.chg HEV.out.1 HC8.out hlt8) hc9 hl2
    have kE : Ext w _ := hc9.below HB8.out HB8.out.size (by simp)
    have kx := HROW.out.other ⟨w.heap.size + 1, 0, none⟩ (.int .i64 0) (by simp)
    have ke := HER.out.set 0 (.int .i64 0)
    have k10' := HMV.out.2.1.mono (show w.heap.size ≤ w6.heap.size by omega)
    have k11' := HIV.out.2.1.mono (show w.heap.size ≤ w6.heap.size by omega)
    exact mget_fin m _ _ _ w _ _ X HZ.out kE kx ke k9 ⟨k10.1, k10'⟩ ⟨k11.1, k11'⟩ ⟨kU, k10.2, k11.2⟩ rfl rfl
  · have he0 : endE 0 r = 5 := by simp [endE, hrn]
    have HZ : Hid (X = .error 5) := Lib.hid (by rw [HX.out]; simp [getM, HY.out, HIN.out, HW.out, hrn])
    rw [he0]
    clear he0 hrn
    go_wp2_with fail
    refine (mmust_c 5 w8).mono ?_
    rintro en w9 ⟨rfl, he⟩
    rw [if_neg (by decide)] at he
    subst he
    go_wp2_with fail
    exact mget_door _ 5 w _ _ _ HZ.out (by decide) ⟨HB8.out, HX8.out, rfl, _, HE8.out⟩ rfl rfl
end Go.Proofs.Ytjodgbabfhcilaa

/- Equality of messages. PRINTED BY gen/msame.py -/
namespace Go.Proofs.Ytjodgbabfhcilaa
open Go Go.RowKit

instance msgDec : DecidableEq Msg := fun a b => decidable_of_iff (a.kind = b.kind ∧ a.src = b.src ∧ a.dst = b.dst ∧ a.term = b.term ∧ a.index = b.index ∧ a.logTerm = b.logTerm ∧ a.commit = b.commit ∧ a.stamp = b.stamp ∧ a.yes = b.yes ∧ a.entries = b.entries ∧ a.members = b.members ∧ a.image = b.image)
  (by cases a; cases b; simp)
structure MsgOk (x : Msg) : Prop where
  kind : -9223372036854775808 ≤ x.kind ∧ x.kind ≤ 9223372036854775807
  src : U64 x.src
  dst : U64 x.dst
  term : U64 x.term
  index : U64 x.index
  logTerm : U64 x.logTerm
  commit : U64 x.commit
  stamp : U64 x.stamp
  entries : ∀ e ∈ x.entries, EntOk e
  members : B64 x.members
  image : B8 x.image
end Go.Proofs.Ytjodgbabfhcilaa

/- tabellionref18.Get. PRINTED BY gen/rgetm.py -/
namespace Go.Proofs.Ytjodgbabfhcilaa
open Go Go.RowKit
/-- What has been read so far, when all is read. -/
def RdSt (k : Int) (r1 : List Int) (m : Msg) : Except Int (List Int) → Prop
  | .error no => rdBody k r1 = .error no
  | .ok r => rdBody k r1 = .ok (m, r)
/-- What has been read so far, when what follows is read by F. -/
def RdP (k : Int) (r1 : List Int) (F : List Int → Except Int (Msg × List Int)) : Except Int (List Int) → Prop
  | .error no => rdBody k r1 = .error no
  | .ok r => rdBody k r1 = F r
theorem rdRng_full {r : List Int} (hb : B8 r) : rdRng 0 18446744073709551615 r = rdNum r := by
  simp only [rdRng]
  split
  · rename_i h; rw [h]
  · rename_i n r' h
    obtain ⟨_, ⟨h0, h1⟩, _⟩ := rdNum_b8 hb h
    rw [h, if_neg (by omega)]
theorem rdst1 (r1 : List Int) (f : Int) (t : Int) (m : Int) (i : Int) (l : Int) (h0 : ∀ r z r', (.ok r1) = Except.ok (ε := Int) r → (rdRng 1 7) r = .ok (z, r') → Value.int .u64 f = Value.int .u64 z) (h1 : ∀ r z r', (nextS (.ok r1) (rdRng 1 7)) = Except.ok (ε := Int) r → (rdRng 1 7) r = .ok (z, r') → Value.int .u64 t = Value.int .u64 z) (h2 : ∀ r z r', (nextS (nextS (.ok r1) (rdRng 1 7)) (rdRng 1 7)) = Except.ok (ε := Int) r → (rdRng 1 4611686018427387904) r = .ok (z, r') → Value.int .u64 m = Value.int .u64 z) (h3 : ∀ r z r', (nextS (nextS (nextS (.ok r1) (rdRng 1 7)) (rdRng 1 7)) (rdRng 1 4611686018427387904)) = Except.ok (ε := Int) r → (rdRng 0 4611686018427387904) r = .ok (z, r') → Value.int .u64 i = Value.int .u64 z) (h4 : ∀ r z r', (nextS (nextS (nextS (nextS (.ok r1) (rdRng 1 7)) (rdRng 1 7)) (rdRng 1 4611686018427387904)) (rdRng 0 4611686018427387904)) = Except.ok (ε := Int) r → (rdRng 0 4611686018427387904) r = .ok (z, r') → Value.int .u64 l = Value.int .u64 z) : RdSt 1 r1 ⟨1, f, t, m, i, l, 0, 0, false, [], [], []⟩ (nextS (nextS (nextS (nextS (nextS (.ok r1) (rdRng 1 7)) (rdRng 1 7)) (rdRng 1 4611686018427387904)) (rdRng 0 4611686018427387904)) (rdRng 0 4611686018427387904)) := by
  rcases q0 : rdRng 1 7 r1 with e | ⟨a0, b0⟩
  · simp [RdSt, nextS, rdBody, q0]
  have e0 := h0 r1 a0 b0 (by simp [nextS]) q0
  cases e0
  rcases q1 : rdRng 1 7 b0 with e | ⟨a1, b1⟩
  · simp [RdSt, nextS, rdBody, q0, q1]
  have e1 := h1 b0 a1 b1 (by simp [nextS, q0]) q1
  cases e1
  rcases q2 : rdRng 1 4611686018427387904 b1 with e | ⟨a2, b2⟩
  · simp [RdSt, nextS, rdBody, q0, q1, q2]
  have e2 := h2 b1 a2 b2 (by simp [nextS, q0, q1]) q2
  cases e2
  rcases q3 : rdRng 0 4611686018427387904 b2 with e | ⟨a3, b3⟩
  · simp [RdSt, nextS, rdBody, q0, q1, q2, q3]
  have e3 := h3 b2 a3 b3 (by simp [nextS, q0, q1, q2]) q3
  cases e3
  rcases q4 : rdRng 0 4611686018427387904 b3 with e | ⟨a4, b4⟩
  · simp [RdSt, nextS, rdBody, q0, q1, q2, q3, q4]
  have e4 := h4 b3 a4 b4 (by simp [nextS, q0, q1, q2, q3]) q4
  cases e4
  simp [RdSt, nextS, rdBody, q0, q1, q2, q3, q4]
theorem rdst2 (r1 : List Int) (f : Int) (t : Int) (m : Int) (y : Bool) (h0 : ∀ r z r', (.ok r1) = Except.ok (ε := Int) r → (rdRng 1 7) r = .ok (z, r') → Value.int .u64 f = Value.int .u64 z) (h1 : ∀ r z r', (nextS (.ok r1) (rdRng 1 7)) = Except.ok (ε := Int) r → (rdRng 1 7) r = .ok (z, r') → Value.int .u64 t = Value.int .u64 z) (h2 : ∀ r z r', (nextS (nextS (.ok r1) (rdRng 1 7)) (rdRng 1 7)) = Except.ok (ε := Int) r → (rdRng 1 4611686018427387904) r = .ok (z, r') → Value.int .u64 m = Value.int .u64 z) (h3 : ∀ r z r', (nextS (nextS (nextS (.ok r1) (rdRng 1 7)) (rdRng 1 7)) (rdRng 1 4611686018427387904)) = Except.ok (ε := Int) r → rdYes r = .ok (z, r') → Value.bool y = Value.bool z) : RdSt 2 r1 ⟨2, f, t, m, 0, 0, 0, 0, y, [], [], []⟩ (nextS (nextS (nextS (nextS (.ok r1) (rdRng 1 7)) (rdRng 1 7)) (rdRng 1 4611686018427387904)) rdYes) := by
  rcases q0 : rdRng 1 7 r1 with e | ⟨a0, b0⟩
  · simp [RdSt, nextS, rdBody, q0]
  have e0 := h0 r1 a0 b0 (by simp [nextS]) q0
  cases e0
  rcases q1 : rdRng 1 7 b0 with e | ⟨a1, b1⟩
  · simp [RdSt, nextS, rdBody, q0, q1]
  have e1 := h1 b0 a1 b1 (by simp [nextS, q0]) q1
  cases e1
  rcases q2 : rdRng 1 4611686018427387904 b1 with e | ⟨a2, b2⟩
  · simp [RdSt, nextS, rdBody, q0, q1, q2]
  have e2 := h2 b1 a2 b2 (by simp [nextS, q0, q1]) q2
  cases e2
  rcases q3 : rdYes b2 with e | ⟨a3, b3⟩
  · simp [RdSt, nextS, rdBody, q0, q1, q2, q3]
  have e3 := h3 b2 a3 b3 (by simp [nextS, q0, q1, q2]) q3
  cases e3
  simp [RdSt, nextS, rdBody, q0, q1, q2, q3]
theorem rdst4 (r1 : List Int) (f : Int) (t : Int) (m : Int) (y : Bool) (i : Int) (s : Int) (h0 : ∀ r z r', (.ok r1) = Except.ok (ε := Int) r → (rdRng 1 7) r = .ok (z, r') → Value.int .u64 f = Value.int .u64 z) (h1 : ∀ r z r', (nextS (.ok r1) (rdRng 1 7)) = Except.ok (ε := Int) r → (rdRng 1 7) r = .ok (z, r') → Value.int .u64 t = Value.int .u64 z) (h2 : ∀ r z r', (nextS (nextS (.ok r1) (rdRng 1 7)) (rdRng 1 7)) = Except.ok (ε := Int) r → (rdRng 1 4611686018427387904) r = .ok (z, r') → Value.int .u64 m = Value.int .u64 z) (h3 : ∀ r z r', (nextS (nextS (nextS (.ok r1) (rdRng 1 7)) (rdRng 1 7)) (rdRng 1 4611686018427387904)) = Except.ok (ε := Int) r → rdYes r = .ok (z, r') → Value.bool y = Value.bool z) (h4 : ∀ r z r', (nextS (nextS (nextS (nextS (.ok r1) (rdRng 1 7)) (rdRng 1 7)) (rdRng 1 4611686018427387904)) rdYes) = Except.ok (ε := Int) r → (rdRng 0 4611686018427387904) r = .ok (z, r') → Value.int .u64 i = Value.int .u64 z) (h5 : ∀ r z r', (nextS (nextS (nextS (nextS (nextS (.ok r1) (rdRng 1 7)) (rdRng 1 7)) (rdRng 1 4611686018427387904)) rdYes) (rdRng 0 4611686018427387904)) = Except.ok (ε := Int) r → (rdRng 0 18446744073709551615) r = .ok (z, r') → Value.int .u64 s = Value.int .u64 z) : RdSt 4 r1 ⟨4, f, t, m, i, 0, 0, s, y, [], [], []⟩ (nextS (nextS (nextS (nextS (nextS (nextS (.ok r1) (rdRng 1 7)) (rdRng 1 7)) (rdRng 1 4611686018427387904)) rdYes) (rdRng 0 4611686018427387904)) (rdRng 0 18446744073709551615)) := by
  rcases q0 : rdRng 1 7 r1 with e | ⟨a0, b0⟩
  · simp [RdSt, nextS, rdBody, q0]
  have e0 := h0 r1 a0 b0 (by simp [nextS]) q0
  cases e0
  rcases q1 : rdRng 1 7 b0 with e | ⟨a1, b1⟩
  · simp [RdSt, nextS, rdBody, q0, q1]
  have e1 := h1 b0 a1 b1 (by simp [nextS, q0]) q1
  cases e1
  rcases q2 : rdRng 1 4611686018427387904 b1 with e | ⟨a2, b2⟩
  · simp [RdSt, nextS, rdBody, q0, q1, q2]
  have e2 := h2 b1 a2 b2 (by simp [nextS, q0, q1]) q2
  cases e2
  rcases q3 : rdYes b2 with e | ⟨a3, b3⟩
  · simp [RdSt, nextS, rdBody, q0, q1, q2, q3]
  have e3 := h3 b2 a3 b3 (by simp [nextS, q0, q1, q2]) q3
  cases e3
  rcases q4 : rdRng 0 4611686018427387904 b3 with e | ⟨a4, b4⟩
  · simp [RdSt, nextS, rdBody, q0, q1, q2, q3, q4]
  have e4 := h4 b3 a4 b4 (by simp [nextS, q0, q1, q2, q3]) q4
  cases e4
  rcases q5 : rdRng 0 18446744073709551615 b4 with e | ⟨a5, b5⟩
  · simp [RdSt, nextS, rdBody, q0, q1, q2, q3, q4, q5]
  have e5 := h5 b4 a5 b5 (by simp [nextS, q0, q1, q2, q3, q4]) q5
  cases e5
  simp [RdSt, nextS, rdBody, q0, q1, q2, q3, q4, q5]
theorem rdst5 (r1 : List Int) (hb : B8 r1) (hl : r1.length ≤ 140737488355328) (f : Int) (t : Int) (m : Int) (i : Int) (l : Int) (s : Int) (h0 : ∀ r z r', (.ok r1) = Except.ok (ε := Int) r → (rdRng 1 7) r = .ok (z, r') → Value.int .u64 f = Value.int .u64 z) (h1 : ∀ r z r', (nextS (.ok r1) (rdRng 1 7)) = Except.ok (ε := Int) r → (rdRng 1 7) r = .ok (z, r') → Value.int .u64 t = Value.int .u64 z) (h2 : ∀ r z r', (nextS (nextS (.ok r1) (rdRng 1 7)) (rdRng 1 7)) = Except.ok (ε := Int) r → (rdRng 1 4611686018427387904) r = .ok (z, r') → Value.int .u64 m = Value.int .u64 z) (h3 : ∀ r z r', (nextS (nextS (nextS (.ok r1) (rdRng 1 7)) (rdRng 1 7)) (rdRng 1 4611686018427387904)) = Except.ok (ε := Int) r → (rdRng 0 4611686018427387904) r = .ok (z, r') → Value.int .u64 i = Value.int .u64 z) (h4 : ∀ r z r', (nextS (nextS (nextS (nextS (.ok r1) (rdRng 1 7)) (rdRng 1 7)) (rdRng 1 4611686018427387904)) (rdRng 0 4611686018427387904)) = Except.ok (ε := Int) r → (rdRng 0 4611686018427387904) r = .ok (z, r') → Value.int .u64 l = Value.int .u64 z) (h5 : ∀ r z r', (nextS (nextS (nextS (nextS (nextS (.ok r1) (rdRng 1 7)) (rdRng 1 7)) (rdRng 1 4611686018427387904)) (rdRng 0 4611686018427387904)) (rdRng 0 4611686018427387904)) = Except.ok (ε := Int) r → (rdRng 0 18446744073709551615) r = .ok (z, r') → Value.int .u64 s = Value.int .u64 z) : RdP 5 r1 (fun r => match idsB r with | .error e => .error e | .ok (ms, r) => match rdRaw 16384 r with | .error e => .error e | .ok (d, r) => .ok (⟨5, f, t, m, i, l, 0, s, false, [], ms, d⟩, r)) (nextS (nextS (nextS (nextS (nextS (nextS (.ok r1) (rdRng 1 7)) (rdRng 1 7)) (rdRng 1 4611686018427387904)) (rdRng 0 4611686018427387904)) (rdRng 0 4611686018427387904)) (rdRng 0 18446744073709551615)) := by
  rcases q0 : rdRng 1 7 r1 with e | ⟨a0, b0⟩
  · simp [RdP, nextS, rdBody, q0]
  have e0 := h0 r1 a0 b0 (by simp [nextS]) q0
  cases e0
  obtain ⟨hb0, hl0⟩ := rdRng_b8 hb hl q0
  rcases q1 : rdRng 1 7 b0 with e | ⟨a1, b1⟩
  · simp [RdP, nextS, rdBody, q0, q1]
  have e1 := h1 b0 a1 b1 (by simp [nextS, q0]) q1
  cases e1
  obtain ⟨hb1, hl1⟩ := rdRng_b8 hb0 hl0 q1
  rcases q2 : rdRng 1 4611686018427387904 b1 with e | ⟨a2, b2⟩
  · simp [RdP, nextS, rdBody, q0, q1, q2]
  have e2 := h2 b1 a2 b2 (by simp [nextS, q0, q1]) q2
  cases e2
  obtain ⟨hb2, hl2⟩ := rdRng_b8 hb1 hl1 q2
  rcases q3 : rdRng 0 4611686018427387904 b2 with e | ⟨a3, b3⟩
  · simp [RdP, nextS, rdBody, q0, q1, q2, q3]
  have e3 := h3 b2 a3 b3 (by simp [nextS, q0, q1, q2]) q3
  cases e3
  obtain ⟨hb3, hl3⟩ := rdRng_b8 hb2 hl2 q3
  rcases q4 : rdRng 0 4611686018427387904 b3 with e | ⟨a4, b4⟩
  · simp [RdP, nextS, rdBody, q0, q1, q2, q3, q4]
  have e4 := h4 b3 a4 b4 (by simp [nextS, q0, q1, q2, q3]) q4
  cases e4
  obtain ⟨hb4, hl4⟩ := rdRng_b8 hb3 hl3 q4
  rcases q5 : rdRng 0 18446744073709551615 b4 with e | ⟨a5, b5⟩
  · simp [RdP, nextS, rdBody, q0, q1, q2, q3, q4, q5]
  have e5 := h5 b4 a5 b5 (by simp [nextS, q0, q1, q2, q3, q4]) q5
  cases e5
  obtain ⟨hb5, hl5⟩ := rdRng_b8 hb4 hl4 q5
  simp [RdP, nextS, rdBody, q0, q1, q2, q3, q4, q5]
  rcases idsB b5 with e | ⟨ms, r⟩
  · rfl
  · rcases rdRaw 16384 r with e | ⟨d, r⟩ <;> rfl
theorem rdst3 (r1 : List Int) (hb : B8 r1) (hl : r1.length ≤ 140737488355328) (f : Int) (t : Int) (m : Int) (i : Int) (l : Int) (c : Int) (s : Int) (n : Int) (h0 : ∀ r z r', (.ok r1) = Except.ok (ε := Int) r → (rdRng 1 7) r = .ok (z, r') → Value.int .u64 f = Value.int .u64 z) (h1 : ∀ r z r', (nextS (.ok r1) (rdRng 1 7)) = Except.ok (ε := Int) r → (rdRng 1 7) r = .ok (z, r') → Value.int .u64 t = Value.int .u64 z) (h2 : ∀ r z r', (nextS (nextS (.ok r1) (rdRng 1 7)) (rdRng 1 7)) = Except.ok (ε := Int) r → (rdRng 1 4611686018427387904) r = .ok (z, r') → Value.int .u64 m = Value.int .u64 z) (h3 : ∀ r z r', (nextS (nextS (nextS (.ok r1) (rdRng 1 7)) (rdRng 1 7)) (rdRng 1 4611686018427387904)) = Except.ok (ε := Int) r → (rdRng 0 4611686018427387904) r = .ok (z, r') → Value.int .u64 i = Value.int .u64 z) (h4 : ∀ r z r', (nextS (nextS (nextS (nextS (.ok r1) (rdRng 1 7)) (rdRng 1 7)) (rdRng 1 4611686018427387904)) (rdRng 0 4611686018427387904)) = Except.ok (ε := Int) r → (rdRng 0 4611686018427387904) r = .ok (z, r') → Value.int .u64 l = Value.int .u64 z) (h5 : ∀ r z r', (nextS (nextS (nextS (nextS (nextS (.ok r1) (rdRng 1 7)) (rdRng 1 7)) (rdRng 1 4611686018427387904)) (rdRng 0 4611686018427387904)) (rdRng 0 4611686018427387904)) = Except.ok (ε := Int) r → (rdRng 0 4611686018427387904) r = .ok (z, r') → Value.int .u64 c = Value.int .u64 z) (h6 : ∀ r z r', (nextS (nextS (nextS (nextS (nextS (nextS (.ok r1) (rdRng 1 7)) (rdRng 1 7)) (rdRng 1 4611686018427387904)) (rdRng 0 4611686018427387904)) (rdRng 0 4611686018427387904)) (rdRng 0 4611686018427387904)) = Except.ok (ε := Int) r → (rdRng 0 18446744073709551615) r = .ok (z, r') → Value.int .u64 s = Value.int .u64 z) (h7 : ∀ r z r', (nextS (nextS (nextS (nextS (nextS (nextS (nextS (.ok r1) (rdRng 1 7)) (rdRng 1 7)) (rdRng 1 4611686018427387904)) (rdRng 0 4611686018427387904)) (rdRng 0 4611686018427387904)) (rdRng 0 4611686018427387904)) (rdRng 0 18446744073709551615)) = Except.ok (ε := Int) r → (rdRng 0 18446744073709551615) r = .ok (z, r') → Value.int .u64 n = Value.int .u64 z) : RdP 3 r1 (fun r => if 4 < n then .error 4 else match rdEntsGo n.toNat [] r with | .error e => .error e | .ok (xs, r) => .ok (⟨3, f, t, m, i, l, c, s, false, xs, [], []⟩, r)) (nextS (nextS (nextS (nextS (nextS (nextS (nextS (nextS (.ok r1) (rdRng 1 7)) (rdRng 1 7)) (rdRng 1 4611686018427387904)) (rdRng 0 4611686018427387904)) (rdRng 0 4611686018427387904)) (rdRng 0 4611686018427387904)) (rdRng 0 18446744073709551615)) (rdRng 0 18446744073709551615)) := by
  rcases q0 : rdRng 1 7 r1 with e | ⟨a0, b0⟩
  · simp [RdP, nextS, rdBody, rdEnts, q0]
  have e0 := h0 r1 a0 b0 (by simp [nextS]) q0
  cases e0
  obtain ⟨hb0, hl0⟩ := rdRng_b8 hb hl q0
  rcases q1 : rdRng 1 7 b0 with e | ⟨a1, b1⟩
  · simp [RdP, nextS, rdBody, q0, rdEnts, q1]
  have e1 := h1 b0 a1 b1 (by simp [nextS, q0]) q1
  cases e1
  obtain ⟨hb1, hl1⟩ := rdRng_b8 hb0 hl0 q1
  rcases q2 : rdRng 1 4611686018427387904 b1 with e | ⟨a2, b2⟩
  · simp [RdP, nextS, rdBody, q0, q1, rdEnts, q2]
  have e2 := h2 b1 a2 b2 (by simp [nextS, q0, q1]) q2
  cases e2
  obtain ⟨hb2, hl2⟩ := rdRng_b8 hb1 hl1 q2
  rcases q3 : rdRng 0 4611686018427387904 b2 with e | ⟨a3, b3⟩
  · simp [RdP, nextS, rdBody, q0, q1, q2, rdEnts, q3]
  have e3 := h3 b2 a3 b3 (by simp [nextS, q0, q1, q2]) q3
  cases e3
  obtain ⟨hb3, hl3⟩ := rdRng_b8 hb2 hl2 q3
  rcases q4 : rdRng 0 4611686018427387904 b3 with e | ⟨a4, b4⟩
  · simp [RdP, nextS, rdBody, q0, q1, q2, q3, rdEnts, q4]
  have e4 := h4 b3 a4 b4 (by simp [nextS, q0, q1, q2, q3]) q4
  cases e4
  obtain ⟨hb4, hl4⟩ := rdRng_b8 hb3 hl3 q4
  rcases q5 : rdRng 0 4611686018427387904 b4 with e | ⟨a5, b5⟩
  · simp [RdP, nextS, rdBody, q0, q1, q2, q3, q4, rdEnts, q5]
  have e5 := h5 b4 a5 b5 (by simp [nextS, q0, q1, q2, q3, q4]) q5
  cases e5
  obtain ⟨hb5, hl5⟩ := rdRng_b8 hb4 hl4 q5
  rcases q6 : rdRng 0 18446744073709551615 b5 with e | ⟨a6, b6⟩
  · simp [RdP, nextS, rdBody, q0, q1, q2, q3, q4, q5, rdEnts, q6]
  have e6 := h6 b5 a6 b6 (by simp [nextS, q0, q1, q2, q3, q4, q5]) q6
  cases e6
  obtain ⟨hb6, hl6⟩ := rdRng_b8 hb5 hl5 q6
  have qf := rdRng_full hb6
  rcases q7 : rdRng 0 18446744073709551615 b6 with e | ⟨a7, b7⟩
  · simp [RdP, nextS, rdBody, q0, q1, q2, q3, q4, q5, q6, rdEnts, ← qf, q7]
  have e7 := h7 b6 a7 b7 (by simp [nextS, q0, q1, q2, q3, q4, q5, q6]) q7
  cases e7
  obtain ⟨hb7, hl7⟩ := rdRng_b8 hb6 hl6 q7
  simp [RdP, nextS, rdBody, rdEnts, ← qf, q0, q1, q2, q3, q4, q5, q6, q7]
  by_cases h4 : 4 < n
  · simp [h4]
  · simp only [h4, if_false]; rcases rdEntsGo n.toNat [] b7 with e | ⟨xs, r⟩ <;> rfl
end Go.Proofs.Ytjodgbabfhcilaa

/- msg.writer: its state. -/
namespace Go.Proofs.Ytjodgbabfhcilaa
open Go Go.RowKit

/-- The writer at block wb has laid bs; it owns its row, from block B on. -/
def WS (w : World) (B wb : Nat) (bs : List Int) : Prop :=
  B ≤ wb ∧ B ≤ w.heap.size ∧ ∃ v, Blk w wb #[v] 79 ∧ w.ownsRow B 5 1 v bs.length (u8s bs)
/-- How a method of the writer ends: with ys laid, or thrown. -/
def WM (B wb : Nat) (bs : List Int) (X : Option (List Int)) (w : World) (en : Ending) (w' : World) : Prop :=
  Below B w w' ∧ match X with
  | none => en = thrown 1
  | some ys => en = .returned (.tuple #[]) ∧ WS w' B wb (bs ++ ys)
theorem own_ne {w : World} {base : Nat} {e : TypeId} {size : Nat} {v : Value} {n : Nat} {xs : List Value} {wb : Nat} {cs : Array Value} {T : TypeId} (h : w.ownsRow base e size v n xs) (hb : Blk w wb cs T) (hT : e ≠ T) : v.ownBlock ≠ some wb := by
  rcases h.2 with ⟨rfl, _⟩ | ⟨g, cap, cur, rfl, _, hh, _⟩
  · simp [Value.ownBlock]
  · intro he
    simp [Value.ownBlock] at he
    subst he
    have hb' : w.heap[g]? = some (.cells cs T (0, 0)) := hb
    rw [hh] at hb'
    cases hb'
    exact hT rfl
theorem own_set {w : World} {base : Nat} {e : TypeId} {size : Nat} {v : Value} {n : Nat} {xs : List Value} (h : w.ownsRow base e size v n xs) (p j : Nat) (u : Value) (hne : v.ownBlock ≠ some p) : (w.setCell ⟨p, j, none⟩ u).ownsRow base e size v n xs := by
  obtain ⟨h1, h2⟩ := h
  refine ⟨h1, ?_⟩
  rcases h2 with h2 | ⟨g, cap, cur, rfl, hg', hh, r⟩
  · exact .inl h2
  · refine .inr ⟨g, cap, cur, rfl, hg', ?_, r⟩
    rw [Below.heap_setCell _ _ _ _ (by intro e; exact hne (by simp [Value.ownBlock, e]))]; exact hh
/-- A fresh slice of bytes. -/
def NewB (B0 : Nat) (ys : List Int) (v : Value) (w : World) : Prop := Rd w v (u8s ys) ∧ From B0 v
theorem newB_chg {S : List Nat} {B0 : Nat} {ys : List Int} {v : Value} {w w' : World} (h : NewB B0 ys v w) (hg : Chg S w w') (hS : ∀ t ∈ S, t < B0) : NewB B0 ys v w' := ⟨h.1.chg hg (h.2.off hS), h.2⟩
theorem toBelow {B : Nat} {S : List Nat} {w w' : World} (h : Chg S w w') (hB : B ≤ w.heap.size) (hn : ∀ q, q < B → q ∉ S) : Below B w w' := ⟨h.os, h.tape, h.output, h.size, fun k hk => h.block k (Nat.lt_of_lt_of_le hk hB) (hn k hk)⟩
theorem below_cell {B : Nat} {w w' : World} (h : Below B w w') {p j : Nat} {v : Value} (hp : p < B) (hc : w.cell? ⟨p, j, none⟩ = some v) : w'.cell? ⟨p, j, none⟩ = some v := by
  rw [World.cell?_of_block (h.block _ hp)]; exact hc
theorem own_lt {v : Value} {rowb : Option Nat} {n : Nat} (h : rowb = v.ownBlock) (k : ∀ q, v.ownBlock = some q → q < n) : ∀ t ∈ rowb.toList, t < n := by
  intro t ht
  rw [h] at ht
  cases hv : v.ownBlock with
  | none => rw [hv] at ht; cases ht
  | some q => rw [hv] at ht; simp at ht; subst ht; exact k _ hv
/-- An entry's bytes in a message. -/
def rawE (x : Ent) : List Int := numB (putB x).length ++ putB x
theorem u8s_app (xs ys : List Int) : u8s xs ++ u8s ys = u8s (xs ++ ys) := by simp [u8s]
end Go.Proofs.Ytjodgbabfhcilaa

/- msg.writer: num, yes, image. PRINTED BY gen/wmeth.py -/
namespace Go.Proofs.Ytjodgbabfhcilaa
open Go Go.RowKit

set_option maxHeartbeats 4000000 in
theorem wnumM (B wb mb j : Nat) (n lo hi : Int) (hn : U64 n) (bs : List Int) (w : World) (hws : WS w B wb bs) (hmb : mb < B) (hm : w.cell? ⟨mb, j, none⟩ = some (.int .u64 n)) (hl : bs.length ≤ 1000000) :
    Calls Try.prog 73 #[ptr wb, .pointer (some ⟨mb, j, none⟩), .int .u64 lo, .int .u64 hi] w (WM B wb bs (if lo ≤ n ∧ n ≤ hi then some (numB n.toNat) else none) w) := by
  obtain ⟨X, hX⟩ : ∃ X : Option (List Int), X = if lo ≤ n ∧ n ≤ hi then some (numB n.toNat) else none := ⟨_, rfl⟩
  rw [← hX]
  obtain ⟨hBwb, hBW, wv, hb, ho⟩ := hws
  obtain ⟨va, vn, vc, rfl⟩ := own_shape ho
  have hmw : mb < w.heap.size := by omega
  have HX := Lib.hid hX; have HB := Lib.hid hb; have HO := Lib.hid ho
  clear hX hb ho
  by_cases h1 : lo ≤ n
  case neg =>
    have HX1 : Hid (X = none) := Lib.hid (by rw [HX.out, if_neg (fun h => h1 h.1)])
    go_enter Try.func73, Try.ntmps73
    go_wp2_with fail
    refine (mought_c false 1 w).mono ?_
    rintro en w1 ⟨rfl, rfl⟩
    refine ⟨rfl, Below.refl _ _, ?_⟩
    rw [HX1.out]
  by_cases h2 : n ≤ hi
  case neg =>
    have HX1 : Hid (X = none) := Lib.hid (by rw [HX.out, if_neg (fun h => h2 h.2)])
    go_enter Try.func73, Try.ntmps73
    go_wp2_with fail
    refine (mought_c false 1 w).mono ?_
    rintro en w1 ⟨rfl, rfl⟩
    refine ⟨rfl, Below.refl _ _, ?_⟩
    rw [HX1.out]
  have HX1 : Hid (X = some (numB n.toNat)) := Lib.hid (by rw [HX.out, if_pos ⟨h1, h2⟩])
  have h9 := numB_len_le n.toNat
  have hby1 : (bs.length + (u8s (numB n.toNat)).length) * 1 ≤ 140737488355328 := by rw [u8s_len]; omega
  have hby2 : bs.length + (u8s (numB n.toNat)).length ≤ maxLen := by rw [u8s_len]; unfold maxLen; omega
  go_enter Try.func73, Try.ntmps73
  go_wp2_with fail
  refine (mought_c true 1 w).mono ?_
  rintro en w1 ⟨rfl, rfl⟩
  obtain ⟨rowb, hrowb⟩ : ∃ o, o = (Value.slice va vn vc).ownBlock := ⟨_, rfl⟩
  have hown2 : ∀ t ∈ rowb.toList, B ≤ t := by
    intro t ht
    rw [hrowb] at ht
    cases hmv : (Value.slice va vn vc).ownBlock with
    | none => rw [hmv] at ht; cases ht
    | some q => rw [hmv] at ht; simp at ht; subst ht; exact own_block HO.out _ hmv
  have hown3 : ∀ t ∈ rowb.toList, t < w1.heap.size := by
    intro t ht
    rw [hrowb] at ht
    cases hmv : (Value.slice va vn vc).ownBlock with
    | none => rw [hmv] at ht; cases ht
    | some q => rw [hmv] at ht; simp at ht; subst ht; exact (HO.out.lt _ hmv).2
  have hwb : wb ∉ rowb.toList := by
    intro hm
    have := own_ne HO.out HB.out (by decide)
    rw [hrowb] at hm
    cases hmv : (Value.slice va vn vc).ownBlock with
    | none => rw [hmv] at hm; cases hm
    | some q => rw [hmv] at hm this; simp at hm; subst hm; exact this rfl
  have hn1 : ∀ q, q < B → q ∉ rowb.toList := fun q hq hm => by have := hown2 _ hm; omega
  have HROW := Lib.hid hrowb
  clear hrowb
  go_upto_region 1 with fail
  apply Mono.region2 12 9 Ext (Chg rowb.toList) [.is _, .is _, .is _, .is _, .is _, .is _, .is _, .is _, .rel (NewB w1.heap.size (numB n.toNat)), .rel (fun v w' => w'.ownsRow B 5 1 v (bs.length + (u8s (numB n.toNat)).length) (u8s bs ++ u8s (numB n.toNat))), .is _, .is _] (by kernel_rfl) ⟨fun _ _ h => Chg.ext h, fun _ _ _ => Ext.trans, fun _ _ _ => Chg.trans⟩ (Ext.refl _) (by kernel_rfl) rfl rfl ⟨fun v wa wc hv hE => newB_chg hv hE hown3, fun v wa wc hv hE => own_ext hv hE, trivial⟩
  focus
    iterate 8 (apply Mono.step_is; (· refine Mono.obl_quiet (by decide) fun w9 hE9 _ K hK => ?_; (have cb := (HB.out.drew.chg hE9 hwb).cell 0 rfl); (have cm := cell_chg (Chg.drew.trans hE9) hm (hn1 _ hmb)); go_wp2_with fail; simp only [Act.put, List.setIfInBounds_toArray, List.set_cons_succ, List.set_cons_zero] at hK; exact hK _ _ (Ext.refl _) (Mono.is_rfl _ _)); simp only [Act.put, List.setIfInBounds_toArray, List.set_cons_succ, List.set_cons_zero])
    refine Mono.step_rel (Mono.obl_quiet (by decide) fun w9 hE9 _ K hK => ?_) fun v43 => ?_
    · (have cm := cell_chg (Chg.drew.trans hE9) hm (hn1 _ hmb))
      go_wp2_with fail
      refine (num_int _ _ hn).mono ?_
      rintro e w10 ⟨v4, rfl, ho4, hE4⟩
      have HO4 := Lib.hid ho4; clear ho4
      go_wp2_with fail
      simp only [Act.put, List.setIfInBounds_toArray, List.set_cons_succ, List.set_cons_zero] at hK
      exact hK _ _ hE4 (Mono.rel_mk ⟨Rd.of_own HO4.out, (From.own HO4.out).mono hE9.size⟩)
    simp only [Act.put, List.setIfInBounds_toArray, List.set_cons_succ, List.set_cons_zero]
    refine Mono.step_rel (Mono.obl_loud fun w9 hE9 hkn K hK => ?_) fun v44 => ?_
    · have HN := Lib.hid (hkn.1 (by kernel_rfl))
      clear hkn
      have HOW := Lib.hid (own_ext (HO.out.drew) hE9)
      go_wp2_with (at_builtin; refine wpList_append_rd rfl (.tmp 25) (.tmp 29) _ rfl el8 B (.slice va vn vc) (bs.length) (u8s bs) (u8s (numB n.toNat)) rfl HOW.out _ rfl HN.out.1 (by intro u hu; simp only [u8s, List.mem_map] at hu; obtain ⟨_, _, rfl⟩ := hu; rfl) hby1 hby2 (Nat.le_trans hBW hE9.size) ?_)
      intro v' w' g1 g2
      simp only [Act.put, List.setIfInBounds_toArray, List.set_cons_succ, List.set_cons_zero] at hK
      rw [← HROW.out] at g2
      exact hK _ _ (Chg.grown g2) (Mono.rel_mk g1)
    simp only [Act.put, List.setIfInBounds_toArray, List.set_cons_succ, List.set_cons_zero]
    iterate 2 (apply Mono.step_is; (· refine Mono.obl_quiet (by decide) fun w9 hE9 _ K hK => ?_; go_wp2_with fail; simp only [Act.put, List.setIfInBounds_toArray, List.set_cons_succ, List.set_cons_zero] at hK; exact hK _ _ (Ext.refl _) (Mono.is_rfl _ _)); simp only [Act.put, List.setIfInBounds_toArray, List.set_cons_succ, List.set_cons_zero])
    refine Mono.step_end fun w9 hE9 hkn => ?_
    obtain ⟨_, ho9, _⟩ := hkn
    simp only [List.drop_succ_cons, List.drop_zero]
    replace hE9 : Chg rowb.toList w1 w9 := Chg.drew.trans hE9
    have hB9 := HB.out.chg hE9 hwb
    have hsz9 := hE9.size
    obtain ⟨a9, n9, c9, rfl⟩ := own_shape ho9
    have cb := hB9.cell 0 rfl
    have fb := hB9.free 0
    have hne9 := own_ne ho9 hB9 (by decide)
    have hB10 := hB9.set 0 (.slice a9 n9 c9)
    simp only [List.setIfInBounds_toArray, List.set_cons_zero] at hB10
    have ho10 := own_set ho9 wb 0 (.slice a9 n9 c9) hne9
    have hL9 : Below B w1 w9 := ⟨hE9.os, hE9.tape, hE9.output, hE9.size, fun k hk => hE9.block k (Nat.lt_of_lt_of_le hk hBW) (hn1 k hk)⟩
    have hL10 := below_set hL9 wb 0 (.slice a9 n9 c9) hBwb
    have hws : WS (w9.setCell ⟨wb, 0, none⟩ (.slice a9 n9 c9)) B wb (bs ++ (numB n.toNat)) := by
      refine ⟨hBwb, Nat.le_trans hBW (by simpa [World.setCell] using hsz9), _, hB10, ?_⟩
      rw [u8s_app, u8s_len] at ho10
      rwa [List.length_append]
    have HWS := Lib.hid hws; have HL10 := Lib.hid hL10
    clear hws hL10 hL9 ho10 ho9 hB10 hB9 hne9
    go_wp2_with fail
    go_end0
    refine ⟨HL10.out, ?_⟩
    rw [HX1.out]
    exact ⟨rfl, HWS.out⟩

set_option maxHeartbeats 4000000 in
theorem wyesM (B wb mb j : Nat) (y : Bool) (bs : List Int) (w : World) (hws : WS w B wb bs) (hmb : mb < B) (hm : w.cell? ⟨mb, j, none⟩ = some (.bool y)) (hl : bs.length ≤ 1000000) :
    Calls Try.prog 74 #[ptr wb, .pointer (some ⟨mb, j, none⟩)] w (WM B wb bs (some [if y then 1 else 0]) w) := by
  obtain ⟨X, hX⟩ : ∃ X : Option (List Int), X = some [if y then 1 else 0] := ⟨_, rfl⟩
  rw [← hX]
  obtain ⟨hBwb, hBW, wv, hb, ho⟩ := hws
  obtain ⟨va, vn, vc, rfl⟩ := own_shape ho
  have hmw : mb < w.heap.size := by omega
  have HX := Lib.hid hX; have HB := Lib.hid hb; have HO := Lib.hid ho
  clear hX hb ho
  have cb := HB.out.cell 0 rfl
  have hne := own_ne HO.out HB.out (by decide)
  have hLw : ∀ q, (Value.slice va vn vc).ownBlock = some q → B ≤ q := own_block HO.out
  obtain ⟨b, hb⟩ : ∃ b, b = (if y then 1 else 0 : Int) := ⟨_, rfl⟩
  have HX1 : Hid (X = some [b]) := Lib.hid (by rw [HX.out, hb])
  have main : ∀ (W : World) (va' : Value) , w.grownBy W (Value.slice va vn vc).ownBlock → W.ownsRow B 5 1 va' (bs.length + 1) (u8s bs ++ [.int .u8 b]) → Blk W wb #[.slice va vn vc] 79 ∧ WM B wb bs (some [b]) w (.returned (.tuple #[])) (W.setCell ⟨wb, 0, none⟩ va') := by
    intro W va' hg ho
    have hB9 := HB.out.grown hg (by intro e; exact hne e.symm)
    have hne9 := own_ne ho hB9 (by decide)
    have hB10 := hB9.set 0 va'
    simp only [List.setIfInBounds_toArray, List.set_cons_zero] at hB10
    refine ⟨hB9, below_set (Below.grown (Below.refl B w) hg hBW hLw) wb 0 va' hBwb, rfl, hBwb, Nat.le_trans hBW (by simpa [World.setCell] using hg.size), va', hB10, ?_⟩
    have h := own_set ho wb 0 va' hne9
    simpa [u8s] using h
  have MAIN := Lib.hid main
  clear main
  have hby1 : (bs.length + 1) * 1 ≤ 140737488355328 := by omega
  have hby2 : bs.length + 1 ≤ maxLen := by unfold maxLen; omega
  cases y
  all_goals
    simp only [if_true, if_false, Bool.false_eq_true] at hb
    subst hb
    go_enter Try.func74, Try.ntmps74
    go_wp2_with ((at_builtin; refine wpList_push rfl (.tmp 12) (.tmp 14) _ rfl el8 B (.slice va vn vc) bs.length (u8s bs) _ rfl HO.out _ rfl rfl hby1 hby2 hBW ?_); intro v9 w9 g1 g2; obtain ⟨a9, n9, c9, rfl⟩ := own_shape g1; have hM9 := MAIN.out _ _ g2 g1; have cb9 := hM9.1.cell 0 rfl; have fb9 := hM9.1.free 0; have HM9 := Lib.hid hM9.2; clear hM9 g1 g2)
    go_end0
    have h := HM9.out
    refine ⟨h.1, ?_⟩
    rw [HX1.out]
    exact h.2

set_option maxHeartbeats 4000000 in
theorem wimgM (B wb mb j : Nat) (xs : List Int) (ia : Option Addr) (im ic : Nat) (bs : List Int) (w : World) (hws : WS w B wb bs) (hmb : mb < B) (hm : w.cell? ⟨mb, j, none⟩ = some (.slice ia im ic)) (hr : ∀ W, Below B w W → Rd W (.slice ia im ic) (u8s xs)) (hl : bs.length ≤ 1000000) :
    Calls Try.prog 71 #[ptr wb, .pointer (some ⟨mb, j, none⟩)] w (WM B wb bs (if xs.length ≤ 16384 then some (numB xs.length ++ xs) else none) w) := by
  obtain ⟨X, hX⟩ : ∃ X : Option (List Int), X = if xs.length ≤ 16384 then some (numB xs.length ++ xs) else none := ⟨_, rfl⟩
  rw [← hX]
  obtain ⟨hBwb, hBW, wv, hb, ho⟩ := hws
  obtain ⟨va, vn, vc, rfl⟩ := own_shape ho
  have hmw : mb < w.heap.size := by omega
  have HX := Lib.hid hX; have HB := Lib.hid hb; have HO := Lib.hid ho
  clear hX hb ho
  have hlen : im = xs.length := by obtain ⟨a, c, h, _⟩ := hr w (Below.refl _ _); cases h; exact u8s_len _
  subst hlen
  have HR := Lib.hid hr
  clear hr
  by_cases h1 : xs.length ≤ 16384
  case neg =>
    have HX1 : Hid (X = none) := Lib.hid (by rw [HX.out, if_neg h1])
    have hd : decide ((xs.length : Int) ≤ 16384) = false := decide_eq_false (by omega)
    go_enter Try.func71, Try.ntmps71
    go_wp2_with fail
    refine (mought_c false 1 w).mono ?_
    rintro en w1 ⟨rfl, rfl⟩
    refine ⟨rfl, Below.refl _ _, ?_⟩
    rw [HX1.out]
  have HX1 : Hid (X = some (numB xs.length ++ xs)) := Lib.hid (by rw [HX.out, if_pos h1])
  have h9 := numB_len_le xs.length
  have hby1 : (bs.length + (u8s (numB xs.length ++ xs)).length) * 1 ≤ 140737488355328 := by rw [u8s_len, List.length_append]; omega
  have hby2 : bs.length + (u8s (numB xs.length ++ xs)).length ≤ maxLen := by rw [u8s_len, List.length_append]; unfold maxLen; omega
  have hd : decide ((xs.length : Int) ≤ 16384) = true := decide_eq_true (by omega)
  go_enter Try.func71, Try.ntmps71
  go_wp2_with fail
  refine (mought_c true 1 w).mono ?_
  rintro en w1 ⟨rfl, rfl⟩
  obtain ⟨rowb, hrowb⟩ : ∃ o, o = (Value.slice va vn vc).ownBlock := ⟨_, rfl⟩
  have hown2 : ∀ t ∈ rowb.toList, B ≤ t := by
    intro t ht
    rw [hrowb] at ht
    cases hmv : (Value.slice va vn vc).ownBlock with
    | none => rw [hmv] at ht; cases ht
    | some q => rw [hmv] at ht; simp at ht; subst ht; exact own_block HO.out _ hmv
  have hown3 : ∀ t ∈ rowb.toList, t < w1.heap.size := by
    intro t ht
    rw [hrowb] at ht
    cases hmv : (Value.slice va vn vc).ownBlock with
    | none => rw [hmv] at ht; cases ht
    | some q => rw [hmv] at ht; simp at ht; subst ht; exact (HO.out.lt _ hmv).2
  have hwb : wb ∉ rowb.toList := by
    intro hm
    have := own_ne HO.out HB.out (by decide)
    rw [hrowb] at hm
    cases hmv : (Value.slice va vn vc).ownBlock with
    | none => rw [hmv] at hm; cases hm
    | some q => rw [hmv] at hm this; simp at hm; subst hm; exact this rfl
  have hn1 : ∀ q, q < B → q ∉ rowb.toList := fun q hq hm => by have := hown2 _ hm; omega
  have HROW := Lib.hid hrowb
  clear hrowb
  go_upto_region 1 with fail
  apply Mono.region2 12 9 Ext (Chg rowb.toList) [.is _, .is _, .is _, .is _, .is _, .is _, .is _, .is _, .rel (NewB w1.heap.size (numB xs.length ++ xs)), .rel (fun v w' => w'.ownsRow B 5 1 v (bs.length + (u8s (numB xs.length ++ xs)).length) (u8s bs ++ u8s (numB xs.length ++ xs))), .is _, .is _] (by kernel_rfl) ⟨fun _ _ h => Chg.ext h, fun _ _ _ => Ext.trans, fun _ _ _ => Chg.trans⟩ (Ext.refl _) (by kernel_rfl) rfl rfl ⟨fun v wa wc hv hE => newB_chg hv hE hown3, fun v wa wc hv hE => own_ext hv hE, trivial⟩
  focus
    iterate 8 (apply Mono.step_is; (· refine Mono.obl_quiet (by decide) fun w9 hE9 _ K hK => ?_; (have cb := (HB.out.drew.chg hE9 hwb).cell 0 rfl); (have cm := cell_chg (Chg.drew.trans hE9) hm (hn1 _ hmb)); go_wp2_with fail; simp only [Act.put, List.setIfInBounds_toArray, List.set_cons_succ, List.set_cons_zero] at hK; exact hK _ _ (Ext.refl _) (Mono.is_rfl _ _)); simp only [Act.put, List.setIfInBounds_toArray, List.set_cons_succ, List.set_cons_zero])
    refine Mono.step_rel (Mono.obl_quiet (by decide) fun w9 hE9 _ K hK => ?_) fun v43 => ?_
    · (have cm := cell_chg (Chg.drew.trans hE9) hm (hn1 _ hmb))
      go_wp2_with fail
      refine (raw_ret _ xs w9 (HR.out w9 (toBelow (Chg.drew.trans hE9) hBW hn1)) (by omega)).mono ?_
      rintro e w10 ⟨v4, rfl, ho4, hE4⟩
      have HO4 := Lib.hid ho4; clear ho4
      go_wp2_with fail
      simp only [Act.put, List.setIfInBounds_toArray, List.set_cons_succ, List.set_cons_zero] at hK
      exact hK _ _ hE4 (Mono.rel_mk ⟨Rd.of_own HO4.out, (From.own HO4.out).mono hE9.size⟩)
    simp only [Act.put, List.setIfInBounds_toArray, List.set_cons_succ, List.set_cons_zero]
    refine Mono.step_rel (Mono.obl_loud fun w9 hE9 hkn K hK => ?_) fun v44 => ?_
    · have HN := Lib.hid (hkn.1 (by kernel_rfl))
      clear hkn
      have HOW := Lib.hid (own_ext (HO.out.drew) hE9)
      go_wp2_with (at_builtin; refine wpList_append_rd rfl (.tmp 14) (.tmp 18) _ rfl el8 B (.slice va vn vc) (bs.length) (u8s bs) (u8s (numB xs.length ++ xs)) rfl HOW.out _ rfl HN.out.1 (by intro u hu; simp only [u8s, List.mem_map] at hu; obtain ⟨_, _, rfl⟩ := hu; rfl) hby1 hby2 (Nat.le_trans hBW hE9.size) ?_)
      intro v' w' g1 g2
      simp only [Act.put, List.setIfInBounds_toArray, List.set_cons_succ, List.set_cons_zero] at hK
      rw [← HROW.out] at g2
      exact hK _ _ (Chg.grown g2) (Mono.rel_mk g1)
    simp only [Act.put, List.setIfInBounds_toArray, List.set_cons_succ, List.set_cons_zero]
    iterate 2 (apply Mono.step_is; (· refine Mono.obl_quiet (by decide) fun w9 hE9 _ K hK => ?_; go_wp2_with fail; simp only [Act.put, List.setIfInBounds_toArray, List.set_cons_succ, List.set_cons_zero] at hK; exact hK _ _ (Ext.refl _) (Mono.is_rfl _ _)); simp only [Act.put, List.setIfInBounds_toArray, List.set_cons_succ, List.set_cons_zero])
    refine Mono.step_end fun w9 hE9 hkn => ?_
    obtain ⟨_, ho9, _⟩ := hkn
    simp only [List.drop_succ_cons, List.drop_zero]
    replace hE9 : Chg rowb.toList w1 w9 := Chg.drew.trans hE9
    have hB9 := HB.out.chg hE9 hwb
    have hsz9 := hE9.size
    obtain ⟨a9, n9, c9, rfl⟩ := own_shape ho9
    have cb := hB9.cell 0 rfl
    have fb := hB9.free 0
    have hne9 := own_ne ho9 hB9 (by decide)
    have hB10 := hB9.set 0 (.slice a9 n9 c9)
    simp only [List.setIfInBounds_toArray, List.set_cons_zero] at hB10
    have ho10 := own_set ho9 wb 0 (.slice a9 n9 c9) hne9
    have hL9 : Below B w1 w9 := ⟨hE9.os, hE9.tape, hE9.output, hE9.size, fun k hk => hE9.block k (Nat.lt_of_lt_of_le hk hBW) (hn1 k hk)⟩
    have hL10 := below_set hL9 wb 0 (.slice a9 n9 c9) hBwb
    have hws : WS (w9.setCell ⟨wb, 0, none⟩ (.slice a9 n9 c9)) B wb (bs ++ (numB xs.length ++ xs)) := by
      refine ⟨hBwb, Nat.le_trans hBW (by simpa [World.setCell] using hsz9), _, hB10, ?_⟩
      rw [u8s_app, u8s_len] at ho10
      rwa [List.length_append]
    have HWS := Lib.hid hws; have HL10 := Lib.hid hL10
    clear hws hL10 hL9 ho10 ho9 hB10 hB9 hne9
    go_wp2_with fail
    go_end0
    refine ⟨HL10.out, ?_⟩
    rw [HX1.out]
    exact ⟨rfl, HWS.out⟩
end Go.Proofs.Ytjodgbabfhcilaa
