/- cmd.Get: its state, its door. -/
import Derived.Test.YtiaiicgpiiabnaaRdw
import Derived.Test.YtiaiicgpiiabnaaRde
import Derived.Test.YtiaiicgpiiabnaaMust
import Derived.Test.YtiaiicgpiiabnaaEnt2
import Derived.Test.YtiaiicgpiiabnaaCmdL
import Derived.Test.YtiaiicgpiiabnaaConcat
namespace Go.Proofs.Ytiaiicgpiiabnaa
open Go Go.RowKit

/-! ### What readings bring, plainly -/
theorem rdDig_err : ∀ (k : Nat) (f : Bool) (n : Nat) (bs : List Int) (e : Int), rdDig k f n bs = .error e → e ≠ 0
  | 0, _, _, _, _, h => by simp [rdDig] at h
  | k + 1, _, _, [], _, h => by simp [rdDig] at h; omega
  | k + 1, f, n, c :: r, e, h => by
    simp only [rdDig] at h
    split at h
    · cases h; decide
    · exact rdDig_err k _ _ _ _ h
theorem rdNum_err {bs : List Int} {e : Int} (h : rdNum bs = .error e) : e ≠ 0 := by
  cases bs with
  | nil => simp [rdNum] at h; omega
  | cons k r =>
    simp only [rdNum] at h
    split at h
    · cases h; decide
    · split at h
      · rename_i heq; cases h; exact rdDig_err _ _ _ _ _ heq
      · cases h
theorem rdByte_err {bs : List Int} {e : Int} (h : rdByte bs = .error e) : e ≠ 0 := by
  cases bs with
  | nil => simp [rdByte] at h; omega
  | cons k r => simp [rdByte] at h
theorem rdRaw_err {most : Int} {bs : List Int} {e : Int} (h : rdRaw most bs = .error e) : e ≠ 0 := by
  simp only [rdRaw] at h
  split at h
  · rename_i heq; cases h; exact rdNum_err heq
  · split at h
    · cases h; decide
    · split at h
      · cases h; decide
      · cases h
theorem rdNum_b8 {bs r : List Int} {n : Int} (hb : B8 bs) (h : rdNum bs = .ok (n, r)) : B8 r ∧ U64 n ∧ r.length ≤ bs.length := by
  obtain ⟨e, h0, h1⟩ := rdNum_inv bs r n hb h
  refine ⟨fun x hx => hb x (by rw [e]; simp [hx]), ⟨h0, by omega⟩, by rw [e]; simp⟩
theorem rdByte_b8 {bs r : List Int} {n : Int} (hb : B8 bs) (h : rdByte bs = .ok (n, r)) : B8 r ∧ (0 ≤ n ∧ n ≤ 255) ∧ r.length ≤ bs.length := by
  cases bs with
  | nil => simp [rdByte] at h
  | cons k s =>
    simp [rdByte] at h
    obtain ⟨rfl, rfl⟩ := h
    exact ⟨fun x hx => hb x (by simp [hx]), hb _ (by simp), by simp⟩
theorem rdRaw_b8 {most : Int} {bs r d : List Int} (hb : B8 bs) (h : rdRaw most bs = .ok (d, r)) : B8 r ∧ B8 d ∧ r.length ≤ bs.length ∧ (d.length : Int) ≤ max most 0 := by
  simp only [rdRaw] at h
  split at h
  · cases h
  · rename_i n s heq
    obtain ⟨h8, hu, hl⟩ := rdNum_b8 hb heq
    split at h
    · cases h
    · split at h
      · cases h
      · cases h
        refine ⟨fun x hx => h8 x (List.mem_of_mem_drop hx), fun x hx => h8 x (List.mem_of_mem_take hx), by simp; omega, by simp; omega⟩

/-! ### The state -/
structure GS (w W : World) (b : Nat) (cs : Array Value) (bs : List Int) : Prop where
  below : Below w.heap.size w W
  x : Blk W w.heap.size cs 26
  nu : ∀ c ∈ cs, ∀ y, c ≠ .int .u8 y
  e : Blk W (w.heap.size + 1) #[.int .i64 0] 29
  r : Rdr W b bs 0
  hb : w.heap.size + 2 ≤ b
  b8 : B8 bs
  hl : bs.length ≤ 140737488355328
/-- What the door asks. -/
structure GD (w W : World) (cs : Array Value) : Prop where
  below : Below w.heap.size w W
  x : Blk W w.heap.size cs 26
  e : Blk W (w.heap.size + 1) #[.int .i64 0] 29
section
variable {w W W' : World} {b : Nat} {cs : Array Value} {bs bs' : List Int}
theorem below_grown (h : Below w.heap.size w W) (hg : W.grownBy W' (some b)) (hb : w.heap.size ≤ b) : Below w.heap.size w W' :=
  h.grown hg h.size fun k hk => by cases hk; exact hb
theorem GS.door (h : GS w W b cs bs) (hg : W.grownBy W' (some b)) : GD w W' cs :=
  ⟨below_grown h.below hg (by have := h.hb; omega), h.x.grown hg (by have := h.hb; intro e; cases e; omega), h.e.grown hg (by have := h.hb; intro e; cases e; omega)⟩
theorem GS.here (h : GS w W b cs bs) : GD w W cs := ⟨h.below, h.x, h.e⟩
theorem GS.read (h : GS w W b cs bs) (hg : W.grownBy W' (some b)) (hr : Rdr W' b bs' 0) (h8 : B8 bs') (hl : bs'.length ≤ bs.length) : GS w W' b cs bs' :=
  ⟨(h.door hg).below, (h.door hg).x, h.nu, (h.door hg).e, hr, h.hb, h8, Nat.le_trans hl h.hl⟩
theorem GS.drew (h : GS w W b cs bs) : GS w W.drew b cs bs :=
  ⟨h.below.drew, h.x.drew, h.nu, h.e.drew, by obtain ⟨v, hB, hR⟩ := h.r; exact ⟨v, hB.drew, hR⟩, h.hb, h.b8, h.hl⟩
theorem GS.size2 (h : GS w W b cs bs) : w.heap.size + 2 ≤ W.heap.size := by have := h.e.lt; omega
theorem Rdr.lt {W : World} {b : Nat} {bs : List Int} {e : Int} (h : Rdr W b bs e) : b < W.heap.size := rdr_lt h
theorem GS.own (h : GS w W b cs bs) {row : Option Nat} {B : Nat} (hg : W.grownBy W' row) (hrow : ∀ k, row = some k → B ≤ k) (hB : b < B) : GS w W' b cs bs where
  below := h.below.grown hg h.below.size fun k hk => by have := hrow k hk; have := h.hb; omega
  x := h.x.grown hg (by intro e; have := hrow _ e.symm; have := h.hb; omega)
  nu := h.nu
  e := h.e.grown hg (by intro e; have := hrow _ e.symm; have := h.hb; omega)
  r := by
    obtain ⟨v0, hb, hR, hF⟩ := h.r
    exact ⟨v0, hb.grown hg (by intro e; have := hrow _ e.symm; omega), hR.grown hg fun a n c hv _ e => (by have := hrow _ e.symm; have := hF a n c hv; omega), hF⟩
  hb := h.hb
  b8 := h.b8
  hl := h.hl
theorem GS.set (h : GS w W b cs bs) (j : Nat) (v : Value) (hv : ∀ y, v ≠ .int .u8 y) : GS w (W.setCell ⟨w.heap.size, j, none⟩ v) b (cs.setIfInBounds j v) bs where
  below := h.below.setCell (Nat.le_refl _) v
  x := h.x.set j v
  nu c hc y := by
    rcases Array.mem_or_eq_of_mem_setIfInBounds hc with h1 | h1
    · exact h.nu c h1 y
    · rw [h1]; exact hv y
  e := h.e.other _ _ (by simp)
  r := by
    obtain ⟨v0, hB, hR, hF⟩ := h.r
    have := h.hb
    exact ⟨v0, hB.other _ _ (by simp; omega), hR.grown (grown_set W _ j v) (Rd.off hR h.x fun x hx hm => by obtain ⟨y, _, rfl⟩ := List.mem_map.1 hm; exact h.nu _ hx y rfl), hF⟩
  hb := h.hb
  b8 := h.b8
  hl := h.hl
end

/-! ### The deferred closure -/
set_option maxHeartbeats 400000 in
theorem get_idle (p q : Nat) (w : World) : CallsD Try.prog 28 #[ptr p, ptr q] .returning w fun en u w' => en = .returned (.tuple #[]) ∧ u = .returning ∧ w' = w := by
  refine callsD_of_wpS Try.func28 rfl fun c₀ cs hu => ?_
  have ha := isErr_nil
  apply wpS_seq
  apply wpS_region
  simp [wpOpsS, go_sem, recoverD, hu, ha, Try.ntmps28, Exit.thenS]
  refine wpS_of_wp ?_
  simp [Array.replicate]
  go_wp2
  exact ⟨rfl, .returning, by cases c₀; simp_all, _, results_none rfl _ _ _, rfl, rfl, rfl⟩

set_option maxHeartbeats 400000 in
theorem get_catch (p q : Nat) (c0 c1 c2 c3 c4 c5 e0 : Value) (no : Int) (older : List PanicEntry) (w : World) (hx : Blk w p #[c0, c1, c2, c3, c4, c5] 26) (he : Blk w q #[e0] 29) (hpq : p ≠ q) :
    CallsD Try.prog 28 #[ptr p, ptr q] (.panicking ({ v := errv no, recovered := false } :: older)) w fun en u w' => en = .returned (.tuple #[]) ∧ u = .panicking ({ v := errv no, recovered := true } :: older) ∧ (∀ B, B ≤ p → B ≤ q → Below B w w') ∧ Blk w' p #[.int .u64 0, .int .i64 0, .int .u64 0, .int .u64 0, .slice none 0 0, .slice none 0 0] 26 ∧ Blk w' q #[.int .i64 no] 29 := by
  refine callsD_of_wpS Try.func28 rfl fun c₀ cs hu => ?_
  have ha := isErr_some
  obtain ⟨x0, x1, x2, x3, x4, x5⟩ := hx.six
  obtain ⟨f0, f1, f2, f3, f4, f5⟩ := hx.six_free
  have y0 := he.cell 0 rfl
  have g0 := he.free 0
  apply wpS_seq
  apply wpS_region
  simp [wpOpsS, go_sem, recoverD, hu, ha, Try.ntmps28, Exit.thenS]
  refine wpS_of_wp ?_
  simp [Array.replicate]
  go_wp2
  have hx' := ((((((hx.set 0 (.int .u64 0)).set 1 (.int .i64 0)).set 2 (.int .u64 0)).set 3 (.int .u64 0)).set 4 (.slice none 0 0)).set 5 (.slice none 0 0)).other ⟨q, 0, none⟩ (.int .i64 no) (Ne.symm hpq)
  have he' := ((((((he.other ⟨p, 0, none⟩ (.int .u64 0) hpq).other ⟨p, 1, none⟩ (.int .i64 0) hpq).other ⟨p, 2, none⟩ (.int .u64 0) hpq).other ⟨p, 3, none⟩ (.int .u64 0) hpq).other ⟨p, 4, none⟩ (.slice none 0 0) hpq).other ⟨p, 5, none⟩ (.slice none 0 0) hpq).set 0 (.int .i64 no)
  refine ⟨rfl, _, rfl, _, results_none rfl _ _ _, rfl, rfl, fun B hp hq => ?_, by simpa using hx', by simpa using he'⟩
  exact (((((((Below.refl B w).setCell hp _).setCell hp _).setCell hp _).setCell hp _).setCell hp _).setCell hp _).setCell hq _

/-- Lists of an entry that lie in blocks which w lacks. -/
def EntNew (w : World) (v : Value) : Prop :=
  ∃ c0 c1 c2 c3 dv mv, v = .agg #[c0, c1, c2, c3, dv, mv] ∧ (∀ a n c, dv = .slice (some a) n c → w.heap.size ≤ a.block) ∧ ∀ a n c, mv = .slice (some a) n c → w.heap.size ≤ a.block
theorem EntNew.nil (w : World) (c0 c1 c2 c3 : Value) : EntNew w (.agg #[c0, c1, c2, c3, .slice none 0 0, .slice none 0 0]) :=
  ⟨_, _, _, _, _, _, rfl, (fun _ _ _ h => by cases h), (fun _ _ _ h => by cases h)⟩
/-- How cmd.Get ends. -/
def GetOut (X : Except Int Ent) (w : World) (en : Ending) (w' : World) : Prop :=
  Ext w w' ∧ ∃ v e x, en = .returned (.tuple #[v, .int .i64 e]) ∧ (EntV w' v x ∧ EntNew w v) ∧ match X with
  | .error no => e = no ∧ x = ⟨0, 0, 0, 0, [], []⟩
  | .ok y => e = 0 ∧ x = y

set_option maxHeartbeats 400000 in
theorem get_door (c0 c1 c2 c3 c4 c5 : Value) (no : Int) (w W : World) (tmps : Array Value) (X : Except Int Ent) (hX : X = .error no) (hd : GD w W #[c0, c1, c2, c3, c4, c5])
    (hz : tmps[2]? = some (ptr w.heap.size)) (he : tmps[3]? = some (ptr (w.heap.size + 1))) :
    bodyPostD Try.prog Try.f18 (GetOut X w) (.panic [{ v := errv no, recovered := false }]) { tmps := tmps, defers := [{ target := .fn (.func 28) #[ptr w.heap.size, ptr (w.heap.size + 1)], args := #[] }] } W := by
  subst hX
  refine leaves_cons (f := 28) (args := #[ptr w.heap.size, ptr (w.heap.size + 1)]) (by simp) (by simp [go_sem]) ?_
  refine (get_catch _ _ c0 c1 c2 c3 c4 c5 _ no [] W hd.x hd.e (by omega)).mono ?_
  rintro en u w2 ⟨rfl, rfl, hB, h1, h2⟩
  obtain ⟨x0, x1, x2, x3, x4, x5⟩ := h1.six
  have y0 := h2.cell 0 rfl
  have hE : Ext w w2 := Below.trans hd.below ((hB w.heap.size (Nat.le_refl _) (by omega)))
  simp [Leaves, settle, results, Try.results18, go_sem, hz, he, x0, x1, x2, x3, x4, x5, y0]
  exact ⟨hE, _, no, ⟨0, 0, 0, 0, [], []⟩, rfl, ⟨⟨_, _, rfl, Rd.nil _, Rd.nil _⟩, EntNew.nil _ _ _ _ _⟩, rfl, rfl⟩

theorem below_set {B : Nat} {w W : World} (h : Below B w W) (p j : Nat) (v : Value) (hp : B ≤ p) : Below B w (W.setCell ⟨p, j, none⟩ v) := h.setCell hp v
/-- A slice that lies behind the call's own two variables. -/
def NewV (w W : World) (v : Value) (cs : List Value) : Prop := Rd W v cs ∧ ∀ a n c, v = .slice (some a) n c → w.heap.size + 2 ≤ a.block
theorem NewV.nil (w W : World) : NewV w W (.slice none 0 0) [] := ⟨Rd.nil W, fun _ _ _ h => by cases h⟩
theorem NewV.set {w W : World} {v : Value} {cs : List Value} (h : NewV w W v cs) {p : Nat} (hp : p < w.heap.size + 2) (j : Nat) (u : Value) : NewV w (W.setCell ⟨p, j, none⟩ u) v cs :=
  ⟨h.1.grown (grown_set W p j u) fun a n c hv _ he => by have := h.2 a n c hv; cases he; omega, h.2⟩
theorem NewV.drew {w W : World} {v : Value} {cs : List Value} (h : NewV w W v cs) : NewV w W.drew v cs := ⟨h.1, h.2⟩
theorem NewV.grown {w W W' : World} {v : Value} {cs : List Value} (h : NewV w W v cs) {b : Nat} (hb : ∀ a n c, v = .slice (some a) n c → b ≠ a.block) (hg : W.grownBy W' (some b)) : NewV w W' v cs :=
  ⟨h.1.grown hg fun a n c hv _ he => by cases he; exact hb a n c hv rfl, h.2⟩

set_option maxHeartbeats 1000000 in
theorem get_fin (t k cl sq : Int) (dv mv : Value) (d ms : List Int) (w W : World) (tmps : Array Value) (X : Except Int Ent) (hX : X = .ok ⟨t, k, cl, sq, d, ms⟩)
    (hd : GD w W #[.int .u64 t, .int .i64 k, .int .u64 cl, .int .u64 sq, dv, mv]) (h4 : NewV w W dv (u8s d)) (h5 : NewV w W mv (u64s ms))
    (hz : tmps[2]? = some (ptr w.heap.size)) (he : tmps[3]? = some (ptr (w.heap.size + 1))) :
    bodyPostD Try.prog Try.f18 (GetOut X w) .ret { tmps := tmps, defers := [{ target := .fn (.func 28) #[ptr w.heap.size, ptr (w.heap.size + 1)], args := #[] }] }
      (((((((W.setCell ⟨w.heap.size, 0, none⟩ (.int .u64 t)).setCell ⟨w.heap.size, 1, none⟩ (.int .i64 k)).setCell ⟨w.heap.size, 2, none⟩ (.int .u64 cl)).setCell ⟨w.heap.size, 3, none⟩ (.int .u64 sq)).setCell ⟨w.heap.size, 4, none⟩ dv).setCell ⟨w.heap.size, 5, none⟩ mv).setCell ⟨w.heap.size + 1, 0, none⟩ (.int .i64 0)) := by
  subst hX
  have hx' := ((((((hd.x.set 0 (.int .u64 t)).set 1 (.int .i64 k)).set 2 (.int .u64 cl)).set 3 (.int .u64 sq)).set 4 dv).set 5 mv).other ⟨w.heap.size + 1, 0, none⟩ (.int .i64 0) (by simp)
  have he' := ((((((hd.e.other ⟨w.heap.size, 0, none⟩ (.int .u64 t) (by simp)).other ⟨w.heap.size, 1, none⟩ (.int .i64 k) (by simp)).other ⟨w.heap.size, 2, none⟩ (.int .u64 cl) (by simp)).other ⟨w.heap.size, 3, none⟩ (.int .u64 sq) (by simp)).other ⟨w.heap.size, 4, none⟩ dv (by simp)).other ⟨w.heap.size, 5, none⟩ mv (by simp)).set 0 (.int .i64 0)
  have hB := below_set (below_set (below_set (below_set (below_set (below_set (below_set hd.below w.heap.size 0 (.int .u64 t) (Nat.le_refl _)) w.heap.size 1 (.int .i64 k) (Nat.le_refl _)) w.heap.size 2 (.int .u64 cl) (Nat.le_refl _)) w.heap.size 3 (.int .u64 sq) (Nat.le_refl _)) w.heap.size 4 dv (Nat.le_refl _)) w.heap.size 5 mv (Nat.le_refl _)) (w.heap.size + 1) 0 (.int .i64 0) (Nat.le_succ _)
  have n4 := ((((((h4.set (p := w.heap.size) (by omega) 0 (.int .u64 t)).set (p := w.heap.size) (by omega) 1 (.int .i64 k)).set (p := w.heap.size) (by omega) 2 (.int .u64 cl)).set (p := w.heap.size) (by omega) 3 (.int .u64 sq)).set (p := w.heap.size) (by omega) 4 dv).set (p := w.heap.size) (by omega) 5 mv).set (p := w.heap.size + 1) (by omega) 0 (.int .i64 0)
  have n5 := ((((((h5.set (p := w.heap.size) (by omega) 0 (.int .u64 t)).set (p := w.heap.size) (by omega) 1 (.int .i64 k)).set (p := w.heap.size) (by omega) 2 (.int .u64 cl)).set (p := w.heap.size) (by omega) 3 (.int .u64 sq)).set (p := w.heap.size) (by omega) 4 dv).set (p := w.heap.size) (by omega) 5 mv).set (p := w.heap.size + 1) (by omega) 0 (.int .i64 0)
  generalize (((((((W.setCell ⟨w.heap.size, 0, none⟩ (.int .u64 t)).setCell ⟨w.heap.size, 1, none⟩ (.int .i64 k)).setCell ⟨w.heap.size, 2, none⟩ (.int .u64 cl)).setCell ⟨w.heap.size, 3, none⟩ (.int .u64 sq)).setCell ⟨w.heap.size, 4, none⟩ dv).setCell ⟨w.heap.size, 5, none⟩ mv).setCell ⟨w.heap.size + 1, 0, none⟩ (.int .i64 0)) = F at *
  simp only [List.setIfInBounds_toArray, List.set_cons_succ, List.set_cons_zero] at hx' he'
  obtain ⟨x0, x1, x2, x3, x4, x5⟩ := hx'.six
  have y0 := he'.cell 0 rfl
  obtain ⟨a4, m4, q4, rfl⟩ := Rd.shape h4.1
  obtain ⟨a5, m5, q5, rfl⟩ := Rd.shape h5.1
  refine leaves_cons (f := 28) (args := #[ptr w.heap.size, ptr (w.heap.size + 1)]) (by simp) (by simp [go_sem]) ?_
  refine (get_idle _ _ F).mono ?_
  rintro en u w2 ⟨rfl, rfl, rfl⟩
  simp [Leaves, settle, results, Try.results18, go_sem, hz, he, x0, x1, x2, x3, x4, x5, y0]
  exact ⟨hB, _, 0, _, rfl, ⟨⟨_, _, rfl, n4.1, n5.1⟩, ⟨_, _, _, _, _, _, rfl, fun a n c h => Nat.le_trans (by omega) (n4.2 a n c h), fun a n c h => Nat.le_trans (by omega) (n5.2 a n c h)⟩⟩, rfl, rfl⟩

theorem own_grown {w w' : World} {base : Nat} {e : TypeId} {size : Nat} {v : Value} {n : Nat} {xs : List Value} {b : Nat} (h : w.ownsRow base e size v n xs) (hg : w.grownBy w' (some b)) (hb : b < base) : w'.ownsRow base e size v n xs := by
  obtain ⟨h1, h2⟩ := h
  refine ⟨h1, ?_⟩
  rcases h2 with h2 | ⟨g, cap, cur, hv, hg', hh, r⟩
  · exact .inl h2
  · exact .inr ⟨g, cap, cur, hv, hg', (hg.block g (Array.getElem?_eq_some_iff.1 hh).1 (by intro e; cases e; omega)).trans hh, r⟩
theorem newV_own {w w1 : World} {base : Nat} {e : TypeId} {v : Value} {xs : List Value} {n : Nat} (h : w1.ownsRow base e 1 v n xs) (hb : w.heap.size + 2 ≤ base) : NewV w w1 v xs ∧ ∀ a n c, v = .slice (some a) n c → base ≤ a.block := by
  have hk : ∀ a n c, v = .slice (some a) n c → base ≤ a.block := fun a n c hv => by
    rcases h.2 with ⟨hn, _⟩ | ⟨g, cap, cur, hv', hg, _⟩
    · rw [hn] at hv; cases hv
    · rw [hv'] at hv; cases hv; exact hg
  exact ⟨⟨Rd.of_own h, fun a n c hv => Nat.le_trans hb (hk a n c hv)⟩, hk⟩
theorem rdIds_step {N j M : Nat} {acc r r' : List Int} {m : Int} (hM : N - j = M + 1) (hm : rdNum r = .ok (m, r')) : rdIds (N - j) acc r = if membersB (acc ++ [m]) then rdIds (N - (j + 1)) (acc ++ [m]) r' else .error 3 := by
  rw [hM, show N - (j + 1) = M by omega]; simp [rdIds, hm]
theorem u64s_one'' (x : Int) : u64s [x] = [.int .u64 x] := rfl
end Go.Proofs.Ytiaiicgpiiabnaa
