/- Layer 25 (seq): Get's closures, its two doors; what is known within it. -/
import Derived.Test.YtgefphfnicjbiaaBun3
import Derived.Test.YtgefphfnicjbiaaRdt
import Derived.Test.YtgefphfnicjbiaaRde
import Derived.Test.YtgefphfnicjbiaaSqg
import Derived.Test.YtgefphfnicjbiaaBun2
import Derived.Test.YtgefphfnicjbiaaMono4
set_option linter.unusedSimpArgs false
set_option linter.unusedVariables false
namespace Go.Proofs.Ytgefphfnicjbiaa
open Go Go.RowKit

theorem rdDig_bad : ∀ (k : Nat) (f : Bool) (n : Nat) (bs : List Int) (e : Int), rdDig k f n bs = .error e → e ≠ 0
  | 0, f, n, bs, e, h => by simp [rdDig] at h
  | k + 1, f, n, [], e, h => by simp [rdDig] at h; omega
  | k + 1, f, n, c :: r, e, h => by
    simp only [rdDig] at h
    split at h
    · cases h; decide
    · exact rdDig_bad k _ _ _ _ h
theorem rdNum_bad {bs : List Int} {e : Int} (h : rdNum bs = .error e) : e ≠ 0 := by
  cases bs with
  | nil => simp [rdNum] at h; omega
  | cons k r =>
    simp only [rdNum] at h
    split at h
    · cases h; decide
    · split at h
      · rename_i e' heq
        cases h; exact rdDig_bad _ _ _ _ _ heq
      · cases h
theorem rdRaw_bad {most : Int} {bs : List Int} {e : Int} (h : rdRaw most bs = .error e) : e ≠ 0 := by
  simp only [rdRaw] at h
  split at h
  · rename_i e' heq; cases h; exact rdNum_bad heq
  · split at h
    · cases h; decide
    · split at h
      · cases h; decide
      · cases h
theorem rdNum_fine {bs r : List Int} {n : Int} (hb : B8 bs) (h : rdNum bs = .ok (n, r)) : B8 r ∧ U64 n ∧ r.length ≤ bs.length := by
  obtain ⟨e, h1, h2⟩ := rdNum_inv bs _ _ hb h
  refine ⟨by rw [e] at hb; exact b8_right hb, by unfold U64; omega, by rw [e]; simp⟩
theorem rdRaw_fine {bs r d : List Int} (hb : B8 bs) (h : rdRaw 64 bs = .ok (d, r)) : B8 r ∧ B8 d ∧ r.length ≤ bs.length ∧ d.length ≤ 64 := by
  obtain ⟨e, h1, h2, h3⟩ := rdRaw_back hb h
  exact ⟨h3, h2, by rw [e]; simp, h1⟩
theorem rdMany_bad {most : Int} {bs : List Int} {e : Int} (h : rdMany most bs = .error e) : e ≠ 0 := by
  simp only [rdMany] at h
  split at h
  · rename_i e' heq; cases h; exact rdNum_bad heq
  · split at h
    · cases h; decide
    · cases h
theorem ought_ok {z : Bool} (h : z = true) (no : Int) (w : World) : Calls Try.prog 35 #[.bool z, .int .i64 no] w fun en w' => w' = w ∧ en = .returned (.tuple #[]) := (ought_c z no w).mono fun e w' h' => by rw [h] at h'; exact h'
theorem ought_bad {z : Bool} (h : z = false) (no : Int) (w : World) : Calls Try.prog 35 #[.bool z, .int .i64 no] w fun en w' => w' = w ∧ en = thrown no := (ought_c z no w).mono fun e w' h' => by rw [h] at h'; exact h'
set_option maxHeartbeats 1000000 in
/-- Get's 'many'. -/
theorem many_c (most : Int) (t4 rb : Nat) (bs : List Int) (w : World) (hB4 : Blk w t4 #[ptr rb] 68) (hb8 : B8 bs) (h : Rdr w rb bs 0) :
    Calls Try.prog 32 #[.int .u64 most, ptr t4] w fun en w' => w.grownBy w' (some rb) ∧ match rdMany most bs with
      | .error no => en = thrown no ∧ no ≠ 0
      | .ok (n, r) => en = .returned (.int .u64 n) ∧ Rdr w' rb r 0 := by
  have c0 := hB4.cell 0 rfl
  have hnum := num_m rb bs 0 w hb8 h
  simp only [stuck?, if_true] at hnum
  have hou := fun ok no w => ought_c ok no w
  simp only [List.getElem_toArray, List.getElem_cons_zero] at c0
  obtain ⟨X, hX⟩ : ∃ X, X = rdNum bs := ⟨_, rfl⟩
  rw [← hX] at hnum
  unfold rdMany
  rw [← hX]
  clear hB4 h
  cases X with
  | error no =>
    have hno := rdNum_bad hX.symm
    have hmu := fun v w => must_u64 v no w
    simp only [if_neg hno] at hmu
    go_enter Try.func32, Try.ntmps32
    go_wp2_with fail
    refine hnum.mono ?_
    rintro e w' ⟨hg, rfl, hr⟩
    have HG := Lib.hid hg
    clear hg hr
    go_wp2_with fail
    refine (hmu _ _).mono ?_
    rintro e w2 ⟨rfl, rfl⟩
    exact ⟨rfl, HG.out, rfl, hno⟩
  | ok p =>
    obtain ⟨n, r⟩ := p
    have hmu := fun v w => must_u64 v 0 w
    simp only [if_true] at hmu
    by_cases hm : most < n
    · have hm' : ¬ n ≤ most := by omega
      have h4 := fun w => ought_bad (decide_eq_false hm') 4 w
      clear hou
      simp only [if_pos hm]
      go_enter Try.func32, Try.ntmps32
      go_wp2_with fail
      refine hnum.mono ?_
      rintro e w' ⟨hg, v, rfl, rfl, hr⟩
      have HG := Lib.hid hg; have HR := Lib.hid hr
      clear hg hr
      go_wp2_with fail
      refine (hmu _ _).mono ?_
      rintro e w2 ⟨rfl, rfl⟩
      go_wp2_with fail
      refine (h4 _).mono ?_
      rintro e w2 ⟨rfl, rfl⟩
      exact ⟨rfl, HG.out, rfl, by decide⟩
    · have hm' : n ≤ most := by omega
      have h4 := fun w => ought_ok (z := true) rfl 4 w
      clear hou
      simp only [if_neg hm]
      go_enter Try.func32, Try.ntmps32
      go_wp2_with fail
      refine hnum.mono ?_
      rintro e w' ⟨hg, v, rfl, rfl, hr⟩
      have HG := Lib.hid hg; have HR := Lib.hid hr
      clear hg hr
      go_wp2_with fail
      refine (hmu _ _).mono ?_
      rintro e w2 ⟨rfl, rfl⟩
      go_wp2_with fail
      refine (h4 _).mono ?_
      rintro e w2 ⟨rfl, rfl⟩
      go_wp2_with fail
      go_ret
      exact ⟨HG.out, rfl, HR.out⟩
/-! ### The deferred closure -/
set_option maxHeartbeats 400000 in
theorem kget_idle (p q : Nat) (w : World) : CallsD Try.prog 30 #[ptr p, ptr q] .returning w fun en u w' => en = .returned (.tuple #[]) ∧ u = .returning ∧ w' = w := by
  refine callsD_of_wpS Try.func30 rfl fun c₀ cs hu => ?_
  have ha := isErr_nil
  apply wpS_seq
  apply wpS_region
  simp [wpOpsS, go_sem, recoverD, hu, ha, Try.ntmps30, Exit.thenS]
  refine wpS_of_wp ?_
  simp [Array.replicate]
  go_wp2
  exact ⟨rfl, .returning, by cases c₀; simp_all, _, results_none rfl _ _ _, rfl, rfl, rfl⟩
set_option maxHeartbeats 400000 in
theorem kget_catch (p q : Nat) (c0 c1 e0 : Value) (no : Int) (older : List PanicEntry) (w : World) (hx : Blk w p #[c0, c1] 27) (he : Blk w q #[e0] 33) (hpq : p ≠ q) :
    CallsD Try.prog 30 #[ptr p, ptr q] (.panicking ({ v := errv no, recovered := false } :: older)) w fun en u w' => en = .returned (.tuple #[]) ∧ u = .panicking ({ v := errv no, recovered := true } :: older) ∧ Chg [p, q] w w' ∧ Blk w' p #[.slice none 0 0, .slice none 0 0] 27 ∧ Blk w' q #[.int .i64 no] 33 := by
  refine callsD_of_wpS Try.func30 rfl fun c₀ cs hu => ?_
  have ha := isErr_some
  have x0 := hx.cell 0 rfl; have x1 := hx.cell 1 rfl
  have f0 := hx.free 0; have f1 := hx.free 1
  have y0 := he.cell 0 rfl
  have g0 := he.free 0
  apply wpS_seq
  apply wpS_region
  simp [wpOpsS, go_sem, recoverD, hu, ha, Try.ntmps30, Exit.thenS]
  refine wpS_of_wp ?_
  simp [Array.replicate]
  go_wp2
  have hx' := ((hx.set 0 (.slice none 0 0)).set 1 (.slice none 0 0)).other ⟨q, 0, none⟩ (.int .i64 no) (Ne.symm hpq)
  have he' := ((he.other ⟨p, 0, none⟩ (.slice none 0 0) hpq).other ⟨p, 1, none⟩ (.slice none 0 0) hpq).set 0 (.int .i64 no)
  refine ⟨rfl, _, rfl, _, results_none rfl _ _ _, rfl, rfl, ?_, by simpa using hx', by simpa using he'⟩
  exact ((Chg.set p 0 _ (by simp)).trans (Chg.set p 1 _ (by simp))).trans (Chg.set q 0 _ (by simp))
theorem leaf_chg {W W' : World} {S : List Nat} {v : Value} {l : List Int} (h : Rd W v (u8s l) ∧ UnT W v) (hC : Chg S W W') (hu : ∀ t ∈ S, ∀ cs, ¬ Blk W t cs 5) : Rd W' v (u8s l) ∧ UnT W' v :=
  ⟨h.1.chg hC (fun a n c hv hne hm => by
    obtain ⟨a', c', hv', -⟩ := h.1
    rw [hv'] at hv; cases hv
    obtain ⟨cs, hB⟩ := h.2 a _ c hv' (fun e => hne (List.eq_nil_of_length_eq_zero e))
    exact hu _ hm cs hB), h.2.chg hC (fun a n c hv hn hm => by
    obtain ⟨cs, hB⟩ := h.2 a n c hv hn
    exact hu _ hm cs hB)⟩
theorem SlB.chg {B : Nat} {w w' : World} {S : List Nat} {e : TypeId} {v : Value} (h : SlB B w e v) (hC : Chg S w w') (hS : ∀ a n c, v = .slice (some a) n c → a.block ∉ S) : SlB B w' e v := fun a n c hv => by
  obtain ⟨h1, cur, h2⟩ := h a n c hv
  exact ⟨h1, cur, h2.chg hC (hS a n c hv)⟩
/-- A book whose lists lie in blocks of their kinds. -/
def BookT (w : World) (v : Value) (b : Bk) : Prop := ∃ (lv cv : Value) (L : List LQ) (C : List CQ), v = .agg #[lv, cv] ∧ L.map (·.1) = b.leaves ∧ C.map (·.1) = b.clients ∧
  RowV w 1 lv (L.map lfR) ∧ RowV w 2 cv (C.map clR) ∧ (∀ q ∈ L, Rd w q.2 (u8s q.1) ∧ UnT w q.2) ∧ (∀ q ∈ C, ClV w q ∧ SlB 0 w 59 q.2) ∧ SlB 0 w 29 lv ∧ SlB 0 w 55 cv
theorem BookT.book {w : World} {v : Value} {b : Bk} (h : BookT w v b) : BookV w v b := by
  obtain ⟨lv, cv, L, C, e, h1, h2, h3, h4, h5, h6, -⟩ := h
  exact ⟨lv, cv, L, C, e, h1, h2, h3, h4, fun q hq => (h5 q hq).1, fun q hq => (h6 q hq).1⟩
theorem BookT.nil (w : World) : BookT w (.agg #[.slice none 0 0, .slice none 0 0]) ⟨[], []⟩ := ⟨_, _, [], [], rfl, rfl, rfl, RowV.nil _ _, RowV.nil _ _, (fun q hq => by cases hq), (fun q hq => by cases hq), (fun _ _ _ h => by cases h), fun _ _ _ h => by cases h⟩
theorem BookT.chg {w w' : World} {v : Value} {b : Bk} {S : List Nat} (h : BookT w v b) (hC : Chg S w w') (hS : ∀ t ∈ S, ∃ c, Blk w t c 27) : BookT w' v b := by
  obtain ⟨lv, cv, L, C, e, h1, h2, h3, h4, h5, h6, h7, h8⟩ := h
  have nt : ∀ {t : Nat} {e : TypeId} {cs : Array Value}, Blk w t cs e → e ≠ 27 → t ∉ S := fun hb he hm => by
    obtain ⟨c, h3⟩ := hS _ hm
    exact he (blk_type hb h3)
  have ns : ∀ {e : TypeId} {u : Value}, SlB 0 w e u → e ≠ 27 → ∀ a n c, u = .slice (some a) n c → a.block ∉ S := fun h he a n c hv => by
    obtain ⟨_, cur, h3⟩ := h a n c hv
    exact nt h3 he
  exact ⟨lv, cv, L, C, e, h1, h2, h3.chg hC (fun a n c hv _ => ns h7 (by decide) a n c hv), h4.chg hC (fun a n c hv _ => ns h8 (by decide) a n c hv), fun q hq => leaf_chg (h5 q hq) hC (fun t ht cs hb => nt hb (by decide) ht),
    fun q hq => ⟨RowV.chg (h6 q hq).1 hC (fun a n c hv _ => ns (h6 q hq).2 (by decide) a n c hv), (h6 q hq).2.chg hC (ns (h6 q hq).2 (by decide))⟩, h7.chg hC (ns h7 (by decide)), h8.chg hC (ns h8 (by decide))⟩
theorem BookT.ext {w w' : World} {v : Value} {b : Bk} (h : BookT w v b) (hE : Ext w w') : BookT w' v b := h.chg (S := []) (Chg.ext hE) (by simp)
theorem BookT.new {B : Nat} {w : World} {v : Value} {b : Bk} (h : NewBk B w v b) : BookT w v b := by
  obtain ⟨lv, cv, L, C, e, h1, h2, h3, h4, h5, h6, g1, g2, g3, g4⟩ := h
  have low : ∀ {e : TypeId} {u : Value}, SlB B w e u → SlB 0 w e u := fun h a n c hv => ⟨Nat.zero_le _, (h a n c hv).2⟩
  exact ⟨lv, cv, L, C, e, h1, h2, h3, h4, fun q hq => ⟨h5 q hq, fun a n c hv _ => (g3 q hq a n c hv).2⟩, fun q hq => ⟨h6 q hq, low (g4 q hq)⟩, low g1, low g2⟩
/-- How Get ends. -/
def KOut (X : Except Int Bk) (w : World) (en : Ending) (w' : World) : Prop :=
  Ext w w' ∧ ∃ v e x, en = .returned (.tuple #[v, .int .i64 e]) ∧ BookT w' v x ∧ match X with
  | .error no => e = no ∧ x = ⟨[], []⟩
  | .ok y => e = 0 ∧ x = y
/-- At a panic's door. -/
structure KD (w W : World) : Prop where
  ext : Ext w W
  x : ∃ c0 c1, Blk W w.heap.size #[c0, c1] 27
  e : ∃ v, Blk W (w.heap.size + 1) #[v] 33
set_option maxHeartbeats 400000 in
theorem kget_door (no : Int) (w W : World) (tmps : Array Value) (X : Except Int Bk) (hX : X = .error no) (hd : KD w W) (hz : tmps[2]? = some (ptr w.heap.size)) (he : tmps[3]? = some (ptr (w.heap.size + 1))) :
    bodyPostD Try.prog Try.f11 (KOut X w) (.panic [{ v := errv no, recovered := false }]) { tmps := tmps, defers := [{ target := .fn (.func 30) #[ptr w.heap.size, ptr (w.heap.size + 1)], args := #[] }] } W := by
  subst hX
  obtain ⟨hE, ⟨c0, c1, h1⟩, ⟨v, h2⟩⟩ := hd
  refine leaves_cons (f := 30) (args := #[ptr w.heap.size, ptr (w.heap.size + 1)]) (by simp) (by simp [go_sem]) ?_
  refine (kget_catch _ _ c0 c1 v no [] W h1 h2 (by omega)).mono ?_
  rintro en u w2 ⟨rfl, rfl, hC, h1, h2⟩
  have x0 := h1.cell 0 rfl; have x1 := h1.cell 1 rfl
  have y0 := h2.cell 0 rfl
  have hE : Ext w w2 := ((Chg.ext hE : Chg [w.heap.size, w.heap.size + 1] w W).trans hC).toExt (fun t ht => by simp at ht; omega)
  simp only [List.getElem_toArray, List.getElem_cons_zero, List.getElem_cons_succ] at x0 x1 y0
  simp [Leaves, settle, results, Try.results11, go_sem, hz, he, x0, x1, y0]
  exact ⟨hE, _, no, ⟨[], []⟩, rfl, BookT.nil _, rfl, rfl⟩
set_option maxHeartbeats 1000000 in
theorem kget_fin (lv cv : Value) (b : Bk) (w W : World) (tmps : Array Value) (X : Except Int Bk) (hX : X = .ok b) (hE : Ext w W) (h1 : Blk W w.heap.size #[lv, cv] 27) (h2 : Blk W (w.heap.size + 1) #[.int .i64 0] 33) (hB : BookT W (.agg #[lv, cv]) b)
    (hz : tmps[2]? = some (ptr w.heap.size)) (he : tmps[3]? = some (ptr (w.heap.size + 1))) :
    bodyPostD Try.prog Try.f11 (KOut X w) .ret { tmps := tmps, defers := [{ target := .fn (.func 30) #[ptr w.heap.size, ptr (w.heap.size + 1)], args := #[] }] } W := by
  subst hX
  have x0 := h1.cell 0 rfl; have x1 := h1.cell 1 rfl
  have y0 := h2.cell 0 rfl
  simp only [List.getElem_toArray, List.getElem_cons_zero, List.getElem_cons_succ] at x0 x1 y0
  have hl1 : lv.oneCell' = true := by obtain ⟨lv', cv', L, C, e, -, -, h3, -⟩ := hB; cases e; obtain ⟨a, c, e, -⟩ := h3.shape; rw [e]; rfl
  have hl2 : cv.oneCell' = true := by obtain ⟨lv', cv', L, C, e, -, -, -, h3, -⟩ := hB; cases e; obtain ⟨a, c, e, -⟩ := h3.shape; rw [e]; rfl
  refine leaves_cons (f := 30) (args := #[ptr w.heap.size, ptr (w.heap.size + 1)]) (by simp) (by simp [go_sem]) ?_
  refine (kget_idle _ _ W).mono ?_
  rintro en u w2 ⟨rfl, rfl, rfl⟩
  obtain ⟨lv', cv', L, C, e, -, -, h3, h4, -⟩ := id hB
  cases e
  obtain ⟨a3, c3, rfl, -⟩ := h3.shape
  obtain ⟨a4, c4, rfl, -⟩ := h4.shape
  simp [Leaves, settle, results, Try.results11, go_sem, hz, he, x0, x1, y0]
  exact ⟨hE, _, 0, _, rfl, by simpa using hB, rfl, rfl⟩
end Go.Proofs.Ytgefphfnicjbiaa
