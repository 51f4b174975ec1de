/- Layer 25 (seq): Get's closures, its two doors; what is known within it. -/
import Derived.Test.YtgefphfnicjbiaaDoorBun4
import Derived.Test.YtgefphfnicjbiaaDoorBun3
import Derived.Test.YtgefphfnicjbiaaDoorSqg
import Derived.Test.YtgefphfnicjbiaaDoorMono4
set_option linter.unusedSimpArgs false
set_option linter.unusedVariables false
namespace Go.Proofs.YtgefphfnicjbiaaDoor
open Go Go.RowKit

theorem rdDig_bad : ∀ (k : Nat) (f : Bool) (n : Nat) (bs : List Int) (e : Int), rdDig k f n bs = .error e → e ≠ 0
  | 0, f, n, bs, e, h => by simp [rdDig] at h
  | k + 1, f, n, [], e, h => by simp [rdDig] at h; omega
  | k + 1, f, n, c :: r, e, h => by
    simp only [rdDig] at h
    split at h
    · cases h; decide
    · exact rdDig_bad k _ _ _ _ h
theorem rdNum_bad {bs : List Int} {e : Int} (h : rdNum bs = .error e) : e ≠ 0 := by
  cases bs with
  | nil => simp [rdNum] at h; omega
  | cons k r =>
    simp only [rdNum] at h
    split at h
    · cases h; decide
    · split at h
      · rename_i e' heq
        cases h; exact rdDig_bad _ _ _ _ _ heq
      · cases h
theorem rdRaw_bad {most : Int} {bs : List Int} {e : Int} (h : rdRaw most bs = .error e) : e ≠ 0 := by
  simp only [rdRaw] at h
  split at h
  · rename_i e' heq; cases h; exact rdNum_bad heq
  · split at h
    · cases h; decide
    · split at h
      · cases h; decide
      · cases h
theorem rdNum_fine {bs r : List Int} {n : Int} (hb : B8 bs) (h : rdNum bs = .ok (n, r)) : B8 r ∧ U64 n ∧ r.length ≤ bs.length := by
  obtain ⟨e, h1, h2⟩ := rdNum_inv bs _ _ hb h
  refine ⟨by rw [e] at hb; exact b8_right hb, by unfold U64; omega, by rw [e]; simp⟩
theorem rdRaw_fine {bs r d : List Int} (hb : B8 bs) (h : rdRaw 64 bs = .ok (d, r)) : B8 r ∧ B8 d ∧ r.length ≤ bs.length ∧ d.length ≤ 64 := by
  obtain ⟨e, h1, h2, h3⟩ := rdRaw_back hb h
  exact ⟨h3, h2, by rw [e]; simp, h1⟩
theorem rdMany_bad {most : Int} {bs : List Int} {e : Int} (h : rdMany most bs = .error e) : e ≠ 0 := by
  simp only [rdMany] at h
  split at h
  · rename_i e' heq; cases h; exact rdNum_bad heq
  · split at h
    · cases h; decide
    · cases h
/-! ### The deferred closure -/
theorem leaf_chg {W W' : World} {S : List Nat} {v : Value} {l : List Int} (h : Rd W v (u8s l) ∧ UnT W v) (hC : Chg S W W') (hu : ∀ t ∈ S, ∀ cs, ¬ Blk W t cs 5) : Rd W' v (u8s l) ∧ UnT W' v :=
  ⟨h.1.chg hC (fun a n c hv hne hm => by
    obtain ⟨a', c', hv', -⟩ := h.1
    rw [hv'] at hv; cases hv
    obtain ⟨cs, hB⟩ := h.2 a _ c hv' (fun e => hne (List.eq_nil_of_length_eq_zero e))
    exact hu _ hm cs hB), h.2.chg hC (fun a n c hv hn hm => by
    obtain ⟨cs, hB⟩ := h.2 a n c hv hn
    exact hu _ hm cs hB)⟩
theorem SlB.chg {B : Nat} {w w' : World} {S : List Nat} {e : TypeId} {v : Value} (h : SlB B w e v) (hC : Chg S w w') (hS : ∀ a n c, v = .slice (some a) n c → a.block ∉ S) : SlB B w' e v := fun a n c hv => by
  obtain ⟨h1, cur, h2⟩ := h a n c hv
  exact ⟨h1, cur, h2.chg hC (hS a n c hv)⟩
/-- A book whose lists lie in blocks of their kinds. -/
def BookT (w : World) (v : Value) (b : Bk) : Prop := ∃ (lv cv : Value) (L : List LQ) (C : List CQ), v = .agg #[lv, cv] ∧ L.map (·.1) = b.leaves ∧ C.map (·.1) = b.clients ∧
  RowV w 1 lv (L.map lfR) ∧ RowV w 2 cv (C.map clR) ∧ (∀ q ∈ L, Rd w q.2 (u8s q.1) ∧ UnT w q.2) ∧ (∀ q ∈ C, ClV w q ∧ SlB 0 w 49 q.2) ∧ SlB 0 w 27 lv ∧ SlB 0 w 47 cv
theorem BookT.book {w : World} {v : Value} {b : Bk} (h : BookT w v b) : BookV w v b := by
  obtain ⟨lv, cv, L, C, e, h1, h2, h3, h4, h5, h6, -⟩ := h
  exact ⟨lv, cv, L, C, e, h1, h2, h3, h4, fun q hq => (h5 q hq).1, fun q hq => (h6 q hq).1⟩
theorem BookT.nil (w : World) : BookT w (.agg #[.slice none 0 0, .slice none 0 0]) ⟨[], []⟩ := ⟨_, _, [], [], rfl, rfl, rfl, RowV.nil _ _, RowV.nil _ _, (fun q hq => by cases hq), (fun q hq => by cases hq), (fun _ _ _ h => by cases h), fun _ _ _ h => by cases h⟩
theorem BookT.chg {w w' : World} {v : Value} {b : Bk} {S : List Nat} (h : BookT w v b) (hC : Chg S w w') (hS : ∀ t ∈ S, ∃ c, Blk w t c 25) : BookT w' v b := by
  obtain ⟨lv, cv, L, C, e, h1, h2, h3, h4, h5, h6, h7, h8⟩ := h
  have nt : ∀ {t : Nat} {e : TypeId} {cs : Array Value}, Blk w t cs e → e ≠ 25 → t ∉ S := fun hb he hm => by
    obtain ⟨c, h3⟩ := hS _ hm
    exact he (blk_type hb h3)
  have ns : ∀ {e : TypeId} {u : Value}, SlB 0 w e u → e ≠ 25 → ∀ a n c, u = .slice (some a) n c → a.block ∉ S := fun h he a n c hv => by
    obtain ⟨_, cur, h3⟩ := h a n c hv
    exact nt h3 he
  exact ⟨lv, cv, L, C, e, h1, h2, h3.chg hC (fun a n c hv _ => ns h7 (by decide) a n c hv), h4.chg hC (fun a n c hv _ => ns h8 (by decide) a n c hv), fun q hq => leaf_chg (h5 q hq) hC (fun t ht cs hb => nt hb (by decide) ht),
    fun q hq => ⟨RowV.chg (h6 q hq).1 hC (fun a n c hv _ => ns (h6 q hq).2 (by decide) a n c hv), (h6 q hq).2.chg hC (ns (h6 q hq).2 (by decide))⟩, h7.chg hC (ns h7 (by decide)), h8.chg hC (ns h8 (by decide))⟩
theorem BookT.ext {w w' : World} {v : Value} {b : Bk} (h : BookT w v b) (hE : Ext w w') : BookT w' v b := h.chg (S := []) (Chg.ext hE) (by simp)
theorem BookT.new {B : Nat} {w : World} {v : Value} {b : Bk} (h : NewBk B w v b) : BookT w v b := by
  obtain ⟨lv, cv, L, C, e, h1, h2, h3, h4, h5, h6, g1, g2, g3, g4⟩ := h
  have low : ∀ {e : TypeId} {u : Value}, SlB B w e u → SlB 0 w e u := fun h a n c hv => ⟨Nat.zero_le _, (h a n c hv).2⟩
  exact ⟨lv, cv, L, C, e, h1, h2, h3, h4, fun q hq => ⟨h5 q hq, fun a n c hv _ => (g3 q hq a n c hv).2⟩, fun q hq => ⟨h6 q hq, low (g4 q hq)⟩, low g1, low g2⟩
/-- How Get ends. -/
def KOut (X : Except Int Bk) (w : World) (en : Ending) (w' : World) : Prop :=
  Ext w w' ∧ ∃ v e x, en = .returned (.tuple #[v, .int .i64 e]) ∧ BookT w' v x ∧ match X with
  | .error no => e = no ∧ x = ⟨[], []⟩
  | .ok y => e = 0 ∧ x = y
/-- At a panic's door. -/
structure KD (w W : World) : Prop where
  ext : Ext w W
  x : ∃ c0 c1, Blk W w.heap.size #[c0, c1] 25
  e : ∃ v, Blk W (w.heap.size + 1) #[v] 34
end Go.Proofs.YtgefphfnicjbiaaDoor
