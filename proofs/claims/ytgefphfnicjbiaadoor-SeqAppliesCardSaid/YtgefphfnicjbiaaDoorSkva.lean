/- Layer 25 (seq): for tabellionref25.Apply. -/
import Derived.Test.YtgefphfnicjbiaaDoorSku
set_option linter.unusedSimpArgs false
set_option linter.unusedVariables false
namespace Go.Proofs.YtgefphfnicjbiaaDoor
open Go Go.RowKit

/-! ### A list in whose order one more is put -/
section
variable {α : Type} {f : α → Int} {l : List α} {s : α}
def insG (f : α → Int) (l : List α) (s : α) : List α := l.take (posL (l.map f) (f s)) ++ [s] ++ l.drop (posL (l.map f) (f s))
def gSt (f : α → Int) (l : List α) (s : α) (i : Nat) (z : Bool) (out : List α) : Prop :=
  if z then posL (l.map f) (f s) < i ∧ out = (insG f l s).take (i + 1) else i ≤ posL (l.map f) (f s) ∧ out = l.take i
theorem insG_len (hl : (l.map f).Pairwise (· < ·)) : (insG f l s).length = l.length + 1 := by
  have hP := (posL_cut (l.map f) (f s) hl).le
  rw [List.length_map] at hP
  unfold insG
  rw [List.length_append, List.length_append, List.length_take, List.length_drop]
  simp only [List.length_cons, List.length_nil]
  omega
theorem insG_get (i : Nat) (h : posL (l.map f) (f s) ≤ i) (hl : (l.map f).Pairwise (· < ·)) : (insG f l s)[i + 1]? = l[i]? := by
  have hP := (posL_cut (l.map f) (f s) hl).le
  rw [List.length_map] at hP
  unfold insG
  generalize posL (l.map f) (f s) = P at *
  rw [List.append_assoc, List.getElem?_append_right (by rw [List.length_take]; omega), List.length_take, Nat.min_eq_left hP, List.singleton_append, show i + 1 - P = (i - P) + 1 by omega, List.getElem?_cons_succ, List.getElem?_drop, show P + (i - P) = i by omega]
theorem gSt_skip (hl : (l.map f).Pairwise (· < ·)) {i : Nat} {out : List α} {x : α} (h : gSt f l s i false out) (hx : l[i]? = some x) (hlt : ¬ f s < f x) (hne : f x ≠ f s) : gSt f l s (i + 1) false (out ++ [x]) := by
  unfold gSt at h ⊢
  simp only [Bool.false_eq_true, if_false] at h ⊢
  have hc := posL_cut (l.map f) (f s) hl
  refine ⟨Nat.lt_of_not_le fun h1 => ?_, by rw [h.2, take_snoc hx]⟩
  have := hc.hi i (f x) h1 (by rw [List.getElem?_map, hx]; rfl)
  omega
theorem gSt_put (hl : (l.map f).Pairwise (· < ·)) {i : Nat} {out : List α} {x : α} (h : gSt f l s i false out) (hx : l[i]? = some x) (hlt : f s < f x) : gSt f l s (i + 1) true (out ++ [s] ++ [x]) := by
  unfold gSt at h ⊢
  simp only [Bool.false_eq_true, if_false, if_true] at h ⊢
  have hc := posL_cut (l.map f) (f s) hl
  have hP : posL (l.map f) (f s) = i := by
    rcases Nat.lt_or_ge i (posL (l.map f) (f s)) with h1 | h1
    · have := hc.lo i (f x) h1 (by rw [List.getElem?_map, hx]; rfl); omega
    · omega
  refine ⟨by omega, ?_⟩
  have h1 := insG_get (f := f) (s := s) i (by omega) hl
  rw [hx] at h1
  rw [take_snoc h1]
  congr 1
  unfold insG
  rw [hP, h.2]
  have hil := (List.getElem?_eq_some_iff.1 hx).1
  rw [List.take_left' (by rw [List.length_append, List.length_take, Nat.min_eq_left (by omega)]; rfl)]
theorem gSt_go (hl : (l.map f).Pairwise (· < ·)) {i : Nat} {out : List α} {x : α} (h : gSt f l s i true out) (hx : l[i]? = some x) : gSt f l s (i + 1) true (out ++ [x]) := by
  unfold gSt at h ⊢
  simp only [if_true] at h ⊢
  refine ⟨by omega, ?_⟩
  have h1 := insG_get (f := f) (s := s) i (by omega) hl
  rw [hx] at h1
  rw [h.2, take_snoc h1]
theorem gSt_end {z : Bool} {out : List α} (hl : (l.map f).Pairwise (· < ·)) (h : gSt f l s l.length z out) : (if z then out else out ++ [s]) = insG f l s := by
  unfold gSt at h
  cases z with
  | true =>
    simp only [if_true] at h ⊢
    rw [h.2, List.take_of_length_le (by rw [insG_len hl]; omega)]
  | false =>
    simp only [Bool.false_eq_true, if_false] at h ⊢
    have hP := (posL_cut (l.map f) (f s) hl).le
    rw [List.length_map] at hP
    unfold insG
    rw [show posL (l.map f) (f s) = l.length by omega, h.2]
    simp
theorem gSt_len {i : Nat} {z : Bool} {out : List α} (h : gSt f l s i z out) : out.length ≤ i + 1 := by
  unfold gSt at h
  split at h
  · rw [h.2, List.length_take]; omega
  · rw [h.2, List.length_take]; omega
end
theorem client_size (v1 v2 : Value) : (Tryd.prog.info? 47).map (·.size) = some (#[v1, v2] : Array Value).size := by kernel_rfl
/-- The slots of one client are others. -/
theorem OwnBk.cutV {B : Nat} {w : World} {lv : Value} {L : List LQ} {C : List CQ} {b : Bk} {g nc cap : Nat} (h : OwnBk B w lv (.slice (some ⟨g, 0, none⟩) nc cap) L C b) {P : Nat} {x : Int} {l l' : List (Int × Int)} {sv v' : Value} (hq : C[P]? = some (⟨x, l⟩, sv)) (hv : RowV w 2 v' (l'.map slR)) (hs : SlB B w 49 v') :
    NewBk B (w.setCell ⟨g, P * 2 + 1, none⟩ v') (.agg #[lv, .slice (some ⟨g, 0, none⟩) nc cap]) ⟨b.leaves, b.clients.set P ⟨x, l'⟩⟩ := by
  have hPl := (List.getElem?_eq_some_iff.1 hq).1
  have hnc : nc = C.length := by
    rcases h.co.2 with ⟨hv, _⟩ | ⟨_, _, _, hv, _⟩
    · cases hv
    · cases hv; rfl
  subst hnc
  have hCh : Chg [g] w (w.setCell ⟨g, P * 2 + 1, none⟩ v') := Chg.set g _ _ (by simp)
  have hfl : (C.map clR).flatten.length = C.length * 2 := h.co.1
  have hset := own_set h.co (P * 2 + 1) (by rw [hfl]; omega) v'
  rw [← cl_set C P (⟨x, l⟩, sv) _ hq] at hset
  have hoff' : ∀ {e : TypeId} {s n' : Nat} {v : Value} {xs : List Value}, w.ownsRow B e s v n' xs → e ≠ 47 → (w.setCell ⟨g, P * 2 + 1, none⟩ v').ownsRow B e s v n' xs := by
    intro e s n' v xs ho he
    exact own_off ho hCh (fun t ht hm => by simp at hm; subst hm; exact own_apart ho h.co he _ ht (by simp [Value.ownBlock]))
  have hng : ∀ a n c, v' = .slice (some a) n c → a.block ∉ [g] := fun a n c e hm => by
    obtain ⟨_, cur, hb⟩ := hs a n c e
    obtain ⟨_, _, cur', hb'⟩ := own_type h.co g (by simp [Value.ownBlock])
    simp at hm
    rw [hm] at hb
    exact absurd (blk_type hb hb') (by decide)
  refine ⟨_, _, L, C.set P (⟨x, l'⟩, v'), rfl, h.leaves, by rw [List.map_set, h.clients], RowV.of_own (by rw [List.length_map, lf_flat]; exact hoff' h.lo (by decide)) (lf_lens L), ?_, ?_, ?_, SlB.own (hoff' h.lo (by decide)), SlB.own hset, fun q hq => SlB.own (hoff' (h.ls q hq) (by decide)), ?_⟩
  · refine RowV.of_own (base := B) (e := 47) ?_ (cl_lens _)
    rw [List.length_map, List.length_set]
    have e : ((C.set P (⟨x, l'⟩, v')).map clR) = ((C.set P (⟨x, l⟩, v')).map clR) := by
      rw [List.map_set, List.map_set]; rfl
    rw [e]; exact hset
  · exact fun q hq => Rd.of_own (by have := hoff' (h.ls q hq) (by decide); rwa [show q.1.length = (u8s q.1).length from (u8s_len _).symm] at this)
  · intro q hq'
    obtain ⟨j, hj⟩ := List.getElem?_of_mem hq'
    by_cases hPj : P = j
    · subst hPj
      rw [List.getElem?_set_self hPl] at hj
      cases hj
      exact hv.chg hCh (fun a n c e _ => hng a n c e)
    · rw [List.getElem?_set_ne hPj] at hj
      exact RowV.of_own (by rw [List.length_map]; exact hoff' (h.cs q (List.mem_of_getElem? hj)) (by decide)) (sl_lens _)
  · intro q hq'
    obtain ⟨j, hj⟩ := List.getElem?_of_mem hq'
    by_cases hPj : P = j
    · subst hPj
      rw [List.getElem?_set_self hPl] at hj
      cases hj
      intro a n' c' e
      obtain ⟨h1, cur, h2⟩ := hs a n' c' e
      exact ⟨h1, cur, h2.chg hCh (hng a n' c' e)⟩
    · rw [List.getElem?_set_ne hPj] at hj
      exact SlB.own (hoff' (h.cs q (List.mem_of_getElem? hj)) (by decide))
/-- Apply's states while a leaf is put. -/
def ApSt (w wr : World) (T2 T3 T4 : Nat) (x3 x4 : Array Value) (lv cv : Value) (L : List LQ) (C : List CQ) (b0 b1 : Bk) : Nat → World → Prop
  | 0, W => Blk W T2 #[lv, cv] 25 ∧ OwnBk w.heap.size W lv cv L C b0 ∧ Ext wr W ∧ Ext w W ∧ Blk W T3 x3 30 ∧ Blk W T4 x4 25
  | 1, W => Blk W T2 #[lv, cv] 25 ∧ Ext w W ∧ Blk W T3 x3 30 ∧ Blk W T4 x4 25
  | _ + 2, W => Ext w W ∧ (∃ lv' L', Blk W T2 #[lv', cv] 25 ∧ OwnBk w.heap.size W lv' cv L' C b1) ∧ Blk W T3 x3 30 ∧ Blk W T4 x4 25
theorem ApSt.ext {w wr : World} {T2 T3 T4 : Nat} {x3 x4 : Array Value} {lv cv : Value} {L : List LQ} {C : List CQ} {b0 b1 : Bk} : ∀ (c : Nat) (W W' : World), ApSt w wr T2 T3 T4 x3 x4 lv cv L C b0 b1 c W → Ext W W' → ApSt w wr T2 T3 T4 x3 x4 lv cv L C b0 b1 c W'
  | 0, _, _, ⟨h1, h2, h3, h4, h5, h6⟩, hE => ⟨h1.ext hE, h2.ext hE, h3.trans hE, h4.trans hE, h5.ext hE, h6.ext hE⟩
  | 1, _, _, ⟨h1, h4, h5, h6⟩, hE => ⟨h1.ext hE, h4.trans hE, h5.ext hE, h6.ext hE⟩
  | _ + 2, _, _, ⟨h4, ⟨lv', L', h1, h2⟩, h5, h6⟩, hE => ⟨h4.trans hE, ⟨lv', L', h1.ext hE, h2.ext hE⟩, h5.ext hE, h6.ext hE⟩
theorem rapply_ret (b : Nat) (c0 c1 n f : Value) (F : World) (tmps : Array Value) (R : Ending → World → Prop) (hB : Blk F b #[c0, c1] 25)
    (hz : tmps[4]? = some (.pointer (some ⟨b, 0, none⟩))) (h5 : tmps[5]? = some n) (h6 : tmps[6]? = some f) (h : R (.returned (.tuple #[.agg #[c0, c1], n, f])) F) :
    bodyPost Tryd.prog Tryd.f8 R .ret { tmps := tmps, defers := [] } F := by
  have x0 := hB.cell 0 rfl; have x1 := hB.cell 1 rfl
  simp at x0 x1
  refine bodyPost_ret ?_ rfl h
  simp [results, Tryd.results8, go_sem, hz, h5, h6, x0, x1]
end Go.Proofs.YtgefphfnicjbiaaDoor
