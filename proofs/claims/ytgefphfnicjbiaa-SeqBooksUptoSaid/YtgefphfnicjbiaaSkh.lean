/- Layer 25 (seq): what is known within Get. -/
import Derived.Test.YtgefphfnicjbiaaSkg
import Derived.Test.YtgefphfnicjbiaaChn
set_option linter.unusedSimpArgs false
set_option linter.unusedVariables false
namespace Go.Proofs.Ytgefphfnicjbiaa
open Go Go.RowKit

theorem rdr_ext {W W' : World} {rb : Nat} {bs : List Int} {e : Int} (h : Rdr W rb bs e) (hE : Ext W W') : Rdr W' rb bs e := by
  obtain ⟨v, h1, h2, h3⟩ := h
  exact ⟨v, h1.ext hE, h2.ext hE, h3⟩
theorem rdr_chg {W W' : World} {S : List Nat} {rb : Nat} {bs : List Int} {e : Int} (h : Rdr W rb bs e) (hC : Chg S W W') (hS : rb ∉ S) (hu : ∀ t ∈ S, rb ≤ t) : Rdr W' rb bs e := by
  obtain ⟨v, h1, h2, h3⟩ := h
  refine ⟨v, h1.chg hC hS, h2.chg hC (fun a n c hv _ hm => ?_), h3⟩
  have := h3 a n c hv; have := hu _ hm; omega
/-- What is known between Get's steps: T2 (b) holds lv0, cv0; lv, cv are the rows of the leaves and the clients. -/
structure GB (w W : World) (t4 rb : Nat) (lv0 cv0 lv cv : Value) (L : List LQ) (C : List CQ) (bs : List Int) : Prop where
  ext : Ext w W
  b2 : Blk W w.heap.size #[lv0, cv0] 27
  b3 : Blk W (w.heap.size + 1) #[.int .i64 0] 33
  b4 : Blk W t4 #[ptr rb] 68
  rd : Rdr W rb bs 0
  h4 : w.heap.size + 1 < t4
  hrb : w.heap.size + 1 < rb
  b8 : B8 bs
  len : bs.length ≤ 140737488355328
  lo : W.ownsRow (rb + 1) 29 1 lv L.length (L.map (·.2))
  ls : ∀ q ∈ L, Rd W q.2 (u8s q.1) ∧ UnT W q.2
  one : (∀ x, lv0 ≠ .int .u8 x) ∧ ∀ x, cv0 ≠ .int .u8 x
  co : W.ownsRow (rb + 1) 55 2 cv C.length (C.map clR).flatten
  cs : ∀ q ∈ C, ClV W q ∧ SlB w.heap.size W 59 q.2
theorem GB.kd {w W : World} {t4 rb : Nat} {lv0 cv0 lv cv : Value} {L : List LQ} {C : List CQ} {bs : List Int} (h : GB w W t4 rb lv0 cv0 lv cv L C bs) : KD w W := ⟨h.ext, ⟨_, _, h.b2⟩, ⟨_, h.b3⟩⟩
theorem KD.chg {w W W' : World} {S : List Nat} (h : KD w W) (hC : Chg S W W') (hS : ∀ t ∈ S, w.heap.size + 1 < t) : KD w W' := by
  obtain ⟨h1, ⟨c0, c1, h2⟩, ⟨v, h3⟩⟩ := h
  exact ⟨((Chg.ext h1 : Chg S w W).trans hC).toExt (fun t ht => by have := hS t ht; omega), ⟨c0, c1, h2.chg hC (fun hm => by have := hS _ hm; omega)⟩, ⟨v, h3.chg hC (fun hm => by have := hS _ hm; omega)⟩⟩
theorem KD.ext' {w W W' : World} (h : KD w W) (hE : Ext W W') : KD w W' := h.chg (S := []) (Chg.ext hE) (by simp)
/-- What is known of Get's variables at all times. -/
structure GE (w W : World) (t4 rb : Nat) (lv0 cv0 : Value) : Prop where
  ext : Ext w W
  b2 : Blk W w.heap.size #[lv0, cv0] 27
  b3 : Blk W (w.heap.size + 1) #[.int .i64 0] 33
  b4 : Blk W t4 #[ptr rb] 68
theorem GE.kd {w W : World} {t4 rb : Nat} {lv0 cv0 : Value} (h : GE w W t4 rb lv0 cv0) : KD w W := ⟨h.ext, ⟨_, _, h.b2⟩, ⟨_, h.b3⟩⟩
theorem GE.ext' {w W W' : World} {t4 rb : Nat} {lv0 cv0 : Value} (h : GE w W t4 rb lv0 cv0) (hE : Ext W W') : GE w W' t4 rb lv0 cv0 := ⟨h.ext.trans hE, h.b2.ext hE, h.b3.ext hE, h.b4.ext hE⟩
theorem GB.ge {w W : World} {t4 rb : Nat} {lv0 cv0 lv cv : Value} {L : List LQ} {C : List CQ} {bs : List Int} (h : GB w W t4 rb lv0 cv0 lv cv L C bs) : GE w W t4 rb lv0 cv0 := ⟨h.ext, h.b2, h.b3, h.b4⟩
section
variable {w W W' : World} {t4 rb : Nat} {lv0 cv0 lv cv : Value} {L : List LQ} {C : List CQ} {bs bs' : List Int} {S : List Nat}
/-- Blocks that changes leave all of this alone in. -/
structure Away (w W : World) (t4 : Nat) (lv cv : Value) (C : List CQ) (S : List Nat) : Prop where
  lt : ∀ t ∈ S, w.heap.size + 1 < t
  n4 : t4 ∉ S
  lo : ∀ t ∈ lv.ownBlock.toList, t ∉ S
  co : ∀ t ∈ cv.ownBlock.toList, t ∉ S
  u8 : ∀ t ∈ S, ∀ cs, ¬ Blk W t cs 5
  cs : ∀ q ∈ C, ∀ a n c, q.2 = .slice (some a) n c → a.block ∉ S
theorem GB.chg (h : GB w W t4 rb lv0 cv0 lv cv L C bs) (hC : Chg S W W') (hS : Away w W t4 lv cv C S) (hr : Rdr W' rb bs' 0) (h8 : B8 bs') (hl : bs'.length ≤ 140737488355328) : GB w W' t4 rb lv0 cv0 lv cv L C bs' where
  ext := ((Chg.ext h.ext : Chg S w W).trans hC).toExt (fun t ht => by have := hS.lt t ht; omega)
  b2 := h.b2.chg hC (fun hm => by have := hS.lt _ hm; omega)
  b3 := h.b3.chg hC (fun hm => by have := hS.lt _ hm; omega)
  b4 := h.b4.chg hC hS.n4
  rd := hr
  h4 := h.h4
  hrb := h.hrb
  b8 := h8
  len := hl
  lo := own_off h.lo hC hS.lo
  ls := fun q hq => leaf_chg (h.ls q hq) hC hS.u8
  one := h.one
  co := own_off h.co hC hS.co
  cs := fun q hq => ⟨RowV.chg (h.cs q hq).1 hC (fun a n c hv _ => hS.cs q hq a n c hv), (h.cs q hq).2.chg hC (hS.cs q hq)⟩
theorem GB.ext' (h : GB w W t4 rb lv0 cv0 lv cv L C bs) (hE : Ext W W') : GB w W' t4 rb lv0 cv0 lv cv L C bs :=
  h.chg (S := []) (Chg.ext hE) ⟨by simp, by simp, by simp, by simp, by simp, by simp⟩ (rdr_ext h.rd hE) h.b8 h.len
/-- The reader reads. -/
theorem GB.rbAway (h : GB w W t4 rb lv0 cv0 lv cv L C bs) : Away w W t4 lv cv C [rb] := by
  obtain ⟨v, hB, -⟩ := h.rd
  refine ⟨fun t ht => by simp at ht; rw [ht]; exact h.hrb, fun hm => ?_, fun t ht hm => ?_, fun t ht hm => ?_, fun t ht cs hb => ?_, fun q hq a n c hv hm => ?_⟩
  · simp at hm; subst hm; exact absurd (blk_type h.b4 hB) (by decide)
  · simp at hm; subst hm; exact own_notin h.lo hB (by decide) ht
  · simp at hm; subst hm; exact own_notin h.co hB (by decide) ht
  · simp at ht; subst ht; exact absurd (blk_type hb hB) (by decide)
  · obtain ⟨_, cur, hb⟩ := (h.cs q hq).2 a n c hv
    simp at hm; rw [hm] at hb; exact absurd (blk_type hb hB) (by decide)
theorem GB.read (h : GB w W t4 rb lv0 cv0 lv cv L C bs) (hg : W.grownBy W' (some rb)) (hr : Rdr W' rb bs' 0) (h8 : B8 bs') (hl : bs'.length ≤ bs.length) : GB w W' t4 rb lv0 cv0 lv cv L C bs' :=
  h.chg (Chg.grown hg) h.rbAway hr h8 (Nat.le_trans hl h.len)
theorem GB.ger (h : GB w W t4 rb lv0 cv0 lv cv L C bs) (hg : W.grownBy W' (some rb)) : GE w W' t4 rb lv0 cv0 := by
  have hC : Chg [rb] W W' := Chg.grown hg
  have hA := h.rbAway
  exact ⟨((Chg.ext h.ext : Chg [rb] w W).trans hC).toExt (fun t ht => by have := hA.lt t ht; omega), h.b2.chg hC (fun hm => by have := hA.lt _ hm; omega), h.b3.chg hC (fun hm => by have := hA.lt _ hm; omega), h.b4.chg hC hA.n4⟩
theorem GB.kdr (h : GB w W t4 rb lv0 cv0 lv cv L C bs) (hg : W.grownBy W' (some rb)) : KD w W' := h.kd.chg (Chg.grown hg) (by intro t ht; simp at ht; rw [ht]; exact h.hrb)
/-- A leaf more. -/
theorem GB.leaf (h : GB w W t4 rb lv0 cv0 lv cv L C bs) {l : List Int} {u lv' : Value} (hu : Rd W u (u8s l) ∧ UnT W u) (ho : W'.ownsRow (rb + 1) 29 1 lv' (L.length + 1) (L.map (·.2) ++ [u])) (hg : W.grownBy W' lv.ownBlock) : GB w W' t4 rb lv0 cv0 lv' cv (L ++ [(l, u)]) C bs := by
  have hC : Chg lv.ownBlock.toList W W' := Chg.grown hg
  have hlt : ∀ t ∈ lv.ownBlock.toList, rb + 1 ≤ t ∧ t < W.heap.size ∧ ∃ cur, Blk W t cur 29 := own_type h.lo
  have nt : ∀ {t : Nat} {e : TypeId} {cs : Array Value}, Blk W t cs e → e ≠ 29 → t ∉ lv.ownBlock.toList := fun hb he hm => by
    obtain ⟨_, _, cur, h3⟩ := hlt _ hm
    exact he (blk_type hb h3)
  have u8 : ∀ t ∈ lv.ownBlock.toList, ∀ cs, ¬ Blk W t cs 5 := fun t ht cs hb => nt hb (by decide) ht
  exact {
    ext := ((Chg.ext h.ext : Chg lv.ownBlock.toList w W).trans hC).toExt (fun t ht => by have := (hlt t ht).1; have := h.hrb; omega)
    b2 := h.b2.chg hC (nt h.b2 (by decide))
    b3 := h.b3.chg hC (nt h.b3 (by decide))
    b4 := h.b4.chg hC (nt h.b4 (by decide))
    rd := rdr_chg h.rd hC (fun hm => by have := (hlt _ hm).1; omega) (fun t ht => by have := (hlt t ht).1; omega)
    h4 := h.h4
    hrb := h.hrb
    b8 := h.b8
    len := h.len
    lo := by simpa using ho
    ls := fun q hq => by
      rcases List.mem_append.1 hq with hq | hq
      · exact leaf_chg (h.ls q hq) hC u8
      · rw [List.mem_singleton.1 hq]; exact leaf_chg hu hC u8
    one := h.one
    co := own_off h.co hC (fun t ht => by obtain ⟨_, _, cur, h3⟩ := own_type h.co t ht; exact nt h3 (by decide))
    cs := fun q hq => by
      have ns : ∀ a n c, q.2 = .slice (some a) n c → a.block ∉ lv.ownBlock.toList := fun a n c hv => by obtain ⟨_, cur, h3⟩ := (h.cs q hq).2 a n c hv; exact nt h3 (by decide)
      exact ⟨RowV.chg (h.cs q hq).1 hC (fun a n c hv _ => ns a n c hv), (h.cs q hq).2.chg hC ns⟩ }
/-- b's rows are stored. -/
theorem GB.put (h : GB w W t4 rb lv0 cv0 lv cv L C bs) {lv1 cv1 : Value} (ho : (∀ x, lv1 ≠ .int .u8 x) ∧ ∀ x, cv1 ≠ .int .u8 x) (hC : Chg [w.heap.size] W W') (hB : Blk W' w.heap.size #[lv1, cv1] 27) : GB w W' t4 rb lv1 cv1 lv cv L C bs where
  ext := ((Chg.ext h.ext : Chg [w.heap.size] w W).trans hC).toExt (fun t ht => by simp at ht; omega)
  b2 := hB
  b3 := h.b3.chg hC (by simp)
  b4 := h.b4.chg hC (by have := h.h4; simp; omega)
  rd := by
    have := h.hrb
    obtain ⟨v, h1, h2, h3⟩ := h.rd
    refine ⟨v, h1.chg hC (by simp; omega), h2.chg hC (fun a n c hv hne hm => ?_), h3⟩
    simp at hm
    obtain ⟨a', c', e, -, -, h6⟩ := h2
    rw [e] at hv; cases hv
    rcases h6 with h6 | ⟨b', o', e6, h6⟩
    · exact hne h6
    · cases e6
      obtain ⟨x, hx⟩ : ∃ x, (u8s bs)[0]? = some x := by cases hq : u8s bs with
        | nil => exact absurd hq hne
        | cons x r => exact ⟨x, rfl⟩
      have h7 := h6 0 x hx
      obtain ⟨xi, _, hxi⟩ := List.mem_map.1 (List.mem_of_getElem? hx)
      subst hxi
      dsimp only at hm
      rw [hm, cell_of_row _ _ _ _ _ (0, 0) h.b2] at h7
      have h8 := Array.mem_of_getElem? h7
      have ho := h.one
      simp at h8
      rcases h8 with h8 | h8
      · exact ho.1 xi h8.symm
      · exact ho.2 xi h8.symm
  h4 := h.h4
  hrb := h.hrb
  b8 := h.b8
  len := h.len
  lo := own_off h.lo hC (fun t ht hm => by simp at hm; have := (own_type h.lo t ht).1; have := h.hrb; omega)
  one := ho
  ls := fun q hq => leaf_chg (h.ls q hq) hC (fun t ht cs hb => by simp at ht; subst ht; exact absurd (blk_type hb h.b2) (by decide))
  co := own_off h.co hC (fun t ht hm => by simp at hm; have := (own_type h.co t ht).1; have := h.hrb; omega)
  cs := fun q hq => by
    have ns : ∀ a n c, q.2 = .slice (some a) n c → a.block ∉ [w.heap.size] := fun a n c hv hm => by
      obtain ⟨_, cur, h3⟩ := (h.cs q hq).2 a n c hv
      simp at hm; rw [hm] at h3; exact absurd (blk_type h3 h.b2) (by decide)
    exact ⟨RowV.chg (h.cs q hq).1 hC (fun a n c hv _ => ns a n c hv), (h.cs q hq).2.chg hC ns⟩
/-- A client more. -/
theorem GB.client (h : GB w W t4 rb lv0 cv0 lv cv L C bs) {B : Nat} {sv cv' : Value} {x : Int} {l : List (Int × Int)} (hs : W.ownsRow B 59 2 sv l.length (l.map slR).flatten) (hB : w.heap.size ≤ B) (ho : W'.ownsRow (rb + 1) 55 2 cv' (C.length + 1) ((C.map clR).flatten ++ [.int .u64 x, sv])) (hg : W.grownBy W' cv.ownBlock) :
    GB w W' t4 rb lv0 cv0 lv cv' L (C ++ [(⟨x, l⟩, sv)]) bs := by
  have hC : Chg cv.ownBlock.toList W W' := Chg.grown hg
  have hlt : ∀ t ∈ cv.ownBlock.toList, rb + 1 ≤ t ∧ t < W.heap.size ∧ ∃ cur, Blk W t cur 55 := own_type h.co
  have nt : ∀ {t : Nat} {e : TypeId} {cs : Array Value}, Blk W t cs e → e ≠ 55 → t ∉ cv.ownBlock.toList := fun hb he hm => by
    obtain ⟨_, _, cur, h3⟩ := hlt _ hm
    exact he (blk_type hb h3)
  have u8 : ∀ t ∈ cv.ownBlock.toList, ∀ cs, ¬ Blk W t cs 5 := fun t ht cs hb => nt hb (by decide) ht
  have hsl : SlB w.heap.size W 59 sv := fun a n c hv => by obtain ⟨h1, cur, h2⟩ := (SlB.own hs) a n c hv; exact ⟨Nat.le_trans hB h1, cur, h2⟩
  have key : ∀ q : CQ, ClV W q ∧ SlB w.heap.size W 59 q.2 → ClV W' q ∧ SlB w.heap.size W' 59 q.2 := fun q hq => by
    have ns : ∀ a n c, q.2 = .slice (some a) n c → a.block ∉ cv.ownBlock.toList := fun a n c hv => by obtain ⟨_, cur, h3⟩ := hq.2 a n c hv; exact nt h3 (by decide)
    exact ⟨RowV.chg hq.1 hC (fun a n c hv _ => ns a n c hv), hq.2.chg hC ns⟩
  exact {
    ext := ((Chg.ext h.ext : Chg cv.ownBlock.toList w W).trans hC).toExt (fun t ht => by have := (hlt t ht).1; have := h.hrb; omega)
    b2 := h.b2.chg hC (nt h.b2 (by decide))
    b3 := h.b3.chg hC (nt h.b3 (by decide))
    b4 := h.b4.chg hC (nt h.b4 (by decide))
    rd := rdr_chg h.rd hC (fun hm => by have := (hlt _ hm).1; omega) (fun t ht => by have := (hlt t ht).1; omega)
    h4 := h.h4
    hrb := h.hrb
    b8 := h.b8
    len := h.len
    lo := own_off h.lo hC (fun t ht => by obtain ⟨_, _, cur, h3⟩ := own_type h.lo t ht; exact nt h3 (by decide))
    ls := fun q hq => leaf_chg (h.ls q hq) hC u8
    one := h.one
    co := by simpa [clR] using ho
    cs := fun q hq => by
      rcases List.mem_append.1 hq with hq | hq
      · exact key q (h.cs q hq)
      · rw [List.mem_singleton.1 hq]; exact key _ ⟨RowV.of_own (by rw [List.length_map]; exact hs) (sl_lens _), hsl⟩ }
/-- All of this lies ahead of block T. -/
structure Elder (w : World) (t4 rb : Nat) (lv cv : Value) (C : List CQ) (T : Nat) : Prop where
  hw : w.heap.size + 1 < T
  h4 : t4 < T
  hrb : rb < T
  lo : ∀ t ∈ lv.ownBlock.toList, t < T
  co : ∀ t ∈ cv.ownBlock.toList, t < T
  cs : ∀ q ∈ C, ∀ a n c, q.2 = .slice (some a) n c → a.block < T
theorem GB.elder (h : GB w W t4 rb lv0 cv0 lv cv L C bs) : Elder w t4 rb lv cv C W.heap.size :=
  ⟨by have := h.b3.lt; omega, h.b4.lt, rdr_lt h.rd, own_lt h.lo, own_lt h.co, fun q hq a n c hv => by obtain ⟨_, cur, h3⟩ := (h.cs q hq).2 a n c hv; exact h3.lt⟩
theorem GB.young (h : GB w W t4 rb lv0 cv0 lv cv L C bs) {T : Nat} (hT : Elder w t4 rb lv cv C T) (hC : Chg S W W') (hS : ∀ t ∈ S, T ≤ t) (hu : ∀ t ∈ S, ∀ cs, ¬ Blk W t cs 5) : GB w W' t4 rb lv0 cv0 lv cv L C bs :=
  h.chg hC ⟨fun t ht => by have := hS t ht; have := hT.hw; omega, fun hm => by have := hS _ hm; have := hT.h4; omega, fun t ht hm => by have := hS _ hm; have := hT.lo t ht; omega, fun t ht hm => by have := hS _ hm; have := hT.co t ht; omega, hu, fun q hq a n c hv hm => by have := hS _ hm; have := hT.cs q hq a n c hv; omega⟩
    (rdr_chg h.rd hC (fun hm => by have := hS _ hm; have := hT.hrb; omega) (fun t ht => by have := hS t ht; have := hT.hrb; omega)) h.b8 h.len
/-- The book that is there. -/
theorem GB.book (h : GB w W t4 rb lv0 cv0 lv cv L C bs) : BookV W (.agg #[lv, cv]) ⟨L.map (·.1), C.map (·.1)⟩ :=
  ⟨lv, cv, L, C, rfl, rfl, rfl, RowV.of_own (by rw [List.length_map, lf_flat]; exact h.lo) (lf_lens L), RowV.of_own (by rw [List.length_map]; exact h.co) (cl_lens C), fun q hq => (h.ls q hq).1, fun q hq => (h.cs q hq).1⟩
theorem GB.book3 (h : GB w W t4 rb lv0 cv0 lv cv L C bs) (hC : Chg [w.heap.size + 1] W W') : BookT W' (.agg #[lv, cv]) ⟨L.map (·.1), C.map (·.1)⟩ := by
  have ns : ∀ t ∈ [w.heap.size + 1], ∀ cs, ¬ Blk W t cs 5 := fun t ht cs hb => by simp at ht; subst ht; exact absurd (blk_type hb h.b3) (by decide)
  have o1 := own_off h.lo hC (fun t ht hm => own_notin h.lo h.b3 (by decide) (by simp at hm; rw [← hm]; exact ht))
  have o2 := own_off h.co hC (fun t ht hm => own_notin h.co h.b3 (by decide) (by simp at hm; rw [← hm]; exact ht))
  have low : ∀ {B : Nat} {w : World} {e : TypeId} {u : Value}, SlB B w e u → SlB 0 w e u := fun h a n c hv => ⟨Nat.zero_le _, (h a n c hv).2⟩
  have nc : ∀ q ∈ C, ∀ a n c, q.2 = .slice (some a) n c → a.block ∉ [w.heap.size + 1] := fun q hq a n c hv hm => by
    obtain ⟨_, cur, h3⟩ := (h.cs q hq).2 a n c hv
    simp at hm; rw [hm] at h3; exact absurd (blk_type h3 h.b3) (by decide)
  exact ⟨lv, cv, L, C, rfl, rfl, rfl, RowV.of_own (by rw [List.length_map, lf_flat]; exact o1) (lf_lens L), RowV.of_own (by rw [List.length_map]; exact o2) (cl_lens C), fun q hq => leaf_chg (h.ls q hq) hC ns,
    fun q hq => ⟨RowV.chg (h.cs q hq).1 hC (fun a n c hv _ => nc q hq a n c hv), low ((h.cs q hq).2.chg hC (nc q hq))⟩, low (SlB.own o1), low (SlB.own o2)⟩
end
end Go.Proofs.Ytgefphfnicjbiaa
