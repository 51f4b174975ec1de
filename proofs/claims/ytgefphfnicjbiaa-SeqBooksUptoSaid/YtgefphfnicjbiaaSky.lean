/- Layer 25 (seq): tabellionref25.upTo, Get. PRINTED BY gen/rkget.py -/
import Derived.Test.YtgefphfnicjbiaaSkx
import Derived.Test.YtgefphfnicjbiaaRft
set_option linter.unusedSimpArgs false
set_option linter.unusedVariables false
namespace Go.Proofs.Ytgefphfnicjbiaa
open Go Go.RowKit

theorem rdMany_err {most : Int} {bs : List Int} {e : Int} (h : rdMany most bs = .error e) : e ≠ 0 := by
  unfold rdMany at h
  split at h
  · cases h; rename_i heq; exact rdNum_err' heq
  · split at h
    · cases h; decide
    · cases h
/-- What upTo brings. -/
def UOut (b : Nat) (v : Value) (full : List Int) (X : Except Int (Int × List Int)) (w : World) (en : Ending) (w' : World) : Prop :=
  w.grownBy w' (some b) ∧ match X with
  | .error no => no ≠ 0 ∧ ∃ z, en = .returned (.tuple #[z, .int .i64 no])
  | .ok (x, r) => ∃ a2, en = .returned (.tuple #[.int .u64 x, .int .i64 0]) ∧ RR w' b v full a2 0 ∧ r = full.drop a2
set_option maxHeartbeats 2000000 in
theorem upto_c (b : Nat) (v : Value) (full : List Int) (a : Nat) (most : Int) (w : World) (hb8 : B8 full) (hl : full.length ≤ 140737488355000) (h : RR w b v full a 0) :
    Calls Try.prog 46 #[.pointer (some ⟨b, 0, none⟩), .int .u64 most] w (UOut b v full (rdMany most (full.drop a)) w) := by
  obtain ⟨X, hX⟩ : ∃ X, X = rdMany most (full.drop a) := ⟨_, rfl⟩
  rw [← hX]
  have H := Lib.hid h
  clear h
  go_enter Try.func46, Try.ntmps46
  go_wp2_with fail
  refine (rnum_c b v full a 0 w hb8 (by omega) H.out).mono ?_
  rintro en w1 ⟨hg1, h1⟩
  simp only [stuckR, if_true] at h1
  unfold rdMany at hX
  cases hY : rdNum (full.drop a) with
  | error no =>
    rw [hY] at h1 hX
    obtain ⟨rfl, h1⟩ := h1
    have hne := rdNum_err' hY
    have hnb : (no == 0) = false := by simpa using hne
    have HN := Lib.hid hne; have HX := Lib.hid hX; have HG := Lib.hid hg1
    clear h1 hY hX hg1 hne
    go_wp2_with fail
    go_ret2
    rw [HX.out]
    exact ⟨HG.out, HN.out, _, rfl⟩
  | ok y =>
    obtain ⟨x, r⟩ := y
    rw [hY] at h1 hX
    obtain ⟨_, a1, rfl, rfl, h1, hr⟩ := h1
    dsimp only at hX
    by_cases hm : most < x
    · rw [if_pos hm] at hX
      have HX := Lib.hid hX; have HG := Lib.hid hg1
      clear h1 hY hX hg1 hr
      go_wp2_with fail
      go_ret2
      rw [HX.out]
      exact ⟨HG.out, by decide, _, rfl⟩
    · rw [if_neg hm] at hX
      have hm' : x ≤ most := by omega
      have HX := Lib.hid hX; have HG := Lib.hid hg1; have H1 := Lib.hid h1; have HR := Lib.hid hr
      clear h1 hY hX hg1 hr hm
      go_wp2_with fail
      go_ret2
      rw [HX.out]
      exact ⟨HG.out, a1, rfl, H1.out, HR.out⟩
/-! ### Get, plainly: what is left to be read -/
def kC (L : List (List Int)) : Except Int (List Cl × List Int) → Except Int Bk
  | .error e => .error e
  | .ok (C, r) => if r = [] then .ok ⟨L, C⟩ else .error 5
def kM (n : Int) (L : List (List Int)) : Except Int (Int × List Int) → Except Int Bk
  | .error e => .error e
  | .ok (m, r) => kC L (rdCls n m.toNat [] r)
def kL (n : Int) : Except Int (List (List Int) × List Int) → Except Int Bk
  | .error e => .error e
  | .ok (L, r) => kM n L (rdMany 8 r)
def kN : Except Int (Int × List Int) → Except Int Bk
  | .error e => .error e
  | .ok (n, r) => kL n (rdLfs n.toNat [] r)
def kSl (n : Int) (k : Nat) (acc : List Cl) (x : Int) : Except Int (List (Int × Int) × List Int) → Except Int (List Cl × List Int)
  | .error e => .error e
  | .ok (ss, r) => rdCls n k (acc ++ [⟨x, ss⟩]) r
theorem getK_kN (bs : List Int) : getK bs = kN (rdMany 64 bs) := by
  unfold getK kN kL kM kC
  cases rdMany 64 bs with
  | error e => rfl
  | ok y =>
    obtain ⟨n, r⟩ := y
    dsimp only
    cases rdLfs n.toNat [] r with
    | error e => rfl
    | ok y =>
      obtain ⟨L, r2⟩ := y
      dsimp only
      cases rdMany 8 r2 with
      | error e => rfl
      | ok y =>
        obtain ⟨m, r3⟩ := y
        dsimp only
        cases rdCls n m.toNat [] r3 with
        | error e => rfl
        | ok y => rfl
/-- What is known between Get's steps. -/
structure RG (w W : World) (v : Value) (full : List Int) (a : Nat) (lv cv : Value) (L : List LQ) (C : List CQ) : Prop where
  ext : Ext w W
  b2 : Blk W w.heap.size #[.slice none 0 0, .slice none 0 0] 27
  rr : RR W (w.heap.size + 1) v full a 0
  b5 : Blk W (w.heap.size + 2) #[lv, cv] 27
  lo : W.ownsRow (w.heap.size + 3) 29 1 lv L.length (L.map (·.2))
  co : W.ownsRow (w.heap.size + 3) 55 2 cv C.length (C.map clR).flatten
  ls : ∀ q ∈ L, Rd W q.2 (u8s q.1) ∧ UnT W q.2
  cs : ∀ q ∈ C, ClV W q ∧ SlB 0 W 59 q.2
  low : ∀ a n c, v = .slice (some a) n c → u8s full ≠ [] → a.block < w.heap.size
section
variable {w W W' : World} {v : Value} {full : List Int} {a : Nat} {lv cv : Value} {L : List LQ} {C : List CQ}
theorem RG.book (h : RG w W v full a lv cv L C) : BookT W (.agg #[lv, cv]) ⟨L.map (·.1), C.map (·.1)⟩ :=
  ⟨lv, cv, L, C, rfl, rfl, rfl, RowV.of_own (by rw [List.length_map, lf_flat]; exact h.lo) (lf_lens L), RowV.of_own (by rw [List.length_map]; exact h.co) (cl_lens C), h.ls, h.cs, (SlB.own (own_low h.lo (Nat.zero_le _))), (SlB.own (own_low h.co (Nat.zero_le _)))⟩
theorem RR.chg {S : List Nat} {b : Nat} {e : Int} (h : RR W b v full a e) (hC : Chg S W W') (hb : b ∉ S) (ho : OffL v (u8s full) S) : RR W' b v full a e := ⟨h.blk.chg hC hb, h.rd.chg hC ho, h.le, h.off⟩
/-- Blocks of one kind are turned, none of the reader's and the text's. -/
theorem RG.chg {S : List Nat} {e : TypeId} {a' : Nat} (h : RG w W v full a lv cv L C) (hC : Chg S W W') (hS : ∀ t ∈ S, w.heap.size < t ∧ ∃ c, Blk W t c e) (h1 : e ≠ 29) (h2 : e ≠ 55) (h3 : e ≠ 5) (h4 : e ≠ 59)
    (h5 : w.heap.size + 2 ∉ S) (hr : RR W' (w.heap.size + 1) v full a' 0) : RG w W' v full a' lv cv L C :=
  have nt : ∀ {t : Nat} {e' : TypeId} {cs : Array Value}, Blk W t cs e' → e ≠ e' → t ∉ S := fun hb he hm => by
    obtain ⟨_, c, h3⟩ := hS _ hm
    exact he (blk_type h3 hb)
  ⟨((Chg.ext h.ext : Chg S w W).trans hC).toExt (fun t ht => by have := (hS t ht).1; omega), h.b2.chg hC (fun hm => by have := (hS _ hm).1; omega), hr, h.b5.chg hC h5,
    own_off h.lo hC (fun t ht => by obtain ⟨_, _, c, hb⟩ := own_type h.lo t ht; exact nt hb h1), own_off h.co hC (fun t ht => by obtain ⟨_, _, c, hb⟩ := own_type h.co t ht; exact nt hb h2),
    fun q hq => leaf_chg (h.ls q hq) hC (fun t ht cs hb => nt hb h3 ht), fun q hq => by
      have ns : ∀ a n c, q.2 = .slice (some a) n c → a.block ∉ S := fun a n c hv => by obtain ⟨_, cur, hb⟩ := (h.cs q hq).2 a n c hv; exact nt hb h4
      exact ⟨RowV.chg (h.cs q hq).1 hC (fun a n c hv _ => ns a n c hv), (h.cs q hq).2.chg hC ns⟩, h.low⟩
theorem RG.read {a' : Nat} (h : RG w W v full a lv cv L C) (hC : Chg [w.heap.size + 1] W W') (hr : RR W' (w.heap.size + 1) v full a' 0) : RG w W' v full a' lv cv L C :=
  h.chg hC (e := 82) (fun t ht => by simp at ht; subst ht; exact ⟨by omega, _, h.rr.blk⟩) (by decide) (by decide) (by decide) (by decide) (by simp) hr
/-- A leaf more. -/
theorem RG.leaf {l : List Int} {u lv' : Value} (h : RG w W v full a lv cv L C) (hu : Rd W u (u8s l) ∧ UnT W u) (ho : W'.ownsRow (w.heap.size + 3) 29 1 lv' (L.length + 1) (L.map (·.2) ++ [u])) (hg : W.grownBy W' lv.ownBlock) :
    RG w (W'.setCell ⟨w.heap.size + 2, 0, none⟩ lv') v full a lv' cv (L ++ [(l, u)]) C := by
  have hC : Chg lv.ownBlock.toList W W' := Chg.grown hg
  have hlt : ∀ t ∈ lv.ownBlock.toList, w.heap.size + 3 ≤ t ∧ t < W.heap.size ∧ ∃ cur, Blk W t cur 29 := own_type h.lo
  have nt : ∀ {t : Nat} {e : TypeId} {cs : Array Value}, Blk W t cs e → e ≠ 29 → t ∉ lv.ownBlock.toList := fun hb he hm => by
    obtain ⟨_, _, cur, h3⟩ := hlt _ hm
    exact he (blk_type hb h3)
  have hb5 : Blk W' (w.heap.size + 2) #[lv, cv] 27 := h.b5.chg hC (nt h.b5 (by decide))
  have hS : Chg [w.heap.size + 2] W' (W'.setCell ⟨w.heap.size + 2, 0, none⟩ lv') := Chg.set _ 0 _ (by simp)
  have nb : ∀ {t : Nat} {e : TypeId} {cs : Array Value}, Blk W' t cs e → e ≠ 27 → t ∉ [w.heap.size + 2] := fun hb he hm => by simp at hm; subst hm; exact he (blk_type hb hb5)
  have lfs : ∀ q ∈ L ++ [(l, u)], Rd W q.2 (u8s q.1) ∧ UnT W q.2 := fun q hq => by
    rcases List.mem_append.1 hq with hq | hq
    · exact h.ls q hq
    · rw [List.mem_singleton.1 hq]; exact hu
  have hco : W'.ownsRow (w.heap.size + 3) 55 2 cv C.length (C.map clR).flatten := own_off h.co hC (fun t ht => by obtain ⟨_, _, cur, h3⟩ := own_type h.co t ht; exact nt h3 (by decide))
  refine ⟨?_, ?_, ?_, by simpa using hb5.set 0 lv', ?_, ?_, ?_, ?_, h.low⟩
  · have hE1 : Ext w W' := ((Chg.ext h.ext : Chg lv.ownBlock.toList w W).trans hC).toExt (fun t ht => by have := (hlt t ht).1; omega)
    exact ((Chg.ext hE1 : Chg [w.heap.size + 2] w W').trans hS).toExt (fun t ht => by simp at ht; omega)
  · exact (h.b2.chg hC (nt h.b2 (by decide))).chg hS (by simp)
  · refine (h.rr.chg hC (nt h.rr.blk (by decide)) (fun a n c hv hne hm => by have := h.low a n c hv hne; have := (hlt _ hm).1; omega)).chg hS (by simp) (fun a n c hv hne hm => by have := h.low a n c hv hne; simp at hm; omega)
  · rw [List.map_append, List.length_append]
    exact own_off ho hS (fun t ht => by obtain ⟨_, _, cur, h3⟩ := own_type ho t ht; exact nb h3 (by decide))
  · exact own_off hco hS (fun t ht => by obtain ⟨_, _, cur, h3⟩ := own_type hco t ht; exact nb h3 (by decide))
  · exact fun q hq => leaf_chg (leaf_chg (lfs q hq) hC (fun t ht cs hb => nt hb (by decide) ht)) hS (fun t ht cs hb => nb hb (by decide) ht)
  · intro q hq
    have ns : ∀ a n c, q.2 = .slice (some a) n c → a.block ∉ lv.ownBlock.toList := fun a n c hv => by obtain ⟨_, cur, h3⟩ := (h.cs q hq).2 a n c hv; exact nt h3 (by decide)
    have h1 : ClV W' q := RowV.chg (h.cs q hq).1 hC (fun a n c hv _ => ns a n c hv)
    have h2 := (h.cs q hq).2.chg hC ns
    have ns2 : ∀ a n c, q.2 = .slice (some a) n c → a.block ∉ [w.heap.size + 2] := fun a n c hv => by obtain ⟨_, cur, h3⟩ := h2 a n c hv; exact nb h3 (by decide)
    exact ⟨RowV.chg h1 hS (fun a n c hv _ => ns2 a n c hv), h2.chg hS ns2⟩
/-- A client more. -/
theorem RG.client {x : Int} {ss : List (Int × Int)} {u cv' : Value} (h : RG w W v full a lv cv L C) (hu : ClV W (⟨x, ss⟩, u) ∧ SlB 0 W 59 u) (ho : W'.ownsRow (w.heap.size + 3) 55 2 cv' (C.length + 1) ((C.map clR).flatten ++ [.int .u64 x, u])) (hg : W.grownBy W' cv.ownBlock) :
    RG w (W'.setCell ⟨w.heap.size + 2, 1, none⟩ cv') v full a lv cv' L (C ++ [(⟨x, ss⟩, u)]) := by
  have hC : Chg cv.ownBlock.toList W W' := Chg.grown hg
  have hlt : ∀ t ∈ cv.ownBlock.toList, w.heap.size + 3 ≤ t ∧ t < W.heap.size ∧ ∃ cur, Blk W t cur 55 := own_type h.co
  have nt : ∀ {t : Nat} {e : TypeId} {cs : Array Value}, Blk W t cs e → e ≠ 55 → t ∉ cv.ownBlock.toList := fun hb he hm => by
    obtain ⟨_, _, cur, h3⟩ := hlt _ hm
    exact he (blk_type hb h3)
  have hb5 : Blk W' (w.heap.size + 2) #[lv, cv] 27 := h.b5.chg hC (nt h.b5 (by decide))
  have hS : Chg [w.heap.size + 2] W' (W'.setCell ⟨w.heap.size + 2, 1, none⟩ cv') := Chg.set _ 1 _ (by simp)
  have nb : ∀ {t : Nat} {e : TypeId} {cs : Array Value}, Blk W' t cs e → e ≠ 27 → t ∉ [w.heap.size + 2] := fun hb he hm => by simp at hm; subst hm; exact he (blk_type hb hb5)
  have cls : ∀ q ∈ C ++ [((⟨x, ss⟩, u) : CQ)], ClV W q ∧ SlB 0 W 59 q.2 := fun q hq => by
    rcases List.mem_append.1 hq with hq | hq
    · exact h.cs q hq
    · rw [List.mem_singleton.1 hq]; exact hu
  have hlo : W'.ownsRow (w.heap.size + 3) 29 1 lv L.length (L.map (·.2)) := own_off h.lo hC (fun t ht => by obtain ⟨_, _, cur, h3⟩ := own_type h.lo t ht; exact nt h3 (by decide))
  refine ⟨?_, ?_, ?_, by simpa using hb5.set 1 cv', ?_, ?_, ?_, ?_, h.low⟩
  · have hE1 : Ext w W' := ((Chg.ext h.ext : Chg cv.ownBlock.toList w W).trans hC).toExt (fun t ht => by have := (hlt t ht).1; omega)
    exact ((Chg.ext hE1 : Chg [w.heap.size + 2] w W').trans hS).toExt (fun t ht => by simp at ht; omega)
  · exact (h.b2.chg hC (nt h.b2 (by decide))).chg hS (by simp)
  · refine (h.rr.chg hC (nt h.rr.blk (by decide)) (fun a n c hv hne hm => by have := h.low a n c hv hne; have := (hlt _ hm).1; omega)).chg hS (by simp) (fun a n c hv hne hm => by have := h.low a n c hv hne; simp at hm; omega)
  · exact own_off hlo hS (fun t ht => by obtain ⟨_, _, cur, h3⟩ := own_type hlo t ht; exact nb h3 (by decide))
  · have ho2 : W'.ownsRow (w.heap.size + 3) 55 2 cv' (C ++ [((⟨x, ss⟩, u) : CQ)]).length ((C ++ [((⟨x, ss⟩, u) : CQ)]).map clR).flatten := by simpa [clR] using ho
    exact own_off ho2 hS (fun t ht => by obtain ⟨_, _, cur, h3⟩ := own_type ho2 t ht; exact nb h3 (by decide))
  · exact fun q hq => leaf_chg (leaf_chg (h.ls q hq) hC (fun t ht cs hb => nt hb (by decide) ht)) hS (fun t ht cs hb => nb hb (by decide) ht)
  · intro q hq
    have ns : ∀ a n c, q.2 = .slice (some a) n c → a.block ∉ cv.ownBlock.toList := fun a n c hv => by obtain ⟨_, cur, h3⟩ := (cls q hq).2 a n c hv; exact nt h3 (by decide)
    have h1 : ClV W' q := RowV.chg (cls q hq).1 hC (fun a n c hv _ => ns a n c hv)
    have h2 := (cls q hq).2.chg hC ns
    have ns2 : ∀ a n c, q.2 = .slice (some a) n c → a.block ∉ [w.heap.size + 2] := fun a n c hv => by obtain ⟨_, cur, h3⟩ := h2 a n c hv; exact nb h3 (by decide)
    exact ⟨RowV.chg h1 hS (fun a n c hv _ => ns2 a n c hv), h2.chg hS ns2⟩
end
end Go.Proofs.Ytgefphfnicjbiaa
