/- Layer 25 (seq): books plainly and in memory; cmp.Compare; binary searches. PRINTED BY gen/sqa.py -/
import Derived.Test.YtgefphfnicjbiaaBun2
import Derived.Test.YtgefphfnicjbiaaMono
set_option linter.unusedSimpArgs false
set_option linter.unusedVariables false
namespace Go.Proofs.Ytgefphfnicjbiaa
open Go Go.RowKit

/-- A client: its number, and its slots (number, leaf). -/
structure Cl where
  id : Int
  slots : List (Int × Int)
  deriving DecidableEq
/-- A book. -/
structure Bk where
  leaves : List (List Int)
  clients : List Cl
  deriving DecidableEq
/-- Cells of a slot. -/
def slR (s : Int × Int) : List Value := [.int .u64 s.1, .int .u64 s.2]
/-- A client in memory: what it is, and its slots' value. -/
abbrev CQ := Cl × Value
def clR (q : CQ) : List Value := [.int .u64 q.1.id, q.2]
def ClV (w : World) (q : CQ) : Prop := RowV w 2 q.2 (q.1.slots.map slR)
/-- Leaves in memory. -/
abbrev LQ := List Int × Value
def lfR (q : LQ) : List Value := [q.2]
/-- v is the book b. -/
def BookV (w : World) (v : Value) (b : Bk) : Prop := ∃ (lv cv : Value) (L : List LQ) (C : List CQ), v = .agg #[lv, cv] ∧ L.map (·.1) = b.leaves ∧ C.map (·.1) = b.clients ∧
  RowV w 1 lv (L.map lfR) ∧ RowV w 2 cv (C.map clR) ∧ (∀ q ∈ L, Rd w q.2 (u8s q.1)) ∧ ∀ q ∈ C, ClV w q
theorem ClV.ext {w w' : World} {q : CQ} (h : ClV w q) (hE : Ext w w') : ClV w' q := RowV.ext h hE
theorem BookV.ext {w w' : World} {v : Value} {b : Bk} (h : BookV w v b) (hE : Ext w w') : BookV w' v b := by
  obtain ⟨lv, cv, L, C, e, h1, h2, h3, h4, h5, h6⟩ := h
  exact ⟨lv, cv, L, C, e, h1, h2, h3.ext hE, h4.ext hE, fun q hq => (h5 q hq).ext hE, fun q hq => (h6 q hq).ext hE⟩
theorem RowV.shape {w : World} {s : Nat} {v : Value} {rows : List (List Value)} (h : RowV w s v rows) : ∃ a c, v = .slice a rows.length c ∧ rows.length ≤ c ∧ c ≤ 9223372036854775807 := by
  obtain ⟨a, c, h1, h2, h3, _⟩ := h
  exact ⟨a, c, h1, h2, by unfold maxLen at h3; omega⟩
theorem ClV.shape {w : World} {q : CQ} (h : ClV w q) : ∃ a n c, q.2 = .slice a n c := by
  obtain ⟨a, c, h1, _⟩ := h
  exact ⟨_, _, _, h1⟩
/-- A call that answers v and leaves the world, or all that lay in it. -/
def RetS (v : Value) (w : World) (e : Ending) (w' : World) : Prop := e = .returned v ∧ w' = w
def RetE (v : Value) (w : World) (e : Ending) (w' : World) : Prop := e = .returned v ∧ Ext w w'
/-- What cmp.Compare says of two numbers. -/
def cmpI (a b : Int) : Int := if a < b then -1 else if b < a then 1 else 0
set_option maxHeartbeats 1000000 in
theorem nan_c (a : Int) (w : World) : Calls Try.prog 59 #[.int .u64 a] w (RetS (.bool false) w) := by
  go_enter Try.func59, Try.ntmps59
  go_wp2_with fail
  go_ret
  exact ⟨rfl, rfl⟩
set_option maxHeartbeats 1000000 in
theorem cmp_c (a b : Int) (w : World) : Calls Try.prog 24 #[.int .u64 a, .int .u64 b] w (RetS (.int .i64 (cmpI a b)) w) := by
  obtain ⟨r, hr⟩ : ∃ r, r = cmpI a b := ⟨_, rfl⟩
  rw [← hr]
  have HR := Lib.hid hr
  clear hr
  by_cases h1 : a < b
  · go_enter Try.func24, Try.ntmps24
    go_wp2_with fail
    refine (nan_c a w).mono ?_
    rintro e w1 ⟨rfl, rfl⟩
    go_wp2_with fail
    refine (nan_c b _).mono ?_
    rintro e w1 ⟨rfl, rfl⟩
    go_wp2_with fail
    go_ret
    have : r = -1 := by rw [HR.out]; unfold cmpI; rw [if_pos h1]
    rw [this]
    exact ⟨rfl, rfl⟩
  · have h1' : b ≤ a := by omega
    by_cases h2 : b < a
    · have HH := Lib.hid (show r = 1 from by rw [HR.out]; unfold cmpI; rw [if_neg h1, if_pos h2])
      clear h1
      go_enter Try.func24, Try.ntmps24
      go_wp2_with fail
      refine (nan_c a w).mono ?_
      rintro e w1 ⟨rfl, rfl⟩
      go_wp2_with fail
      refine (nan_c b _).mono ?_
      rintro e w1 ⟨rfl, rfl⟩
      go_wp2_with fail
      go_ret
      rw [HH.out]
      exact ⟨rfl, rfl⟩
    · have h2' : a ≤ b := by omega
      have HH := Lib.hid (show r = 0 from by rw [HR.out]; unfold cmpI; rw [if_neg h1, if_neg h2])
      clear h1 h2
      go_enter Try.func24, Try.ntmps24
      go_wp2_with fail
      refine (nan_c a w).mono ?_
      rintro e w1 ⟨rfl, rfl⟩
      go_wp2_with fail
      refine (nan_c b _).mono ?_
      rintro e w1 ⟨rfl, rfl⟩
      go_wp2_with fail
      go_ret
      rw [HH.out]
      exact ⟨rfl, rfl⟩
set_option maxHeartbeats 1000000 in
theorem placeC_c (k x : Int) (a : Option Addr) (n c : Nat) (w : World) : Calls Try.prog 54 #[.agg #[.int .u64 k, .slice a n c], .int .u64 x] w (RetE (.int .i64 (cmpI k x)) w) := by
  go_enter Try.func54, Try.ntmps54
  go_wp2_with fail
  refine (cmp_c k x _).mono ?_
  rintro e w1 ⟨rfl, rfl⟩
  go_wp2_with fail
  go_ret
  exact ⟨rfl, Ext.alloc _ _⟩
set_option maxHeartbeats 1000000 in
theorem findC_c (k x y : Int) (w : World) : Calls Try.prog 26 #[.agg #[.int .u64 k, .int .u64 y], .int .u64 x] w (RetE (.int .i64 (cmpI k x)) w) := by
  go_enter Try.func26, Try.ntmps26
  go_wp2_with fail
  refine (cmp_c k x _).mono ?_
  rintro e w1 ⟨rfl, rfl⟩
  go_wp2_with fail
  go_ret
  exact ⟨rfl, Ext.alloc _ _⟩
/-- The place of x among the keys l: those ahead of it are less, the others not. -/
structure Cut (l : List Int) (x : Int) (P : Nat) : Prop where
  le : P ≤ l.length
  lo : ∀ k y, k < P → l[k]? = some y → y < x
  hi : ∀ k y, P ≤ k → l[k]? = some y → x ≤ y
/-- Does x stand at its place? -/
def hitAt (l : List Int) (x : Int) (P : Nat) : Bool := match l[P]? with
  | some y => decide (y = x)
  | none => false
theorem cmpI_neg (a b : Int) : (cmpI a b < 0) ↔ a < b := by
  unfold cmpI
  split
  · simp; assumption
  · split
    · simp; omega
    · simp; omega
theorem cmpI_zero (a b : Int) : (cmpI a b = 0) ↔ a = b := by
  unfold cmpI
  split
  · simp; omega
  · split
    · simp; omega
    · simp; omega

set_option maxRecDepth 100000 in
set_option maxHeartbeats 4000000 in
theorem bsC_c (v : Value) (rows : List CQ) (x : Int) (P : Nat) (w : World) (h : RowV w 2 v (rows.map clR)) (hs : ∀ q ∈ rows, ∃ a n c, q.2 = .slice a n c) (hl : rows.length ≤ 1000000) (hP : Cut (rows.map (fun q : CQ => q.1.id)) x P) :
    Calls Try.prog 53 #[v, .int .u64 x, .func (.func 54) #[] #[]] w (RetE (.tuple #[.int .i64 (P : Int), .bool (hitAt (rows.map (fun q : CQ => q.1.id)) x P)]) w) := by
  obtain ⟨a, c, rfl, hc1, hc2, hrows⟩ := h
  obtain ⟨n, hn⟩ : ∃ n, n = rows.length := ⟨_, rfl⟩
  rw [List.length_map, ← hn] at hc1 ⊢
  rw [← hn] at hl
  replace hc2 : c ≤ 9223372036854775807 := by unfold maxLen at hc2; omega
  have hPn : P ≤ n := by have := hP.le; rw [List.length_map] at this; omega
  obtain ⟨z, hz⟩ : ∃ z, z = hitAt (rows.map (fun q : CQ => q.1.id)) x P := ⟨_, rfl⟩
  rw [← hz]
  have hat : ∀ (wr : World), Ext w wr → ∀ (m : Nat) q, rows[m]? = some q → ∃ sb so, a = some ⟨sb, so, none⟩ ∧ ∀ (j : Nat) u, (clR q)[j]? = some u → wr.cell? ⟨sb, so + m * 2 + j, none⟩ = some u := fun wr hE m q hq => by
    rcases hrows with h3 | ⟨b, o, ha, hc⟩
    · rw [List.map_eq_nil_iff.1 h3] at hq; simp at hq
    · exact ⟨b, o, ha, fun j u hj => hE.cell (hc m _ (by rw [List.getElem?_map, hq]; rfl) j u hj)⟩
  have HAT := Lib.hid hat; have HS := Lib.hid hs; have HP := Lib.hid hP; have HN := Lib.hid hn; have HZ := Lib.hid hz
  clear hrows hs hP hn hz hat
  go_enter Try.func53, Try.ntmps53
  go_wp2_with fail
  go_loopg [9, 10, 11] n (fun g v9 v10 _v11 wr => ∃ (i j : Nat), v9 = .int .i64 (i : Int) ∧ v10 = .int .i64 (j : Int) ∧ i ≤ P ∧ P ≤ j ∧ j ≤ n ∧ j ≤ i + g ∧ Ext w wr)
  case atStart => exact ⟨0, n, rfl, rfl, by omega, hPn, Nat.le_refl _, by omega, Ext.refl _⟩
  case round =>
    obtain ⟨i, j, rfl, rfl, h1, h2, h3, h4, hE⟩ := hrel
    have HE := Lib.hid hE
    clear hE
    by_cases hlt : i < j
    · have hlt' : (i : Int) < (j : Int) := by omega
      go_upto_region 5 with fail
      obtain ⟨m, hm⟩ : ∃ m, m = (i + j) / 2 := ⟨_, rfl⟩
      have hmi : i ≤ m := by omega
      have hmj : m < j := by omega
      rw [show ((i : Int) + (j : Int)) / 2 = (m : Int) by omega]
      clear hm
      obtain ⟨q, hq⟩ : ∃ q, rows[m]? = some q := ⟨_, List.getElem?_eq_getElem (by have := HN.out; omega)⟩
      have hkey : (rows.map (fun q : CQ => q.1.id))[m]? = some ((fun q : CQ => q.1.id) q) := by rw [List.getElem?_map, hq]; rfl
      have hlo := fun h => HP.out.lo m _ h hkey
      have hhi := fun h => HP.out.hi m _ h hkey
      have hsq := HS.out q (List.mem_of_getElem? hq)
      obtain ⟨sb, so, rfl, hcr⟩ := HAT.out wr HE.out m q hq
      obtain ⟨qa, qn, qc, hqv⟩ := hsq; obtain ⟨⟨qid, qsl⟩, qv⟩ := q; dsimp only at hqv; subst hqv
      have k0 := hcr 0 _ rfl; have k1 := hcr 1 _ rfl
      dsimp only at k0 k1 hlo hhi
      rw [Nat.add_zero] at k0
      have HLO := Lib.hid hlo; have HHI := Lib.hid hhi
      have hmn : (m : Int) < (n : Int) := by omega
      clear hcr hlo hhi hkey hq
      go_wp2_with fail
      refine (placeC_c qid x qa qn qc _).mono ?_
      rintro e w2 ⟨rfl, hE2⟩
      have HE2 := Lib.hid (HE.out.trans hE2)
      clear hE2 k0 k1
      by_cases hcm : qid < x
      · have hneg : cmpI qid x < 0 := (cmpI_neg _ _).2 hcm
        have hmP : m < P := by
          rcases Nat.lt_or_ge m P with h | h
          · exact h
          · have := HHI.out h; omega
        clear hcm
        go_wp2_with fail
        go_roundg (j - (m + 1))
        case measure => omega
        case rel => exact ⟨m + 1, j, by go_num, rfl, by omega, h2, h3, by omega, HE2.out⟩
      · have hneg : 0 ≤ cmpI qid x := by
          have := mt (cmpI_neg qid x).1 hcm
          omega
        have hmP : P ≤ m := by
          rcases Nat.lt_or_ge m P with h | h
          · have := HLO.out h; omega
          · exact h
        clear hcm
        go_wp2_with fail
        go_roundg (m - i)
        case measure => omega
        case rel => exact ⟨i, m, rfl, rfl, h1, hmP, by omega, by omega, HE2.out⟩
    · have hge : (j : Int) ≤ (i : Int) := by omega
      obtain rfl : i = P := by omega
      obtain rfl : i = j := by omega
      clear hlt h4
      by_cases hin : i < n
      · have hin' : (i : Int) < (n : Int) := by omega
        obtain ⟨q, hq⟩ : ∃ q, rows[i]? = some q := ⟨_, List.getElem?_eq_getElem (by have := HN.out; omega)⟩
        have hsq := HS.out q (List.mem_of_getElem? hq)
        have hzq : z = decide ((fun q : CQ => q.1.id) q = x) := by
          rw [HZ.out]; unfold hitAt; rw [List.getElem?_map, hq]; rfl
        obtain ⟨sb, so, rfl, hcr⟩ := HAT.out wr HE.out i q hq
        obtain ⟨qa, qn, qc, hqv⟩ := hsq; obtain ⟨⟨qid, qsl⟩, qv⟩ := q; dsimp only at hqv; subst hqv
        have k0 := hcr 0 _ rfl; have k1 := hcr 1 _ rfl
        dsimp only at k0 k1 hzq
        rw [Nat.add_zero] at k0
        have HZQ := Lib.hid hzq
        clear hcr hq hzq
        go_wp2_with fail
        refine (placeC_c qid x qa qn qc _).mono ?_
        rintro e w2 ⟨rfl, hE2⟩
        have HE2 := Lib.hid (HE.out.trans hE2)
        clear hE2 k0 k1
        by_cases hcm : qid = x
        · have hzero : cmpI qid x = 0 := (cmpI_zero _ _).2 hcm
          have hz1 : z = true := by rw [HZQ.out]; exact decide_eq_true hcm
          clear hcm
          rw [hzero]
          go_wp2_with fail
          go_ret2
          rw [hz1]
          exact ⟨rfl, HE2.out⟩
        · have hzero : ¬ cmpI qid x = 0 := fun h => hcm ((cmpI_zero _ _).1 h)
          have hz1 : z = false := by rw [HZQ.out]; exact decide_eq_false hcm
          have hzb : (cmpI qid x == 0) = false := by simpa using hzero
          clear hcm
          go_wp2_with fail
          go_ret2
          rw [hz1]
          exact ⟨rfl, HE2.out⟩
      · have hin' : (n : Int) ≤ (i : Int) := by omega
        have hzq : z = false := by
          rw [HZ.out]; unfold hitAt; rw [List.getElem?_eq_none (by rw [List.length_map]; have := HN.out; omega)]
        have HZQ := Lib.hid hzq
        clear hin hzq
        go_wp2_with fail
        go_ret2
        rw [HZQ.out]
        exact ⟨rfl, HE.out⟩

set_option maxRecDepth 100000 in
set_option maxHeartbeats 4000000 in
theorem bsS_c (v : Value) (rows : List (Int × Int)) (x : Int) (P : Nat) (w : World) (h : RowV w 2 v (rows.map slR)) (hs : ∀ q ∈ rows, True) (hl : rows.length ≤ 1000000) (hP : Cut (rows.map (fun q : Int × Int => q.1)) x P) :
    Calls Try.prog 25 #[v, .int .u64 x, .func (.func 26) #[] #[]] w (RetE (.tuple #[.int .i64 (P : Int), .bool (hitAt (rows.map (fun q : Int × Int => q.1)) x P)]) w) := by
  obtain ⟨a, c, rfl, hc1, hc2, hrows⟩ := h
  obtain ⟨n, hn⟩ : ∃ n, n = rows.length := ⟨_, rfl⟩
  rw [List.length_map, ← hn] at hc1 ⊢
  rw [← hn] at hl
  replace hc2 : c ≤ 9223372036854775807 := by unfold maxLen at hc2; omega
  have hPn : P ≤ n := by have := hP.le; rw [List.length_map] at this; omega
  obtain ⟨z, hz⟩ : ∃ z, z = hitAt (rows.map (fun q : Int × Int => q.1)) x P := ⟨_, rfl⟩
  rw [← hz]
  have hat : ∀ (wr : World), Ext w wr → ∀ (m : Nat) q, rows[m]? = some q → ∃ sb so, a = some ⟨sb, so, none⟩ ∧ ∀ (j : Nat) u, (slR q)[j]? = some u → wr.cell? ⟨sb, so + m * 2 + j, none⟩ = some u := fun wr hE m q hq => by
    rcases hrows with h3 | ⟨b, o, ha, hc⟩
    · rw [List.map_eq_nil_iff.1 h3] at hq; simp at hq
    · exact ⟨b, o, ha, fun j u hj => hE.cell (hc m _ (by rw [List.getElem?_map, hq]; rfl) j u hj)⟩
  have HAT := Lib.hid hat; have HS := Lib.hid hs; have HP := Lib.hid hP; have HN := Lib.hid hn; have HZ := Lib.hid hz
  clear hrows hs hP hn hz hat
  go_enter Try.func25, Try.ntmps25
  go_wp2_with fail
  go_loopg [9, 10, 11] n (fun g v9 v10 _v11 wr => ∃ (i j : Nat), v9 = .int .i64 (i : Int) ∧ v10 = .int .i64 (j : Int) ∧ i ≤ P ∧ P ≤ j ∧ j ≤ n ∧ j ≤ i + g ∧ Ext w wr)
  case atStart => exact ⟨0, n, rfl, rfl, by omega, hPn, Nat.le_refl _, by omega, Ext.refl _⟩
  case round =>
    obtain ⟨i, j, rfl, rfl, h1, h2, h3, h4, hE⟩ := hrel
    have HE := Lib.hid hE
    clear hE
    by_cases hlt : i < j
    · have hlt' : (i : Int) < (j : Int) := by omega
      go_upto_region 5 with fail
      obtain ⟨m, hm⟩ : ∃ m, m = (i + j) / 2 := ⟨_, rfl⟩
      have hmi : i ≤ m := by omega
      have hmj : m < j := by omega
      rw [show ((i : Int) + (j : Int)) / 2 = (m : Int) by omega]
      clear hm
      obtain ⟨q, hq⟩ : ∃ q, rows[m]? = some q := ⟨_, List.getElem?_eq_getElem (by have := HN.out; omega)⟩
      have hkey : (rows.map (fun q : Int × Int => q.1))[m]? = some ((fun q : Int × Int => q.1) q) := by rw [List.getElem?_map, hq]; rfl
      have hlo := fun h => HP.out.lo m _ h hkey
      have hhi := fun h => HP.out.hi m _ h hkey
      have hsq := HS.out q (List.mem_of_getElem? hq)
      obtain ⟨sb, so, rfl, hcr⟩ := HAT.out wr HE.out m q hq
      obtain ⟨qid, qx⟩ := q
      have k0 := hcr 0 _ rfl; have k1 := hcr 1 _ rfl
      dsimp only at k0 k1 hlo hhi
      rw [Nat.add_zero] at k0
      have HLO := Lib.hid hlo; have HHI := Lib.hid hhi
      have hmn : (m : Int) < (n : Int) := by omega
      clear hcr hlo hhi hkey hq hsq
      go_wp2_with fail
      refine (findC_c qid x qx _).mono ?_
      rintro e w2 ⟨rfl, hE2⟩
      have HE2 := Lib.hid (HE.out.trans hE2)
      clear hE2 k0 k1
      by_cases hcm : qid < x
      · have hneg : cmpI qid x < 0 := (cmpI_neg _ _).2 hcm
        have hmP : m < P := by
          rcases Nat.lt_or_ge m P with h | h
          · exact h
          · have := HHI.out h; omega
        clear hcm
        go_wp2_with fail
        go_roundg (j - (m + 1))
        case measure => omega
        case rel => exact ⟨m + 1, j, by go_num, rfl, by omega, h2, h3, by omega, HE2.out⟩
      · have hneg : 0 ≤ cmpI qid x := by
          have := mt (cmpI_neg qid x).1 hcm
          omega
        have hmP : P ≤ m := by
          rcases Nat.lt_or_ge m P with h | h
          · have := HLO.out h; omega
          · exact h
        clear hcm
        go_wp2_with fail
        go_roundg (m - i)
        case measure => omega
        case rel => exact ⟨i, m, rfl, rfl, h1, hmP, by omega, by omega, HE2.out⟩
    · have hge : (j : Int) ≤ (i : Int) := by omega
      obtain rfl : i = P := by omega
      obtain rfl : i = j := by omega
      clear hlt h4
      by_cases hin : i < n
      · have hin' : (i : Int) < (n : Int) := by omega
        obtain ⟨q, hq⟩ : ∃ q, rows[i]? = some q := ⟨_, List.getElem?_eq_getElem (by have := HN.out; omega)⟩
        have hsq := HS.out q (List.mem_of_getElem? hq)
        have hzq : z = decide ((fun q : Int × Int => q.1) q = x) := by
          rw [HZ.out]; unfold hitAt; rw [List.getElem?_map, hq]; rfl
        obtain ⟨sb, so, rfl, hcr⟩ := HAT.out wr HE.out i q hq
        obtain ⟨qid, qx⟩ := q
        have k0 := hcr 0 _ rfl; have k1 := hcr 1 _ rfl
        dsimp only at k0 k1 hzq
        rw [Nat.add_zero] at k0
        have HZQ := Lib.hid hzq
        clear hcr hq hsq hzq
        go_wp2_with fail
        refine (findC_c qid x qx _).mono ?_
        rintro e w2 ⟨rfl, hE2⟩
        have HE2 := Lib.hid (HE.out.trans hE2)
        clear hE2 k0 k1
        by_cases hcm : qid = x
        · have hzero : cmpI qid x = 0 := (cmpI_zero _ _).2 hcm
          have hz1 : z = true := by rw [HZQ.out]; exact decide_eq_true hcm
          clear hcm
          rw [hzero]
          go_wp2_with fail
          go_ret2
          rw [hz1]
          exact ⟨rfl, HE2.out⟩
        · have hzero : ¬ cmpI qid x = 0 := fun h => hcm ((cmpI_zero _ _).1 h)
          have hz1 : z = false := by rw [HZQ.out]; exact decide_eq_false hcm
          have hzb : (cmpI qid x == 0) = false := by simpa using hzero
          clear hcm
          go_wp2_with fail
          go_ret2
          rw [hz1]
          exact ⟨rfl, HE2.out⟩
      · have hin' : (n : Int) ≤ (i : Int) := by omega
        have hzq : z = false := by
          rw [HZ.out]; unfold hitAt; rw [List.getElem?_eq_none (by rw [List.length_map]; have := HN.out; omega)]
        have HZQ := Lib.hid hzq
        clear hin hzq
        go_wp2_with fail
        go_ret2
        rw [HZQ.out]
        exact ⟨rfl, HE.out⟩

end Go.Proofs.Ytgefphfnicjbiaa
