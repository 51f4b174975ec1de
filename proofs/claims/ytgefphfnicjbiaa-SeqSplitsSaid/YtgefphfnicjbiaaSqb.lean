/- Layer 25 (seq): place, Find. -/
import Derived.Test.YtgefphfnicjbiaaSqa
namespace Go.Proofs.Ytgefphfnicjbiaa
open Go Go.RowKit

def idsB (b : Bk) : List Int := b.clients.map (·.id)
def keysC (c : Cl) : List Int := c.slots.map (·.1)
/-- How many of l are less than x. -/
def posL (l : List Int) (x : Int) : Nat := l.countP (fun y => decide (y < x))
theorem posL_cut : ∀ (l : List Int) (x : Int), l.Pairwise (· < ·) → Cut l x (posL l x)
  | [], x, _ => ⟨by simp [posL], fun k y _ h => by simp at h, fun k y _ h => by simp at h⟩
  | z :: r, x, h => by
    rw [List.pairwise_cons] at h
    have ih := posL_cut r x h.2
    by_cases hz : z < x
    · have e : posL (z :: r) x = posL r x + 1 := by unfold posL; rw [List.countP_cons_of_pos (by simpa using hz)]
      rw [e]
      refine ⟨by have := ih.le; simp; omega, fun k y hk hy => ?_, fun k y hk hy => ?_⟩
      · cases k with
        | zero => simp at hy; subst hy; exact hz
        | succ k => exact ih.lo k y (by omega) (by simpa using hy)
      · cases k with
        | zero => omega
        | succ k => exact ih.hi k y (by omega) (by simpa using hy)
    · have hr : ∀ y ∈ r, ¬ y < x := fun y hy => by have := h.1 y hy; omega
      have e : posL (z :: r) x = 0 := by
        unfold posL
        rw [List.countP_eq_zero]
        intro y hy
        rcases List.mem_cons.1 hy with rfl | hy
        · simpa using hz
        · simpa using hr y hy
      rw [e]
      refine ⟨Nat.zero_le _, fun k y hk _ => by omega, fun k y _ hy => ?_⟩
      rcases List.mem_cons.1 (List.mem_of_getElem? hy) with rfl | hy
      · omega
      · have := hr y hy; omega
/-- What Find answers. -/
def findP (b : Bk) (cl sq : Int) : Int × Int := match b.clients[posL (idsB b) cl]? with
  | none => (0, 8)
  | some c => if c.id = cl then (match c.slots[posL (keysC c) sq]? with
      | some s => if s.1 = sq then (s.2, 0) else if posL (keysC c) sq = 0 ∧ 4 ≤ c.slots.length then (0, 13) else (0, 8)
      | none => if posL (keysC c) sq = 0 ∧ 4 ≤ c.slots.length then (0, 13) else (0, 8))
    else (0, 8)
theorem ids_map {C : List CQ} {b : Bk} (h : C.map (·.1) = b.clients) : C.map (fun q : CQ => q.1.id) = idsB b := by unfold idsB; rw [← h, List.map_map]; rfl
set_option maxHeartbeats 2000000 in
theorem place_c (v : Value) (b : Bk) (x : Int) (P : Nat) (w : World) (h : BookV w v b) (hl : b.clients.length ≤ 1000000) (hP : Cut (idsB b) x P) :
    Calls Try.prog 19 #[v, .int .u64 x] w (RetE (.tuple #[.int .i64 (P : Int), .bool (hitAt (idsB b) x P)]) w) := by
  obtain ⟨lv, cv, L, C, rfl, hL, hC, h3, h4, h5, h6⟩ := h
  obtain ⟨la, lc, rfl, -, -⟩ := h3.shape
  rw [← ids_map hC] at hP ⊢
  have hlen : C.length = b.clients.length := by rw [← hC]; simp
  have HP := Lib.hid hP
  have H4 := Lib.hid h4
  have H6 := Lib.hid h6
  have HL := Lib.hid (show C.length ≤ 1000000 by omega)
  obtain ⟨z, hz⟩ : ∃ z, z = hitAt (C.map (fun q : CQ => q.1.id)) x P := ⟨_, rfl⟩
  rw [← hz]
  have HZ := Lib.hid hz
  obtain ⟨ca, cc, rfl, -, -⟩ := h4.shape
  clear h3 h4 h5 h6 hL hC hP hz hl hlen
  generalize (L.map lfR).length = nl
  generalize (C.map clR).length = nc at *
  go_enter Try.func19, Try.ntmps19
  go_wp2_with fail
  refine (bsC_c _ C x P _ (H4.out.ext (Ext.alloc _ _)) (fun q hq => (H6.out q hq).shape) HL.out HP.out).mono ?_
  rw [← HZ.out]
  rintro e w2 ⟨rfl, hE2⟩
  go_wp2_with fail
  go_ret2
  exact ⟨rfl, (Ext.alloc _ _).trans hE2⟩
/-- The book's keys rise. -/
structure Rise (b : Bk) : Prop where
  ids : (idsB b).Pairwise (· < ·)
  keys : ∀ c ∈ b.clients, (keysC c).Pairwise (· < ·)
  lenC : b.clients.length ≤ 1000000
  lenS : ∀ c ∈ b.clients, c.slots.length ≤ 1000000
theorem hitAt_true {l : List Int} {x : Int} {P : Nat} (h : hitAt l x P = true) : l[P]? = some x := by
  unfold hitAt at h
  split at h
  · rename_i y hy; rw [hy]; simp at h; rw [h]
  · cases h
theorem hitAt_false {l : List Int} {x : Int} {P : Nat} (h : hitAt l x P = false) : ∀ y, l[P]? = some y → y ≠ x := fun y hy e => by
  unfold hitAt at h
  rw [hy] at h
  simp at h
  exact h e
set_option maxRecDepth 100000 in
set_option maxHeartbeats 4000000 in
theorem find_c (v : Value) (b : Bk) (cl sq : Int) (w : World) (h : BookV w v b) (hb : Rise b) :
    Calls Try.prog 9 #[v, .int .u64 cl, .int .u64 sq] w (RetE (.tuple #[.int .u64 (findP b cl sq).1, .int .i64 (findP b cl sq).2]) w) := by
  have HB := Lib.hid hb
  have HV := Lib.hid h
  obtain ⟨⟨ri, re⟩, hX⟩ : ∃ X, X = findP b cl sq := ⟨_, rfl⟩
  rw [← hX]
  obtain ⟨P, hP⟩ : ∃ P, P = posL (idsB b) cl := ⟨_, rfl⟩
  have hcut := posL_cut (idsB b) cl hb.ids
  rw [← hP] at hcut
  have hX2 : (ri, re) = match b.clients[P]? with
    | none => (0, 8)
    | some c => if c.id = cl then (match c.slots[posL (keysC c) sq]? with
        | some s => if s.1 = sq then (s.2, 0) else if posL (keysC c) sq = 0 ∧ 4 ≤ c.slots.length then (0, 13) else (0, 8)
        | none => if posL (keysC c) sq = 0 ∧ 4 ≤ c.slots.length then (0, 13) else (0, 8))
      else (0, 8) := by rw [hX, hP]; rfl
  have HX := Lib.hid hX2
  have hpl := fun w h => place_c v b cl P w h hb.lenC hcut
  obtain ⟨z, hz⟩ : ∃ z, z = hitAt (idsB b) cl P := ⟨_, rfl⟩
  rw [← hz] at hpl
  have HPL := Lib.hid hpl
  have HZ := Lib.hid hz.symm
  obtain ⟨lv, cv, L, C, rfl, hL, hC, h3, h4, h5, h6⟩ := h
  obtain ⟨la, lc, rfl, -, -⟩ := h3.shape
  obtain ⟨ca, cc, rfl, hc1, hc2, hrows⟩ := h4
  replace hc2 : cc ≤ 9223372036854775807 := by unfold maxLen at hc2; omega
  have H6 := Lib.hid h6; have HC := Lib.hid hC; have HR := Lib.hid hrows
  have hnc : (C.map clR).length = b.clients.length := by rw [List.length_map, ← hC, List.length_map]
  have HNC := Lib.hid hnc
  clear h3 h5 h6 hL hC hX hX2 hP hz hcut hb hrows hnc hpl
  dsimp only
  generalize (L.map lfR).length = nl at *
  generalize hgn : (C.map clR).length = nc at *
  clear hgn
  go_enter Try.func9, Try.ntmps9
  go_wp2_with fail
  refine (HPL.out _ (HV.out.ext (Ext.alloc _ _))).mono ?_
  rintro e w2 ⟨rfl, hE2⟩
  have HE2 := Lib.hid ((Ext.alloc w _).trans hE2)
  have c1 := ((Blk.new w #[.slice la nl lc, .slice ca nc cc] 27).ext hE2).cell 1 rfl
  simp only [List.getElem_toArray, List.getElem_cons_succ, List.getElem_cons_zero] at c1
  clear hE2 HPL HV
  cases z with
  | false =>
    have hr : (ri, re) = (0, 8) := by
      rw [HX.out]
      cases hcl : b.clients[P]? with
      | none => rfl
      | some c =>
        have := hitAt_false HZ.out c.id (by unfold idsB; rw [List.getElem?_map, hcl]; rfl)
        simp only [if_neg this]
    cases hr
    clear c1
    go_wp2_with fail
    go_ret2
    exact ⟨rfl, HE2.out⟩
  | true =>
    have hzt := hitAt_true HZ.out
    unfold idsB at hzt
    rw [List.getElem?_map] at hzt
    obtain ⟨c, hcl⟩ : ∃ c, b.clients[P]? = some c := by
      cases hcl : b.clients[P]? with
      | none => rw [hcl] at hzt; cases hzt
      | some c => exact ⟨c, rfl⟩
    rw [hcl] at hzt
    have hid : c.id = cl := Option.some.inj hzt
    obtain ⟨q, hq⟩ : ∃ q, C[P]? = some q := by
      cases hq : C[P]? with
      | none => have := hcl; rw [← HC.out, List.getElem?_map, hq] at this; cases this
      | some q => exact ⟨q, rfl⟩
    have hqc : q.1 = c := by have := hcl; rw [← HC.out, List.getElem?_map, hq] at this; exact Option.some.inj this
    obtain ⟨sb, so, rfl, hcr⟩ : ∃ sb so, ca = some ⟨sb, so, none⟩ ∧ ∀ (j : Nat) u, (clR q)[j]? = some u → w2.cell? ⟨sb, so + P * 2 + j, none⟩ = some u := by
      rcases HR.out with h3 | ⟨b', o, ha, hc⟩
      · rw [List.map_eq_nil_iff.1 h3] at hq; simp at hq
      · exact ⟨b', o, ha, fun j u hj => HE2.out.cell (hc P _ (by rw [List.getElem?_map, hq]; rfl) j u hj)⟩
    have hqv := H6.out q (List.mem_of_getElem? hq)
    have hmem : c ∈ b.clients := List.mem_of_getElem? hcl
    have hX3 : (ri, re) = match c.slots[posL (keysC c) sq]? with
        | some s => if s.1 = sq then (s.2, 0) else if posL (keysC c) sq = 0 ∧ 4 ≤ c.slots.length then (0, 13) else (0, 8)
        | none => if posL (keysC c) sq = 0 ∧ 4 ≤ c.slots.length then (0, 13) else (0, 8) := by
      rw [HX.out, hcl]; simp only [if_pos hid]
    have hPn : P < nc := by rw [HNC.out]; exact (List.getElem?_eq_some_iff.1 hcl).1
    have hcutq := posL_cut (keysC c) sq (HB.out.keys c hmem)
    have hlenq := HB.out.lenS c hmem
    obtain ⟨Q, hQ⟩ : ∃ Q, Q = posL (keysC c) sq := ⟨_, rfl⟩
    rw [← hQ] at hcutq hX3
    obtain ⟨⟨qid, qsl⟩, qv⟩ := q
    dsimp only at hqc
    subst hqc
    have k1 := hcr 1 _ rfl
    dsimp only [clR] at k1
    have hqr : RowV w 2 qv (qsl.map slR) := hqv
    have hqv2 := hqr
    clear hqv
    obtain ⟨qa, qc, rfl, hq1, hq2, hqrows⟩ := hqv2
    replace hq2 : qc ≤ 9223372036854775807 := by unfold maxLen at hq2; omega
    rw [List.length_map] at hq1 k1 hqr
    have HQR := Lib.hid hqr; have HQROWS := Lib.hid hqrows
    obtain ⟨qn, hqn⟩ : ∃ qn, qn = qsl.length := ⟨_, rfl⟩
    dsimp only at hlenq
    rw [← hqn] at k1 HQR hq1
    have hbs := bsS_c (.slice qa qn qc) qsl sq Q
    obtain ⟨y, hy⟩ : ∃ y, y = hitAt (qsl.map fun q : Int × Int => q.1) sq Q := ⟨_, rfl⟩
    rw [← hy] at hbs
    have HBS := Lib.hid hbs; have HY := Lib.hid hy.symm; have HCQ := Lib.hid hcutq; have HLQ := Lib.hid hlenq; have HX3 := Lib.hid hX3; have HQN := Lib.hid hqn
    have hQn : Q ≤ qn := by have h1 := hcutq.le; rw [show (keysC ⟨qid, qsl⟩).length = qsl.length from by unfold keysC; rw [List.length_map]] at h1; omega
    have hPn' : (P : Int) < (nc : Int) := by omega
    clear hzt hcl hid hq hcr hqr hqrows hmem hcutq hlenq hX3 hQ hbs hy hqn HX HR H6 HC HNC
    go_wp2_with fail
    refine (HBS.out _ (HQR.out.ext HE2.out) (fun _ _ => trivial) HLQ.out HCQ.out).mono ?_
    rintro e w3 ⟨rfl, hE3⟩
    have HE3 := Lib.hid (HE2.out.trans hE3)
    clear hE3 HBS k1 c1
    cases y with
    | true =>
      have hyt := hitAt_true HY.out
      rw [List.getElem?_map] at hyt
      obtain ⟨s, hs⟩ : ∃ s, qsl[Q]? = some s := by
        cases hs : qsl[Q]? with
        | none => rw [hs] at hyt; cases hyt
        | some s => exact ⟨s, rfl⟩
      rw [hs] at hyt
      have hsq : s.1 = sq := Option.some.inj hyt
      have hr : (ri, re) = (s.2, 0) := by rw [HX3.out]; simp only [hs, if_pos hsq]
      obtain ⟨tb, tf, rfl, htr⟩ : ∃ sb so, qa = some ⟨sb, so, none⟩ ∧ ∀ (j : Nat) u, (slR s)[j]? = some u → w3.cell? ⟨sb, so + Q * 2 + j, none⟩ = some u := by
        rcases HQROWS.out with h3 | ⟨b', o, ha, hc⟩
        · rw [List.map_eq_nil_iff.1 h3] at hs; simp at hs
        · exact ⟨b', o, ha, fun j u hj => HE3.out.cell (hc Q _ (by rw [List.getElem?_map, hs]; rfl) j u hj)⟩
      have k1 := htr 1 _ rfl
      have hQl : Q < qn := by rw [HQN.out]; exact (List.getElem?_eq_some_iff.1 hs).1
      have hQl' : (Q : Int) < (qn : Int) := by omega
      cases hr
      clear hyt hs htr hsq
      go_wp2_with fail
      go_ret2
      exact ⟨rfl, HE3.out⟩
    | false =>
      have hr : (ri, re) = if Q = 0 ∧ 4 ≤ qn then (0, 13) else (0, 8) := by
        rw [HX3.out, HQN.out]
        cases hs : qsl[Q]? with
        | none => rfl
        | some s =>
          have := hitAt_false HY.out s.1 (by rw [List.getElem?_map, hs]; rfl)
          simp only [if_neg this]
      by_cases hQ0 : Q = 0
      · subst hQ0
        by_cases h4 : 4 ≤ qn
        · rw [if_pos ⟨rfl, h4⟩] at hr
          cases hr
          have h4' : (4 : Int) ≤ (qn : Int) := by omega
          go_wp2_with fail
          go_ret2
          exact ⟨rfl, HE3.out⟩
        · rw [if_neg (fun h => h4 h.2)] at hr
          cases hr
          have h4' : (qn : Int) < 4 := by omega
          clear h4
          go_wp2_with fail
          go_ret2
          exact ⟨rfl, HE3.out⟩
      · rw [if_neg (fun h => hQ0 h.1)] at hr
        cases hr
        have hQ0' : ((Q : Int) == 0) = false := by simpa using hQ0
        have hQp : 0 < Q := by omega
        clear hQ0
        go_wp2_with fail
        go_ret2
        exact ⟨rfl, HE3.out⟩
end Go.Proofs.Ytgefphfnicjbiaa
