/- Parts of the proof, in plain words at the head of each: Skp, Skr, Skf. -/
import Derived.Test.YtgefphfnicjbiaaDoorSki
import Derived.Test.YtgefphfnicjbiaaDoorSqm
set_option linter.unusedSimpArgs false
set_option linter.unusedVariables false
/- Layer 25 (seq): Put, Formed. -/
namespace Go.Proofs.YtgefphfnicjbiaaDoor
open Go Go.RowKit

theorem len_left {xs ys zs : List Int} (h : xs ++ ys = zs) : xs.length ≤ zs.length := by rw [← h]; simp
theorem drop_cons {α : Type} {l : List α} {i : Nat} {x : α} (h : l[i]? = some x) : l.drop i = x :: l.drop (i + 1) := by
  obtain ⟨hi, rfl⟩ := List.getElem?_eq_some_iff.1 h
  exact List.drop_eq_getElem_cons hi
/-- What is known within Put: the book's variable, the bytes so far. -/
structure PS (w wr : World) (lv cv xv : Value) (bytes : List Int) : Prop where
  ext : Ext w wr
  b1 : Blk wr w.heap.size #[lv, cv] 25
  own : wr.ownsRow w.heap.size 5 1 xv bytes.length (u8s bytes)
theorem PS.ext' {w wr wq : World} {lv cv xv : Value} {bytes : List Int} (h : PS w wr lv cv xv bytes) (hE : Ext wr wq) : PS w wq lv cv xv bytes := ⟨h.ext.trans hE, h.b1.ext hE, own_ext h.own hE⟩
theorem PS.turn {w wr wq : World} {lv cv xv yv : Value} {bytes more : List Int} (h : PS w wr lv cv xv bytes) (ho : wq.ownsRow w.heap.size 5 1 yv more.length (u8s more)) (hg : wr.grownBy wq xv.ownBlock) : PS w wq lv cv yv more :=
  ⟨own_extG h.own hg h.ext (Nat.le_refl _), h.b1.chg (Chg.grown hg) (fun hm => own_notin h.own h.b1 (by decide) hm), ho⟩
theorem PS.new {w wr wq : World} {lv cv xv yv : Value} {bytes more : List Int} {B : Nat} (h : PS w wr lv cv xv bytes) (ho : wq.ownsRow B 5 1 yv more.length (u8s more)) (hB : w.heap.size ≤ B) (hE : Ext wr wq) : PS w wq lv cv yv more :=
  ⟨h.ext.trans hE, h.b1.ext hE, own_low ho hB⟩
theorem PS.rd {w wr : World} {lv cv xv : Value} {bytes : List Int} (h : PS w wr lv cv xv bytes) : Rd wr xv (u8s bytes) := Rd.of_own h.own
theorem ret_own {w w' : World} {e : Ending} {l : List Int} (h : RetOwn 5 w (u8s l) e w') : ∃ v', e = .returned v' ∧ w'.ownsRow w.heap.size 5 1 v' l.length (u8s l) ∧ Ext w w' := by
  obtain ⟨v', h1, h2, h3⟩ := h
  rw [u8s_len] at h2
  exact ⟨v', h1, h2, h3⟩
theorem RowV.cells1 {w : World} {a : Option Addr} {n c : Nat} {L : List LQ} (h : RowV w 1 (.slice a n c) (L.map lfR)) {i : Nat} {q : LQ} (hq : L[i]? = some q) : ∃ b o, a = some ⟨b, o, none⟩ ∧ w.cell? ⟨b, o + i, none⟩ = some q.2 := by
  obtain ⟨a', c', hv, h1, h2, h3⟩ := h
  cases hv
  rcases h3 with h3 | ⟨b, o, ha, hc⟩
  · rw [List.map_eq_nil_iff.1 h3] at hq; simp at hq
  · refine ⟨b, o, ha, ?_⟩
    have := hc i (lfR q) (by rw [List.getElem?_map, hq]; rfl) 0 q.2 rfl
    simpa using this
theorem RowV.cells2 {w : World} {a : Option Addr} {n c : Nat} {α : Type} {f : α → List Value} {l : List α} (h : RowV w 2 (.slice a n c) (l.map f)) {i : Nat} {q : α} (hq : l[i]? = some q) : ∃ b o, a = some ⟨b, o, none⟩ ∧ ∀ j u, (f q)[j]? = some u → w.cell? ⟨b, o + i * 2 + j, none⟩ = some u := by
  obtain ⟨a', c', hv, h1, h2, h3⟩ := h
  cases hv
  rcases h3 with h3 | ⟨b, o, ha, hc⟩
  · rw [List.map_eq_nil_iff.1 h3] at hq; simp at hq
  · exact ⟨b, o, ha, fun j u hu => hc i (f q) (by rw [List.getElem?_map, hq]; rfl) j u hu⟩
theorem b8_app {xs ys : List Int} (h : B8 xs) (k : B8 ys) : B8 (xs ++ ys) := fun x hx => by
  rcases List.mem_append.1 hx with hx | hx
  · exact h x hx
  · exact k x hx
theorem b8_flat {α : Type} {f : α → List Int} {l : List α} (h : ∀ a ∈ l, B8 (f a)) : B8 (l.flatMap f) := fun x hx => by
  obtain ⟨a, ha, hx⟩ := List.mem_flatMap.1 hx
  exact h a ha x hx
theorem putK_b8 {b : Bk} (h : OkK b) : B8 (putK b) := by
  unfold putK
  exact b8_app (b8_app (b8_app (numB_bound _) (b8_flat fun l hl => b8_app (numB_bound _) (h.each l hl).2)) (numB_bound _)) (b8_flat fun c _ => b8_app (b8_app (numB_bound _) (numB_bound _)) (b8_flat fun s _ => b8_app (numB_bound _) (numB_bound _)))
theorem book_shape {w : World} {v : Value} {b : Bk} (h : BookV w v b) : ∃ a n c a' n' c', v = .agg #[.slice a n c, .slice a' n' c'] := by
  obtain ⟨lv, cv, L, C, rfl, -, -, h3, h4, -⟩ := h
  obtain ⟨a, c, rfl, -⟩ := h3.shape
  obtain ⟨a', c', rfl, -⟩ := h4.shape
  exact ⟨_, _, _, _, _, _, rfl⟩
/-- How Put ends. -/
def PutOut (b : Bk) (w : World) (e : Ending) (w' : World) : Prop := Ext w w' ∧
  if formedK b then ∃ pv, e = .returned (.tuple #[pv, .int .i64 0]) ∧ w'.ownsRow w.heap.size 5 1 pv (putK b).length (u8s (putK b)) else e = .returned (.tuple #[.slice none 0 0, .int .i64 1])
end Go.Proofs.YtgefphfnicjbiaaDoor

/- Layer 25 (seq): tabellionref25's client, Find. -/
namespace Go.Proofs.YtgefphfnicjbiaaDoor
open Go Go.RowKit

/-- The place of a client, or -1. -/
def clientI (b : Bk) (x : Int) : Int := if hitAt (idsB b) x (posL (idsB b) x) then (posL (idsB b) x : Int) else -1
theorem posL_hit {l : List Int} (hl : l.Pairwise (· < ·)) {i : Nat} {x : Int} (h : l[i]? = some x) : posL l x = i ∧ hitAt l x (posL l x) = true := by
  have hm := List.mem_of_getElem? h
  have h1 := rise_place (fun y : Int => y) l (by simpa using hl) hm
  simp only [List.map_id'] at h1
  have hc := posL_cut l x hl
  have hPi : posL l x = i := by
    obtain ⟨hi, hi'⟩ := List.getElem?_eq_some_iff.1 h
    obtain ⟨hp, hp'⟩ := List.getElem?_eq_some_iff.1 h1
    rcases Nat.lt_trichotomy (posL l x) i with h2 | h2 | h2
    · have := List.pairwise_iff_getElem.1 hl _ _ hp hi h2; omega
    · exact h2
    · have := List.pairwise_iff_getElem.1 hl _ _ hi hp h2; omega
  refine ⟨hPi, ?_⟩
  unfold hitAt
  rw [hPi, h]; simp
theorem clientI_hit {b : Bk} (hb : Rise b) {i : Nat} {c : Cl} (h : b.clients[i]? = some c) : clientI b c.id = (i : Int) := by
  have hg : (idsB b)[i]? = some c.id := by unfold idsB; rw [List.getElem?_map, h]; rfl
  obtain ⟨h1, h2⟩ := posL_hit hb.ids hg
  unfold clientI
  rw [h2, h1, if_pos rfl]
theorem clientI_none {b : Bk} {x : Int} (h : ∀ (i : Nat) c, b.clients[i]? = some c → c.id ≠ x) : clientI b x = -1 := by
  unfold clientI
  rw [if_neg]
  intro hh
  have := hitAt_true hh
  unfold idsB at this
  rw [List.getElem?_map] at this
  cases hc : b.clients[posL (b.clients.map (·.id)) x]? with
  | none => rw [hc] at this; cases this
  | some c => rw [hc] at this; exact h _ c hc (Option.some.inj this)
set_option maxRecDepth 100000 in
set_option maxHeartbeats 4000000 in
theorem client_c (v : Value) (b : Bk) (x : Int) (w : World) (h : BookV w v b) (hb : Rise b) : Calls Tryd.prog 23 #[v, .int .u64 x] w (RetE (.int .i64 (clientI b x)) w) := by
  obtain ⟨lv, cv, L, C, rfl, hL, hC, h3, h4, h5, h6⟩ := h
  obtain ⟨la, lc, rfl, hl1, hl2⟩ := h3.shape
  obtain ⟨ca, cc, rfl, hc1, hc2⟩ := h4.shape
  have e2 : (C.map clR).length = b.clients.length := by rw [List.length_map, ← hC, List.length_map]
  generalize (L.map lfR).length = nL at *
  rw [e2] at hc1 h4 ⊢
  obtain ⟨nC, hnC⟩ : ∃ n, n = b.clients.length := ⟨_, rfl⟩
  rw [← hnC] at hc1 h4 ⊢
  have HC := Lib.hid hC; have H4 := Lib.hid h4; have HNC := Lib.hid hnC; have HB := Lib.hid hb
  obtain ⟨r, hr⟩ : ∃ r, r = clientI b x := ⟨_, rfl⟩
  rw [← hr]
  have HR := Lib.hid hr
  clear hL hC h3 h4 h5 h6 hnC e2 hb hr
  go_enter Tryd.func23, Tryd.ntmps23
  go_wp2_with fail
  have hB := Blk.new w #[.slice la nL lc, .slice ca nC cc] 25
  have hE := Ext.alloc w (.cells #[.slice la nL lc, .slice ca nC cc] 25)
  generalize w.alloc (.cells #[.slice la nL lc, .slice ca nC cc] 25) = W1 at *
  have c21 := hB.cell 1 rfl
  simp only [List.getElem_toArray, List.getElem_cons_zero, List.getElem_cons_succ] at c21
  have HE := Lib.hid hE
  clear hB hE
  go_loopg [5] nC (fun g v5 wr => ∃ k : Nat, v5 = .int .i64 (k : Int) ∧ k + g = nC ∧ wr = W1 ∧ ∀ (j : Nat) q, j < k → C[j]? = some q → q.1.id ≠ x)
  case atStart => exact ⟨0, rfl, by omega, rfl, fun j q hj => by omega⟩
  case round =>
    obtain ⟨k, rfl, hkn, rfl, hno⟩ := hrel
    have HNO := Lib.hid hno
    clear hno
    by_cases hk : k < nC
    · have hk1 : (k : Int) < (nC : Int) := by omega
      obtain ⟨q, hq⟩ : ∃ q, C[k]? = some q := ⟨_, List.getElem?_eq_getElem (by have h1 := congrArg List.length HC.out; rw [List.length_map] at h1; have := HNC.out; omega)⟩
      have hlq : b.clients[k]? = some q.1 := by rw [← HC.out, List.getElem?_map, hq]; rfl
      obtain ⟨s1, o1, rfl, hc⟩ := H4.out.cells2 hq
      have d0 := HE.out.cell (hc 0 _ rfl)
      rw [Nat.add_zero] at d0
      have HQ := Lib.hid hq; have HLQ := Lib.hid hlq
      clear hc hk hq hlq
      obtain ⟨y, hy⟩ : ∃ y, y = q.1.id := ⟨_, rfl⟩
      rw [← hy] at d0
      by_cases hyx : y = x
      · have b1 : (y == x) = true := by simpa using hyx
        have hrk : r = (k : Int) := by rw [HR.out, ← hyx, hy]; exact clientI_hit HB.out HLQ.out
        have HRK := Lib.hid hrk
        clear hyx hrk hy
        go_wp2_with fail
        go_ret
        exact ⟨by rw [HRK.out]; rfl, HE.out⟩
      · have b1 : (y == x) = false := by simpa using hyx
        have hne : q.1.id ≠ x := by rw [← hy]; exact hyx
        have HNE := Lib.hid hne
        clear hyx hne hy
        go_wp2_with fail
        go_roundg (nC - (k + 1))
        case measure => omega
        case rel =>
          refine ⟨k + 1, by go_num, by omega, rfl, fun j q' hj hjq => ?_⟩
          rcases Nat.lt_succ_iff_lt_or_eq.1 hj with h1 | rfl
          · exact HNO.out j q' h1 hjq
          · rw [HQ.out] at hjq; cases hjq; exact HNE.out
    · have hge : (nC : Int) ≤ (k : Int) := by omega
      have hr : r = -1 := by
        rw [HR.out]
        refine clientI_none fun j c hj => ?_
        rw [← HC.out, List.getElem?_map] at hj
        cases hq : C[j]? with
        | none => rw [hq] at hj; cases hj
        | some q =>
          rw [hq] at hj
          cases hj
          have hjl := (List.getElem?_eq_some_iff.1 hq).1
          have h1 := congrArg List.length HC.out; rw [List.length_map] at h1; have := HNC.out
          exact HNO.out j q (by omega) hq
      have HRK := Lib.hid hr
      clear hr hk hkn
      go_wp2_with fail
      go_ret
      exact ⟨by rw [HRK.out]; rfl, HE.out⟩
end Go.Proofs.YtgefphfnicjbiaaDoor

/- Layer 25 (seq): tabellionref25.Find. -/
namespace Go.Proofs.YtgefphfnicjbiaaDoor
open Go Go.RowKit

theorem findP_miss {b : Bk} {cl sq : Int} (h : hitAt (idsB b) cl (posL (idsB b) cl) = false) : findP b cl sq = (0, 8) := by
  unfold findP
  cases hc : b.clients[posL (idsB b) cl]? with
  | none => rfl
  | some c =>
    have := hitAt_false h c.id (by unfold idsB at hc ⊢; rw [List.getElem?_map, hc]; rfl)
    dsimp only
    rw [if_neg this]
theorem findP_not {b : Bk} (hb : Rise b) {c : Cl} (h : c ∈ b.clients) {sq : Int} (hn : ∀ t ∈ c.slots, t.1 ≠ sq) (h4 : ¬ (4 ≤ c.slots.length ∧ ∃ s, c.slots[0]? = some s ∧ sq < s.1)) : findP b c.id sq = (0, 8) := by
  rw [findP_at hb h]
  have key : ¬ (posL (keysC c) sq = 0 ∧ 4 ≤ c.slots.length) := fun ⟨h1, h2⟩ => by
    refine h4 ⟨h2, c.slots[0], List.getElem?_eq_getElem (by omega), ?_⟩
    have hc := posL_cut (keysC c) sq (hb.keys c h)
    rw [h1] at hc
    have h3 := hc.hi 0 c.slots[0].1 (Nat.le_refl _) (by unfold keysC; rw [List.getElem?_map, List.getElem?_eq_getElem (by omega)]; rfl)
    have := hn c.slots[0] (List.getElem_mem _)
    omega
  cases hs : c.slots[posL (keysC c) sq]? with
  | none => dsimp only; rw [if_neg key]
  | some s =>
    dsimp only
    rw [if_neg (hn s (List.mem_of_getElem? hs)), if_neg key]
set_option maxRecDepth 100000 in
set_option maxHeartbeats 4000000 in
theorem rfind_c (v : Value) (b : Bk) (cl sq : Int) (w : World) (h : BookV w v b) (hb : Rise b) : Calls Tryd.prog 10 #[v, .int .u64 cl, .int .u64 sq] w (RetE (.tuple #[.int .u64 (findP b cl sq).1, .int .i64 (findP b cl sq).2]) w) := by
  have hcl := fun W h => client_c v b cl W h hb
  have HV := Lib.hid h
  obtain ⟨lv, cv, L, C, rfl, hL, hC, h3, h4, h5, h6⟩ := h
  obtain ⟨la, lc, rfl, hl1, hl2⟩ := h3.shape
  obtain ⟨ca, cc, rfl, hc1, hc2⟩ := h4.shape
  have e2 : (C.map clR).length = b.clients.length := by rw [List.length_map, ← hC, List.length_map]
  generalize (L.map lfR).length = nL at *
  rw [e2] at hc1 h4 hcl HV ⊢
  obtain ⟨nC, hnC⟩ : ∃ n, n = b.clients.length := ⟨_, rfl⟩
  rw [← hnC] at hc1 h4 hcl HV ⊢
  obtain ⟨⟨fi, fe⟩, hF⟩ : ∃ F, F = findP b cl sq := ⟨_, rfl⟩
  rw [← hF]
  have HC := Lib.hid hC; have H4 := Lib.hid h4; have H6 := Lib.hid h6; have HNC := Lib.hid hnC; have HB := Lib.hid hb; have HF := Lib.hid hF; have HCL := Lib.hid hcl
  clear hL hC h3 h4 h5 h6 hnC e2 hb hF hcl
  dsimp only
  go_enter Tryd.func10, Tryd.ntmps10
  have hE0 := Ext.alloc w (.cells #[.slice la nL lc, .slice ca nC cc] 25)
  have HB1 := Lib.hid (Blk.new w #[.slice la nL lc, .slice ca nC cc] 25)
  go_wp2_with fail
  refine (HCL.out _ (HV.out.ext hE0)).mono ?_
  rintro e w2 ⟨rfl, hE2⟩
  have c21 := (HB1.out.ext hE2).cell 1 rfl
  simp only [List.getElem_toArray, List.getElem_cons_zero, List.getElem_cons_succ] at c21
  have HE2 := Lib.hid (hE0.trans hE2)
  clear hE0 hE2 HB1 HCL HV
  unfold clientI
  cases hh : hitAt (idsB b) cl (posL (idsB b) cl) with
  | false =>
    have hX : (fi, fe) = (0, 8) := by rw [HF.out]; exact findP_miss hh
    cases hX
    clear hh
    simp only [Bool.false_eq_true, if_false]
    go_wp2_with fail
    go_ret2
    exact ⟨rfl, HE2.out⟩
  | true =>
    have hid := hitAt_true hh
    generalize posL (idsB b) cl = P at *
    simp only [if_true]
    obtain ⟨c, hc, hcid⟩ : ∃ c, b.clients[P]? = some c ∧ c.id = cl := by
      unfold idsB at hid
      rw [List.getElem?_map] at hid
      cases hc : b.clients[P]? with
      | none => rw [hc] at hid; cases hid
      | some c => rw [hc] at hid; exact ⟨c, rfl, Option.some.inj hid⟩
    obtain ⟨q, hq, hqc⟩ : ∃ q, C[P]? = some q ∧ q.1 = c := by
      rw [← HC.out, List.getElem?_map] at hc
      cases hq : C[P]? with
      | none => rw [hq] at hc; cases hc
      | some q => rw [hq] at hc; exact ⟨q, rfl, Option.some.inj hc⟩
    have hPl : (P : Int) < (nC : Int) := by have := (List.getElem?_eq_some_iff.1 hc).1; have := HNC.out; omega
    obtain ⟨s1, o1, rfl, hcell⟩ := H4.out.cells2 hq
    have d1 := HE2.out.cell (hcell 1 _ rfl)
    have hsl : RowV w 2 q.2 (q.1.slots.map slR) := H6.out q (List.mem_of_getElem? hq)
    obtain ⟨sa, sc, hsv, hs1, hs2⟩ := hsl.shape
    rw [List.length_map, hqc] at hsv hs1
    obtain ⟨ns, hns⟩ : ∃ n, n = c.slots.length := ⟨_, rfl⟩
    rw [← hns] at hsv hs1
    rw [hsv] at d1 hsl
    rw [hqc] at hsl
    have HSL := Lib.hid hsl; have HNS := Lib.hid hns; have HMEM := Lib.hid (List.mem_of_getElem? hc); have HCID := Lib.hid hcid
    clear hid hh hc hcid hq hqc hcell hsv hsl hns
    go_wp2_with fail
    go_loopg [10] ns (fun g v10 wr => ∃ k : Nat, v10 = .int .i64 (k : Int) ∧ k + g = ns ∧ wr = w2 ∧ ∀ (j : Nat) s, j < k → c.slots[j]? = some s → s.1 ≠ sq)
    case atStart => exact ⟨0, rfl, by omega, rfl, fun j q hj => by omega⟩
    case round =>
      obtain ⟨k, rfl, hkn, rfl, hno⟩ := hrel
      have HNO := Lib.hid hno
      clear hno
      by_cases hk : k < ns
      · have hk1 : (k : Int) < (ns : Int) := by omega
        obtain ⟨s, hs⟩ : ∃ s, c.slots[k]? = some s := ⟨_, List.getElem?_eq_getElem (by have := HNS.out; omega)⟩
        obtain ⟨s3, o3, rfl, hc3⟩ := HSL.out.cells2 hs
        have d3 := HE2.out.cell (hc3 0 _ rfl); have d4 := HE2.out.cell (hc3 1 _ rfl)
        rw [Nat.add_zero] at d3
        obtain ⟨y1, y2⟩ := s
        dsimp only at d3 d4
        have HS := Lib.hid hs
        clear hc3 hk hs
        by_cases hyx : y1 = sq
        · have b1 : (y1 == sq) = true := by simpa using hyx
          have hX : (fi, fe) = (y2, 0) := by
            rw [HF.out, ← HCID.out, ← hyx]
            exact findP_hit HB.out HMEM.out (List.mem_of_getElem? HS.out)
          cases hX
          clear hyx
          go_wp2_with fail
          go_ret2
          exact ⟨rfl, HE2.out⟩
        · have b1 : (y1 == sq) = false := by simpa using hyx
          have HNE := Lib.hid hyx
          clear hyx
          go_wp2_with fail
          go_roundg (ns - (k + 1))
          case measure => omega
          case rel =>
            refine ⟨k + 1, by go_num, by omega, rfl, fun j s' hj hjs => ?_⟩
            rcases Nat.lt_succ_iff_lt_or_eq.1 hj with h1 | rfl
            · exact HNO.out j s' h1 hjs
            · rw [HS.out] at hjs; cases hjs; exact HNE.out
      · have hge : (ns : Int) ≤ (k : Int) := by omega
        have hall : ∀ t ∈ c.slots, t.1 ≠ sq := fun t ht => by
          obtain ⟨j, hj⟩ := List.getElem?_of_mem ht
          exact HNO.out j t (by have := (List.getElem?_eq_some_iff.1 hj).1; have := HNS.out; omega) hj
        have HALL := Lib.hid hall
        clear hk hkn hall
        by_cases h4 : 4 ≤ ns
        · have h4' : (4 : Int) ≤ (ns : Int) := by omega
          have h4'' : (0 : Int) < (ns : Int) := by omega
          obtain ⟨s, hs⟩ : ∃ s, c.slots[0]? = some s := ⟨_, List.getElem?_eq_getElem (by have := HNS.out; omega)⟩
          obtain ⟨s3, o3, rfl, hc3⟩ := HSL.out.cells2 hs
          have d3 := HE2.out.cell (hc3 0 _ rfl)
          simp only [Nat.zero_mul, Nat.add_zero] at d3
          by_cases hlt : sq < s.1
          · have hX : (fi, fe) = (0, 13) := by
              rw [HF.out, ← HCID.out]
              refine findP_old HB.out HMEM.out (by have := HNS.out; omega) fun t ht => ?_
              obtain ⟨j, hj⟩ := List.getElem?_of_mem ht
              have hpw := HB.out.keys c HMEM.out
              unfold keysC at hpw
              rw [List.pairwise_map, List.pairwise_iff_getElem] at hpw
              obtain ⟨hj1, hj2⟩ := List.getElem?_eq_some_iff.1 hj
              obtain ⟨h01, h02⟩ := List.getElem?_eq_some_iff.1 hs
              rcases Nat.eq_zero_or_pos j with h0 | h0
              · subst h0; rw [← hj2, h02]; exact hlt
              · have := hpw 0 j h01 hj1 h0
                rw [h02, hj2] at this; omega
            cases hX
            clear hc3 hs h4
            generalize s.1 = y at *
            go_wp2_with fail
            go_ret2
            exact ⟨rfl, HE2.out⟩
          · have hX : (fi, fe) = (0, 8) := by
              rw [HF.out, ← HCID.out]
              refine findP_not HB.out HMEM.out HALL.out fun ⟨_, s', hs', hlt'⟩ => ?_
              rw [hs] at hs'; cases hs'; exact hlt hlt'
            have hle : s.1 ≤ sq := by omega
            cases hX
            clear hc3 hs h4 hlt
            generalize s.1 = y at *
            go_wp2_with fail
            go_ret2
            exact ⟨rfl, HE2.out⟩
        · have hX : (fi, fe) = (0, 8) := by
            rw [HF.out, ← HCID.out]
            exact findP_not HB.out HMEM.out HALL.out fun ⟨h, _⟩ => h4 (by have := HNS.out; omega)
          have h4' : (ns : Int) < 4 := by omega
          cases hX
          clear h4
          go_wp2_with fail
          go_ret2
          exact ⟨rfl, HE2.out⟩
end Go.Proofs.YtgefphfnicjbiaaDoor
