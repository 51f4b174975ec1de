/- Parts of the proof, in plain words at the head of each: Rdn, SkM, Sqb, SkL, Sqc. -/
import Derived.Test.YtgefphfnicjbiaaRdr
import Derived.Test.YtgefphfnicjbiaaSqa
import Derived.Test.YtgefphfnicjbiaaBun1
import Derived.Test.YtgefphfnicjbiaaBun2
set_option linter.unusedSimpArgs false
set_option linter.unusedVariables false
/- bin.Reader: number. -/
namespace Go.Proofs.Ytgefphfnicjbiaa
open Go Go.RowKit

theorem shl_or (acc : Nat) (c : Int) (j : Nat) (hj : j < 8) (ha : acc < 256 ^ j) (h0 : 0 ≤ c) (h1 : c ≤ 255) : bits BinOp.or IntKind.u64 (IntKind.u64.wrap ((acc : Int) * 256)) c = ((acc * 256 + c.toNat : Nat) : Int) := by
  have h7 : 256 ^ j ≤ 256 ^ 7 := Nat.pow_le_pow_right (by decide) (by omega)
  have hb : acc < 72057594037927936 := by simpa using Nat.lt_of_lt_of_le ha h7
  obtain ⟨n, rfl⟩ := Int.eq_ofNat_of_zero_le h0
  have hn : n < 2 ^ 8 := by omega
  rw [IntKind.wrap_u64, show ((acc : Int) * 256) % 18446744073709551616 = ((2 ^ 8 * acc : Nat) : Int) by omega, u64_or_nat _ _ (by omega) (by omega), ← Nat.two_pow_add_eq_or_of_lt hn]
  simp; omega
theorem rdDig_step (n j acc K : Nat) (c : Int) (r r0 : List Int) (hn : K - j = n + 1) (h : rdDig (n + 1) (decide (j = 0)) acc (c :: r) = rdDig K true 0 r0) (hc : ¬ (j = 0 ∧ c = 0)) :
    rdDig (K - (j + 1)) (decide (j + 1 = 0)) (acc * 256 + c.toNat) r = rdDig K true 0 r0 := by
  rw [← h]
  simp only [rdDig]
  rw [if_neg (by simpa using hc), show K - (j + 1) = n by omega]
  simp
theorem acc_step (acc j : Nat) (c : Int) (ha : acc < 256 ^ j) (h0 : 0 ≤ c) (h1 : c ≤ 255) : acc * 256 + c.toNat < 256 ^ (j + 1) := by
  rw [Nat.pow_succ]; omega

set_option maxHeartbeats 1000000 in
theorem number_c (b : Nat) (bs : List Int) (e : Int) (w : World) (hb8 : B8 bs) (h : Rdr w b bs e) : Calls Try.prog 65 #[ptr b] w (Inner b e (Value.int .u64) (rdNum bs) w) := by
  obtain ⟨X, hX⟩ : ∃ X, X = rdNum bs := ⟨_, rfl⟩
  rw [← hX]
  go_enter Try.func65, Try.ntmps65
  go_wp2_with fail
  refine (one_c b bs e w h).mono ?_
  rintro en w1 ⟨hg1, h1⟩
  cases bs with
  | nil =>
    obtain ⟨rfl, r, hr⟩ := h1
    subst hX
    exact ⟨rfl, hg1, rfl, r, hr⟩
  | cons k r0 =>
    obtain ⟨rfl, hr1⟩ := h1
    have hk := hb8 k (by simp)
    have hr8 : B8 r0 := fun x hx => hb8 x (by simp [hx])
    by_cases h8 : 8 < k
    · have hX' : Hid (X = .error 3) := Lib.hid (by rw [hX]; simp [rdNum, h8])
      have HR := Lib.hid hr1; clear hr1 hX
      go_wp2
      rw [hX'.out]
      exact ⟨rfl, hg1, rfl, _, HR.out⟩
    · obtain ⟨K, rfl⟩ := Int.eq_ofNat_of_zero_le hk.1
      have hX' : Hid ((∀ er, rdDig K true 0 r0 = .error er → X = .error er) ∧ (∀ n r', rdDig K true 0 r0 = .ok (n, r') → X = .ok ((n : Int), r'))) := by
        refine Lib.hid ⟨fun er he => ?_, fun n r' he => ?_⟩ <;> (rw [hX]; simp [rdNum, h8, he])
      have HR := Lib.hid hr1; have HG := Lib.hid hg1; have HB := Lib.hid hr8
      have hK : K ≤ 8 := by omega
      clear hr1 hX hg1 hr8 hb8 h hk
      go_wp2_with fail
      go_loopg [2, 12] K (fun g n i wr => ∃ (j acc : Nat) (r : List Int), j + g = K ∧ i = .int .u8 (j : Int) ∧ n = .int .u64 (acc : Int) ∧ acc < 256 ^ j ∧ Rdr wr b r e ∧ w.grownBy wr (some b) ∧ B8 r ∧ rdDig (K - j) (decide (j = 0)) acc r = rdDig K true 0 r0)
      case atStart =>
        refine ⟨0, 0, r0, by omega, rfl, rfl, by simp, HR.out, HG.out, HB.out, by simp⟩
      case round =>
        obtain ⟨j, acc, r, hj, rfl, rfl, ha, hr, hg, hr8, hd⟩ := hrel
        by_cases hlt : j < K
        · have HA := Lib.hid ha; have HR := Lib.hid hr; have HG := Lib.hid hg; have HB := Lib.hid hr8
          obtain ⟨n, hn⟩ : ∃ n, K - j = n + 1 := ⟨K - j - 1, by omega⟩
          rw [hn] at hd
          have HD := Lib.hid hd
          clear ha hr hg hr8 hd
          go_wp2_with fail
          refine (one_c b r e _ HR.out).mono ?_
          rintro en w2 ⟨hg2, h2⟩
          have hgw := Lib.hid (grown_trans1 HG.out hg2)
          clear hg2
          cases r with
          | nil =>
            obtain ⟨rfl, r', hr'⟩ := h2
            have hX2 : X = .error 2 := hX'.out.1 2 (by rw [← HD.out]; simp [rdDig])
            rw [hX2]
            exact ⟨rfl, hgw.out, rfl, r', hr'⟩
          | cons c r' =>
            obtain ⟨rfl, hr'⟩ := h2
            have HR' := Lib.hid hr'; clear hr'
            have hc := HB.out c (by simp)
            by_cases hj0 : j = 0
            · by_cases hc0 : c = 0
              · have hX2 : Hid (X = .error 3) := Lib.hid (hX'.out.1 3 (by rw [← HD.out]; simp [rdDig, hj0, hc0]))
                go_wp2
                rw [hX2.out]
                exact ⟨rfl, hgw.out, rfl, _, HR'.out⟩
              · go_wp2
                go_roundg n
                case rel => exact ⟨j + 1, acc * 256 + c.toNat, r', by omega, by rw [hj0]; rfl, by rw [shl_or acc c j (by omega) HA.out hc.1 hc.2], acc_step acc j c HA.out hc.1 hc.2, HR'.out, hgw.out, fun x hx => HB.out x (by simp [hx]), rdDig_step n j acc K c r' r0 hn HD.out (fun h => hc0 h.2)⟩
                case measure => omega
            · have hjw : IntKind.u8.wrap ((j : Int) + 1) = ((j + 1 : Nat) : Int) := by simp [IntKind.wrap, IntKind.bits, IntKind.signed]; omega
              go_wp2
              go_roundg n
              case rel => exact ⟨j + 1, acc * 256 + c.toNat, r', by omega, by simp, by rw [shl_or acc c j (by omega) HA.out hc.1 hc.2], acc_step acc j c HA.out hc.1 hc.2, HR'.out, hgw.out, fun x hx => HB.out x (by simp [hx]), rdDig_step n j acc K c r' r0 hn HD.out (fun h => hj0 h.1)⟩
              case measure => omega
        · have hjk : j = K := by omega
          have hX2 : Hid (X = .ok ((acc : Int), r)) := Lib.hid (hX'.out.2 acc r (by rw [← hd, hjk]; simp [rdDig]))
          have HR := Lib.hid hr; have HG := Lib.hid hg
          clear hr hg ha hr8 hd
          go_wp2
          go_ret
          rw [hX2.out]
          exact ⟨HG.out, rfl, HR.out⟩
end Go.Proofs.Ytgefphfnicjbiaa

/- seq's must and ought. PRINTED BY gen/rdt.py -/
namespace Go.Proofs.Ytgefphfnicjbiaa
open Go Go.RowKit

set_option maxHeartbeats 400000 in
theorem must_u64 (v : Value) (e : Int) (w : World) : Calls Try.prog 33 #[v, .int .i64 e] w fun en w' => w' = w ∧ en = if e = 0 then .returned v else thrown e := by
  by_cases he : e = 0
  · subst he
    go_enter Try.func33, Try.ntmps33
    go_wp2
    go_ret
    exact ⟨rfl, rfl⟩
  · have hb : (e != 0) = true := by simpa using he
    simp only [if_neg he]
    go_enter Try.func33, Try.ntmps33
    go_wp2
    exact ⟨rfl, rfl, rfl⟩

set_option maxHeartbeats 400000 in
theorem must_raw (v : Value) (e : Int) (w : World) : Calls Try.prog 36 #[v, .int .i64 e] w fun en w' => w' = w ∧ en = if e = 0 then .returned v else thrown e := by
  by_cases he : e = 0
  · subst he
    go_enter Try.func36, Try.ntmps36
    go_wp2
    go_ret
    exact ⟨rfl, rfl⟩
  · have hb : (e != 0) = true := by simpa using he
    simp only [if_neg he]
    go_enter Try.func36, Try.ntmps36
    go_wp2
    exact ⟨rfl, rfl, rfl⟩

set_option maxHeartbeats 400000 in
theorem must_err (v : Value) (e : Int) (w : World) : Calls Try.prog 38 #[v, .int .i64 e] w fun en w' => w' = w ∧ en = if e = 0 then .returned v else thrown e := by
  by_cases he : e = 0
  · subst he
    go_enter Try.func38, Try.ntmps38
    go_wp2
    go_ret
    exact ⟨rfl, rfl⟩
  · have hb : (e != 0) = true := by simpa using he
    simp only [if_neg he]
    go_enter Try.func38, Try.ntmps38
    go_wp2
    exact ⟨rfl, rfl, rfl⟩

set_option maxHeartbeats 400000 in
theorem ought_c (ok : Bool) (no : Int) (w : World) : Calls Try.prog 35 #[.bool ok, .int .i64 no] w fun en w' => w' = w ∧ en = if ok then .returned (.tuple #[]) else thrown no := by
  cases ok
  · go_enter Try.func35, Try.ntmps35
    go_wp2
    exact ⟨rfl, rfl, rfl⟩
  · go_enter Try.func35, Try.ntmps35
    go_wp2
    exact ⟨rfl, _, results_none rfl _ _ _, rfl, rfl⟩
end Go.Proofs.Ytgefphfnicjbiaa

/- Layer 25 (seq): place, Find. -/
namespace Go.Proofs.Ytgefphfnicjbiaa
open Go Go.RowKit

def idsB (b : Bk) : List Int := b.clients.map (·.id)
def keysC (c : Cl) : List Int := c.slots.map (·.1)
/-- How many of l are less than x. -/
def posL (l : List Int) (x : Int) : Nat := l.countP (fun y => decide (y < x))
theorem posL_cut : ∀ (l : List Int) (x : Int), l.Pairwise (· < ·) → Cut l x (posL l x)
  | [], x, _ => ⟨by simp [posL], fun k y _ h => by simp at h, fun k y _ h => by simp at h⟩
  | z :: r, x, h => by
    rw [List.pairwise_cons] at h
    have ih := posL_cut r x h.2
    by_cases hz : z < x
    · have e : posL (z :: r) x = posL r x + 1 := by unfold posL; rw [List.countP_cons_of_pos (by simpa using hz)]
      rw [e]
      refine ⟨by have := ih.le; simp; omega, fun k y hk hy => ?_, fun k y hk hy => ?_⟩
      · cases k with
        | zero => simp at hy; subst hy; exact hz
        | succ k => exact ih.lo k y (by omega) (by simpa using hy)
      · cases k with
        | zero => omega
        | succ k => exact ih.hi k y (by omega) (by simpa using hy)
    · have hr : ∀ y ∈ r, ¬ y < x := fun y hy => by have := h.1 y hy; omega
      have e : posL (z :: r) x = 0 := by
        unfold posL
        rw [List.countP_eq_zero]
        intro y hy
        rcases List.mem_cons.1 hy with rfl | hy
        · simpa using hz
        · simpa using hr y hy
      rw [e]
      refine ⟨Nat.zero_le _, fun k y hk _ => by omega, fun k y _ hy => ?_⟩
      rcases List.mem_cons.1 (List.mem_of_getElem? hy) with rfl | hy
      · omega
      · have := hr y hy; omega
/-- What Find answers. -/
def findP (b : Bk) (cl sq : Int) : Int × Int := match b.clients[posL (idsB b) cl]? with
  | none => (0, 8)
  | some c => if c.id = cl then (match c.slots[posL (keysC c) sq]? with
      | some s => if s.1 = sq then (s.2, 0) else if posL (keysC c) sq = 0 ∧ 4 ≤ c.slots.length then (0, 13) else (0, 8)
      | none => if posL (keysC c) sq = 0 ∧ 4 ≤ c.slots.length then (0, 13) else (0, 8))
    else (0, 8)
theorem ids_map {C : List CQ} {b : Bk} (h : C.map (·.1) = b.clients) : C.map (fun q : CQ => q.1.id) = idsB b := by unfold idsB; rw [← h, List.map_map]; rfl
set_option maxHeartbeats 2000000 in
theorem place_c (v : Value) (b : Bk) (x : Int) (P : Nat) (w : World) (h : BookV w v b) (hl : b.clients.length ≤ 1000000) (hP : Cut (idsB b) x P) :
    Calls Try.prog 19 #[v, .int .u64 x] w (RetE (.tuple #[.int .i64 (P : Int), .bool (hitAt (idsB b) x P)]) w) := by
  obtain ⟨lv, cv, L, C, rfl, hL, hC, h3, h4, h5, h6⟩ := h
  obtain ⟨la, lc, rfl, -, -⟩ := h3.shape
  rw [← ids_map hC] at hP ⊢
  have hlen : C.length = b.clients.length := by rw [← hC]; simp
  have HP := Lib.hid hP
  have H4 := Lib.hid h4
  have H6 := Lib.hid h6
  have HL := Lib.hid (show C.length ≤ 1000000 by omega)
  obtain ⟨z, hz⟩ : ∃ z, z = hitAt (C.map (fun q : CQ => q.1.id)) x P := ⟨_, rfl⟩
  rw [← hz]
  have HZ := Lib.hid hz
  obtain ⟨ca, cc, rfl, -, -⟩ := h4.shape
  clear h3 h4 h5 h6 hL hC hP hz hl hlen
  generalize (L.map lfR).length = nl
  generalize (C.map clR).length = nc at *
  go_enter Try.func19, Try.ntmps19
  go_wp2_with fail
  refine (bsC_c _ C x P _ (H4.out.ext (Ext.alloc _ _)) (fun q hq => (H6.out q hq).shape) HL.out HP.out).mono ?_
  rw [← HZ.out]
  rintro e w2 ⟨rfl, hE2⟩
  go_wp2_with fail
  go_ret2
  exact ⟨rfl, (Ext.alloc _ _).trans hE2⟩
/-- The book's keys rise. -/
structure Rise (b : Bk) : Prop where
  ids : (idsB b).Pairwise (· < ·)
  keys : ∀ c ∈ b.clients, (keysC c).Pairwise (· < ·)
  lenC : b.clients.length ≤ 1000000
  lenS : ∀ c ∈ b.clients, c.slots.length ≤ 1000000
theorem hitAt_true {l : List Int} {x : Int} {P : Nat} (h : hitAt l x P = true) : l[P]? = some x := by
  unfold hitAt at h
  split at h
  · rename_i y hy; rw [hy]; simp at h; rw [h]
  · cases h
theorem hitAt_false {l : List Int} {x : Int} {P : Nat} (h : hitAt l x P = false) : ∀ y, l[P]? = some y → y ≠ x := fun y hy e => by
  unfold hitAt at h
  rw [hy] at h
  simp at h
  exact h e
set_option maxRecDepth 100000 in
set_option maxHeartbeats 4000000 in
theorem find_c (v : Value) (b : Bk) (cl sq : Int) (w : World) (h : BookV w v b) (hb : Rise b) :
    Calls Try.prog 9 #[v, .int .u64 cl, .int .u64 sq] w (RetE (.tuple #[.int .u64 (findP b cl sq).1, .int .i64 (findP b cl sq).2]) w) := by
  have HB := Lib.hid hb
  have HV := Lib.hid h
  obtain ⟨⟨ri, re⟩, hX⟩ : ∃ X, X = findP b cl sq := ⟨_, rfl⟩
  rw [← hX]
  obtain ⟨P, hP⟩ : ∃ P, P = posL (idsB b) cl := ⟨_, rfl⟩
  have hcut := posL_cut (idsB b) cl hb.ids
  rw [← hP] at hcut
  have hX2 : (ri, re) = match b.clients[P]? with
    | none => (0, 8)
    | some c => if c.id = cl then (match c.slots[posL (keysC c) sq]? with
        | some s => if s.1 = sq then (s.2, 0) else if posL (keysC c) sq = 0 ∧ 4 ≤ c.slots.length then (0, 13) else (0, 8)
        | none => if posL (keysC c) sq = 0 ∧ 4 ≤ c.slots.length then (0, 13) else (0, 8))
      else (0, 8) := by rw [hX, hP]; rfl
  have HX := Lib.hid hX2
  have hpl := fun w h => place_c v b cl P w h hb.lenC hcut
  obtain ⟨z, hz⟩ : ∃ z, z = hitAt (idsB b) cl P := ⟨_, rfl⟩
  rw [← hz] at hpl
  have HPL := Lib.hid hpl
  have HZ := Lib.hid hz.symm
  obtain ⟨lv, cv, L, C, rfl, hL, hC, h3, h4, h5, h6⟩ := h
  obtain ⟨la, lc, rfl, -, -⟩ := h3.shape
  obtain ⟨ca, cc, rfl, hc1, hc2, hrows⟩ := h4
  replace hc2 : cc ≤ 9223372036854775807 := by unfold maxLen at hc2; omega
  have H6 := Lib.hid h6; have HC := Lib.hid hC; have HR := Lib.hid hrows
  have hnc : (C.map clR).length = b.clients.length := by rw [List.length_map, ← hC, List.length_map]
  have HNC := Lib.hid hnc
  clear h3 h5 h6 hL hC hX hX2 hP hz hcut hb hrows hnc hpl
  dsimp only
  generalize (L.map lfR).length = nl at *
  generalize hgn : (C.map clR).length = nc at *
  clear hgn
  go_enter Try.func9, Try.ntmps9
  go_wp2_with fail
  refine (HPL.out _ (HV.out.ext (Ext.alloc _ _))).mono ?_
  rintro e w2 ⟨rfl, hE2⟩
  have HE2 := Lib.hid ((Ext.alloc w _).trans hE2)
  have c1 := ((Blk.new w #[.slice la nl lc, .slice ca nc cc] 27).ext hE2).cell 1 rfl
  simp only [List.getElem_toArray, List.getElem_cons_succ, List.getElem_cons_zero] at c1
  clear hE2 HPL HV
  cases z with
  | false =>
    have hr : (ri, re) = (0, 8) := by
      rw [HX.out]
      cases hcl : b.clients[P]? with
      | none => rfl
      | some c =>
        have := hitAt_false HZ.out c.id (by unfold idsB; rw [List.getElem?_map, hcl]; rfl)
        simp only [if_neg this]
    cases hr
    clear c1
    go_wp2_with fail
    go_ret2
    exact ⟨rfl, HE2.out⟩
  | true =>
    have hzt := hitAt_true HZ.out
    unfold idsB at hzt
    rw [List.getElem?_map] at hzt
    obtain ⟨c, hcl⟩ : ∃ c, b.clients[P]? = some c := by
      cases hcl : b.clients[P]? with
      | none => rw [hcl] at hzt; cases hzt
      | some c => exact ⟨c, rfl⟩
    rw [hcl] at hzt
    have hid : c.id = cl := Option.some.inj hzt
    obtain ⟨q, hq⟩ : ∃ q, C[P]? = some q := by
      cases hq : C[P]? with
      | none => have := hcl; rw [← HC.out, List.getElem?_map, hq] at this; cases this
      | some q => exact ⟨q, rfl⟩
    have hqc : q.1 = c := by have := hcl; rw [← HC.out, List.getElem?_map, hq] at this; exact Option.some.inj this
    obtain ⟨sb, so, rfl, hcr⟩ : ∃ sb so, ca = some ⟨sb, so, none⟩ ∧ ∀ (j : Nat) u, (clR q)[j]? = some u → w2.cell? ⟨sb, so + P * 2 + j, none⟩ = some u := by
      rcases HR.out with h3 | ⟨b', o, ha, hc⟩
      · rw [List.map_eq_nil_iff.1 h3] at hq; simp at hq
      · exact ⟨b', o, ha, fun j u hj => HE2.out.cell (hc P _ (by rw [List.getElem?_map, hq]; rfl) j u hj)⟩
    have hqv := H6.out q (List.mem_of_getElem? hq)
    have hmem : c ∈ b.clients := List.mem_of_getElem? hcl
    have hX3 : (ri, re) = match c.slots[posL (keysC c) sq]? with
        | some s => if s.1 = sq then (s.2, 0) else if posL (keysC c) sq = 0 ∧ 4 ≤ c.slots.length then (0, 13) else (0, 8)
        | none => if posL (keysC c) sq = 0 ∧ 4 ≤ c.slots.length then (0, 13) else (0, 8) := by
      rw [HX.out, hcl]; simp only [if_pos hid]
    have hPn : P < nc := by rw [HNC.out]; exact (List.getElem?_eq_some_iff.1 hcl).1
    have hcutq := posL_cut (keysC c) sq (HB.out.keys c hmem)
    have hlenq := HB.out.lenS c hmem
    obtain ⟨Q, hQ⟩ : ∃ Q, Q = posL (keysC c) sq := ⟨_, rfl⟩
    rw [← hQ] at hcutq hX3
    obtain ⟨⟨qid, qsl⟩, qv⟩ := q
    dsimp only at hqc
    subst hqc
    have k1 := hcr 1 _ rfl
    dsimp only [clR] at k1
    have hqr : RowV w 2 qv (qsl.map slR) := hqv
    have hqv2 := hqr
    clear hqv
    obtain ⟨qa, qc, rfl, hq1, hq2, hqrows⟩ := hqv2
    replace hq2 : qc ≤ 9223372036854775807 := by unfold maxLen at hq2; omega
    rw [List.length_map] at hq1 k1 hqr
    have HQR := Lib.hid hqr; have HQROWS := Lib.hid hqrows
    obtain ⟨qn, hqn⟩ : ∃ qn, qn = qsl.length := ⟨_, rfl⟩
    dsimp only at hlenq
    rw [← hqn] at k1 HQR hq1
    have hbs := bsS_c (.slice qa qn qc) qsl sq Q
    obtain ⟨y, hy⟩ : ∃ y, y = hitAt (qsl.map fun q : Int × Int => q.1) sq Q := ⟨_, rfl⟩
    rw [← hy] at hbs
    have HBS := Lib.hid hbs; have HY := Lib.hid hy.symm; have HCQ := Lib.hid hcutq; have HLQ := Lib.hid hlenq; have HX3 := Lib.hid hX3; have HQN := Lib.hid hqn
    have hQn : Q ≤ qn := by have h1 := hcutq.le; rw [show (keysC ⟨qid, qsl⟩).length = qsl.length from by unfold keysC; rw [List.length_map]] at h1; omega
    have hPn' : (P : Int) < (nc : Int) := by omega
    clear hzt hcl hid hq hcr hqr hqrows hmem hcutq hlenq hX3 hQ hbs hy hqn HX HR H6 HC HNC
    go_wp2_with fail
    refine (HBS.out _ (HQR.out.ext HE2.out) (fun _ _ => trivial) HLQ.out HCQ.out).mono ?_
    rintro e w3 ⟨rfl, hE3⟩
    have HE3 := Lib.hid (HE2.out.trans hE3)
    clear hE3 HBS k1 c1
    cases y with
    | true =>
      have hyt := hitAt_true HY.out
      rw [List.getElem?_map] at hyt
      obtain ⟨s, hs⟩ : ∃ s, qsl[Q]? = some s := by
        cases hs : qsl[Q]? with
        | none => rw [hs] at hyt; cases hyt
        | some s => exact ⟨s, rfl⟩
      rw [hs] at hyt
      have hsq : s.1 = sq := Option.some.inj hyt
      have hr : (ri, re) = (s.2, 0) := by rw [HX3.out]; simp only [hs, if_pos hsq]
      obtain ⟨tb, tf, rfl, htr⟩ : ∃ sb so, qa = some ⟨sb, so, none⟩ ∧ ∀ (j : Nat) u, (slR s)[j]? = some u → w3.cell? ⟨sb, so + Q * 2 + j, none⟩ = some u := by
        rcases HQROWS.out with h3 | ⟨b', o, ha, hc⟩
        · rw [List.map_eq_nil_iff.1 h3] at hs; simp at hs
        · exact ⟨b', o, ha, fun j u hj => HE3.out.cell (hc Q _ (by rw [List.getElem?_map, hs]; rfl) j u hj)⟩
      have k1 := htr 1 _ rfl
      have hQl : Q < qn := by rw [HQN.out]; exact (List.getElem?_eq_some_iff.1 hs).1
      have hQl' : (Q : Int) < (qn : Int) := by omega
      cases hr
      clear hyt hs htr hsq
      go_wp2_with fail
      go_ret2
      exact ⟨rfl, HE3.out⟩
    | false =>
      have hr : (ri, re) = if Q = 0 ∧ 4 ≤ qn then (0, 13) else (0, 8) := by
        rw [HX3.out, HQN.out]
        cases hs : qsl[Q]? with
        | none => rfl
        | some s =>
          have := hitAt_false HY.out s.1 (by rw [List.getElem?_map, hs]; rfl)
          simp only [if_neg this]
      by_cases hQ0 : Q = 0
      · subst hQ0
        by_cases h4 : 4 ≤ qn
        · rw [if_pos ⟨rfl, h4⟩] at hr
          cases hr
          have h4' : (4 : Int) ≤ (qn : Int) := by omega
          go_wp2_with fail
          go_ret2
          exact ⟨rfl, HE3.out⟩
        · rw [if_neg (fun h => h4 h.2)] at hr
          cases hr
          have h4' : (qn : Int) < 4 := by omega
          clear h4
          go_wp2_with fail
          go_ret2
          exact ⟨rfl, HE3.out⟩
      · rw [if_neg (fun h => hQ0 h.1)] at hr
        cases hr
        have hQ0' : ((Q : Int) == 0) = false := by simpa using hQ0
        have hQp : 0 < Q := by omega
        clear hQ0
        go_wp2_with fail
        go_ret2
        exact ⟨rfl, HE3.out⟩
end Go.Proofs.Ytgefphfnicjbiaa

/- Layer 25 (seq): a book's bytes, plainly. No program. -/
namespace Go.Proofs.Ytgefphfnicjbiaa
open Go Go.RowKit

/-- A number up to a bound. -/
def rdMany (most : Int) (bs : List Int) : Except Int (Int × List Int) := match rdNum bs with
  | .error e => .error e
  | .ok (n, r) => if most < n then .error 4 else .ok (n, r)
def rdLfs : Nat → List (List Int) → List Int → Except Int (List (List Int) × List Int)
  | 0, acc, r => .ok (acc, r)
  | k + 1, acc, r => match rdRaw 64 r with
    | .error e => .error e
    | .ok (l, r) => rdLfs k (acc ++ [l]) r
/-- x is above the last of acc, if there is one. -/
def upTo (acc : List Int) (x : Int) : Bool := match acc.getLast? with
  | none => true
  | some y => decide (y < x)
def rdSls (n : Int) : Nat → List (Int × Int) → List Int → Except Int (List (Int × Int) × List Int)
  | 0, acc, r => .ok (acc, r)
  | k + 1, acc, r => match rdNum r with
    | .error e => .error e
    | .ok (s, r) => if upTo (acc.map (·.1)) s then (match rdNum r with
      | .error e => .error e
      | .ok (i, r) => if i < n then rdSls n k (acc ++ [(s, i)]) r else .error 3) else .error 3
def rdCls (n : Int) : Nat → List Cl → List Int → Except Int (List Cl × List Int)
  | 0, acc, r => .ok (acc, r)
  | k + 1, acc, r => match rdNum r with
    | .error e => .error e
    | .ok (x, r) => if upTo (acc.map (·.id)) x then (match rdMany 4 r with
      | .error e => .error e
      | .ok (m, r) => if 0 < m then (match rdSls n m.toNat [] r with
        | .error e => .error e
        | .ok (ss, r) => rdCls n k (acc ++ [⟨x, ss⟩]) r) else .error 3) else .error 3
/-- The book that bytes are. -/
def getK (bs : List Int) : Except Int Bk := match rdMany 64 bs with
  | .error e => .error e
  | .ok (n, r) => match rdLfs n.toNat [] r with
    | .error e => .error e
    | .ok (L, r) => match rdMany 8 r with
      | .error e => .error e
      | .ok (m, r) => match rdCls n m.toNat [] r with
        | .error e => .error e
        | .ok (C, r) => if r = [] then .ok ⟨L, C⟩ else .error 5
def rawB (l : List Int) : List Int := numB l.length ++ l
def slotB (s : Int × Int) : List Int := numB s.1.toNat ++ numB s.2.toNat
def clB (c : Cl) : List Int := numB c.id.toNat ++ numB c.slots.length ++ c.slots.flatMap slotB
/-- A book's bytes. -/
def putK (b : Bk) : List Int := numB b.leaves.length ++ b.leaves.flatMap rawB ++ numB b.clients.length ++ b.clients.flatMap clB

/-- Slots behind those of acc that may be read. -/
def okS (n : Int) : List Int → List (Int × Int) → Bool
  | _, [] => true
  | acc, s :: r => upTo acc s.1 && decide (s.2 < n) && okS n (acc ++ [s.1]) r
def okC (n : Int) : List Int → List Cl → Bool
  | _, [] => true
  | acc, c :: r => upTo acc c.id && decide (1 ≤ c.slots.length) && decide (c.slots.length ≤ 4) && okS n [] c.slots && okC n (acc ++ [c.id]) r
/-- A book that entries may make. -/
def formedK (b : Bk) : Bool := decide (b.leaves.length ≤ 64) && b.leaves.all (fun l => decide (l.length ≤ 64)) && decide (b.clients.length ≤ 8) && okC b.leaves.length [] b.clients
/-- Numbers that 64 bits hold, bytes. -/
structure OkK (b : Bk) : Prop where
  leaves : b.leaves.length < 2 ^ 64
  each : ∀ l ∈ b.leaves, l.length < 2 ^ 64 ∧ B8 l
  clients : b.clients.length < 2 ^ 64
  cl : ∀ c ∈ b.clients, U64 c.id ∧ c.slots.length < 2 ^ 64 ∧ ∀ s ∈ c.slots, U64 s.1 ∧ U64 s.2

theorem u64_lt {n : Int} (h : U64 n) : n.toNat < 2 ^ 64 ∧ ((n.toNat : Nat) : Int) = n := by unfold U64 at h; omega
theorem rdNum_u64 {n : Int} (h : U64 n) (r : List Int) : rdNum (numB n.toNat ++ r) = .ok (n, r) := by
  have := rdNum_numB n.toNat (u64_lt h).1 r
  rwa [(u64_lt h).2] at this
theorem rdMany_put (most : Int) (n : Nat) (h : n < 2 ^ 64) (r : List Int) : rdMany most (numB n ++ r) = if most < (n : Int) then .error 4 else .ok ((n : Int), r) := by
  unfold rdMany
  rw [rdNum_numB n h]
theorem rdRaw_any (d r : List Int) (hl : d.length < 2 ^ 64) : rdRaw 64 (rawB d ++ r) = if d.length ≤ 64 then .ok (d, r) else .error 4 := by
  by_cases h : d.length ≤ 64
  · rw [if_pos h]; exact rdRaw_put d r 64 (by omega) hl
  · rw [if_neg h]
    unfold rdRaw rawB
    rw [List.append_assoc, rdNum_numB _ hl]
    simp only []
    rw [if_pos (by omega)]
theorem rdLfs_put : ∀ (L acc : List (List Int)) (r : List Int), (∀ l ∈ L, l.length < 2 ^ 64) → rdLfs L.length acc (L.flatMap rawB ++ r) = if L.all (fun l => decide (l.length ≤ 64)) then .ok (acc ++ L, r) else .error 4
  | [], acc, r, _ => by simp [rdLfs]
  | l :: L, acc, r, h => by
    rw [List.length_cons, List.flatMap_cons, List.append_assoc]
    simp only [rdLfs]
    rw [rdRaw_any l _ (h l (by simp))]
    by_cases hl : l.length ≤ 64
    · rw [if_pos hl]
      simp only []
      rw [rdLfs_put L _ _ (fun x hx => h x (by simp [hx]))]
      simp [hl]
    · rw [if_neg hl]; simp [hl]
theorem rdSls_put (n : Int) : ∀ (S acc : List (Int × Int)) (r : List Int), (∀ s ∈ S, U64 s.1 ∧ U64 s.2) → rdSls n S.length acc (S.flatMap slotB ++ r) = if okS n (acc.map (·.1)) S then .ok (acc ++ S, r) else .error 3
  | [], acc, r, _ => by simp [rdSls, okS]
  | s :: S, acc, r, h => by
    obtain ⟨h1, h2⟩ := h s (by simp)
    rw [List.length_cons, List.flatMap_cons, show slotB s ++ S.flatMap slotB ++ r = numB s.1.toNat ++ (numB s.2.toNat ++ (S.flatMap slotB ++ r)) by simp [slotB]]
    simp only [rdSls, okS]
    rw [rdNum_u64 h1]
    simp only []
    by_cases hu : upTo (acc.map (·.1)) s.1 = true
    · rw [if_pos hu, rdNum_u64 h2]
      simp only []
      by_cases hi : s.2 < n
      · rw [if_pos hi, rdSls_put n S _ _ (fun x hx => h x (by simp [hx]))]
        simp [hu, hi]
      · rw [if_neg hi]; simp [hi]
    · rw [if_neg hu]; simp [hu]
theorem rdCls_put (n : Int) : ∀ (C acc : List Cl) (r : List Int), (∀ c ∈ C, U64 c.id ∧ c.slots.length < 2 ^ 64 ∧ ∀ s ∈ c.slots, U64 s.1 ∧ U64 s.2) → if okC n (acc.map (·.id)) C then rdCls n C.length acc (C.flatMap clB ++ r) = .ok (acc ++ C, r) else ∃ e, e ≠ 0 ∧ rdCls n C.length acc (C.flatMap clB ++ r) = .error e
  | [], acc, r, _ => by simp [rdCls, okC]
  | c :: C, acc, r, h => by
    obtain ⟨h1, h2, h3⟩ := h c (by simp)
    rw [List.length_cons, List.flatMap_cons, show clB c ++ C.flatMap clB ++ r = numB c.id.toNat ++ (numB c.slots.length ++ (c.slots.flatMap slotB ++ (C.flatMap clB ++ r))) by simp [clB]]
    simp only [rdCls, okC]
    rw [rdNum_u64 h1]
    simp only []
    by_cases hu : upTo (acc.map (·.id)) c.id = true
    · rw [if_pos hu, rdMany_put 4 _ h2]
      by_cases h4 : c.slots.length ≤ 4
      · rw [if_neg (by omega)]
        simp only []
        by_cases h0 : 1 ≤ c.slots.length
        · rw [if_pos (by omega), Int.toNat_natCast, rdSls_put n c.slots [] _ h3]
          by_cases hs : okS n [] c.slots = true
          · rw [if_pos (by simpa using hs)]
            have ih := rdCls_put n C (acc ++ [c]) r (fun x hx => h x (by simp [hx]))
            rw [List.map_append, List.map_singleton] at ih
            have e : (⟨c.id, [] ++ c.slots⟩ : Cl) = c := rfl
            simp only [e, hu, h0, h4, hs, decide_true, Bool.true_and]
            simpa using ih
          · rw [if_neg (by simpa using hs)]
            simp only [hs]
            simp
        · rw [if_neg (by omega)]
          simp only [h0]
          simp
      · rw [if_pos (by omega)]
        simp only [h4]
        simp
    · rw [if_neg hu]
      simp only [hu]
      simp
/-- There. -/
theorem getK_put {b : Bk} (hb : OkK b) : if formedK b then getK (putK b) = .ok b else ∃ e, e ≠ 0 ∧ getK (putK b) = .error e := by
  have e1 : putK b = numB b.leaves.length ++ (b.leaves.flatMap rawB ++ (numB b.clients.length ++ (b.clients.flatMap clB ++ []))) := by simp [putK]
  unfold getK formedK
  rw [e1, rdMany_put 64 _ hb.leaves]
  by_cases h1 : b.leaves.length ≤ 64
  · rw [if_neg (show ¬ (64 : Int) < _ by omega)]
    simp only []
    rw [Int.toNat_natCast, rdLfs_put b.leaves [] _ (fun l hl => (hb.each l hl).1)]
    by_cases h2 : b.leaves.all (fun l => decide (l.length ≤ 64)) = true
    · rw [if_pos h2]
      simp only []
      rw [rdMany_put 8 _ hb.clients]
      by_cases h3 : b.clients.length ≤ 8
      · rw [if_neg (show ¬ (8 : Int) < _ by omega)]
        simp only []
        rw [Int.toNat_natCast]
        have h4 := rdCls_put b.leaves.length b.clients [] [] hb.cl
        simp only [List.map_nil] at h4
        by_cases h5 : okC b.leaves.length [] b.clients = true
        · rw [if_pos h5] at h4
          rw [h4]
          simp [h1, h2, h3, h5]
        · rw [if_neg h5] at h4
          obtain ⟨e, he, h4⟩ := h4
          rw [h4]
          simp only [h5]
          simpa using he
      · rw [if_pos (show (8 : Int) < _ by omega)]
        simp [h3]
    · rw [if_neg h2]
      simp only [h2]
      simp
  · rw [if_pos (show (64 : Int) < _ by omega)]
    simp [h1]
/-! ### Back -/
theorem b8_right {xs ys : List Int} (h : B8 (xs ++ ys)) : B8 ys := fun x hx => h x (List.mem_append.2 (.inr hx))
theorem rdMany_inv {most n : Int} {bs r : List Int} (hb : B8 bs) (h : rdMany most bs = .ok (n, r)) : bs = numB n.toNat ++ r ∧ 0 ≤ n ∧ n ≤ most ∧ B8 r := by
  unfold rdMany at h
  split at h
  · cases h
  · rename_i m r' heq
    split at h
    · cases h
    · rename_i hc
      cases h
      obtain ⟨e, h1, h2⟩ := rdNum_inv bs _ _ hb heq
      exact ⟨e, h1, by omega, by rw [e] at hb; exact b8_right hb⟩
theorem rdRaw_back {bs d r : List Int} (hb : B8 bs) (h : rdRaw 64 bs = .ok (d, r)) : bs = rawB d ++ r ∧ d.length ≤ 64 ∧ B8 d ∧ B8 r := by
  simp only [rdRaw] at h
  split at h
  · cases h
  · rename_i n r' heq
    obtain ⟨e, h2, h3⟩ := rdNum_inv bs _ _ hb heq
    split at h
    · cases h
    · rename_i hc
      split at h
      · cases h
      · rename_i hd
        cases h
        have hl : (r'.take n.toNat).length = n.toNat := by rw [List.length_take]; omega
        have hr : B8 r' := by rw [e] at hb; exact b8_right hb
        refine ⟨?_, by rw [hl]; omega, fun x hx => hr x (List.mem_of_mem_take hx), fun x hx => hr x (List.mem_of_mem_drop hx)⟩
        unfold rawB
        rw [hl, e, List.append_assoc, List.take_append_drop]
theorem rdLfs_inv : ∀ (k : Nat) (acc L : List (List Int)) (bs r : List Int), B8 bs → rdLfs k acc bs = .ok (L, r) → ∃ M, L = acc ++ M ∧ M.length = k ∧ bs = M.flatMap rawB ++ r ∧ B8 r ∧ ∀ l ∈ M, l.length ≤ 64 ∧ B8 l
  | 0, acc, L, bs, r, hb, h => by
    simp only [rdLfs] at h; cases h
    exact ⟨[], by simp, rfl, by simp, hb, by simp⟩
  | k + 1, acc, L, bs, r, hb, h => by
    simp only [rdLfs] at h
    split at h
    · cases h
    · rename_i l r' heq
      obtain ⟨e, h1, h2, h3⟩ := rdRaw_back hb heq
      obtain ⟨M, e1, e2, e3, e4, e5⟩ := rdLfs_inv k _ _ _ _ h3 h
      refine ⟨l :: M, by rw [e1]; simp, by simp [e2], by rw [e, e3]; simp, e4, fun x hx => ?_⟩
      rcases List.mem_cons.1 hx with rfl | hx
      · exact ⟨h1, h2⟩
      · exact e5 x hx
theorem rdSls_inv (n : Int) : ∀ (k : Nat) (acc S : List (Int × Int)) (bs r : List Int), B8 bs → rdSls n k acc bs = .ok (S, r) → ∃ M, S = acc ++ M ∧ M.length = k ∧ bs = M.flatMap slotB ++ r ∧ B8 r ∧ okS n (acc.map (·.1)) M = true ∧ ∀ s ∈ M, U64 s.1 ∧ U64 s.2
  | 0, acc, S, bs, r, hb, h => by
    simp only [rdSls] at h; cases h
    exact ⟨[], by simp, rfl, by simp, hb, rfl, by simp⟩
  | k + 1, acc, S, bs, r, hb, h => by
    simp only [rdSls] at h
    split at h
    · cases h
    · rename_i s r1 heq
      obtain ⟨e, a1, a2⟩ := rdNum_inv bs _ _ hb heq
      have hb1 : B8 r1 := by rw [e] at hb; exact b8_right hb
      split at h
      · rename_i hu
        split at h
        · cases h
        · rename_i i r2 heq2
          obtain ⟨e', b1, b2⟩ := rdNum_inv r1 _ _ hb1 heq2
          have hb2 : B8 r2 := by rw [e'] at hb1; exact b8_right hb1
          split at h
          · rename_i hi
            obtain ⟨M, e1, e2, e3, e4, e5, e6⟩ := rdSls_inv n k _ _ _ _ hb2 h
            refine ⟨(s, i) :: M, by rw [e1]; simp, by simp [e2], by rw [e, e', e3]; simp [slotB], e4, ?_, fun x hx => ?_⟩
            · rw [List.map_append, List.map_singleton] at e5
              simp only [okS, hu, hi, e5, decide_true, Bool.true_and]
            · rcases List.mem_cons.1 hx with rfl | hx
              · exact ⟨by unfold U64; dsimp only; omega, by unfold U64; dsimp only; omega⟩
              · exact e6 x hx
          · cases h
      · cases h
theorem rdCls_inv (n : Int) : ∀ (k : Nat) (acc C : List Cl) (bs r : List Int), B8 bs → rdCls n k acc bs = .ok (C, r) → ∃ M, C = acc ++ M ∧ M.length = k ∧ bs = M.flatMap clB ++ r ∧ B8 r ∧ okC n (acc.map (·.id)) M = true ∧ ∀ c ∈ M, U64 c.id ∧ c.slots.length < 2 ^ 64 ∧ ∀ s ∈ c.slots, U64 s.1 ∧ U64 s.2
  | 0, acc, C, bs, r, hb, h => by
    simp only [rdCls] at h; cases h
    exact ⟨[], by simp, rfl, by simp, hb, rfl, by simp⟩
  | k + 1, acc, C, bs, r, hb, h => by
    simp only [rdCls] at h
    split at h
    · cases h
    · rename_i x r1 heq
      obtain ⟨e, a1, a2⟩ := rdNum_inv bs _ _ hb heq
      have hb1 : B8 r1 := by rw [e] at hb; exact b8_right hb
      split at h
      · rename_i hu
        split at h
        · cases h
        · rename_i m r2 heq2
          obtain ⟨e', b1, b2, hb2⟩ := rdMany_inv hb1 heq2
          split at h
          · rename_i hm
            split at h
            · cases h
            · rename_i ss r3 heq3
              obtain ⟨S, f1, f2, f3, f4, f5, f6⟩ := rdSls_inv n _ _ _ _ _ hb2 heq3
              simp only [List.nil_append] at f1
              subst f1
              obtain ⟨M, e1, e2, e3, e4, e5, e6⟩ := rdCls_inv n k _ _ _ _ f4 h
              have hm2 : m = (ss.length : Int) := by omega
              refine ⟨⟨x, ss⟩ :: M, by rw [e1]; simp, by simp [e2], by rw [e, e', f3, e3, hm2]; simp [clB], e4, ?_, fun c hc => ?_⟩
              · rw [List.map_append, List.map_singleton] at e5
                simp only [List.map_nil] at f5
                simp only [okC, hu, f5, e5, Bool.true_and, Bool.and_true, Bool.and_eq_true, decide_eq_true_eq]
                omega
              · rcases List.mem_cons.1 hc with rfl | hc
                · exact ⟨by unfold U64; dsimp only; omega, by dsimp only; omega, f6⟩
                · exact e6 c hc
          · cases h
      · cases h
/-- Back. -/
theorem getK_inv {bs : List Int} {b : Bk} (hb : B8 bs) (h : getK bs = .ok b) : bs = putK b ∧ formedK b = true ∧ OkK b := by
  unfold getK at h
  split at h
  · cases h
  · rename_i n r1 heq1
    obtain ⟨e1, n1, n2, hb1⟩ := rdMany_inv hb heq1
    split at h
    · cases h
    · rename_i L r2 heq2
      obtain ⟨L', f1, f2, f3, hb2, f5⟩ := rdLfs_inv _ _ _ _ _ hb1 heq2
      simp only [List.nil_append] at f1
      subst f1
      split at h
      · cases h
      · rename_i m r3 heq3
        obtain ⟨e3, m1, m2, hb3⟩ := rdMany_inv hb2 heq3
        split at h
        · cases h
        · rename_i C r4 heq4
          obtain ⟨C', g1, g2, g3, -, g5, g6⟩ := rdCls_inv n _ _ _ _ _ hb3 heq4
          simp only [List.nil_append] at g1
          subst g1
          split at h
          · rename_i hr
            cases h
            subst hr
            have hn : n = (L.length : Int) := by omega
            have hm : m = (C.length : Int) := by omega
            refine ⟨?_, ?_, ⟨by dsimp only; omega, fun l hl => ⟨by have := (f5 l hl).1; omega, (f5 l hl).2⟩, by dsimp only; omega, g6⟩⟩
            · rw [e1, f3, e3, g3, hn, hm]; simp [putK]
            · simp only [List.map_nil] at g5
              rw [hn] at g5
              simp only [formedK, Bool.and_eq_true, decide_eq_true_eq, List.all_eq_true]
              exact ⟨⟨⟨by omega, fun l hl => (f5 l hl).1⟩, by omega⟩, g5⟩
          · cases h
/-! ### What is read is an error's number or none -/
theorem upTo_snoc (acc : List Int) (x : Int) : (acc ++ [x]).Pairwise (· < ·) ↔ acc.Pairwise (· < ·) ∧ upTo acc x = true := by
  rw [List.pairwise_append]
  constructor
  · rintro ⟨h1, -, h3⟩
    refine ⟨h1, ?_⟩
    unfold upTo
    cases hl : acc.getLast? with
    | none => rfl
    | some y => simpa using h3 y (List.mem_of_getLast? hl) x (by simp)
  · rintro ⟨h1, h2⟩
    refine ⟨h1, by simp, fun a ha b hb => ?_⟩
    rw [List.mem_singleton.1 hb]
    unfold upTo at h2
    rcases List.eq_nil_or_concat acc with hn | ⟨l, y, hy⟩
    · subst hn; cases ha
    · rw [List.concat_eq_append] at hy
      subst hy
      rw [List.getLast?_concat] at h2
      have hyx : y < x := by simpa using h2
      rw [List.pairwise_append] at h1
      rcases List.mem_append.1 ha with h | h
      · have := h1.2.2 a h y (by simp); omega
      · rw [List.mem_singleton.1 h]; exact hyx
theorem okS_iff (n : Int) : ∀ (S : List (Int × Int)) (acc : List Int), acc.Pairwise (· < ·) → (okS n acc S = true ↔ (acc ++ S.map (·.1)).Pairwise (· < ·) ∧ ∀ s ∈ S, s.2 < n)
  | [], acc, h => by simp [okS, h]
  | s :: S, acc, h => by
    simp only [okS, Bool.and_eq_true, decide_eq_true_eq]
    by_cases hu : upTo acc s.1 = true
    · have h' := (upTo_snoc acc s.1).2 ⟨h, hu⟩
      rw [okS_iff n S _ h', List.map_cons, List.append_assoc]
      simp only [hu, true_and, List.singleton_append, List.mem_cons, forall_eq_or_imp]
      exact ⟨fun ⟨a, b, c⟩ => ⟨b, a, c⟩, fun ⟨a, b, c⟩ => ⟨b, a, c⟩⟩
    · constructor
      · rintro ⟨⟨a, _⟩, _⟩; exact absurd a hu
      · rintro ⟨a, _⟩
        rw [List.map_cons, show acc ++ s.1 :: S.map (·.1) = (acc ++ [s.1]) ++ S.map (·.1) by simp] at a
        exact absurd ((upTo_snoc acc s.1).1 (List.pairwise_append.1 a).1).2 hu
theorem okC_iff (n : Int) : ∀ (C : List Cl) (acc : List Int), acc.Pairwise (· < ·) → (okC n acc C = true ↔ (acc ++ C.map (·.id)).Pairwise (· < ·) ∧ ∀ c ∈ C, 1 ≤ c.slots.length ∧ c.slots.length ≤ 4 ∧ (c.slots.map (·.1)).Pairwise (· < ·) ∧ ∀ s ∈ c.slots, s.2 < n)
  | [], acc, h => by simp [okC, h]
  | c :: C, acc, h => by
    simp only [okC, Bool.and_eq_true, decide_eq_true_eq]
    rw [okS_iff n c.slots [] List.Pairwise.nil, List.nil_append]
    by_cases hu : upTo acc c.id = true
    · have h' := (upTo_snoc acc c.id).2 ⟨h, hu⟩
      rw [okC_iff n C _ h', List.map_cons, List.append_assoc]
      simp only [hu, true_and, List.singleton_append, List.mem_cons, forall_eq_or_imp]
      exact ⟨fun ⟨⟨⟨a, b⟩, c, d⟩, e, f⟩ => ⟨e, ⟨a, b, c, d⟩, f⟩, fun ⟨e, ⟨a, b, c, d⟩, f⟩ => ⟨⟨⟨a, b⟩, c, d⟩, e, f⟩⟩
    · constructor
      · rintro ⟨⟨⟨⟨a, _⟩, _⟩, _⟩, _⟩; exact absurd a hu
      · rintro ⟨a, _⟩
        rw [List.map_cons, show acc ++ c.id :: C.map (·.id) = (acc ++ [c.id]) ++ C.map (·.id) by simp] at a
        exact absurd ((upTo_snoc acc c.id).1 (List.pairwise_append.1 a).1).2 hu
end Go.Proofs.Ytgefphfnicjbiaa

/- Layer 25 (seq): slices.Clone at leaves, clients, slots. PRINTED BY gen/sqc.py -/
namespace Go.Proofs.Ytgefphfnicjbiaa
open Go Go.RowKit

theorem infoLf : (Try.prog.info? 29).map (fun i => (i.zero, i.size, i.bytes)) = some (some (.slice none 0 0), 1, 24) := by kernel_rfl
theorem infoCl : (Try.prog.info? 55).map (fun i => (i.zero, i.size, i.bytes)) = some (some (.agg #[.int .u64 0, .slice none 0 0]), 2, 32) := by kernel_rfl
theorem infoSl : (Try.prog.info? 59).map (fun i => (i.zero, i.size, i.bytes)) = some (some (.agg #[.int .u64 0, .int .u64 0]), 2, 16) := by kernel_rfl
theorem flat_len {s : Nat} : ∀ {rows : List (List Value)}, (∀ r ∈ rows, r.length = s) → rows.flatten.length = rows.length * s
  | [], _ => by simp
  | r :: t, h => by rw [List.flatten_cons, List.length_append, h r (by simp), flat_len (fun x hx => h x (by simp [hx])), List.length_cons, Nat.succ_mul]; omega
theorem RowV.news {w : World} {s : Nat} {a : Option Addr} {n c : Nat} {rows : List (List Value)} (h : RowV w s (.slice a n c) rows) (hs : ∀ r ∈ rows, r.length = s) : n = 0 ∨ ∃ ad, a = some ad ∧ ∀ j u, rows.flatten[j]? = some u → w.cell? (ad.add j) = some u := by
  obtain ⟨a', c', hv, h1, h2, h3⟩ := h
  cases hv
  rcases h3 with h3 | ⟨b, o, rfl, hc⟩
  · left; rw [h3]; rfl
  · refine .inr ⟨_, rfl, fun j u hj => ?_⟩
    obtain ⟨i, r, j', h4, h5, rfl⟩ := flat_row rows j hs hj
    rw [Addr.add_lit, ← Nat.add_assoc]
    exact hc i r h4 j' u h5

set_option maxHeartbeats 2000000 in
theorem cloneL_c (v : Value) (rows : List (List Value)) (w : World) (h : RowV w 1 v rows) (hs : ∀ r ∈ rows, r.length = 1) (hl : rows.length ≤ 1000000) :
    Calls Try.prog 50 #[v] w fun e w' => ∃ v', e = .returned v' ∧ w'.ownsRow w.heap.size 29 1 v' rows.length rows.flatten ∧ Ext w w' := by
  have HV := Lib.hid h; have HS := Lib.hid hs
  obtain ⟨n, hn⟩ : ∃ n, n = rows.length := ⟨_, rfl⟩
  obtain ⟨a, c, rfl, hc1, hc2⟩ := h.shape
  rw [← hn] at hl hc1 HV ⊢
  have HN := Lib.hid hn
  have HF := Lib.hid (show rows.flatten.length = n * 1 from by rw [flat_len hs, ← hn])
  have q := fun (w : World) (a : Option Addr) (n c n' c' : Nat) => Lib.run_eql_slice_nil (P := Try.prog) w 24 _ a n c n' c' Try.underlying24
  clear h hs hn
  cases a with
  | none =>
    have h0 : n = 0 ∧ rows.flatten = [] := by
      rcases HV.out.news HS.out with h | ⟨ad, h, _⟩
      · exact ⟨h, List.eq_nil_of_length_eq_zero (by rw [HF.out, h, Nat.zero_mul])⟩
      · cases h
    have H0 := Lib.hid h0
    clear h0
    go_enter Try.func50, Try.ntmps50
    go_wp2_with fail
    go_ret
    rw [H0.out.1, H0.out.2]
    exact ⟨_, rfl, World.ownsRow_nil _ _ _ _, Ext.refl _⟩
  | some ad =>
    have HE := Lib.hid (Ext.alloc w (.cells #[] 29))
    have HB := Lib.hid (Blk.new w #[] 29)
    go_enter Try.func50, Try.ntmps50
    go_wp2_with (at_builtin; refine wpList_append_half rfl (.tmp 5) (.tmp 6) _ rfl 29 _ 1 24 Try.underlying24 infoLf rfl (by omega) w.heap.size rfl (some ad) n c rows.flatten rfl HF.out ((HV.out.ext HE.out).news HS.out) (by unfold maxLen; omega) (by omega) ?_; intro v2 w2 hh hE2; have HH := Lib.hid (hh.own (base := w.heap.size) hE2 HB.out (Nat.le_refl _) HE.out.size HF.out); have HE2 := Lib.hid (HE.out.trans hE2); clear hh hE2)
    go_wp2_with fail
    go_ret
    exact ⟨_, rfl, HH.out, HE2.out⟩

set_option maxHeartbeats 2000000 in
theorem cloneC_c (v : Value) (rows : List (List Value)) (w : World) (h : RowV w 2 v rows) (hs : ∀ r ∈ rows, r.length = 2) (hl : rows.length ≤ 1000000) :
    Calls Try.prog 51 #[v] w fun e w' => ∃ v', e = .returned v' ∧ w'.ownsRow w.heap.size 55 2 v' rows.length rows.flatten ∧ Ext w w' := by
  have HV := Lib.hid h; have HS := Lib.hid hs
  obtain ⟨n, hn⟩ : ∃ n, n = rows.length := ⟨_, rfl⟩
  obtain ⟨a, c, rfl, hc1, hc2⟩ := h.shape
  rw [← hn] at hl hc1 HV ⊢
  have HN := Lib.hid hn
  have HF := Lib.hid (show rows.flatten.length = n * 2 from by rw [flat_len hs, ← hn])
  have q := fun (w : World) (a : Option Addr) (n c n' c' : Nat) => Lib.run_eql_slice_nil (P := Try.prog) w 25 _ a n c n' c' Try.underlying25
  clear h hs hn
  cases a with
  | none =>
    have h0 : n = 0 ∧ rows.flatten = [] := by
      rcases HV.out.news HS.out with h | ⟨ad, h, _⟩
      · exact ⟨h, List.eq_nil_of_length_eq_zero (by rw [HF.out, h, Nat.zero_mul])⟩
      · cases h
    have H0 := Lib.hid h0
    clear h0
    go_enter Try.func51, Try.ntmps51
    go_wp2_with fail
    go_ret
    rw [H0.out.1, H0.out.2]
    exact ⟨_, rfl, World.ownsRow_nil _ _ _ _, Ext.refl _⟩
  | some ad =>
    have HE := Lib.hid (Ext.alloc w (.cells #[] 55))
    have HB := Lib.hid (Blk.new w #[] 55)
    go_enter Try.func51, Try.ntmps51
    go_wp2_with (at_builtin; refine wpList_append_half rfl (.tmp 5) (.tmp 6) _ rfl 55 _ 2 32 Try.underlying25 infoCl rfl (by omega) w.heap.size rfl (some ad) n c rows.flatten rfl HF.out ((HV.out.ext HE.out).news HS.out) (by unfold maxLen; omega) (by omega) ?_; intro v2 w2 hh hE2; have HH := Lib.hid (hh.own (base := w.heap.size) hE2 HB.out (Nat.le_refl _) HE.out.size HF.out); have HE2 := Lib.hid (HE.out.trans hE2); clear hh hE2)
    go_wp2_with fail
    go_ret
    exact ⟨_, rfl, HH.out, HE2.out⟩

set_option maxHeartbeats 2000000 in
theorem cloneS_c (v : Value) (rows : List (List Value)) (w : World) (h : RowV w 2 v rows) (hs : ∀ r ∈ rows, r.length = 2) (hl : rows.length ≤ 1000000) :
    Calls Try.prog 52 #[v] w fun e w' => ∃ v', e = .returned v' ∧ w'.ownsRow w.heap.size 59 2 v' rows.length rows.flatten ∧ Ext w w' := by
  have HV := Lib.hid h; have HS := Lib.hid hs
  obtain ⟨n, hn⟩ : ∃ n, n = rows.length := ⟨_, rfl⟩
  obtain ⟨a, c, rfl, hc1, hc2⟩ := h.shape
  rw [← hn] at hl hc1 HV ⊢
  have HN := Lib.hid hn
  have HF := Lib.hid (show rows.flatten.length = n * 2 from by rw [flat_len hs, ← hn])
  have q := fun (w : World) (a : Option Addr) (n c n' c' : Nat) => Lib.run_eql_slice_nil (P := Try.prog) w 53 _ a n c n' c' Try.underlying53
  clear h hs hn
  cases a with
  | none =>
    have h0 : n = 0 ∧ rows.flatten = [] := by
      rcases HV.out.news HS.out with h | ⟨ad, h, _⟩
      · exact ⟨h, List.eq_nil_of_length_eq_zero (by rw [HF.out, h, Nat.zero_mul])⟩
      · cases h
    have H0 := Lib.hid h0
    clear h0
    go_enter Try.func52, Try.ntmps52
    go_wp2_with fail
    go_ret
    rw [H0.out.1, H0.out.2]
    exact ⟨_, rfl, World.ownsRow_nil _ _ _ _, Ext.refl _⟩
  | some ad =>
    have HE := Lib.hid (Ext.alloc w (.cells #[] 59))
    have HB := Lib.hid (Blk.new w #[] 59)
    go_enter Try.func52, Try.ntmps52
    go_wp2_with (at_builtin; refine wpList_append_half rfl (.tmp 5) (.tmp 6) _ rfl 59 _ 2 16 Try.underlying53 infoSl rfl (by omega) w.heap.size rfl (some ad) n c rows.flatten rfl HF.out ((HV.out.ext HE.out).news HS.out) (by unfold maxLen; omega) (by omega) ?_; intro v2 w2 hh hE2; have HH := Lib.hid (hh.own (base := w.heap.size) hE2 HB.out (Nat.le_refl _) HE.out.size HF.out); have HE2 := Lib.hid (HE.out.trans hE2); clear hh hE2)
    go_wp2_with fail
    go_ret
    exact ⟨_, rfl, HH.out, HE2.out⟩

end Go.Proofs.Ytgefphfnicjbiaa
