/- Parts of the proof, in plain words at the head of each: Skr, Sqs. -/
import Derived.Test.YtgefphfnicjbiaaSkp
set_option linter.unusedSimpArgs false
set_option linter.unusedVariables false
/- Layer 25 (seq): tabellionref25's client, Find. -/
namespace Go.Proofs.Ytgefphfnicjbiaa
open Go Go.RowKit

/-- The place of a client, or -1. -/
def clientI (b : Bk) (x : Int) : Int := if hitAt (idsB b) x (posL (idsB b) x) then (posL (idsB b) x : Int) else -1
theorem posL_hit {l : List Int} (hl : l.Pairwise (· < ·)) {i : Nat} {x : Int} (h : l[i]? = some x) : posL l x = i ∧ hitAt l x (posL l x) = true := by
  have hm := List.mem_of_getElem? h
  have h1 := rise_place (fun y : Int => y) l (by simpa using hl) hm
  simp only [List.map_id'] at h1
  have hc := posL_cut l x hl
  have hPi : posL l x = i := by
    obtain ⟨hi, hi'⟩ := List.getElem?_eq_some_iff.1 h
    obtain ⟨hp, hp'⟩ := List.getElem?_eq_some_iff.1 h1
    rcases Nat.lt_trichotomy (posL l x) i with h2 | h2 | h2
    · have := List.pairwise_iff_getElem.1 hl _ _ hp hi h2; omega
    · exact h2
    · have := List.pairwise_iff_getElem.1 hl _ _ hi hp h2; omega
  refine ⟨hPi, ?_⟩
  unfold hitAt
  rw [hPi, h]; simp
theorem clientI_hit {b : Bk} (hb : Rise b) {i : Nat} {c : Cl} (h : b.clients[i]? = some c) : clientI b c.id = (i : Int) := by
  have hg : (idsB b)[i]? = some c.id := by unfold idsB; rw [List.getElem?_map, h]; rfl
  obtain ⟨h1, h2⟩ := posL_hit hb.ids hg
  unfold clientI
  rw [h2, h1, if_pos rfl]
theorem clientI_none {b : Bk} {x : Int} (h : ∀ (i : Nat) c, b.clients[i]? = some c → c.id ≠ x) : clientI b x = -1 := by
  unfold clientI
  rw [if_neg]
  intro hh
  have := hitAt_true hh
  unfold idsB at this
  rw [List.getElem?_map] at this
  cases hc : b.clients[posL (b.clients.map (·.id)) x]? with
  | none => rw [hc] at this; cases this
  | some c => rw [hc] at this; exact h _ c hc (Option.some.inj this)
set_option maxRecDepth 100000 in
set_option maxHeartbeats 4000000 in
theorem client_c (v : Value) (b : Bk) (x : Int) (w : World) (h : BookV w v b) (hb : Rise b) : Calls Try.prog 42 #[v, .int .u64 x] w (RetE (.int .i64 (clientI b x)) w) := by
  obtain ⟨lv, cv, L, C, rfl, hL, hC, h3, h4, h5, h6⟩ := h
  obtain ⟨la, lc, rfl, hl1, hl2⟩ := h3.shape
  obtain ⟨ca, cc, rfl, hc1, hc2⟩ := h4.shape
  have e2 : (C.map clR).length = b.clients.length := by rw [List.length_map, ← hC, List.length_map]
  generalize (L.map lfR).length = nL at *
  rw [e2] at hc1 h4 ⊢
  obtain ⟨nC, hnC⟩ : ∃ n, n = b.clients.length := ⟨_, rfl⟩
  rw [← hnC] at hc1 h4 ⊢
  have HC := Lib.hid hC; have H4 := Lib.hid h4; have HNC := Lib.hid hnC; have HB := Lib.hid hb
  obtain ⟨r, hr⟩ : ∃ r, r = clientI b x := ⟨_, rfl⟩
  rw [← hr]
  have HR := Lib.hid hr
  clear hL hC h3 h4 h5 h6 hnC e2 hb hr
  go_enter Try.func42, Try.ntmps42
  go_wp2_with fail
  have hB := Blk.new w #[.slice la nL lc, .slice ca nC cc] 27
  have hE := Ext.alloc w (.cells #[.slice la nL lc, .slice ca nC cc] 27)
  generalize w.alloc (.cells #[.slice la nL lc, .slice ca nC cc] 27) = W1 at *
  have c21 := hB.cell 1 rfl
  simp only [List.getElem_toArray, List.getElem_cons_zero, List.getElem_cons_succ] at c21
  have HE := Lib.hid hE
  clear hB hE
  go_loopg [5] nC (fun g v5 wr => ∃ k : Nat, v5 = .int .i64 (k : Int) ∧ k + g = nC ∧ wr = W1 ∧ ∀ (j : Nat) q, j < k → C[j]? = some q → q.1.id ≠ x)
  case atStart => exact ⟨0, rfl, by omega, rfl, fun j q hj => by omega⟩
  case round =>
    obtain ⟨k, rfl, hkn, rfl, hno⟩ := hrel
    have HNO := Lib.hid hno
    clear hno
    by_cases hk : k < nC
    · have hk1 : (k : Int) < (nC : Int) := by omega
      obtain ⟨q, hq⟩ : ∃ q, C[k]? = some q := ⟨_, List.getElem?_eq_getElem (by have h1 := congrArg List.length HC.out; rw [List.length_map] at h1; have := HNC.out; omega)⟩
      have hlq : b.clients[k]? = some q.1 := by rw [← HC.out, List.getElem?_map, hq]; rfl
      obtain ⟨s1, o1, rfl, hc⟩ := H4.out.cells2 hq
      have d0 := HE.out.cell (hc 0 _ rfl)
      rw [Nat.add_zero] at d0
      have HQ := Lib.hid hq; have HLQ := Lib.hid hlq
      clear hc hk hq hlq
      obtain ⟨y, hy⟩ : ∃ y, y = q.1.id := ⟨_, rfl⟩
      rw [← hy] at d0
      by_cases hyx : y = x
      · have b1 : (y == x) = true := by simpa using hyx
        have hrk : r = (k : Int) := by rw [HR.out, ← hyx, hy]; exact clientI_hit HB.out HLQ.out
        have HRK := Lib.hid hrk
        clear hyx hrk hy
        go_wp2_with fail
        go_ret
        exact ⟨by rw [HRK.out]; rfl, HE.out⟩
      · have b1 : (y == x) = false := by simpa using hyx
        have hne : q.1.id ≠ x := by rw [← hy]; exact hyx
        have HNE := Lib.hid hne
        clear hyx hne hy
        go_wp2_with fail
        go_roundg (nC - (k + 1))
        case measure => omega
        case rel =>
          refine ⟨k + 1, by go_num, by omega, rfl, fun j q' hj hjq => ?_⟩
          rcases Nat.lt_succ_iff_lt_or_eq.1 hj with h1 | rfl
          · exact HNO.out j q' h1 hjq
          · rw [HQ.out] at hjq; cases hjq; exact HNE.out
    · have hge : (nC : Int) ≤ (k : Int) := by omega
      have hr : r = -1 := by
        rw [HR.out]
        refine clientI_none fun j c hj => ?_
        rw [← HC.out, List.getElem?_map] at hj
        cases hq : C[j]? with
        | none => rw [hq] at hj; cases hj
        | some q =>
          rw [hq] at hj
          cases hj
          have hjl := (List.getElem?_eq_some_iff.1 hq).1
          have h1 := congrArg List.length HC.out; rw [List.length_map] at h1; have := HNC.out
          exact HNO.out j q (by omega) hq
      have HRK := Lib.hid hr
      clear hr hk hkn
      go_wp2_with fail
      go_ret
      exact ⟨by rw [HRK.out]; rfl, HE.out⟩
end Go.Proofs.Ytgefphfnicjbiaa

/- Layer 25 (seq): books that entries make are formed, plainly. -/
namespace Go.Proofs.Ytgefphfnicjbiaa
open Go Go.RowKit

/-- A book that entries make. -/
structure Good (b : Bk) : Prop where
  ok : BkOk b
  fm : formedK b = true
  u : OkK b
theorem formedK_iff (b : Bk) : formedK b = true ↔ b.leaves.length ≤ 64 ∧ (∀ l ∈ b.leaves, l.length ≤ 64) ∧ b.clients.length ≤ 8 ∧ (b.clients.map (·.id)).Pairwise (· < ·) ∧ ∀ c ∈ b.clients, 1 ≤ c.slots.length ∧ c.slots.length ≤ 4 ∧ (c.slots.map (·.1)).Pairwise (· < ·) ∧ ∀ s ∈ c.slots, s.2 < (b.leaves.length : Int) := by
  simp only [formedK, Bool.and_eq_true, decide_eq_true_eq, List.all_eq_true]
  rw [okC_iff _ _ _ List.Pairwise.nil, List.nil_append]
  constructor
  · rintro ⟨⟨⟨h1, h2⟩, h3⟩, h4, h5⟩; exact ⟨h1, h2, h3, h4, h5⟩
  · rintro ⟨h1, h2, h3, h4, h5⟩; exact ⟨⟨⟨h1, h2⟩, h3⟩, h4, h5⟩
theorem Good.nil : Good ⟨[], []⟩ := ⟨BkOk.nil, by decide, ⟨by simp, by simp, by simp, by simp⟩⟩
theorem Good.add {b : Bk} (h : Good b) {cl sq : Int} {d : List Int} (hu : U64 cl) (hs : U64 sq) (h8 : B8 d) (hf : (findP b cl sq).2 = 8) (hk : hitAt (idsB b) cl (posL (idsB b) cl) = false → b.clients.length < 8) (hl : b.leaves.length < 64) (hd : d.length ≤ 64) : Good (addB b cl sq d) := by
  obtain ⟨hok, c0, hid, hmem, h4, hpw, hn, hold, hset, hin, hkeep⟩ := addB_spec h.ok hf hk hl hd
  have hlm := lastF_mem (l := c0.slots) (s := (sq, (b.leaves.length : Int))) hpw hn h4 hold
  obtain ⟨f1, f2, f3, f4, f5⟩ := (formedK_iff b).1 h.fm
  have hlen : (addB b cl sq d).leaves.length = b.leaves.length + 1 := by unfold addB; simp
  have hsl : ∀ t ∈ lastF (insL c0.slots (sq, (b.leaves.length : Int))), t.2 < ((b.leaves.length + 1 : Nat) : Int) ∧ U64 t.1 ∧ U64 t.2 := fun t ht => by
    rcases hlm.2.1 t ht with h1 | rfl
    · rcases hmem with h3 | ⟨h3, _⟩
      · have := (f5 c0 h3).2.2.2 t h1
        have hu := (h.u.cl c0 h3).2.2 t h1
        exact ⟨by omega, hu.1, hu.2⟩
      · rw [h3] at h1; cases h1
    · exact ⟨by dsimp only; omega, hs, by unfold U64; dsimp only; omega⟩
  refine ⟨hok, (formedK_iff _).2 ⟨hok.leaves, hok.each, hok.clients, hok.rise.ids, fun c hc => ?_⟩, ⟨by have := hok.leaves; omega, fun l hl' => ⟨by have := hok.each l hl'; omega, ?_⟩, by have := hok.clients; omega, fun c hc => ?_⟩⟩
  · rw [hlen]
    rcases hset c hc with rfl | ⟨h1, _⟩
    · exact ⟨List.length_pos_of_mem hlm.1, hlm.2.2.2.2.1, hlm.2.2.2.1, fun s hs => (hsl s hs).1⟩
    · obtain ⟨g1, g2, g3, g4⟩ := f5 c h1
      exact ⟨g1, g2, g3, fun s hs => by have := g4 s hs; omega⟩
  · unfold addB at hl'
    rcases List.mem_append.1 hl' with h1 | h1
    · exact (h.u.each l h1).2
    · rw [List.mem_singleton.1 h1]; exact h8
  · rcases hset c hc with rfl | ⟨h1, _⟩
    · exact ⟨hu, by have := hlm.2.2.2.2.1; dsimp only; omega, fun s hs => (hsl s hs).2⟩
    · exact h.u.cl c h1
theorem Good.apply {b : Bk} (h : Good b) (k : Int) {cl sq : Int} {d : List Int} (hu : U64 cl) (hs : U64 sq) (h8 : B8 d) : Good (applyP b k cl sq d).1 := by
  unfold applyP
  by_cases hk : k = 2
  · simp only [if_pos hk]
    by_cases hf : (findP b cl sq).2 = 8
    · simp only [if_pos hf]
      by_cases hfull : (hitAt (idsB b) cl (posL (idsB b) cl) = false ∧ 8 ≤ b.clients.length) ∨ 64 ≤ b.leaves.length ∨ 64 < d.length
      · simp only [if_pos hfull]; exact h
      · simp only [if_neg hfull]
        exact h.add hu hs h8 hf (fun h1 => Nat.lt_of_not_le fun h2 => hfull (.inl ⟨h1, h2⟩)) (Nat.lt_of_not_le fun h2 => hfull (.inr (.inl h2))) (Nat.le_of_not_lt fun h2 => hfull (.inr (.inr h2)))
    · simp only [if_neg hf]; exact h
  · simp only [if_neg hk]; exact h
theorem flat_le {α : Type} (f : α → List Int) (B : Nat) : ∀ (l : List α), (∀ a ∈ l, (f a).length ≤ B) → (l.flatMap f).length ≤ l.length * B
  | [], _ => by simp
  | a :: l, h => by
    have h1 := h a (by simp)
    have h2 := flat_le f B l (fun x hx => h x (by simp [hx]))
    rw [List.flatMap_cons, List.length_append, List.length_cons, Nat.succ_mul]; omega
theorem numB_nine (n : Nat) : (numB n).length ≤ 9 := by rw [numB_len]; have := numK_le n; omega
theorem Good.size {b : Bk} (h : Good b) : (putK b).length ≤ 20000 := by
  obtain ⟨f1, f2, f3, f4, f5⟩ := (formedK_iff b).1 h.fm
  have h1 := numB_nine b.leaves.length
  have h2 := numB_nine b.clients.length
  have h3 := flat_le rawB 73 b.leaves (fun l hl => by unfold rawB; rw [List.length_append]; have := numB_nine l.length; have := f2 l hl; omega)
  have h4 := flat_le clB 90 b.clients (fun c hc => by
    unfold clB
    have g1 := numB_nine c.id.toNat; have g2 := numB_nine c.slots.length
    have g3 := flat_le slotB 18 c.slots (fun s _ => by unfold slotB; rw [List.length_append]; have := numB_nine s.1.toNat; have := numB_nine s.2.toNat; omega)
    have g4 := (f5 c hc).2.1
    rw [List.length_append, List.length_append]; omega)
  unfold putK
  simp only [List.length_append]
  omega
end Go.Proofs.Ytgefphfnicjbiaa
