/- Contracts of slices.Grow, slices.Concat and slices.Clone at []byte. -/
import Derived.Test.YtgefphfnicjbiaaBin
import Derived.Lib.AppendZeros
namespace Go.Proofs.Ytgefphfnicjbiaa
open Go Go.RowKit

set_option maxHeartbeats 400000 in
set_option maxRecDepth 100000 in
theorem grow8_nil (n : Nat) (w : World) (hn : n ≤ 140737488355328) : Calls Try.prog 61 #[.slice none 0 0, .int .i64 n] w fun e w' => ∃ v', e = .returned v' ∧ w'.ownsRow w.heap.size 5 1 v' 0 [] ∧ Ext w w' := by
  obtain ⟨i0, hi, hz0, hz1, hz2⟩ := el8.info
  by_cases h0 : n = 0
  · subst h0
    go_enter Try.func61, Try.ntmps61
    go_wp2_with fail
    go_ret
    exact ⟨_, rfl, World.ownsRow_nil _ _ _ _, Ext.refl _⟩
  · have hpos : 0 < n := by omega
    go_enter Try.func61, Try.ntmps61
    go_wp2_with (at_builtin; refine Lib.wpList_append_run _ rfl (.tmp 20) (.tmp 21) _ _ rfl _ _ rfl rfl _ _ (Lib.run_append_nil_zeros _ _ _ _ 5 i0 (.int .u8 0) .i64 .i64 el8.ty Try.underlying3 hi hz0 n hpos (by omega) (by omega) (by rw [hz2]; omega)) ?_)
    have hC := grownCap_ge w n 0 5
    have hM := grownCap_le_maxLen w n 0 5 (by unfold maxLen; omega)
    unfold maxLen at hM
    go_ret
    refine ⟨_, rfl, ⟨by simp, .inr ⟨w.heap.size, grownCap w n 0 5, _, rfl, Nat.le_refl _, heap_alloc_new w _, Nat.zero_le _, by unfold maxLen; omega, ?_, by simp⟩⟩, (Ext.alloc _ _).trans (Ext.drew _)⟩
    simp [size_zeroCells]; omega

/-- A list of texts, by slices. -/
structure Texts (w : World) (cs : List Value) (xss : List (List Int)) : Prop where
  len : cs.length = xss.length
  get : ∀ (j : Nat) (c : Value) (xs : List Int), cs[j]? = some c → xss[j]? = some xs → Rd w c (u8s xs)

theorem Texts.ext {w w' : World} {cs : List Value} {xss : List (List Int)} (h : Texts w cs xss) (hE : Ext w w') : Texts w' cs xss := ⟨h.len, fun j c xs h1 h2 => (h.get j c xs h1 h2).ext hE⟩

theorem Texts.nil (w : World) : Texts w [] [] := ⟨rfl, fun j c xs h => by simp at h⟩
theorem Texts.cons {w : World} {c : Value} {xs : List Int} {cs : List Value} {xss : List (List Int)} (h : Rd w c (u8s xs)) (ht : Texts w cs xss) : Texts w (c :: cs) (xs :: xss) := by
  refine ⟨by simp [ht.len], fun j c' xs' h1 h2 => ?_⟩
  cases j with
  | zero => simp at h1 h2; subst h1; subst h2; exact h
  | succ j => exact ht.get j c' xs' (by simpa using h1) (by simpa using h2)

theorem flatten_take_succ (xss : List (List Int)) (r : Nat) (xs : List Int) (h : xss[r]? = some xs) : (xss.take (r + 1)).flatten = (xss.take r).flatten ++ xs := by
  rw [List.take_add_one, h]; simp
theorem flatten_take_le (xss : List (List Int)) (r : Nat) : (xss.take r).flatten.length ≤ xss.flatten.length := by
  conv => rhs; rw [← List.take_append_drop r xss, List.flatten_append, List.length_append]
  omega

set_option maxHeartbeats 800000 in
theorem concat8 (v : Value) (cs : List Value) (xss : List (List Int)) (w : World) (hr : Rd w v cs) (ht : Texts w cs xss) (hn : xss.flatten.length ≤ 140737488355300) :
    Calls Try.prog 29 #[v] w (RetOwn 5 w (u8s xss.flatten)) := by
  obtain ⟨a, c, rfl, hac, hcm, h3⟩ := hr
  unfold maxLen at hcm
  obtain ⟨K, hK⟩ : ∃ K, K = cs.length := ⟨_, rfl⟩
  rw [← hK] at hac ⊢
  have H3 := Lib.hid h3; have HT := Lib.hid ht; have HK := Lib.hid hK; have HN := Lib.hid hn; clear h3 ht hK hn
  have at_ : ∀ r, r < K → ∃ (a1 : Option Addr) (c1 : Nat) (xs : List Int), xss[r]? = some xs ∧ cs[r]? = some (.slice a1 xs.length c1) ∧ xs.length ≤ c1 ∧ c1 ≤ maxLen ∧ Rd w (.slice a1 xs.length c1) (u8s xs) ∧ (xss.take (r + 1)).flatten = (xss.take r).flatten ++ xs ∧ (xss.take (r + 1)).flatten.length ≤ 140737488355300 := by
    intro r hr
    rw [HK.out] at hr
    have h1 : cs[r]? = some (cs[r]) := by simp [hr]
    have hr2 : r < xss.length := by rw [← HT.out.len]; exact hr
    have h2 : xss[r]? = some (xss[r]) := by simp [hr2]
    have h4 := HT.out.get r _ _ h1 h2
    have h5 := h4
    obtain ⟨a1, c1, he, hl1, hc1, _⟩ := Rd.open h4
    refine ⟨a1, c1, xss[r], h2, by rw [h1, he], hl1, hc1, by rw [← he]; exact h5, flatten_take_succ _ _ _ h2, ?_⟩
    have := flatten_take_le xss (r + 1); have := HN.out; omega
  have AT := Lib.hid at_; clear at_
  go_enter Try.func29, Try.ntmps29
  go_wp2_with fail
  go_loopg [3, 11] K (fun g s i wr => ∃ (r : Nat), r + g = K ∧ i = .int .i64 (r : Int) ∧ s = .int .i64 (((xss.take r).flatten.length : Nat) : Int) ∧ wr = w)
  case atStart => exact ⟨0, by omega, rfl, rfl, rfl⟩
  case round =>
    obtain ⟨r, hg, rfl, rfl, rfl⟩ := hrel
    by_cases hlt : r < K
    · obtain ⟨a1, c1, xs, g1, g2, g3, g4, _, g6, g7⟩ := AT.out r hlt
      rcases H3.out with h0 | ⟨b, o, rfl, hc⟩
      · have := HK.out; rw [h0] at this; simp at this; omega
      · have hcell := hc r _ g2
        rw [g6, List.length_append] at g7
        have e1 : (((xss.take r).flatten.length + xs.length : Nat) : Int) = ((xss.take (r + 1)).flatten.length : Int) := by rw [g6, List.length_append]
        unfold maxLen at g4
        obtain ⟨S, hS⟩ : ∃ S, S = (xss.take r).flatten.length := ⟨_, rfl⟩
        rw [← hS] at g7 e1 ⊢
        have E1 := Lib.hid e1; clear e1 hS hc g6 g1 g2
        go_wp2_with fail
        go_roundg (gk - 1)
        case measure => omega
        case rel => exact ⟨r + 1, by omega, by go_num, by rw [← E1.out]; go_num, rfl⟩
    · have hrk : r = K := by omega
      subst hrk
      have e0 : (xss.take r).flatten = xss.flatten := by rw [List.take_of_length_le (by rw [HK.out, HT.out.len]; exact Nat.le_refl _)]
      rw [e0]
      have hn := HN.out
      obtain ⟨S, hS⟩ : ∃ S, S = xss.flatten.length := ⟨_, rfl⟩
      rw [← hS] at hn ⊢
      have HSS := Lib.hid hS; clear hS e0
      go_wp2_with fail
      refine (grow8_nil S wr (by omega)).mono ?_
      rintro e w1 ⟨v1, rfl, ho1, hE1⟩
      have hs1 := hE1.size
      have HO1 := Lib.hid ho1; clear ho1
      go_wp2_with fail
      obtain ⟨wo, hwo⟩ : ∃ wo : World, wo = wr := ⟨_, rfl⟩
      subst hwo
      go_loopg [6, 27] r (fun g b i wr => ∃ (q : Nat), q + g = r ∧ i = .int .i64 (q : Int) ∧ wr.ownsRow wo.heap.size 5 1 b (xss.take q).flatten.length (u8s (xss.take q).flatten) ∧ Ext wo wr ∧ wo.heap.size ≤ wr.heap.size)
      case atStart => exact ⟨0, by omega, rfl, by simpa [u8s] using HO1.out, hE1, hs1⟩
      case round =>
        obtain ⟨q, hq, rfl, ho2, hE2, hs2⟩ := hrel
        by_cases hlt2 : q < r
        · obtain ⟨a1, c1, xs, g1, g2, g3, g4, g5, g6, g7⟩ := AT.out q hlt2
          rcases H3.out with h0 | ⟨b, o, rfl, hc⟩
          · have := HK.out; rw [h0] at this; simp at this; omega
          · have hcell := hE2.cell (hc q _ g2)
            have g5' := Lib.hid (g5.ext hE2)
            have E1 := Lib.hid g6
            have g7' := g7
            rw [g6, List.length_append] at g7'
            have HO2 := Lib.hid ho2
            clear hc g1 g2 g5 g6 g7 ho2 g4 g3
            go_wp2_with (at_builtin; refine wpList_append_rd rfl (.tmp 31) (.tmp 32) _ rfl el8 wo.heap.size _ _ _ (u8s xs) rfl HO2.out _ rfl g5'.out (u8s_one _) (by rw [u8s_len]; omega) (by rw [u8s_len]; unfold maxLen; omega) hs2 ?_)
            intro v3 w3 ho3 hg3
            have hE3 : Ext wo w3 := Below.grown hE2 hg3 hs2 fun k hk => (HO2.out.lt k hk).1
            have hs3 := hE3.size
            have ho4 := own_n ho3
            rw [← u8s_append, ← E1.out, u8s_len] at ho4
            clear ho3; have ho3 := ho4; clear ho4
            have HO3 := Lib.hid ho3; clear ho3 hg3
            go_wp2_with fail
            go_roundg (gk - 1)
            case measure => omega
            case rel => exact ⟨q + 1, by omega, by go_num, HO3.out, hE3, hs3⟩
        · have hqk : q = r := by omega
          subst hqk
          have HO2 := Lib.hid ho2; clear ho2
          go_wp2_with fail
          go_ret
          refine ⟨_, rfl, ?_, hE2⟩
          have := HO2.out
          rw [List.take_of_length_le (by rw [HK.out, HT.out.len]; exact Nat.le_refl _)] at this
          rw [u8s_len]; exact this

set_option maxHeartbeats 400000 in
/-- slices.Clone: nil of nil; else a new slice. -/
theorem clone8 (v : Value) (xs : List Int) (w : World) (hr : Rd w v (u8s xs)) (hx : xs.length ≤ 140737488355328) : Calls Try.prog 21 #[v] w (RetOwn 5 w (u8s xs)) := by
  have HR := Lib.hid hr
  obtain ⟨a, c, rfl, hl, hc, h3⟩ := Rd.open hr
  have q := fun (w : World) (a : Option Addr) (n c n' c' : Nat) => Lib.run_eql_slice_nil (P := Try.prog) w 29 _ a n c n' c' Try.underlying29
  cases a with
  | none =>
    have h0 : xs = [] := by rcases h3 with h | ⟨_, _, h, _⟩; exact h; cases h
    subst h0
    clear h3 hr HR
    go_enter Try.func21, Try.ntmps21
    go_wp2_with fail
    go_ret
    exact ⟨_, rfl, World.ownsRow_nil _ _ _ _, Ext.refl _⟩
  | some ad =>
    clear h3 hr
    have HO1 : Hid ((w.alloc (.cells #[] 5)).ownsRow w.heap.size 5 1 (.slice (some ⟨w.heap.size, 0, none⟩) 0 0) 0 []) := own_lit w [] 5 (by simp)
    go_enter Try.func21, Try.ntmps21
    go_wp2_with (at_builtin; refine wpList_append_rd rfl (.tmp 5) (.tmp 6) _ rfl el8 w.heap.size _ 0 [] (u8s xs) rfl HO1.out _ rfl (HR.out.ext (Ext.alloc _ _)) (u8s_one _) (by rw [u8s_len]; omega) (by rw [u8s_len]; unfold maxLen; omega) (by simp) ?_)
    intro v2 w2 ho2 hg2
    have hE2 : Ext w w2 := Below.grown (Ext.alloc w (.cells #[] 5)) hg2 (by simp) (by intro k hk; simp [Value.ownBlock] at hk; omega)
    have HO2 := Lib.hid ho2; clear ho2 hg2
    go_wp2_with fail
    go_ret
    exact ⟨_, rfl, by have := HO2.out; simpa using own_n this, hE2⟩
end Go.Proofs.Ytgefphfnicjbiaa
