/- Contracts: lists of numbers, and entries, that are the same. -/
import Derived.Test.YtjodgbabfhcilaaEnt2
set_option linter.unusedSimpArgs false
set_option linter.unusedVariables false
namespace Go.Proofs.Ytjodgbabfhcilaa
open Go Go.RowKit

/-- A call that only reads: the world is as it was, but for draws. -/
def RetQ (v : Value) (w : World) (e : Ending) (w' : World) : Prop := e = .returned v ∧ ∃ n, w' = w.drewN n

def sameB (a b : Ent) : Bool := decide (a.term = b.term) && decide (a.kind = b.kind) && decide (a.client = b.client) && decide (a.seq = b.seq) && decide (a.data = b.data) && decide (a.members = b.members)
theorem sameB_iff (a b : Ent) : sameB a b = true ↔ a = b := by
  obtain ⟨t1, k1, c1, s1, D1, M1⟩ := a
  obtain ⟨t2, k2, c2, s2, D2, M2⟩ := b
  simp [sameB, and_assoc]

set_option maxHeartbeats 400000 in
theorem rnums_q (v1 v2 : Value) (xs ys : List Int) (w : World) (h1 : Rd w v1 (u64s xs)) (h2 : Rd w v2 (u64s ys)) : Calls Try.prog 30 #[v1, v2] w (RetQ (.bool (decide (xs = ys))) w) := by
  obtain ⟨a1, c1, rfl, hl1, hc1, h3⟩ := Rd.open h1
  obtain ⟨a2, c2, rfl, hl2, hc2, h4⟩ := Rd.open h2
  unfold maxLen at hc1 hc2
  have H3 := Lib.hid h3; have H4 := Lib.hid h4; clear h3 h4 h1 h2
  obtain ⟨res, hres⟩ : ∃ res, res = decide (xs = ys) := ⟨_, rfl⟩
  rw [← hres]
  have HR := Lib.hid hres; clear hres
  by_cases hlen : xs.length = ys.length
  · have hb : ((xs.length : Int) != (ys.length : Int)) = false := by simp [hlen]
    have HL := Lib.hid hlen
    obtain ⟨n, hn⟩ : ∃ n, n = xs.length := ⟨_, rfl⟩
    rw [← hlen] at hl2 hb ⊢
    rw [← hn] at hl1 hl2 hb ⊢
    have HN := Lib.hid hn; clear hlen hn
    go_enter Try.func30, Try.ntmps30
    go_wp2_with fail
    go_loopg [5] n (fun g i wr => ∃ (r m : Nat), r + g = n ∧ i = .int .i64 (r : Int) ∧ xs.take r = ys.take r ∧ wr = w.drewN m)
    case atStart => exact ⟨0, 0, by omega, rfl, by simp, rfl⟩
    case round =>
      obtain ⟨r, m, hg, rfl, ht, rfl⟩ := hrel
      have HT := Lib.hid ht; clear ht
      by_cases hlt : r < n
      · rcases H3.out with h0 | ⟨b, o, rfl, hc⟩
        · have := HN.out; rw [h0] at this; simp at this; omega
        · rcases H4.out with h0 | ⟨b', o', rfl, hc'⟩
          · have e1 := HN.out; have e2 := HL.out; rw [h0] at e2; simp only [List.length_nil] at e2; omega
          · have hx : r < xs.length := by rw [← HN.out]; exact hlt
            have hy : r < ys.length := by rw [← HL.out, ← HN.out]; exact hlt
            have hcell := hc r hx
            have hcell' := hc' r hy
            obtain ⟨x, hxx⟩ : ∃ x, x = xs.getD r 0 := ⟨_, rfl⟩
            obtain ⟨y, hyy⟩ : ∃ y, y = ys.getD r 0 := ⟨_, rfl⟩
            rw [← hxx] at hcell
            rw [← hyy] at hcell'
            have tx : xs.take (r + 1) = xs.take r ++ [x] := by rw [List.take_add_one, hxx]; simp [List.getD, hx]
            have ty : ys.take (r + 1) = ys.take r ++ [y] := by rw [List.take_add_one, hyy]; simp [List.getD, hy]
            have TX := Lib.hid tx; have TY := Lib.hid ty; clear hc hc' hxx hyy tx ty hx hy
            by_cases hxy : x = y
            · subst hxy
              go_wp2_with fail
              go_quiet (fail)
              go_wp2_with fail
              go_roundg (gk - 1)
              case measure => omega
              case rel => exact ⟨r + 1, m + nq, by omega, by go_num, by rw [TX.out, TY.out, HT.out], by first | rfl | rw [World.drewN_drewN]⟩
            · have hb2 : (x == y) = false := by simpa using hxy
              have hb3 : (x != y) = true := by simpa using hxy
              have hf : res = false := by
                rw [HR.out]
                simp only [decide_eq_false_iff_not]
                intro e; subst e
                have := TX.out.symm.trans TY.out
                simp at this
                exact hxy this
              have HF := Lib.hid hf; clear hf hxy
              go_wp2_with fail
              go_quiet (fail)
              go_wp2_with fail
              go_ret
              exact ⟨by rw [HF.out]; rfl, m + nq, by first | rfl | rw [World.drewN_drewN]⟩
      · have hrn : r = n := by omega
        have hf : res = true := by
          rw [HR.out]
          have := HT.out
          rw [hrn, HN.out, List.take_of_length_le (Nat.le_refl _), HL.out, List.take_of_length_le (Nat.le_refl _)] at this
          simpa using this
        have HF := Lib.hid hf; clear hf hrn
        go_wp2_with fail
        go_ret
        exact ⟨by rw [HF.out]; rfl, m, rfl⟩
  · have hb : ((xs.length : Int) != (ys.length : Int)) = true := by simp; omega
    have hf : res = false := by rw [HR.out]; simp; intro e; exact hlen (by rw [e])
    have HF := Lib.hid hf; clear hf hlen
    go_enter Try.func30, Try.ntmps30
    go_wp2_with fail
    go_ret
    exact ⟨by rw [HF.out]; rfl, 0, rfl⟩

set_option maxHeartbeats 400000 in
theorem equal64_q (v1 v2 : Value) (xs ys : List Int) (w : World) (h1 : Rd w v1 (u64s xs)) (h2 : Rd w v2 (u64s ys)) : Calls Try.prog 48 #[v1, v2] w (RetQ (.bool (decide (xs = ys))) w) := by
  obtain ⟨a1, c1, rfl, hl1, hc1, h3⟩ := Rd.open h1
  obtain ⟨a2, c2, rfl, hl2, hc2, h4⟩ := Rd.open h2
  unfold maxLen at hc1 hc2
  have H3 := Lib.hid h3; have H4 := Lib.hid h4; clear h3 h4 h1 h2
  obtain ⟨res, hres⟩ : ∃ res, res = decide (xs = ys) := ⟨_, rfl⟩
  rw [← hres]
  have HR := Lib.hid hres; clear hres
  by_cases hlen : xs.length = ys.length
  · have hb : ((xs.length : Int) != (ys.length : Int)) = false := by simp [hlen]
    have HL := Lib.hid hlen
    obtain ⟨n, hn⟩ : ∃ n, n = xs.length := ⟨_, rfl⟩
    rw [← hlen] at hl2 hb ⊢
    rw [← hn] at hl1 hl2 hb ⊢
    have HN := Lib.hid hn; clear hlen hn
    go_enter Try.func48, Try.ntmps48
    go_wp2_with fail
    go_loopg [13] n (fun g i wr => ∃ (r m : Nat), r + g = n ∧ i = .int .i64 (r : Int) ∧ xs.take r = ys.take r ∧ wr = w.drewN m)
    case atStart => exact ⟨0, 0, by omega, rfl, by simp, rfl⟩
    case round =>
      obtain ⟨r, m, hg, rfl, ht, rfl⟩ := hrel
      have HT := Lib.hid ht; clear ht
      by_cases hlt : r < n
      · rcases H3.out with h0 | ⟨b, o, rfl, hc⟩
        · have := HN.out; rw [h0] at this; simp at this; omega
        · rcases H4.out with h0 | ⟨b', o', rfl, hc'⟩
          · have e1 := HN.out; have e2 := HL.out; rw [h0] at e2; simp only [List.length_nil] at e2; omega
          · have hx : r < xs.length := by rw [← HN.out]; exact hlt
            have hy : r < ys.length := by rw [← HL.out, ← HN.out]; exact hlt
            have hcell := hc r hx
            have hcell' := hc' r hy
            obtain ⟨x, hxx⟩ : ∃ x, x = xs.getD r 0 := ⟨_, rfl⟩
            obtain ⟨y, hyy⟩ : ∃ y, y = ys.getD r 0 := ⟨_, rfl⟩
            rw [← hxx] at hcell
            rw [← hyy] at hcell'
            have tx : xs.take (r + 1) = xs.take r ++ [x] := by rw [List.take_add_one, hxx]; simp [List.getD, hx]
            have ty : ys.take (r + 1) = ys.take r ++ [y] := by rw [List.take_add_one, hyy]; simp [List.getD, hy]
            have TX := Lib.hid tx; have TY := Lib.hid ty; clear hc hc' hxx hyy tx ty hx hy
            by_cases hxy : x = y
            · subst hxy
              go_wp2_with fail
              go_quiet (fail)
              go_wp2_with fail
              go_roundg (gk - 1)
              case measure => omega
              case rel => exact ⟨r + 1, m + nq, by omega, by go_num, by rw [TX.out, TY.out, HT.out], by first | rfl | rw [World.drewN_drewN]⟩
            · have hb2 : (x == y) = false := by simpa using hxy
              have hb3 : (x != y) = true := by simpa using hxy
              have hf : res = false := by
                rw [HR.out]
                simp only [decide_eq_false_iff_not]
                intro e; subst e
                have := TX.out.symm.trans TY.out
                simp at this
                exact hxy this
              have HF := Lib.hid hf; clear hf hxy
              go_wp2_with fail
              go_quiet (fail)
              go_wp2_with fail
              go_ret
              exact ⟨by rw [HF.out]; rfl, m + nq, by first | rfl | rw [World.drewN_drewN]⟩
      · have hrn : r = n := by omega
        have hf : res = true := by
          rw [HR.out]
          have := HT.out
          rw [hrn, HN.out, List.take_of_length_le (Nat.le_refl _), HL.out, List.take_of_length_le (Nat.le_refl _)] at this
          simpa using this
        have HF := Lib.hid hf; clear hf hrn
        go_wp2_with fail
        go_ret
        exact ⟨by rw [HF.out]; rfl, m, rfl⟩
  · have hb : ((xs.length : Int) != (ys.length : Int)) = true := by simp; omega
    have hf : res = false := by rw [HR.out]; simp; intro e; exact hlen (by rw [e])
    have HF := Lib.hid hf; clear hf hlen
    go_enter Try.func48, Try.ntmps48
    go_wp2_with fail
    go_ret
    exact ⟨by rw [HF.out]; rfl, 0, rfl⟩

set_option maxHeartbeats 1000000 in
theorem rsame_ret (v1 v2 : Value) (x y : Ent) (w : World) (h1 : EntV w v1 x) (h2 : EntV w v2 y) (o1 : EntOk x) (o2 : EntOk y) : Calls Try.prog 38 #[v1, v2] w (RetIs (.bool (sameB x y)) w) := by
  obtain ⟨d1, m1, rfl, hd1, hm1⟩ := h1
  obtain ⟨d2, m2, rfl, hd2, hm2⟩ := h2
  obtain ⟨res, hres⟩ : ∃ res, res = sameB x y := ⟨_, rfl⟩
  rw [← hres]
  unfold sameB at hres
  obtain ⟨t1, k1, c1, s1, D1, M1⟩ := x
  obtain ⟨t2, k2, c2, s2, D2, M2⟩ := y
  have B1 := o1.data
  have B2 := o2.data
  simp only at hd1 hm1 hd2 hm2 B1 B2 hres ⊢
  have HR := Lib.hid hres; have HD1 := Lib.hid hd1; have HD2 := Lib.hid hd2; have HM1 := Lib.hid hm1; have HM2 := Lib.hid hm2
  clear hres hd1 hd2 hm1 hm2 o1 o2
  have hEW : Ext w ((w.alloc (.cells #[.int .u64 t1, .int .i64 k1, .int .u64 c1, .int .u64 s1, d1, m1] 67)).alloc (.cells #[.int .u64 t2, .int .i64 k2, .int .u64 c2, .int .u64 s2, d2, m2] 67)) := (Ext.alloc _ _).trans (Ext.alloc _ _)
  have HE := Lib.hid hEW
  have cv1 : (Go.convert 32 9 d1).run Try.prog ((w.alloc (.cells #[.int .u64 t1, .int .i64 k1, .int .u64 c1, .int .u64 s1, d1, m1] 67)).alloc (.cells #[.int .u64 t2, .int .i64 k2, .int .u64 c2, .int .u64 s2, d2, m2] 67)) = .ok (.string (strOfNums D1)) ((w.alloc (.cells #[.int .u64 t1, .int .i64 k1, .int .u64 c1, .int .u64 s1, d1, m1] 67)).alloc (.cells #[.int .u64 t2, .int .i64 k2, .int .u64 c2, .int .u64 s2, d2, m2] 67)) := (HD1.out.ext hEW).convert Try.underlying32 Try.underlying5 Try.underlying9
  have cv2 : (Go.convert 32 9 d2).run Try.prog ((w.alloc (.cells #[.int .u64 t1, .int .i64 k1, .int .u64 c1, .int .u64 s1, d1, m1] 67)).alloc (.cells #[.int .u64 t2, .int .i64 k2, .int .u64 c2, .int .u64 s2, d2, m2] 67)) = .ok (.string (strOfNums D2)) ((w.alloc (.cells #[.int .u64 t1, .int .i64 k1, .int .u64 c1, .int .u64 s1, d1, m1] 67)).alloc (.cells #[.int .u64 t2, .int .i64 k2, .int .u64 c2, .int .u64 s2, d2, m2] 67)) := (HD2.out.ext hEW).convert Try.underlying32 Try.underlying5 Try.underlying9
  have nm : ∀ W, Ext w W → Calls Try.prog 30 #[m1, m2] W fun e w' => e = .returned (.bool (decide (M1 = M2))) ∧ ∃ m, w' = W.drewN m := fun W hW =>
    rnums_q m1 m2 M1 M2 _ (HM1.out.ext hW) (HM2.out.ext hW)
  have NM := Lib.hid nm; clear nm hEW
  by_cases ht : t1 = t2
  case neg =>
    have bt : (t1 == t2) = false := by simpa using ht
    have HF : Hid (res = false) := Lib.hid (by rw [HR.out]; simp [ht])
    clear B1 B2
    go_enter Try.func38, Try.ntmps38
    go_wp2_with (first | (go_at_call 30; refine (NM.out _ HE.out).mono ?_; rintro e w' ⟨rfl, nq, rfl⟩))
    go_ret
    exact ⟨by rw [HF.out]; rfl, by first | exact HE.out | exact HE.out.trans (Ext.drewN _ _)⟩
  subst ht
  by_cases hk : k1 = k2
  case neg =>
    have bk : (k1 == k2) = false := by simpa using hk
    have HF : Hid (res = false) := Lib.hid (by rw [HR.out]; simp [hk])
    clear B1 B2
    go_enter Try.func38, Try.ntmps38
    go_wp2_with (first | (go_at_call 30; refine (NM.out _ HE.out).mono ?_; rintro e w' ⟨rfl, nq, rfl⟩))
    go_ret
    exact ⟨by rw [HF.out]; rfl, by first | exact HE.out | exact HE.out.trans (Ext.drewN _ _)⟩
  subst hk
  by_cases hc : c1 = c2
  case neg =>
    have bc : (c1 == c2) = false := by simpa using hc
    have HF : Hid (res = false) := Lib.hid (by rw [HR.out]; simp [hc])
    clear B1 B2
    go_enter Try.func38, Try.ntmps38
    go_wp2_with (first | (go_at_call 30; refine (NM.out _ HE.out).mono ?_; rintro e w' ⟨rfl, nq, rfl⟩))
    go_ret
    exact ⟨by rw [HF.out]; rfl, by first | exact HE.out | exact HE.out.trans (Ext.drewN _ _)⟩
  subst hc
  by_cases hs : s1 = s2
  case neg =>
    have bs : (s1 == s2) = false := by simpa using hs
    have HF : Hid (res = false) := Lib.hid (by rw [HR.out]; simp [hs])
    clear B1 B2
    go_enter Try.func38, Try.ntmps38
    go_wp2_with (first | (go_at_call 30; refine (NM.out _ HE.out).mono ?_; rintro e w' ⟨rfl, nq, rfl⟩))
    go_ret
    exact ⟨by rw [HF.out]; rfl, by first | exact HE.out | exact HE.out.trans (Ext.drewN _ _)⟩
  subst hs
  by_cases hd : D1 = D2
  case neg =>
    have bd : ((strOfNums D1).toList == (strOfNums D2).toList) = false := by rw [str_beq _ _ B1 B2]; simpa using hd
    have HF : Hid (res = false) := Lib.hid (by rw [HR.out]; simp [hd])
    clear B1 B2
    go_enter Try.func38, Try.ntmps38
    go_wp2_with (first | (go_at_call 30; refine (NM.out _ HE.out).mono ?_; rintro e w' ⟨rfl, nq, rfl⟩))
    go_ret
    exact ⟨by rw [HF.out]; rfl, by first | exact HE.out | exact HE.out.trans (Ext.drewN _ _)⟩
  have bd : ((strOfNums D1).toList == (strOfNums D2).toList) = true := by rw [str_beq _ _ B1 B2]; simpa using hd
  have HF : Hid (res = decide (M1 = M2)) := Lib.hid (by rw [HR.out]; simp [hd])
  clear B1 B2
  go_enter Try.func38, Try.ntmps38
  go_wp2_with (first | (go_at_call 30; refine (NM.out _ HE.out).mono ?_; rintro e w' ⟨rfl, nq, rfl⟩))
  go_ret
  exact ⟨by rw [HF.out]; rfl, by first | exact HE.out | exact HE.out.trans (Ext.drewN _ _)⟩

set_option maxHeartbeats 1000000 in
theorem same_ret (v1 v2 : Value) (x y : Ent) (w : World) (h1 : EntV w v1 x) (h2 : EntV w v2 y) (o1 : EntOk x) (o2 : EntOk y) : Calls Try.prog 47 #[v1, v2] w (RetIs (.bool (sameB x y)) w) := by
  obtain ⟨d1, m1, rfl, hd1, hm1⟩ := h1
  obtain ⟨d2, m2, rfl, hd2, hm2⟩ := h2
  obtain ⟨res, hres⟩ : ∃ res, res = sameB x y := ⟨_, rfl⟩
  rw [← hres]
  unfold sameB at hres
  obtain ⟨t1, k1, c1, s1, D1, M1⟩ := x
  obtain ⟨t2, k2, c2, s2, D2, M2⟩ := y
  have B1 := o1.data
  have B2 := o2.data
  simp only at hd1 hm1 hd2 hm2 B1 B2 hres ⊢
  have HR := Lib.hid hres; have HD1 := Lib.hid hd1; have HD2 := Lib.hid hd2; have HM1 := Lib.hid hm1; have HM2 := Lib.hid hm2
  clear hres hd1 hd2 hm1 hm2 o1 o2
  have hEW : Ext w ((w.alloc (.cells #[.int .u64 t1, .int .i64 k1, .int .u64 c1, .int .u64 s1, d1, m1] 67)).alloc (.cells #[.int .u64 t2, .int .i64 k2, .int .u64 c2, .int .u64 s2, d2, m2] 67)) := (Ext.alloc _ _).trans (Ext.alloc _ _)
  have HE := Lib.hid hEW
  have eq1 : ∀ W, Ext w W → Calls Try.prog 49 #[d1, d2] W fun e w' => e = .returned (.bool (decide (D1 = D2))) ∧ W = w' := by
    intro W hW
    refine (Try.bytes_Equal_strs d1 d2 (strOfNums D1) (strOfNums D2) _ ((HD1.out.ext hW).convert Try.underlying32 Try.underlying5 Try.underlying9) ((HD2.out.ext hW).convert Try.underlying32 Try.underlying5 Try.underlying9)).mono ?_
    rintro e w' ⟨rfl, rfl⟩
    exact ⟨by rw [str_beq _ _ B1 B2], rfl⟩
  have EQ1 := Lib.hid eq1; clear eq1
  have nm : ∀ W, Ext w W → Calls Try.prog 48 #[m1, m2] W fun e w' => e = .returned (.bool (decide (M1 = M2))) ∧ ∃ m, w' = W.drewN m := fun W hW =>
    equal64_q m1 m2 M1 M2 _ (HM1.out.ext hW) (HM2.out.ext hW)
  have NM := Lib.hid nm; clear nm hEW
  by_cases ht : t1 = t2
  case neg =>
    have bt : (t1 == t2) = false := by simpa using ht
    have HF : Hid (res = false) := Lib.hid (by rw [HR.out]; simp [ht])
    clear B1 B2
    go_enter Try.func47, Try.ntmps47
    go_wp2_with (first | (go_at_call 48; refine (NM.out _ HE.out).mono ?_; rintro e w' ⟨rfl, nq, rfl⟩) | (go_at_call 49; refine (EQ1.out _ HE.out).mono ?_; rintro e w' ⟨rfl, rfl⟩))
    go_ret
    exact ⟨by rw [HF.out]; rfl, by first | exact HE.out | exact HE.out.trans (Ext.drewN _ _)⟩
  subst ht
  by_cases hk : k1 = k2
  case neg =>
    have bk : (k1 == k2) = false := by simpa using hk
    have HF : Hid (res = false) := Lib.hid (by rw [HR.out]; simp [hk])
    clear B1 B2
    go_enter Try.func47, Try.ntmps47
    go_wp2_with (first | (go_at_call 48; refine (NM.out _ HE.out).mono ?_; rintro e w' ⟨rfl, nq, rfl⟩) | (go_at_call 49; refine (EQ1.out _ HE.out).mono ?_; rintro e w' ⟨rfl, rfl⟩))
    go_ret
    exact ⟨by rw [HF.out]; rfl, by first | exact HE.out | exact HE.out.trans (Ext.drewN _ _)⟩
  subst hk
  by_cases hc : c1 = c2
  case neg =>
    have bc : (c1 == c2) = false := by simpa using hc
    have HF : Hid (res = false) := Lib.hid (by rw [HR.out]; simp [hc])
    clear B1 B2
    go_enter Try.func47, Try.ntmps47
    go_wp2_with (first | (go_at_call 48; refine (NM.out _ HE.out).mono ?_; rintro e w' ⟨rfl, nq, rfl⟩) | (go_at_call 49; refine (EQ1.out _ HE.out).mono ?_; rintro e w' ⟨rfl, rfl⟩))
    go_ret
    exact ⟨by rw [HF.out]; rfl, by first | exact HE.out | exact HE.out.trans (Ext.drewN _ _)⟩
  subst hc
  by_cases hs : s1 = s2
  case neg =>
    have bs : (s1 == s2) = false := by simpa using hs
    have HF : Hid (res = false) := Lib.hid (by rw [HR.out]; simp [hs])
    clear B1 B2
    go_enter Try.func47, Try.ntmps47
    go_wp2_with (first | (go_at_call 48; refine (NM.out _ HE.out).mono ?_; rintro e w' ⟨rfl, nq, rfl⟩) | (go_at_call 49; refine (EQ1.out _ HE.out).mono ?_; rintro e w' ⟨rfl, rfl⟩))
    go_ret
    exact ⟨by rw [HF.out]; rfl, by first | exact HE.out | exact HE.out.trans (Ext.drewN _ _)⟩
  subst hs
  by_cases hd : D1 = D2
  case neg =>
    have bd : decide (D1 = D2) = false := by simpa using hd
    have HF : Hid (res = false) := Lib.hid (by rw [HR.out]; simp [hd])
    clear B1 B2
    go_enter Try.func47, Try.ntmps47
    go_wp2_with (first | (go_at_call 48; refine (NM.out _ HE.out).mono ?_; rintro e w' ⟨rfl, nq, rfl⟩) | (go_at_call 49; refine (EQ1.out _ HE.out).mono ?_; rintro e w' ⟨rfl, rfl⟩))
    go_ret
    exact ⟨by rw [HF.out]; rfl, by first | exact HE.out | exact HE.out.trans (Ext.drewN _ _)⟩
  have bd : decide (D1 = D2) = true := by simpa using hd
  have HF : Hid (res = decide (M1 = M2)) := Lib.hid (by rw [HR.out]; simp [hd])
  clear B1 B2
  go_enter Try.func47, Try.ntmps47
  go_wp2_with (first | (go_at_call 48; refine (NM.out _ HE.out).mono ?_; rintro e w' ⟨rfl, nq, rfl⟩) | (go_at_call 49; refine (EQ1.out _ HE.out).mono ?_; rintro e w' ⟨rfl, rfl⟩))
  go_ret
  exact ⟨by rw [HF.out]; rfl, by first | exact HE.out | exact HE.out.trans (Ext.drewN _ _)⟩

end Go.Proofs.Ytjodgbabfhcilaa
