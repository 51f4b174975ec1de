/- tabellionref01.Reader: Raw, End. -/
import Derived.Test.YtgefphfnicjbiaaRfn
import Derived.Test.YtgefphfnicjbiaaRdt
import Derived.Test.YtgefphfnicjbiaaBun2
set_option linter.unusedSimpArgs false
set_option linter.unusedVariables false
namespace Go.Proofs.Ytgefphfnicjbiaa
open Go Go.RowKit

theorem rdDig_err' : ∀ (k : Nat) (f : Bool) (n : Nat) (bs : List Int) (e : Int), rdDig k f n bs = .error e → e ≠ 0
  | 0, _, _, _, _, h => by simp [rdDig] at h
  | k + 1, _, _, [], _, h => by simp [rdDig] at h; omega
  | k + 1, f, n, c :: r, e, h => by
    simp only [rdDig] at h
    split at h
    · cases h; decide
    · exact rdDig_err' k _ _ _ _ h
theorem rdNum_err' {bs : List Int} {e : Int} (h : rdNum bs = .error e) : e ≠ 0 := by
  cases bs with
  | nil => simp [rdNum] at h; omega
  | cons k r =>
    simp only [rdNum] at h
    split at h
    · cases h; decide
    · split at h
      · rename_i heq; cases h; exact rdDig_err' _ _ _ _ _ heq
      · cases h

set_option maxHeartbeats 1000000 in
theorem rend_c (b : Nat) (v : Value) (full : List Int) (a : Nat) (e : Int) (w : World) (h : RR w b v full a e) :
    Calls Try.prog 49 #[.pointer (some ⟨b, 0, none⟩)] w fun en w' => en = .returned (.int .i64 (if e = 0 ∧ full.drop a ≠ [] then 5 else e)) ∧ w.grownBy w' (some b) := by
  obtain ⟨ad, c, rfl, hc1, hc2, hc3⟩ := Rd.open h.rd
  have c0 := h.blk.cell 0 rfl
  have c1 := h.blk.cell 1 rfl
  have c2 := h.blk.cell 2 rfl
  have H := Lib.hid h
  have hle := h.le
  clear h hc3
  by_cases he : e = 0
  · subst he
    by_cases hlt : a < full.length
    · have hd : (if (0 : Int) = 0 ∧ full.drop a ≠ [] then (5 : Int) else 0) = 5 := if_pos ⟨rfl, by intro h; have := congrArg List.length h; simp at this; omega⟩
      rw [hd]
      clear hd
      go_enter Try.func49, Try.ntmps49
      go_wp2
      go_region
      go_wp2_with fail
      refine (fail_c b _ full a a 0 5 _ H.out.drew hle).mono ?_
      rintro en w2 ⟨rfl, hg, h2⟩
      have HG := Lib.hid hg; clear hg h2
      go_wp2
      go_ret
      exact ⟨rfl, grown_trans1 (grown_drew (grown_refl _ _)) HG.out⟩
    · have hd : (if (0 : Int) = 0 ∧ full.drop a ≠ [] then (5 : Int) else 0) = 0 := if_neg (by rintro ⟨_, h⟩; exact h (List.drop_eq_nil_of_le (by omega)))
      rw [hd]
      clear hd
      go_enter Try.func49, Try.ntmps49
      go_wp2
      go_region
      go_wp2
      go_ret
      exact ⟨rfl, grown_drew (grown_refl _ _)⟩
  · have hd : (if e = 0 ∧ full.drop a ≠ [] then (5 : Int) else e) = e := if_neg (fun h => he h.1)
    rw [hd]
    have hne : (e != 0) = true := by simpa using he
    clear hd
    go_enter Try.func49, Try.ntmps49
    go_wp2
    go_ret
    exact ⟨rfl, grown_refl _ _⟩

theorem RR.ext9 {w w' : World} {b : Nat} {v : Value} {full : List Int} {a : Nat} {e : Int} (h : RR w b v full a e) (hg : w.grownBy w' none) : RR w' b v full a e :=
  ⟨h.blk.grown hg (by simp), h.rd.grown hg (fun _ _ _ _ _ => by simp), h.le, h.off⟩
theorem grown_none {w w' : World} {r : Option Nat} (h : w.grownBy w' none) : w.grownBy w' r := ⟨h.os, h.tape, h.output, h.size, fun k hk _ => h.block k hk (by simp)⟩
set_option maxHeartbeats 2000000 in
theorem rraw_c (b : Nat) (v : Value) (full : List Int) (a : Nat) (e most : Int) (w : World) (hb8 : B8 full) (hl : full.length ≤ 140737488355000) (hm : 0 ≤ most ∧ most ≤ 9223372036854775807) (h : RR w b v full a e) :
    Calls Try.prog 47 #[.pointer (some ⟨b, 0, none⟩), .int .i64 most] w (ROut b v full a (NewRd w) (.slice none 0 0) (stuckR e (rdRaw most (full.drop a))) w) := by
  obtain ⟨X, hX⟩ : ∃ X, X = stuckR e (rdRaw most (full.drop a)) := ⟨_, rfl⟩
  rw [← hX]
  have c1 := h.blk.cell 1 rfl
  have H := Lib.hid h
  have hle := h.le
  have hb := h.blk.lt
  obtain ⟨ad, n, c, rfl⟩ := Rd.shape h.rd
  clear h
  go_enter Try.func47, Try.ntmps47
  go_wp2_with fail
  refine (rnum_c b _ full a e w hb8 (by omega) H.out).mono ?_
  rintro en w1 ⟨hg1, h1⟩
  by_cases he : e = 0
  · subst he
    simp only [stuckR, if_true] at hX h1
    cases hY : rdNum (full.drop a) with
    | error no =>
      rw [hY] at h1
      obtain ⟨rfl, h1⟩ := h1
      have hne : (no != 0) = true := by have := rdNum_err' hY; simpa using this
      have HX : Hid (X = .error no) := Lib.hid (by rw [hX]; simp [rdRaw, hY])
      have H1 := Lib.hid h1; clear h1 hX hY c1
      go_wp2
      go_ret2
      rw [HX.out]
      exact ⟨hg1, rfl, H1.out⟩
    | ok y =>
      obtain ⟨x, r⟩ := y
      rw [hY] at h1
      obtain ⟨_, a1, rfl, rfl, h1, rfl⟩ := h1
      obtain ⟨hx0, hrl⟩ := rdNum_ok hY
      obtain ⟨N, rfl⟩ := Int.eq_ofNat_of_zero_le hx0
      simp only [rdRaw, hY, Int.max_eq_left hm.1] at hX
      have d0 := h1.blk.cell 0 rfl
      have d1 := h1.blk.cell 1 rfl
      have g1 := h1.blk.free 1
      have hle1 := h1.le
      obtain ⟨ad', c', hv, hn1, hn2, hn3⟩ := Rd.open h1.rd
      cases hv
      have H1 := Lib.hid h1; have HG1 := Lib.hid hg1
      clear h1 hY c1 hg1 hn3 hrl
      by_cases h4 : most < (N : Int)
      · rw [if_pos h4] at hX
        have HX := Lib.hid hX; clear hX
        go_wp2_with fail
        refine (fail_c b _ full a1 a 0 4 w1 H1.out hle).mono ?_
        rintro en w2 ⟨rfl, hg, h2⟩
        have H2 := Lib.hid h2; clear h2
        go_wp2
        go_ret2
        rw [HX.out]
        exact ⟨grown_trans1 HG1.out hg, rfl, H2.out⟩
      · rw [if_neg h4] at hX
        by_cases h2 : ((full.drop a1).length : Int) < N
        · rw [if_pos h2] at hX
          have HX := Lib.hid hX; clear hX
          rw [List.length_drop] at h2
          go_wp2_with fail
          go_region
          go_wp2_with fail
          refine (fail_c b _ full a1 a 0 2 _ H1.out.drew hle).mono ?_
          rintro en w2 ⟨rfl, hg, h2⟩
          have H2 := Lib.hid h2; clear h2
          go_wp2
          go_ret2
          rw [HX.out]
          exact ⟨grown_trans1 (grown_drew HG1.out) hg, rfl, H2.out⟩
        · rw [if_neg h2] at hX
          have HX := Lib.hid hX; clear hX
          rw [List.length_drop] at h2
          go_wp2_with fail
          go_region
          go_wp2_with fail
          have hN : N ≤ full.length - a1 := by omega
          have hN8 : a1 + N ≤ full.length := by omega
          have HT := Lib.hid (((H1.out.drew.rd).drop hle1).take (by rw [List.length_drop]; exact hN))
          have D0 := Lib.hid d0; have D1 := Lib.hid d1
          have w64 : IntKind.i64.wrap (N : Int) = (N : Int) := by rw [IntKind.wrap_i64]; omega
          have w65 : IntKind.i64.wrap ((a1 : Int) + (N : Int)) = ((a1 + N : Nat) : Int) := by rw [IntKind.wrap_i64]; omega
          obtain ⟨vs, hvs⟩ : ∃ vs, vs = Value.slice (if c = a1 then ad else ad.map (·.add a1)) N (c - a1) := ⟨_, rfl⟩
          rw [← hvs] at HT
          have HBL : Hid (∀ w3, Ext w1.drew.drew w3 → w3.cell? ⟨b, 0, none⟩ = some (.slice ad full.length c) ∧ w3.cell? ⟨b, 1, none⟩ = some (.int .i64 (a1 : Int))) := Lib.hid fun w3 hE => ⟨hE.cell D0.out, hE.cell D1.out⟩
          have H1d := Lib.hid H1.out.drew
          have HG1d : Hid (w.grownBy w1.drew (some b)) := Lib.hid (grown_drew HG1.out)
          clear d0 d1 D0 D1 g1 HG1 H1
          generalize w1.drew = W at *
          rcases Decidable.em (c = a1) with hca | hca
          (subst c; simp only [if_true, Nat.sub_self] at hvs)
          rotate_left 1
          rw [if_neg hca] at hvs
          rotate_left 1
          all_goals subst hvs
          all_goals
            apply Mono.region1 17 Ext [.rel (fun v w => ∃ k, v = .slice (some ⟨k, 0, none⟩) 0 0 ∧ W.heap.size ≤ k ∧ w.ownsRow W.heap.size 5 1 v 0 []), .is _, .is _, .is _, .is _, .is _, .is _, .is _, .is _, .is _, .is _, .is _, .is _, .is _, .is _, .is _, .is _] (by kernel_rfl) Ext.refl (fun _ _ _ => Ext.trans) (by kernel_rfl) rfl rfl ⟨fun v w w' ⟨k, h1, h2, h3⟩ hE => ⟨k, h1, h2, own_ext h3 hE⟩, trivial⟩
            focus
              refine Mono.step_rel (Mono.obl_mk fun w3 hE3 _ K hK => ?_) fun v55 => ?_
              · go_wp2_with fail
                simp only [Act.put, List.setIfInBounds_toArray, List.set_cons_succ, List.set_cons_zero] at hK
                exact hK _ _ (Ext.alloc _ _) (Mono.rel_mk ⟨w3.heap.size, rfl, hE3.size, own_base (own_lit w3 [] 5 (by simp)) hE3.size⟩)
              simp only [Act.put, List.setIfInBounds_toArray, List.set_cons_succ, List.set_cons_zero]
              iterate 16 (apply Mono.step_is; (· refine Mono.obl_mk fun w3 hE3 _ K hK => ?_; obtain ⟨c0, c1⟩ := HBL.out w3 hE3; go_wp2_with fail; simp only [Act.put, List.setIfInBounds_toArray, List.set_cons_succ, List.set_cons_zero] at hK; exact hK _ _ (Ext.refl _) (Mono.is_rfl _ _)); simp only [Act.put, List.setIfInBounds_toArray, List.set_cons_succ, List.set_cons_zero])
              refine Mono.step_end fun w3 hE3 hkn => ?_
              obtain ⟨⟨k, hk1, hk2, hk3⟩, _⟩ := hkn
              simp only [List.drop_succ_cons, List.drop_zero]
              have HK3 := Lib.hid hk3; have HE3 := Lib.hid hE3
              clear hk3
              subst hk1
              go_wp2_with (at_builtin; go_loud (refine wpList_append_rd rfl (.tmp 55) (.tmp 71) _ rfl el8 W.heap.size _ 0 [] (u8s ((full.drop a1).take N)) rfl HK3.out _ rfl (HT.out.ext ((Ext.drew _).trans HE3.out)) (u8s_one _) (by rw [u8s_len]; simp; omega) (by rw [u8s_len]; unfold maxLen; simp; omega) HE3.out.size ?_))
              intro v9 w9 ho9 hg9
              have hg9' : W.grownBy w9 none := grown_trans (r := none) (Ext.grownBy ((Ext.drew _).trans HE3.out) none) hg9 (.inr fun i hi => by simp [Value.ownBlock] at hi; omega)
              have h9 := H1d.out.ext9 hg9'
              have n9 := newRd_own ho9 (w := w) HG1d.out.size
              have r9 := h9.setAt (a2 := a1 + N) hN8
              have n9' := n9.grown hb (grown_set w9 b 1 (.int .i64 ((a1 + N : Nat) : Int)))
              have f9 := h9.blk.free 1
              have e9 := h9.blk.cell 1 rfl
              obtain ⟨a9, m9, q9, rfl⟩ := Rd.shape (Rd.of_own ho9)
              have g9 : w.grownBy w9 (some b) := grown_trans1 HG1d.out (grown_none hg9')
              have R9 := Lib.hid r9; have N9 := Lib.hid n9'; have G9 := Lib.hid g9
              clear ho9 hg9 hg9' h9 n9 r9 n9' g9
              go_wp2
              go_ret2
              rw [HX.out]
              simp only [Int.toNat_natCast, List.drop_drop]
              exact ⟨grown_trans1 G9.out (grown_set w9 b 1 _), _, a1 + N, rfl, N9.out, R9.out, rfl⟩
  · simp only [stuckR, if_neg he] at hX h1
    obtain ⟨rfl, h1⟩ := h1
    have hne : (e != 0) = true := by simpa using he
    have HX := Lib.hid hX; have H1 := Lib.hid h1
    clear h1 hX c1
    go_wp2
    go_ret2
    rw [HX.out]
    exact ⟨hg1, rfl, H1.out⟩
end Go.Proofs.Ytgefphfnicjbiaa
