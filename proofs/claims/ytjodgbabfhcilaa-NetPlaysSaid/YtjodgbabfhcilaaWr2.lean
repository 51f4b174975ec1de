/- msg.writer: members, entries. PRINTED BY gen/wmeth.py -/
import Derived.Test.YtjodgbabfhcilaaBun6
set_option linter.unusedSimpArgs false
set_option linter.unusedVariables false
namespace Go.Proofs.Ytjodgbabfhcilaa
open Go Go.RowKit

set_option maxHeartbeats 4000000 in
theorem wmemM (B wb mb j : Nat) (xs : List Int) (ia : Option Addr) (im ic : Nat) (bs : List Int) (w : World) (hws : WS w B wb bs) (hmb : mb < B) (hm : w.cell? ⟨mb, j, none⟩ = some (.slice ia im ic)) (hr : ∀ W, Below B w W → Rd W (.slice ia im ic) (u64s xs)) (hx : B64 xs) (hl : bs.length ≤ 1000000) :
    Calls Try.prog 72 #[ptr wb, .pointer (some ⟨mb, j, none⟩)] w (WM B wb bs (if membersB xs then some (numB xs.length ++ xs.flatMap (fun m => numB m.toNat)) else none) w) := by
  obtain ⟨X, hX⟩ : ∃ X : Option (List Int), X = if membersB xs then some (numB xs.length ++ xs.flatMap (fun m => numB m.toNat)) else none := ⟨_, rfl⟩
  rw [← hX]
  obtain ⟨hBwb, hBW, wv, hb, ho⟩ := hws
  obtain ⟨va, vn, vc, rfl⟩ := own_shape ho
  have hmw : mb < w.heap.size := by omega
  have HX := Lib.hid hX; have HB := Lib.hid hb; have HO := Lib.hid ho
  clear hX hb ho
  have hlen : im = xs.length := by obtain ⟨a, c, h, _⟩ := hr w (Below.refl _ _); cases h; exact u64s_len _
  subst hlen
  have HM0 := Lib.hid hm
  have HR := Lib.hid hr; have H64 := Lib.hid hx
  clear hr hx
  cases hmm : membersB xs with
  | false =>
    have HX1 : Hid (X = none) := Lib.hid (by rw [HX.out, hmm]; rfl)
    go_enter Try.func72, Try.ntmps72
    go_wp2_with fail
    refine (members_ret _ xs w (HR.out w (Below.refl _ _))).mono ?_
    rintro en w1 ⟨rfl, hE1⟩
    have HE1 := Lib.hid hE1; clear hE1
    rw [hmm]
    clear hmm
    go_wp2_with fail
    refine (mought_c false 1 w1).mono ?_
    rintro en w2 ⟨rfl, rfl⟩
    refine ⟨rfl, Below.mono HE1.out hBW, ?_⟩
    rw [HX1.out]
  | true =>
    have HX1 : Hid (X = some (numB xs.length ++ xs.flatMap (fun m => numB m.toNat))) := Lib.hid (by rw [HX.out, hmm]; rfl)
    have h7 : xs.length ≤ 7 := by
      rcases memGo_len xs 0 (by omega) hmm with h | h
      · omega
      · subst h; simp
    have hw : IntKind.u64.wrap (xs.length : Int) = (xs.length : Int) := by rw [IntKind.wrap_u64]; omega
    have h9 := numB_len_le xs.length
    go_enter Try.func72, Try.ntmps72
    go_wp2_with fail
    refine (members_ret _ xs w (HR.out w (Below.refl _ _))).mono ?_
    rintro en w1 ⟨rfl, hE1⟩
    have HLw := Lib.hid (Below.mono hE1 hBW)
    have HB1 := Lib.hid (HB.out.ext hE1)
    have HO1 := Lib.hid (own_ext HO.out hE1)
    replace hm := hE1.cell hm
    replace hmw := Nat.lt_of_lt_of_le hmw hE1.size
    replace hBW := Nat.le_trans hBW hE1.size
    clear hE1 HB HO
    rw [hmm]
    clear hmm
    go_wp2_with fail
    refine (mought_c true 1 w1).mono ?_
    rintro en w2 ⟨rfl, rfl⟩
    have hby1 : (bs.length + (u8s (numB xs.length)).length) * 1 ≤ 140737488355328 := by rw [u8s_len]; omega
    have hby2 : bs.length + (u8s (numB xs.length)).length ≤ maxLen := by rw [u8s_len]; unfold maxLen; omega
    obtain ⟨rowb, hrowb⟩ : ∃ o, o = (Value.slice va vn vc).ownBlock := ⟨_, rfl⟩
    have hown2 : ∀ t ∈ rowb.toList, B ≤ t := by
      intro t ht
      rw [hrowb] at ht
      cases hmv : (Value.slice va vn vc).ownBlock with
      | none => rw [hmv] at ht; cases ht
      | some q => rw [hmv] at ht; simp at ht; subst ht; exact own_block HO1.out _ hmv
    have hown3 : ∀ t ∈ rowb.toList, t < w2.heap.size := by
      intro t ht
      rw [hrowb] at ht
      cases hmv : (Value.slice va vn vc).ownBlock with
      | none => rw [hmv] at ht; cases ht
      | some q => rw [hmv] at ht; simp at ht; subst ht; exact (HO1.out.lt _ hmv).2
    have hwb : wb ∉ rowb.toList := by
      intro hm
      have := own_ne HO1.out HB1.out (by decide)
      rw [hrowb] at hm
      cases hmv : (Value.slice va vn vc).ownBlock with
      | none => rw [hmv] at hm; cases hm
      | some q => rw [hmv] at hm this; simp at hm; subst hm; exact this rfl
    have hn1 : ∀ q, q < B → q ∉ rowb.toList := fun q hq hm => by have := hown2 _ hm; omega
    have HROW := Lib.hid hrowb
    clear hrowb
    go_upto_region 1 with fail
    apply Mono.region2 14 11 Ext (Chg rowb.toList) [.is _, .is _, .is _, .is _, .is _, .is _, .is _, .is _, .is _, .is _, .rel (NewB w2.heap.size (numB xs.length)), .rel (fun v w' => w'.ownsRow B 5 1 v (bs.length + (u8s (numB xs.length)).length) (u8s bs ++ u8s (numB xs.length))), .is _, .is _] (by kernel_rfl) ⟨fun _ _ h => Chg.ext h, fun _ _ _ => Ext.trans, fun _ _ _ => Chg.trans⟩ (Ext.refl _) (by kernel_rfl) rfl rfl ⟨fun v wa wc hv hE => newB_chg hv hE hown3, fun v wa wc hv hE => own_ext hv hE, trivial⟩
    focus
      iterate 10 (apply Mono.step_is; (· refine Mono.obl_quiet (by decide) fun w9 hE9 _ K hK => ?_; (have cb := (HB1.out.drew.chg hE9 hwb).cell 0 rfl); (have cm := cell_chg (Chg.drew.trans hE9) hm (hn1 _ hmb)); go_wp2_with fail; simp only [Act.put, List.setIfInBounds_toArray, List.set_cons_succ, List.set_cons_zero] at hK; exact hK _ _ (Ext.refl _) (Mono.is_rfl _ _)); simp only [Act.put, List.setIfInBounds_toArray, List.set_cons_succ, List.set_cons_zero])
      refine Mono.step_rel (Mono.obl_quiet (by decide) fun w9 hE9 _ K hK => ?_) fun v43 => ?_
      · (have cm := cell_chg (Chg.drew.trans hE9) hm (hn1 _ hmb))
        go_wp2_with fail
        refine (num_ret xs.length w9 (by omega)).mono ?_
        rintro e w10 ⟨v4, rfl, ho4, hE4⟩
        have HO4 := Lib.hid ho4; clear ho4
        go_wp2_with fail
        simp only [Act.put, List.setIfInBounds_toArray, List.set_cons_succ, List.set_cons_zero] at hK
        exact hK _ _ hE4 (Mono.rel_mk ⟨Rd.of_own HO4.out, (From.own HO4.out).mono hE9.size⟩)
      simp only [Act.put, List.setIfInBounds_toArray, List.set_cons_succ, List.set_cons_zero]
      refine Mono.step_rel (Mono.obl_loud fun w9 hE9 hkn K hK => ?_) fun v44 => ?_
      · have HN := Lib.hid (hkn.1 (by kernel_rfl))
        clear hkn
        have HOW := Lib.hid (own_ext (HO1.out.drew) hE9)
        go_wp2_with (at_builtin; refine wpList_append_rd rfl (.tmp 15) (.tmp 21) _ rfl el8 B (.slice va vn vc) (bs.length) (u8s bs) (u8s (numB xs.length)) rfl HOW.out _ rfl HN.out.1 (by intro u hu; simp only [u8s, List.mem_map] at hu; obtain ⟨_, _, rfl⟩ := hu; rfl) hby1 hby2 (Nat.le_trans hBW hE9.size) ?_)
        intro v' w' g1 g2
        simp only [Act.put, List.setIfInBounds_toArray, List.set_cons_succ, List.set_cons_zero] at hK
        rw [← HROW.out] at g2
        exact hK _ _ (Chg.grown g2) (Mono.rel_mk g1)
      simp only [Act.put, List.setIfInBounds_toArray, List.set_cons_succ, List.set_cons_zero]
      iterate 2 (apply Mono.step_is; (· refine Mono.obl_quiet (by decide) fun w9 hE9 _ K hK => ?_; go_wp2_with fail; simp only [Act.put, List.setIfInBounds_toArray, List.set_cons_succ, List.set_cons_zero] at hK; exact hK _ _ (Ext.refl _) (Mono.is_rfl _ _)); simp only [Act.put, List.setIfInBounds_toArray, List.set_cons_succ, List.set_cons_zero])
      refine Mono.step_end fun w9 hE9 hkn => ?_
      obtain ⟨_, ho9, _⟩ := hkn
      simp only [List.drop_succ_cons, List.drop_zero]
      replace hE9 : Chg rowb.toList w2 w9 := Chg.drew.trans hE9
      have hB9 := HB1.out.chg hE9 hwb
      have hsz9 := hE9.size
      obtain ⟨a9, n9, c9, rfl⟩ := own_shape ho9
      have cb := hB9.cell 0 rfl
      have fb := hB9.free 0
      have hne9 := own_ne ho9 hB9 (by decide)
      have hB10 := hB9.set 0 (.slice a9 n9 c9)
      simp only [List.setIfInBounds_toArray, List.set_cons_zero] at hB10
      have ho10 := own_set ho9 wb 0 (.slice a9 n9 c9) hne9
      have hL9 : Below B w2 w9 := ⟨hE9.os, hE9.tape, hE9.output, hE9.size, fun k hk => hE9.block k (Nat.lt_of_lt_of_le hk hBW) (hn1 k hk)⟩
      have hL10 := below_set hL9 wb 0 (.slice a9 n9 c9) hBwb
      have hws : WS (w9.setCell ⟨wb, 0, none⟩ (.slice a9 n9 c9)) B wb (bs ++ (numB xs.length)) := by
        refine ⟨hBwb, Nat.le_trans hBW (by simpa [World.setCell] using hsz9), _, hB10, ?_⟩
        rw [u8s_app, u8s_len] at ho10
        rwa [List.length_append]
      have HWS := Lib.hid hws; have HL10 := Lib.hid hL10
      clear hws hL10 hL9 ho10 ho9 hB10 hB9 hne9
      have HLW := Lib.hid (HLw.out.trans HL10.out)
      clear HL10
      have hm3 := below_cell HLW.out hmb ((HM0.out))
      go_upto_region 2 with fail
      clear cb fb hm
      generalize w9.setCell ⟨wb, 0, none⟩ (.slice a9 n9 c9) = w3 at *
      clear HB1 HO1 HROW hown2 hown3 hwb hn1 hby1 hby2 hE9 hsz9
      go_wp2_with fail
      go_loopg [29] xs.length (fun g i wr => ∃ (k : Nat) (ws : List Int), k + g = xs.length ∧ i = .int .i64 (k : Int) ∧ Below B w wr ∧ WS wr B wb ws ∧ ws = bs ++ numB xs.length ++ (xs.take k).flatMap (fun m => numB m.toNat) ∧ ws.length ≤ 1000009 + 9 * k)
      case atStart => exact ⟨0, _, by omega, rfl, HLW.out, HWS.out, by simp, by simp; omega⟩
      case round =>
        obtain ⟨k, ws, hk, rfl, hL, ⟨_, hBW, wv, hb, ho⟩, hws, hwl⟩ := hrel
        obtain ⟨va, vn, vc, rfl⟩ := own_shape ho
        obtain ⟨a1, c1, heq, _, _, h3⟩ := Rd.open (HR.out wr hL)
        cases heq
        have HL := Lib.hid hL; have HB := Lib.hid hb; have HO := Lib.hid ho; have HWL := Lib.hid hws
        clear hL hb ho hws
        by_cases hlt : k < xs.length
        · rcases h3 with h0 | ⟨b, o, rfl, hc⟩
          · rw [h0] at hlt; simp at hlt
          · have hcell := hc k hlt
            obtain ⟨x, hxx⟩ : ∃ x, xs[k]? = some x := ⟨_, List.getElem?_eq_getElem hlt⟩
            rw [show xs.getD k 0 = x by simp [List.getD, hxx]] at hcell
            have hux := H64.out x (List.mem_of_getElem? hxx)
            have tx : xs.take (k + 1) = xs.take k ++ [x] := by rw [List.take_add_one, hxx]; rfl
            have TX := Lib.hid tx
            have h9x := numB_len_le x.toNat
            have hby1 : (ws.length + (u8s (numB x.toNat)).length) * 1 ≤ 140737488355328 := by rw [u8s_len]; omega
            have hby2 : ws.length + (u8s (numB x.toNat)).length ≤ maxLen := by rw [u8s_len]; unfold maxLen; omega
            clear hc hxx tx
            obtain ⟨rowb, hrowb⟩ : ∃ o, o = (Value.slice va vn vc).ownBlock := ⟨_, rfl⟩
            have hown2 : ∀ t ∈ rowb.toList, B ≤ t := by
              intro t ht
              rw [hrowb] at ht
              cases hmv : (Value.slice va vn vc).ownBlock with
              | none => rw [hmv] at ht; cases ht
              | some q => rw [hmv] at ht; simp at ht; subst ht; exact own_block HO.out _ hmv
            have hown3 : ∀ t ∈ rowb.toList, t < wr.heap.size := by
              intro t ht
              rw [hrowb] at ht
              cases hmv : (Value.slice va vn vc).ownBlock with
              | none => rw [hmv] at ht; cases ht
              | some q => rw [hmv] at ht; simp at ht; subst ht; exact (HO.out.lt _ hmv).2
            have hwb : wb ∉ rowb.toList := by
              intro hm
              have := own_ne HO.out HB.out (by decide)
              rw [hrowb] at hm
              cases hmv : (Value.slice va vn vc).ownBlock with
              | none => rw [hmv] at hm; cases hm
              | some q => rw [hmv] at hm this; simp at hm; subst hm; exact this rfl
            have hn1 : ∀ q, q < B → q ∉ rowb.toList := fun q hq hm => by have := hown2 _ hm; omega
            have HROW := Lib.hid hrowb
            clear hrowb
            go_upto_region 5 with fail
            apply Mono.region2 10 7 Ext (Chg rowb.toList) [.is _, .is _, .is _, .is _, .is _, .is _, .rel (NewB wr.heap.size (numB x.toNat)), .rel (fun v w' => w'.ownsRow B 5 1 v (ws.length + (u8s (numB x.toNat)).length) (u8s ws ++ u8s (numB x.toNat))), .is _, .is _] (by kernel_rfl) ⟨fun _ _ h => Chg.ext h, fun _ _ _ => Ext.trans, fun _ _ _ => Chg.trans⟩ (Ext.refl _) (by kernel_rfl) rfl rfl ⟨fun v wa wc hv hE => newB_chg hv hE hown3, fun v wa wc hv hE => own_ext hv hE, trivial⟩
            focus
              iterate 6 (apply Mono.step_is; (· refine Mono.obl_quiet (by decide) fun w9 hE9 _ K hK => ?_; (have cb := (HB.out.drew.chg hE9 hwb).cell 0 rfl); (skip); go_wp2_with fail; simp only [Act.put, List.setIfInBounds_toArray, List.set_cons_succ, List.set_cons_zero] at hK; exact hK _ _ (Ext.refl _) (Mono.is_rfl _ _)); simp only [Act.put, List.setIfInBounds_toArray, List.set_cons_succ, List.set_cons_zero])
              refine Mono.step_rel (Mono.obl_quiet (by decide) fun w9 hE9 _ K hK => ?_) fun v43 => ?_
              · (skip)
                go_wp2_with fail
                refine (num_int _ _ hux).mono ?_
                rintro e w10 ⟨v4, rfl, ho4, hE4⟩
                have HO4 := Lib.hid ho4; clear ho4
                go_wp2_with fail
                simp only [Act.put, List.setIfInBounds_toArray, List.set_cons_succ, List.set_cons_zero] at hK
                exact hK _ _ hE4 (Mono.rel_mk ⟨Rd.of_own HO4.out, (From.own HO4.out).mono hE9.size⟩)
              simp only [Act.put, List.setIfInBounds_toArray, List.set_cons_succ, List.set_cons_zero]
              refine Mono.step_rel (Mono.obl_loud fun w9 hE9 hkn K hK => ?_) fun v44 => ?_
              · have HN := Lib.hid (hkn.1 (by kernel_rfl))
                clear hkn
                have HOW := Lib.hid (own_ext (HO.out.drew) hE9)
                go_wp2_with (at_builtin; refine wpList_append_rd rfl (.tmp 37) (.tmp 39) _ rfl el8 B (.slice va vn vc) (ws.length) (u8s ws) (u8s (numB x.toNat)) rfl HOW.out _ rfl HN.out.1 (by intro u hu; simp only [u8s, List.mem_map] at hu; obtain ⟨_, _, rfl⟩ := hu; rfl) hby1 hby2 (Nat.le_trans hBW hE9.size) ?_)
                intro v' w' g1 g2
                simp only [Act.put, List.setIfInBounds_toArray, List.set_cons_succ, List.set_cons_zero] at hK
                rw [← HROW.out] at g2
                exact hK _ _ (Chg.grown g2) (Mono.rel_mk g1)
              simp only [Act.put, List.setIfInBounds_toArray, List.set_cons_succ, List.set_cons_zero]
              iterate 2 (apply Mono.step_is; (· refine Mono.obl_quiet (by decide) fun w9 hE9 _ K hK => ?_; go_wp2_with fail; simp only [Act.put, List.setIfInBounds_toArray, List.set_cons_succ, List.set_cons_zero] at hK; exact hK _ _ (Ext.refl _) (Mono.is_rfl _ _)); simp only [Act.put, List.setIfInBounds_toArray, List.set_cons_succ, List.set_cons_zero])
              refine Mono.step_end fun w9 hE9 hkn => ?_
              obtain ⟨_, ho9, _⟩ := hkn
              simp only [List.drop_succ_cons, List.drop_zero]
              replace hE9 : Chg rowb.toList wr w9 := Chg.drew.trans hE9
              have hB9 := HB.out.chg hE9 hwb
              have hsz9 := hE9.size
              obtain ⟨a9, n9, c9, rfl⟩ := own_shape ho9
              have cb := hB9.cell 0 rfl
              have fb := hB9.free 0
              have hne9 := own_ne ho9 hB9 (by decide)
              have hB10 := hB9.set 0 (.slice a9 n9 c9)
              simp only [List.setIfInBounds_toArray, List.set_cons_zero] at hB10
              have ho10 := own_set ho9 wb 0 (.slice a9 n9 c9) hne9
              have hL9 : Below B wr w9 := ⟨hE9.os, hE9.tape, hE9.output, hE9.size, fun k hk => hE9.block k (Nat.lt_of_lt_of_le hk hBW) (hn1 k hk)⟩
              have hL10 := below_set hL9 wb 0 (.slice a9 n9 c9) hBwb
              have hws : WS (w9.setCell ⟨wb, 0, none⟩ (.slice a9 n9 c9)) B wb (ws ++ (numB x.toNat)) := by
                refine ⟨hBwb, Nat.le_trans hBW (by simpa [World.setCell] using hsz9), _, hB10, ?_⟩
                rw [u8s_app, u8s_len] at ho10
                rwa [List.length_append]
              have HWS := Lib.hid hws; have HL10 := Lib.hid hL10
              clear hws hL10 hL9 ho10 ho9 hB10 hB9 hne9
              clear hcell
              go_wp2_with fail
              go_roundg (gk - 1)
              case measure => omega
              case rel => exact ⟨k + 1, _, by omega, by go_num, HL.out.trans HL10.out, HWS.out, by rw [HWL.out, TX.out]; simp, by simp; omega⟩
        · have hkn : k = xs.length := by omega
          subst hkn
          clear h3
          go_wp2_with fail
          go_end0
          refine ⟨HL.out, ?_⟩
          rw [HX1.out]
          refine ⟨rfl, hBwb, hBW, _, HB.out, ?_⟩
          have h := HO.out
          rw [HWL.out, List.take_length, List.append_assoc] at h
          exact h

set_option maxHeartbeats 4000000 in
theorem wentM (B wb mb j : Nat) (xs : List Ent) (ia : Option Addr) (im ic : Nat) (bs : List Int) (w : World) (hws : WS w B wb bs) (hmb : mb < B) (hm : w.cell? ⟨mb, j, none⟩ = some (.slice ia im ic)) (hr : ∀ W, Below B w W → EntsV W 0 (.slice ia im ic) xs) (hx : ∀ x ∈ xs, EntOk x) (hl : bs.length ≤ 1000000) :
    Calls Try.prog 70 #[ptr wb, .pointer (some ⟨mb, j, none⟩)] w (WM B wb bs (if xs.length ≤ 4 ∧ xs.all formedB = true then some (numB xs.length ++ xs.flatMap rawE) else none) w) := by
  obtain ⟨X, hX⟩ : ∃ X : Option (List Int), X = if xs.length ≤ 4 ∧ xs.all formedB = true then some (numB xs.length ++ xs.flatMap rawE) else none := ⟨_, rfl⟩
  rw [← hX]
  obtain ⟨hBwb, hBW, wv, hb, ho⟩ := hws
  obtain ⟨va, vn, vc, rfl⟩ := own_shape ho
  have hmw : mb < w.heap.size := by omega
  have HX := Lib.hid hX; have HB := Lib.hid hb; have HO := Lib.hid ho
  clear hX hb ho
  have hlen : im = xs.length := by obtain ⟨a, c, h, _⟩ := (hr w (Below.refl _ _)).open; cases h; rfl
  subst hlen
  have HM0 := Lib.hid hm
  have HR := Lib.hid hr; have H64 := Lib.hid hx
  clear hr hx
  by_cases h4 : xs.length ≤ 4
  case neg =>
    have HX1 : Hid (X = none) := Lib.hid (by rw [HX.out, if_neg (fun h => h4 h.1)])
    have hd : decide ((xs.length : Int) ≤ 4) = false := decide_eq_false (by omega)
    go_enter Try.func70, Try.ntmps70
    go_wp2_with fail
    refine (mought_c false 1 w).mono ?_
    rintro en w1 ⟨rfl, rfl⟩
    refine ⟨rfl, Below.refl _ _, ?_⟩
    rw [HX1.out]
  have hd : decide ((xs.length : Int) ≤ 4) = true := decide_eq_true (by omega)
  have hw : IntKind.u64.wrap (xs.length : Int) = (xs.length : Int) := by rw [IntKind.wrap_u64]; omega
  have h9 := numB_len_le xs.length
  have HLw := Lib.hid (Below.refl B w)
  go_enter Try.func70, Try.ntmps70
  go_wp2_with fail
  refine (mought_c true 1 w).mono ?_
  rintro en w2 ⟨rfl, rfl⟩
  clear hd
  have hby1 : (bs.length + (u8s (numB xs.length)).length) * 1 ≤ 140737488355328 := by rw [u8s_len]; omega
  have hby2 : bs.length + (u8s (numB xs.length)).length ≤ maxLen := by rw [u8s_len]; unfold maxLen; omega
  obtain ⟨rowb, hrowb⟩ : ∃ o, o = (Value.slice va vn vc).ownBlock := ⟨_, rfl⟩
  have hown2 : ∀ t ∈ rowb.toList, B ≤ t := by
    intro t ht
    rw [hrowb] at ht
    cases hmv : (Value.slice va vn vc).ownBlock with
    | none => rw [hmv] at ht; cases ht
    | some q => rw [hmv] at ht; simp at ht; subst ht; exact own_block HO.out _ hmv
  have hown3 : ∀ t ∈ rowb.toList, t < w2.heap.size := by
    intro t ht
    rw [hrowb] at ht
    cases hmv : (Value.slice va vn vc).ownBlock with
    | none => rw [hmv] at ht; cases ht
    | some q => rw [hmv] at ht; simp at ht; subst ht; exact (HO.out.lt _ hmv).2
  have hwb : wb ∉ rowb.toList := by
    intro hm
    have := own_ne HO.out HB.out (by decide)
    rw [hrowb] at hm
    cases hmv : (Value.slice va vn vc).ownBlock with
    | none => rw [hmv] at hm; cases hm
    | some q => rw [hmv] at hm this; simp at hm; subst hm; exact this rfl
  have hn1 : ∀ q, q < B → q ∉ rowb.toList := fun q hq hm => by have := hown2 _ hm; omega
  have HROW := Lib.hid hrowb
  clear hrowb
  go_upto_region 1 with fail
  apply Mono.region2 14 11 Ext (Chg rowb.toList) [.is _, .is _, .is _, .is _, .is _, .is _, .is _, .is _, .is _, .is _, .rel (NewB w2.heap.size (numB xs.length)), .rel (fun v w' => w'.ownsRow B 5 1 v (bs.length + (u8s (numB xs.length)).length) (u8s bs ++ u8s (numB xs.length))), .is _, .is _] (by kernel_rfl) ⟨fun _ _ h => Chg.ext h, fun _ _ _ => Ext.trans, fun _ _ _ => Chg.trans⟩ (Ext.refl _) (by kernel_rfl) rfl rfl ⟨fun v wa wc hv hE => newB_chg hv hE hown3, fun v wa wc hv hE => own_ext hv hE, trivial⟩
  focus
    iterate 10 (apply Mono.step_is; (· refine Mono.obl_quiet (by decide) fun w9 hE9 _ K hK => ?_; (have cb := (HB.out.drew.chg hE9 hwb).cell 0 rfl); (have cm := cell_chg (Chg.drew.trans hE9) hm (hn1 _ hmb)); go_wp2_with fail; simp only [Act.put, List.setIfInBounds_toArray, List.set_cons_succ, List.set_cons_zero] at hK; exact hK _ _ (Ext.refl _) (Mono.is_rfl _ _)); simp only [Act.put, List.setIfInBounds_toArray, List.set_cons_succ, List.set_cons_zero])
    refine Mono.step_rel (Mono.obl_quiet (by decide) fun w9 hE9 _ K hK => ?_) fun v43 => ?_
    · (have cm := cell_chg (Chg.drew.trans hE9) hm (hn1 _ hmb))
      go_wp2_with fail
      refine (num_ret xs.length w9 (by omega)).mono ?_
      rintro e w10 ⟨v4, rfl, ho4, hE4⟩
      have HO4 := Lib.hid ho4; clear ho4
      go_wp2_with fail
      simp only [Act.put, List.setIfInBounds_toArray, List.set_cons_succ, List.set_cons_zero] at hK
      exact hK _ _ hE4 (Mono.rel_mk ⟨Rd.of_own HO4.out, (From.own HO4.out).mono hE9.size⟩)
    simp only [Act.put, List.setIfInBounds_toArray, List.set_cons_succ, List.set_cons_zero]
    refine Mono.step_rel (Mono.obl_loud fun w9 hE9 hkn K hK => ?_) fun v44 => ?_
    · have HN := Lib.hid (hkn.1 (by kernel_rfl))
      clear hkn
      have HOW := Lib.hid (own_ext (HO.out.drew) hE9)
      go_wp2_with (at_builtin; refine wpList_append_rd rfl (.tmp 18) (.tmp 24) _ rfl el8 B (.slice va vn vc) (bs.length) (u8s bs) (u8s (numB xs.length)) rfl HOW.out _ rfl HN.out.1 (by intro u hu; simp only [u8s, List.mem_map] at hu; obtain ⟨_, _, rfl⟩ := hu; rfl) hby1 hby2 (Nat.le_trans hBW hE9.size) ?_)
      intro v' w' g1 g2
      simp only [Act.put, List.setIfInBounds_toArray, List.set_cons_succ, List.set_cons_zero] at hK
      rw [← HROW.out] at g2
      exact hK _ _ (Chg.grown g2) (Mono.rel_mk g1)
    simp only [Act.put, List.setIfInBounds_toArray, List.set_cons_succ, List.set_cons_zero]
    iterate 2 (apply Mono.step_is; (· refine Mono.obl_quiet (by decide) fun w9 hE9 _ K hK => ?_; go_wp2_with fail; simp only [Act.put, List.setIfInBounds_toArray, List.set_cons_succ, List.set_cons_zero] at hK; exact hK _ _ (Ext.refl _) (Mono.is_rfl _ _)); simp only [Act.put, List.setIfInBounds_toArray, List.set_cons_succ, List.set_cons_zero])
    refine Mono.step_end fun w9 hE9 hkn => ?_
    obtain ⟨_, ho9, _⟩ := hkn
    simp only [List.drop_succ_cons, List.drop_zero]
    replace hE9 : Chg rowb.toList w2 w9 := Chg.drew.trans hE9
    have hB9 := HB.out.chg hE9 hwb
    have hsz9 := hE9.size
    obtain ⟨a9, n9, c9, rfl⟩ := own_shape ho9
    have cb := hB9.cell 0 rfl
    have fb := hB9.free 0
    have hne9 := own_ne ho9 hB9 (by decide)
    have hB10 := hB9.set 0 (.slice a9 n9 c9)
    simp only [List.setIfInBounds_toArray, List.set_cons_zero] at hB10
    have ho10 := own_set ho9 wb 0 (.slice a9 n9 c9) hne9
    have hL9 : Below B w2 w9 := ⟨hE9.os, hE9.tape, hE9.output, hE9.size, fun k hk => hE9.block k (Nat.lt_of_lt_of_le hk hBW) (hn1 k hk)⟩
    have hL10 := below_set hL9 wb 0 (.slice a9 n9 c9) hBwb
    have hws : WS (w9.setCell ⟨wb, 0, none⟩ (.slice a9 n9 c9)) B wb (bs ++ (numB xs.length)) := by
      refine ⟨hBwb, Nat.le_trans hBW (by simpa [World.setCell] using hsz9), _, hB10, ?_⟩
      rw [u8s_app, u8s_len] at ho10
      rwa [List.length_append]
    have HWS := Lib.hid hws; have HL10 := Lib.hid hL10
    clear hws hL10 hL9 ho10 ho9 hB10 hB9 hne9
    have HLW := Lib.hid (HLw.out.trans HL10.out)
    clear HL10
    have hm3 := below_cell HLW.out hmb HM0.out
    go_upto_region 2 with fail
    clear cb fb hm
    generalize w9.setCell ⟨wb, 0, none⟩ (.slice a9 n9 c9) = w3 at *
    clear HB HO HROW hown2 hown3 hwb hn1 hby1 hby2 hE9 hsz9
    go_wp2_with fail
    go_loopg [32] xs.length (fun g i wr => ∃ (k : Nat) (ws : List Int), k + g = xs.length ∧ i = .int .i64 (k : Int) ∧ Below B w2 wr ∧ WS wr B wb ws ∧ ws = bs ++ numB xs.length ++ (xs.take k).flatMap rawE ∧ ws.length ≤ 1000009 + 300 * k ∧ (xs.take k).all formedB = true)
    case atStart => exact ⟨0, _, by omega, rfl, HLW.out, HWS.out, by simp, by simp; omega, by simp⟩
    case round =>
      obtain ⟨k, ws, hk, rfl, hL, ⟨_, hBW, wv, hb, ho⟩, hws, hwl, hfk⟩ := hrel
      obtain ⟨va, vn, vc, rfl⟩ := own_shape ho
      obtain ⟨a1, c1, heq, _, _, h3⟩ := (HR.out wr hL).open
      cases heq
      have HL := Lib.hid hL; have HB := Lib.hid hb; have HO := Lib.hid ho; have HWL := Lib.hid hws; have HFK := Lib.hid hfk
      clear hL hb ho hws hfk
      by_cases hlt : k < xs.length
      · obtain ⟨x, hxx⟩ : ∃ x, xs[k]? = some x := ⟨_, List.getElem?_eq_getElem hlt⟩
        obtain ⟨b, f, a4, n4, e4, a5, n5, e5, rfl, p0, p1, p2, p3, p4, p5, hvx⟩ := h3 k x hxx
        have HOX := Lib.hid (H64.out x (List.mem_of_getElem? hxx))
        have tx : xs.take (k + 1) = xs.take k ++ [x] := by rw [List.take_add_one, hxx]; rfl
        have TX := Lib.hid tx; have HXX := Lib.hid hxx; have HVX := Lib.hid hvx
        clear hxx tx hvx h3
        go_upto_region 5 with fail
        have hE1 := Ext.alloc wr (.cells #[.int .u64 x.term, .int .i64 x.kind, .int .u64 x.client, .int .u64 x.seq, .slice a4 n4 e4, .slice a5 n5 e5] 67)
        have HB1 := Lib.hid (Blk.new wr #[.int .u64 x.term, .int .i64 x.kind, .int .u64 x.client, .int .u64 x.seq, .slice a4 n4 e4, .slice a5 n5 e5] 67)
        generalize wr.alloc (.cells #[.int .u64 x.term, .int .i64 x.kind, .int .u64 x.client, .int .u64 x.seq, .slice a4 n4 e4, .slice a5 n5 e5] 67) = w4 at *
        clear p0 p1 p2 p3 p4 p5
        obtain ⟨p0, p1, p2, p3, p4, p5⟩ := HB1.out.six
        have HE1 := Lib.hid hE1
        clear hE1 HB1
        cases hf : formedB x with
        | false =>
          have HX1 : Hid (X = none) := Lib.hid (by
            rw [HX.out, if_neg]
            intro h
            have := List.all_eq_true.1 h.2 x (List.mem_of_getElem? HXX.out)
            rw [hf] at this; cases this)
          go_wp2_with fail
          refine (put_none _ x w4 (HVX.out.ext HE1.out) HOX.out hf).mono ?_
          rintro en w5 ⟨rfl, hE5⟩
          have HL5 := Lib.hid (HL.out.trans (Below.mono (HE1.out.trans hE5) hBW))
          clear hE5 hf p0 p1 p2 p3 p4 p5
          go_wp2_with fail
          refine (mmust_c 1 w5).mono ?_
          rintro en w6 ⟨rfl, he⟩
          rw [if_neg (by decide)] at he
          subst he
          refine ⟨rfl, HL5.out, ?_⟩
          rw [HX1.out]
        | true =>
          go_wp2_with fail
          refine (put_ret _ x w4 (HVX.out.ext HE1.out) HOX.out hf).mono ?_
          rintro en w5 ⟨pv, rfl, hop, hE5⟩
          obtain ⟨pa, pn, pc, rfl⟩ := own_shape hop
          obtain ⟨_, hpl⟩ := putB_len x hf
          have HNB := Lib.hid (show NewB wr.heap.size (putB x) (.slice pa pn pc) w5 from ⟨Rd.of_own hop, (From.own hop).mono HE1.out.size⟩)
          have HF := Lib.hid hf
          have hE45 := HE1.out.trans hE5
          have HL5 := Lib.hid (HL.out.trans (Below.mono hE45 hBW))
          have HB5 := Lib.hid (HB.out.ext hE45)
          have HO5 := Lib.hid (own_ext HO.out hE45)
          have hrs := hE45.size
          have HOr := HO
          replace hBW := Nat.le_trans hBW hE45.size
          clear hE5 hE45 hop hf p0 p1 p2 p3 p4 p5 HB HO HL
          go_wp2_with fail
          refine (mmust_c 0 w5).mono ?_
          rintro en w6 ⟨rfl, he⟩
          rw [if_pos rfl] at he
          subst he
          have h9x := numB_len_le (putB x).length
          have hby1 : (ws.length + (u8s (numB (putB x).length ++ putB x)).length) * 1 ≤ 140737488355328 := by rw [u8s_len, List.length_append]; omega
          have hby2 : ws.length + (u8s (numB (putB x).length ++ putB x)).length ≤ maxLen := by rw [u8s_len, List.length_append]; unfold maxLen; omega
          have hown4 : ∀ q, (Value.slice va vn vc).ownBlock = some q → q < wr.heap.size := fun q hq => (HOr.out.lt _ hq).2
          obtain ⟨rowb, hrowb⟩ : ∃ o, o = (Value.slice va vn vc).ownBlock := ⟨_, rfl⟩
          have hown2 : ∀ t ∈ rowb.toList, B ≤ t := by
            intro t ht
            rw [hrowb] at ht
            cases hmv : (Value.slice va vn vc).ownBlock with
            | none => rw [hmv] at ht; cases ht
            | some q => rw [hmv] at ht; simp at ht; subst ht; exact own_block HO5.out _ hmv
          have hown3 : ∀ t ∈ rowb.toList, t < w6.heap.size := by
            intro t ht
            rw [hrowb] at ht
            cases hmv : (Value.slice va vn vc).ownBlock with
            | none => rw [hmv] at ht; cases ht
            | some q => rw [hmv] at ht; simp at ht; subst ht; exact (HO5.out.lt _ hmv).2
          have hwb : wb ∉ rowb.toList := by
            intro hm
            have := own_ne HO5.out HB5.out (by decide)
            rw [hrowb] at hm
            cases hmv : (Value.slice va vn vc).ownBlock with
            | none => rw [hmv] at hm; cases hm
            | some q => rw [hmv] at hm this; simp at hm; subst hm; exact this rfl
          have hn1 : ∀ q, q < B → q ∉ rowb.toList := fun q hq hm => by have := hown2 _ hm; omega
          have HROW := Lib.hid hrowb
          clear hrowb
          go_upto_region 7 with fail
          apply Mono.region2 10 7 Ext (Chg rowb.toList) [.is _, .is _, .is _, .is _, .is _, .is _, .rel (NewB w6.heap.size (numB (putB x).length ++ putB x)), .rel (fun v w' => w'.ownsRow B 5 1 v (ws.length + (u8s (numB (putB x).length ++ putB x)).length) (u8s ws ++ u8s (numB (putB x).length ++ putB x))), .is _, .is _] (by kernel_rfl) ⟨fun _ _ h => Chg.ext h, fun _ _ _ => Ext.trans, fun _ _ _ => Chg.trans⟩ (Ext.refl _) (by kernel_rfl) rfl rfl ⟨fun v wa wc hv hE => newB_chg hv hE hown3, fun v wa wc hv hE => own_ext hv hE, trivial⟩
          focus
            iterate 6 (apply Mono.step_is; (· refine Mono.obl_quiet (by decide) fun w9 hE9 _ K hK => ?_; (have cb := (HB5.out.drew.chg hE9 hwb).cell 0 rfl); (skip); go_wp2_with fail; simp only [Act.put, List.setIfInBounds_toArray, List.set_cons_succ, List.set_cons_zero] at hK; exact hK _ _ (Ext.refl _) (Mono.is_rfl _ _)); simp only [Act.put, List.setIfInBounds_toArray, List.set_cons_succ, List.set_cons_zero])
            refine Mono.step_rel (Mono.obl_quiet (by decide) fun w9 hE9 _ K hK => ?_) fun v43 => ?_
            · (skip)
              go_wp2_with fail
              refine (raw_ret _ (putB x) w9 (newB_chg HNB.out (Chg.drew.trans hE9) (own_lt HROW.out hown4)).1 (by omega)).mono ?_
              rintro e w10 ⟨v4, rfl, ho4, hE4⟩
              have HO4 := Lib.hid ho4; clear ho4
              go_wp2_with fail
              simp only [Act.put, List.setIfInBounds_toArray, List.set_cons_succ, List.set_cons_zero] at hK
              exact hK _ _ hE4 (Mono.rel_mk ⟨Rd.of_own HO4.out, (From.own HO4.out).mono hE9.size⟩)
            simp only [Act.put, List.setIfInBounds_toArray, List.set_cons_succ, List.set_cons_zero]
            refine Mono.step_rel (Mono.obl_loud fun w9 hE9 hkn K hK => ?_) fun v44 => ?_
            · have HN := Lib.hid (hkn.1 (by kernel_rfl))
              clear hkn
              have HOW := Lib.hid (own_ext (HO5.out.drew) hE9)
              go_wp2_with (at_builtin; refine wpList_append_rd rfl (.tmp 47) (.tmp 49) _ rfl el8 B (.slice va vn vc) (ws.length) (u8s ws) (u8s (numB (putB x).length ++ putB x)) rfl HOW.out _ rfl HN.out.1 (by intro u hu; simp only [u8s, List.mem_map] at hu; obtain ⟨_, _, rfl⟩ := hu; rfl) hby1 hby2 (Nat.le_trans hBW hE9.size) ?_)
              intro v' w' g1 g2
              simp only [Act.put, List.setIfInBounds_toArray, List.set_cons_succ, List.set_cons_zero] at hK
              rw [← HROW.out] at g2
              exact hK _ _ (Chg.grown g2) (Mono.rel_mk g1)
            simp only [Act.put, List.setIfInBounds_toArray, List.set_cons_succ, List.set_cons_zero]
            iterate 2 (apply Mono.step_is; (· refine Mono.obl_quiet (by decide) fun w9 hE9 _ K hK => ?_; go_wp2_with fail; simp only [Act.put, List.setIfInBounds_toArray, List.set_cons_succ, List.set_cons_zero] at hK; exact hK _ _ (Ext.refl _) (Mono.is_rfl _ _)); simp only [Act.put, List.setIfInBounds_toArray, List.set_cons_succ, List.set_cons_zero])
            refine Mono.step_end fun w9 hE9 hkn => ?_
            obtain ⟨_, ho9, _⟩ := hkn
            simp only [List.drop_succ_cons, List.drop_zero]
            replace hE9 : Chg rowb.toList w6 w9 := Chg.drew.trans hE9
            have hB9 := HB5.out.chg hE9 hwb
            have hsz9 := hE9.size
            obtain ⟨a9, n9, c9, rfl⟩ := own_shape ho9
            have cb := hB9.cell 0 rfl
            have fb := hB9.free 0
            have hne9 := own_ne ho9 hB9 (by decide)
            have hB10 := hB9.set 0 (.slice a9 n9 c9)
            simp only [List.setIfInBounds_toArray, List.set_cons_zero] at hB10
            have ho10 := own_set ho9 wb 0 (.slice a9 n9 c9) hne9
            have hL9 : Below B w6 w9 := ⟨hE9.os, hE9.tape, hE9.output, hE9.size, fun k hk => hE9.block k (Nat.lt_of_lt_of_le hk hBW) (hn1 k hk)⟩
            have hL10 := below_set hL9 wb 0 (.slice a9 n9 c9) hBwb
            have hws : WS (w9.setCell ⟨wb, 0, none⟩ (.slice a9 n9 c9)) B wb (ws ++ (numB (putB x).length ++ putB x)) := by
              refine ⟨hBwb, Nat.le_trans hBW (by simpa [World.setCell] using hsz9), _, hB10, ?_⟩
              rw [u8s_app, u8s_len] at ho10
              rwa [List.length_append]
            have HWS := Lib.hid hws; have HL10 := Lib.hid hL10
            clear hws hL10 hL9 ho10 ho9 hB10 hB9 hne9
            go_wp2_with fail
            go_roundg (gk - 1)
            case measure => omega
            case rel => exact ⟨k + 1, _, by omega, by go_num, HL5.out.trans HL10.out, HWS.out, by rw [HWL.out, TX.out]; simp [rawE], by simp; omega, by rw [TX.out, List.all_append, HFK.out]; simp [HF.out]⟩
      · have hkn : k = xs.length := by omega
        subst hkn
        have HX1 : Hid (X = some (numB xs.length ++ xs.flatMap rawE)) := Lib.hid (by rw [HX.out, if_pos ⟨h4, by have h := HFK.out; rwa [List.take_length] at h⟩])
        clear h3
        go_wp2_with fail
        go_end0
        refine ⟨HL.out, ?_⟩
        rw [HX1.out]
        refine ⟨rfl, hBwb, hBW, _, HB.out, ?_⟩
        have h := HO.out
        rw [HWL.out, List.take_length, List.append_assoc] at h
        exact h
end Go.Proofs.Ytjodgbabfhcilaa
