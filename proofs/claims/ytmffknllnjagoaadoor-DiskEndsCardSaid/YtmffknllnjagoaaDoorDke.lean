/- tabellionlaw08: DiskEnds. -/
import Derived.Test.YtmffknllnjagoaaDoorDkp
import Derived.Test.YtmffknllnjagoaaDoorDkq
set_option linter.unusedSimpArgs false
set_option linter.unusedVariables false
namespace Go.Proofs.YtmffknllnjagoaaDoor
open Go Go.RowKit Go.Maps Go.Sort

theorem elBool : ElT Tryd.prog 31 4 (.bool false) 1 := ElT.mk' Tryd.underlying31 (by kernel_rfl) rfl
set_option maxRecDepth 100000 in
set_option maxHeartbeats 4000000 in
/-- DiskEnds is true. -/
theorem ends_c (v : Value) (xs : List LO) (all : Bool) (w : World) (h : OpsV w v xs) (hok : ∀ x ∈ xs, LOk x) :
    Calls Tryd.prog 6 #[v, .bool all] w fun e w' => e = .returned (.bool true) ∧ Ext w w' := by
  have hO : ∀ w', Ext w w' → OpsV w' v xs := fun w' hE => h.ext hE
  have HO := Lib.hid hO
  obtain ⟨a, c, rfl, hc1, hc2, hc3⟩ := h
  replace hc2 : c ≤ 9223372036854775807 := by unfold maxLen at hc2; omega
  obtain ⟨N, hN⟩ : ∃ N, N = xs.length := ⟨_, rfl⟩
  rw [← hN] at hc1 HO ⊢
  have HC := Lib.hid hc3; have HN := Lib.hid hN; have HOK := Lib.hid hok
  clear hc3 hN hok hO
  go_enter Tryd.func6, Tryd.ntmps6
  go_wp2_with fail
  refine (awake_c w).mono ?_
  rintro e w1 ⟨rfl, hE1⟩
  have HE1 := Lib.hid hE1
  clear hE1
  go_wp2_with fail
  refine (few_c (.slice a N c) xs w1 (HO.out w1 HE1.out) HOK.out).mono ?_
  rintro e w2 ⟨rfl, fb, rfl, hfew⟩
  have HF := Lib.hid hfew
  clear hfew
  cases fb with
  | false =>
    go_wp2_with fail
    refine (awake_c w2).mono ?_
    rintro e w3 ⟨rfl, hE3⟩
    have HE3 := Lib.hid hE3
    clear hE3
    go_wp2_with fail
    go_ret
    exact ⟨rfl, HE1.out.trans HE3.out⟩
  | true =>
    replace HF := Lib.hid (HF.out rfl)
    go_wp2_with fail
    refine (new_c 10000 1073741824 [] w2 (by omega) (by omega) (by simp)).mono ?_
    rintro e w3 ⟨d, rfl, hd, hE3, hdw⟩
    have HD := Lib.hid hd; have HE3 := Lib.hid hE3
    clear hd hE3
    go_wp2_with fail
    refine (rnew_c 10000 1073741824 _ w3 (by omega) (by omega) HD.out.low).mono ?_
    rintro e w4 ⟨rfl, hr, hE4⟩
    have HT := Lib.hid (Two.made HE1.out HD.out HE3.out hdw hr hE4)
    obtain ⟨r, hr'⟩ : ∃ r, r = w3.heap.size := ⟨_, rfl⟩
    rw [← hr'] at HT ⊢
    clear hr hE4 hr'
    have hOps : ∀ (i : Nat) x, xs[i]? = some x → ∃ b o bv kv, a = some ⟨b, o, none⟩ ∧ Rd w bv (u8s x.b) ∧ Rd w kv (x.keep.map Value.bool) ∧ w.cell? ⟨b, o + i * 6, none⟩ = some (.int .i64 x.kind) ∧ w.cell? ⟨b, o + i * 6 + 1, none⟩ = some (.string x.name) ∧ w.cell? ⟨b, o + i * 6 + 2, none⟩ = some (.string x.nto) ∧
      w.cell? ⟨b, o + i * 6 + 3, none⟩ = some (.int .i64 x.n) ∧ w.cell? ⟨b, o + i * 6 + 4, none⟩ = some bv ∧ w.cell? ⟨b, o + i * 6 + 5, none⟩ = some kv := fun i x hx => OpsV.at (n := N) (c := c) HC.out hx
    have HOP := Lib.hid hOps
    clear hOps HC HD HE3 HE1 hdw
    go_upto_block 0 with fail
    go_cut [7] (fun sv wc => ∃ (nn : Nat) (S : Dk) (Od Or : List Nat), nn ≤ 6000 ∧ Two w wc d r nn nn 10000 [] Od Or S S ∧ S.waits.length ≤ 60 ∧ EInv S ∧ Rd wc sv (toldF S.sure) ∧ OffL sv (toldF S.sure) (Od ++ Or))
    case first =>
      go_wp2_with fail
      go_loopg [7, 8, 9] 60 (fun g sv iv ov wr => ∃ (i : Nat) (S : Dk) (Od Or : List Nat), iv = .int .i64 (i : Int) ∧ i + g = 60 ∧ Two w wr d r (i * 100) (i * 100) 10000 [] Od Or S S ∧ S.waits.length ≤ i ∧ EInv S ∧ Rd wr sv (toldF S.sure) ∧ OffL sv (toldF S.sure) (Od ++ Or))
      case atStart => exact ⟨0, _, _, _, rfl, by omega, HT.out, by simp [dkNew], EInv.new _, Rd.nil _, fun a n c hv => by cases hv⟩
      case round =>
        obtain ⟨i, S, Od, Or, rfl, hi, hT, hw, hE, hsv, hso⟩ := hrel
        have HT2 := Lib.hid hT; have HEI := Lib.hid hE; have HSV := Lib.hid hsv; have HSO := Lib.hid hso
        clear hE hsv hso
        by_cases hlt : i < N
        · by_cases h60 : i < 60
          · obtain ⟨x, hx⟩ : ∃ x, xs[i]? = some x := ⟨_, List.getElem?_eq_getElem (by rw [← HN.out]; exact hlt)⟩
            obtain ⟨b, o, bv, kv, rfl, hb, hk, c0, c1, c2, c3, c4, c5⟩ := HOP.out i x hx
            obtain ⟨ba, bl, bc, rfl⟩ := hb.shape
            obtain ⟨ka, kl, kc, rfl⟩ := hk.shape
            have hf := HF.out i x h60 hx
            have ok := HOK.out x (List.mem_of_getElem? hx)
            have hk0 := ok.k0; have hk0' := ok.k1
            obtain ⟨K, hK⟩ : ∃ K, K = kOf x := ⟨_, rfl⟩
            obtain ⟨hk1, hk2, hk3⟩ := kb hK
            have HB := Lib.hid hb; have HK := Lib.hid hk; have HFX := Lib.hid hf; have HOX := Lib.hid ok; have HKK := Lib.hid hK
            replace c0 := hT.old.cell c0
            replace c1 := hT.old.cell c1
            replace c2 := hT.old.cell c2
            replace c3 := hT.old.cell c3
            replace c4 := hT.old.cell c4
            replace c5 := hT.old.cell c5
            clear hx hb hk hf ok hT hK
            go_upto_region 12 with fail
            obtain ⟨W1, hW1⟩ : ∃ W1, W1 = wr.alloc (.cells #[.int .i64 x.kind, .string x.name, .string x.nto, .int .i64 x.n, .slice ba bl bc, .slice ka kl kc] 46) := ⟨_, rfl⟩
            rw [← hW1]
            have hE1 : Ext wr W1 := by rw [hW1]; exact Ext.alloc _ _
            have hB : Blk W1 wr.heap.size #[.int .i64 x.kind, .string x.name, .string x.nto, .int .i64 x.n, .slice ba bl bc, .slice ka kl kc] 46 := by rw [hW1]; exact Blk.new _ _ _
            obtain ⟨k0, k1, k2, k3, k4, k5⟩ := hB.six
            have HTW := Lib.hid (HT2.out.ext hE1)
            have HE1 := Lib.hid hE1
            clear hW1 hB hE1 c0 c1 c2 c3 c4 c5
            have h60i : (i : Int) < 60 := by omega
            by_cases hk5 : 5 < K
            · go_wp2_with fail
              go_roundg (60 - (i + 1))
              case measure => omega
              case rel => exact ⟨i + 1, S, Od, Or, by go_num, by omega, HTW.out.more (by omega) (by omega), by omega, HEI.out, HSV.out.ext HE1.out, HSO.out⟩
            · have hk5' : K ≤ 5 := by omega
              have HK5 := Lib.hid (HKK.out ▸ hk5')
              clear hk5
              go_wp2_with fail
              refine (ldo_c w d r (i * 100) (i * 100) Od Or S x _ _ W1 HTW.out HOX.out HB.out HK.out (by omega) (by omega) (by omega) HFX.out.1 HFX.out.2).mono ?_
              rintro e w5 ⟨rfl, Od5, Or5, hT5, hto⟩
              have hw5 := opS_waits x S
              obtain ⟨hei5, hsu5⟩ := HEI.out.op x (HKK.out ▸ hk5')
              obtain ⟨S5, hS5⟩ : ∃ S5, S5 = (opS x S).2 := ⟨_, rfl⟩
              rw [← hS5] at hT5 hw5 hei5 hsu5
              have hsv5 := (HSV.out.ext HE1.out).chg hto.1 HSO.out
              have hso5 := HSO.out.more (HSV.out.ext HE1.out) (fun t ht => hto.2.1 t ht)
              have HT5 := Lib.hid hT5; have HEI5 := Lib.hid hei5; have HSU5 := Lib.hid hsu5; have HSV5 := Lib.hid hsv5; have HSO5 := Lib.hid hso5
              clear hT5 hS5 hei5 hsu5 hsv5 hso5 hto k0 k1 k2 k3 k4 k5 hk0 hk0' hk1 hk2 hk3
              go_wp2_with fail
              refine (waiting_c d (i * 100 + 100) 10000 Od5 [] S5 w5 HT5.out.dk).mono ?_
              rintro e w6 ⟨rfl, rfl⟩
              by_cases hw0 : S5.waits.length = 0
              · have hsn : S5.now = S5.sure := by rw [HEI5.out.now, List.eq_nil_of_length_eq_zero hw0]; rfl
                have HSN := Lib.hid hsn
                rw [hw0]
                clear hsn
                go_wp2_with fail
                refine (told_c d (i * 100 + 100) 10000 [] Od5 S5 w6 HT5.out.dk (by omega) (by omega)).mono ?_
                rintro e w7 ⟨tv, rfl, htv, hfr, hE7⟩
                rw [told_F HSN.out HEI5.out.off] at htv
                have HT7 := Lib.hid (HT5.out.ext hE7)
                have HTV := Lib.hid htv
                have HFR := Lib.hid (hfr.off (cs := toldF S5.sure) (S := Od5 ++ Or5) fun t ht => (List.mem_append.1 ht).elim (HT5.out.dk.low t) (HT5.out.rk.lowO t))
                clear htv hfr hE7
                go_wp2_with fail
                go_roundg (60 - (i + 1))
                case measure => omega
                case rel => exact ⟨i + 1, S5, Od5, Or5, by go_num, by omega, by rw [show (i + 1) * 100 = i * 100 + 100 by omega]; exact HT7.out, by omega, HEI5.out, HTV.out, HFR.out⟩
              · have hwp : (0 : Int) < (S5.waits.length : Int) := by omega
                have hsure : S5.sure = S.sure := HSU5.out.resolve_left (by intro e; rw [e] at hw0; exact hw0 rfl)
                have HS := Lib.hid hsure
                clear hw0 hsure
                go_wp2_with fail
                go_roundg (60 - (i + 1))
                case measure => omega
                case rel => exact ⟨i + 1, S5, Od5, Or5, by go_num, by omega, by rw [show (i + 1) * 100 = i * 100 + 100 by omega]; exact HT5.out, by omega, HEI5.out, by rw [HS.out]; exact HSV5.out, by rw [HS.out]; exact HSO5.out⟩
          · have h60' : (60 : Int) ≤ (i : Int) := by omega
            clear h60 hT
            go_wp2_with fail
            go_meet
            exact ⟨i * 100, S, Od, Or, by omega, HT2.out, by omega, HEI.out, HSV.out, HSO.out⟩
        · have hge : (N : Int) ≤ (i : Int) := by omega
          clear hlt hT
          go_wp2_with fail
          go_meet
          exact ⟨i * 100, S, Od, Or, by omega, HT2.out, by omega, HEI.out, HSV.out, HSO.out⟩
    case rest =>
    obtain ⟨nn, S, Od, Or, hnn, hT, hw, hE, hsv, hso⟩ := hcut
    have HT2 := Lib.hid hT; have HEI := Lib.hid hE; have HSV := Lib.hid hsv; have HSO := Lib.hid hso
    clear hT hE hsv hso HT HOP HOK HF HO HN hc1 hc2
    go_wp2_with fail
    refine (told_c d nn 10000 [] Od S wc HT2.out.dk (by omega) (by omega)).mono ?_
    rintro e w5 ⟨nv, rfl, hnv, hnf, hE5⟩
    rw [told_F rfl HEI.out.off] at hnv
    have HT5 := Lib.hid (HT2.out.ext hE5)
    have HNV := Lib.hid hnv
    have HNF := Lib.hid (hnf.off (cs := toldF S.now) (S := Od) fun t ht => HT2.out.dk.low t ht)
    have HSV5 := Lib.hid (HSV.out.ext hE5)
    clear hnv hnf hE5
    obtain ⟨W, hW⟩ : ∃ W, W = S.waits.length := ⟨_, rfl⟩
    have HW := Lib.hid hW
    rw [← hW] at hw
    clear hW
    go_wp2_with fail
    go_loopg [11, 12] W (fun g kv iv wr => ∃ i : Nat, iv = .int .i64 (i : Int) ∧ i + g = W ∧ wr.ownsRow w5.heap.size 4 1 kv i ((List.replicate i all).map Value.bool) ∧ Ext w5 wr)
    case atStart => exact ⟨0, rfl, by omega, World.ownsRow_nil _ _ _ _, Ext.refl _⟩
    case round =>
      obtain ⟨i, rfl, hi, hko, hER⟩ := hrel
      have HER := Lib.hid hER; have HKO := Lib.hid hko
      clear hER hko
      go_wp2_with fail
      refine (waiting_c d nn 10000 Od [] S wr (HT5.out.dk.ext HER.out)).mono ?_
      rintro e w6 ⟨rfl, rfl⟩
      rw [← HW.out]
      by_cases hlt : i < W
      · have hws := HER.out.size
        have hfr := own_from HKO.out
        go_wp2_with (at_builtin; refine wpList_push rfl (.tmp 63) (.tmp 65) _ rfl elBool w5.heap.size _ i ((List.replicate i all).map Value.bool) (.bool all) rfl HKO.out 4 rfl rfl (by omega) (by unfold maxLen; omega) hws ?_; intro v7 w7 g1 g2)
        have hE7 : Ext w5 w7 := Below.grown HER.out g2 hws hfr
        go_roundg (W - (i + 1))
        case measure => omega
        case rel => exact ⟨i + 1, by go_num, by omega, by rw [List.replicate_succ', List.map_append]; exact g1, hE7⟩
      · have hge : (W : Int) ≤ (i : Int) := by omega
        obtain rfl : i = W := by omega
        have hkr := Rd.of_own HKO.out
        have HKR := Lib.hid hkr
        have HD6 := Lib.hid (HT5.out.dk.ext HER.out)
        have HE0 := Lib.hid (HT5.out.old.trans HER.out)
        have hnew : ∀ t ∈ Od, w.heap.size ≤ t := HT5.out.newD
        have HNW := Lib.hid hnew
        have HNV6 := Lib.hid (HNV.out.ext HER.out)
        have HSV6 := Lib.hid (HSV5.out.ext HER.out)
        have HSO6 := Lib.hid (show OffL u7 (toldF S.sure) Od from fun a n c hv hne hm => HSO.out a n c hv hne (List.mem_append_left _ hm))
        clear hlt hkr hnew
        cases all with
        | true =>
          go_wp2_with fail
          refine (crash_c d nn 10000 Od [] S (List.replicate i true) 1073741824 u11 w6 HD6.out (by have := HW.out; omega) (by omega) HKR.out (by omega) (by omega)).mono ?_
          rintro e w7 ⟨rfl, Od7, hd7, ht7⟩
          have hnow : (crashS S (List.replicate i true) 1073741824).now = S.now := by
            have := HW.out; subst this
            exact crash_all HEI.out HD6.out.ok (M := 10000) (by omega)
          have HNOW := Lib.hid hnow
          have HD7 := Lib.hid hd7
          have HNV7 := Lib.hid (HNV6.out.chg ht7.1 HNF.out)
          have HE7 := Lib.hid (ht7.toExt HE0.out HNW.out)
          clear hd7 ht7 hnow
          go_wp2_with fail
          refine (told_c d _ 10000 [] Od7 _ w7 HD7.out (by have := HW.out; omega) (by omega)).mono ?_
          rintro e w8 ⟨tv, rfl, htv, _, hE8⟩
          rw [told_F HNOW.out rfl] at htv
          have HTV := Lib.hid htv; have HE8 := Lib.hid hE8
          clear htv hE8
          go_wp2_with fail
          refine (alike_c tv nv (toldF S.now) w8 HTV.out (HNV7.out.ext HE8.out) (toldL_str _)).mono ?_
          rintro e w9 ⟨rfl, hE9⟩
          have HE9 := Lib.hid hE9
          clear hE9
          go_wp2_with fail
          go_ret
          exact ⟨rfl, HE7.out.trans (HE8.out.trans HE9.out)⟩
        | false =>
          go_wp2_with fail
          refine (crash_c d nn 10000 Od [] S (List.replicate i false) 1073741824 u11 w6 HD6.out (by have := HW.out; omega) (by omega) HKR.out (by omega) (by omega)).mono ?_
          rintro e w7 ⟨rfl, Od7, hd7, ht7⟩
          have hnow : (crashS S (List.replicate i false) 1073741824).now = S.sure := crash_none _
          have HNOW := Lib.hid hnow
          have HD7 := Lib.hid hd7
          have HSV7 := Lib.hid (HSV6.out.chg ht7.1 HSO6.out)
          have HE7 := Lib.hid (ht7.toExt HE0.out HNW.out)
          clear hd7 ht7 hnow
          go_wp2_with fail
          refine (told_c d _ 10000 [] Od7 _ w7 HD7.out (by have := HW.out; omega) (by omega)).mono ?_
          rintro e w8 ⟨tv, rfl, htv, _, hE8⟩
          rw [told_F HNOW.out rfl] at htv
          have HTV := Lib.hid htv; have HE8 := Lib.hid hE8
          clear htv hE8
          go_wp2_with fail
          refine (alike_c tv u7 (toldF S.sure) w8 HTV.out (HSV7.out.ext HE8.out) (toldL_str _)).mono ?_
          rintro e w9 ⟨rfl, hE9⟩
          have HE9 := Lib.hid hE9
          clear hE9
          go_wp2_with fail
          refine (waiting_c d _ 10000 Od7 [] _ w9 (HD7.out.ext (HE8.out.trans HE9.out))).mono ?_
          rintro e w10 ⟨rfl, rfl⟩
          rw [show ((crashS S (List.replicate i false) 1073741824).waits.length : Int) = 0 from rfl]
          go_wp2_with fail
          go_ret
          exact ⟨rfl, HE7.out.trans (HE8.out.trans HE9.out)⟩
end Go.Proofs.YtmffknllnjagoaaDoor
