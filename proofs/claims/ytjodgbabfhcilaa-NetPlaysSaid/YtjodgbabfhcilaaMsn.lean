/- Same of messages, both. PRINTED BY gen/msame.py -/
import Derived.Test.YtjodgbabfhcilaaBun6
set_option linter.unusedSimpArgs false
set_option linter.unusedVariables false
namespace Go.Proofs.Ytjodgbabfhcilaa
open Go Go.RowKit


set_option maxHeartbeats 4000000 in
theorem msame_ret (v1 v2 : Value) (x y : Msg) (B1 B2 : Nat) (w : World) (h1 : MsgV w B1 v1 x) (h2 : MsgV w B2 v2 y) (o1 : MsgOk x) (o2 : MsgOk y) : Calls Try.prog 37 #[v1, v2] w (RetIs (.bool (decide (x = y))) w) := by
  obtain ⟨ev1, mv1, iv1, rfl, he1, ⟨hm1, _⟩, hi1, _⟩ := h1
  obtain ⟨ev2, mv2, iv2, rfl, he2, ⟨hm2, _⟩, hi2, _⟩ := h2
  obtain ⟨res, hres⟩ : ∃ res, res = decide (x = y) := ⟨_, rfl⟩
  rw [← hres]
  obtain ⟨k1, f1, t1, m1, i1, l1, c1, s1, y1, E1, M1, I1⟩ := x
  obtain ⟨k2, f2, t2, m2, i2, l2, c2, s2, y2, E2, M2, I2⟩ := y
  have D1 := o1.image
  have D2 := o2.image
  have oe1 := o1.entries
  have oe2 := o2.entries
  simp only [mCells] at he1 he2 hm1 hm2 hi1 hi2 D1 D2 oe1 oe2 ⊢
  have HR := Lib.hid hres; have HI1 := Lib.hid hi1; have HI2 := Lib.hid hi2; have HM1 := Lib.hid hm1; have HM2 := Lib.hid hm2
  have HE1 := Lib.hid (he1.low (Nat.zero_le _)); have HE2 := Lib.hid (he2.low (Nat.zero_le _)); have OE1 := Lib.hid oe1; have OE2 := Lib.hid oe2
  clear hres hi1 hi2 hm1 hm2 he1 he2 o1 o2 oe1 oe2
  have hEW : Ext w ((w.alloc (.cells #[.int .i64 k1, .int .u64 f1, .int .u64 t1, .int .u64 m1, .int .u64 i1, .int .u64 l1, .int .u64 c1, .int .u64 s1, .bool y1, ev1, mv1, iv1] 34)).alloc (.cells #[.int .i64 k2, .int .u64 f2, .int .u64 t2, .int .u64 m2, .int .u64 i2, .int .u64 l2, .int .u64 c2, .int .u64 s2, .bool y2, ev2, mv2, iv2] 34)) := (Ext.alloc _ _).trans (Ext.alloc _ _)
  have HEW := Lib.hid hEW
  clear hEW
  have en : ∀ W, Ext w W → Calls Try.prog 46 #[ev1, ev2, .func (.func 47) #[] #[]] W fun e w' => e = .returned (.bool (decide (E1 = E2))) ∧ Ext W w' := fun W hW =>
    eqf_ret ev1 ev2 E1 E2 _ (HE1.out.ext hW) (HE2.out.ext hW) OE1.out OE2.out
  have nm : ∀ W, Ext w W → Calls Try.prog 48 #[mv1, mv2] W fun e w' => e = .returned (.bool (decide (M1 = M2))) ∧ ∃ m, w' = W.drewN m := fun W hW =>
    equal64_q mv1 mv2 M1 M2 _ (HM1.out.ext hW) (HM2.out.ext hW)
  have EN := Lib.hid en; have NM := Lib.hid nm
  clear en nm
  have eq1 : ∀ W, Ext w W → Calls Try.prog 49 #[iv1, iv2] W fun e w' => e = .returned (.bool (decide (I1 = I2))) ∧ W = w' := by
    intro W hW
    refine (Try.bytes_Equal_strs iv1 iv2 (strOfNums I1) (strOfNums I2) _ ((HI1.out.ext hW).convert Try.underlying32 Try.underlying5 Try.underlying9) ((HI2.out.ext hW).convert Try.underlying32 Try.underlying5 Try.underlying9)).mono ?_
    rintro e w' ⟨rfl, rfl⟩
    exact ⟨by rw [str_beq _ _ D1 D2], rfl⟩
  have EQ1 := Lib.hid eq1; clear eq1
  by_cases hk : k1 = k2
  case neg =>
    have bbk : (k1 == k2) = false := by simpa using hk
    have HF : Hid (res = false) := Lib.hid (by rw [HR.out]; simp [hk])
    clear D1 D2 hk
    go_enter Try.func37, Try.ntmps37
    go_wp2_with fail
    go_ret
    exact ⟨by rw [HF.out]; rfl, HEW.out⟩
  subst hk
  by_cases hf : f1 = f2
  case neg =>
    have bbf : (f1 == f2) = false := by simpa using hf
    have HF : Hid (res = false) := Lib.hid (by rw [HR.out]; simp [hf])
    clear D1 D2 hf
    go_enter Try.func37, Try.ntmps37
    go_wp2_with fail
    go_ret
    exact ⟨by rw [HF.out]; rfl, HEW.out⟩
  subst hf
  by_cases ht : t1 = t2
  case neg =>
    have bbt : (t1 == t2) = false := by simpa using ht
    have HF : Hid (res = false) := Lib.hid (by rw [HR.out]; simp [ht])
    clear D1 D2 ht
    go_enter Try.func37, Try.ntmps37
    go_wp2_with fail
    go_ret
    exact ⟨by rw [HF.out]; rfl, HEW.out⟩
  subst ht
  by_cases hm : m1 = m2
  case neg =>
    have bbm : (m1 == m2) = false := by simpa using hm
    have HF : Hid (res = false) := Lib.hid (by rw [HR.out]; simp [hm])
    clear D1 D2 hm
    go_enter Try.func37, Try.ntmps37
    go_wp2_with fail
    go_ret
    exact ⟨by rw [HF.out]; rfl, HEW.out⟩
  subst hm
  by_cases hi : i1 = i2
  case neg =>
    have bbi : (i1 == i2) = false := by simpa using hi
    have HF : Hid (res = false) := Lib.hid (by rw [HR.out]; simp [hi])
    clear D1 D2 hi
    go_enter Try.func37, Try.ntmps37
    go_wp2_with fail
    go_ret
    exact ⟨by rw [HF.out]; rfl, HEW.out⟩
  subst hi
  by_cases hl : l1 = l2
  case neg =>
    have bbl : (l1 == l2) = false := by simpa using hl
    have HF : Hid (res = false) := Lib.hid (by rw [HR.out]; simp [hl])
    clear D1 D2 hl
    go_enter Try.func37, Try.ntmps37
    go_wp2_with fail
    go_ret
    exact ⟨by rw [HF.out]; rfl, HEW.out⟩
  subst hl
  by_cases hc : c1 = c2
  case neg =>
    have bbc : (c1 == c2) = false := by simpa using hc
    have HF : Hid (res = false) := Lib.hid (by rw [HR.out]; simp [hc])
    clear D1 D2 hc
    go_enter Try.func37, Try.ntmps37
    go_wp2_with fail
    go_ret
    exact ⟨by rw [HF.out]; rfl, HEW.out⟩
  subst hc
  by_cases hs : s1 = s2
  case neg =>
    have bbs : (s1 == s2) = false := by simpa using hs
    have HF : Hid (res = false) := Lib.hid (by rw [HR.out]; simp [hs])
    clear D1 D2 hs
    go_enter Try.func37, Try.ntmps37
    go_wp2_with fail
    go_ret
    exact ⟨by rw [HF.out]; rfl, HEW.out⟩
  subst hs
  by_cases hy : y1 = y2
  case neg =>
    have bby : (y1 == y2) = false := by simpa using hy
    have HF : Hid (res = false) := Lib.hid (by rw [HR.out]; simp [hy])
    clear D1 D2 hy
    go_enter Try.func37, Try.ntmps37
    go_wp2_with fail
    go_ret
    exact ⟨by rw [HF.out]; rfl, HEW.out⟩
  subst hy
  go_enter Try.func37, Try.ntmps37
  go_wp2_with fail
  refine (EN.out _ HEW.out).mono ?_
  rintro e w3 ⟨rfl, hE3⟩
  have HE3 := Lib.hid (HEW.out.trans hE3)
  have HE3' := Lib.hid hE3
  have b1 := ((Blk.new w #[.int .i64 k1, .int .u64 f1, .int .u64 t1, .int .u64 m1, .int .u64 i1, .int .u64 l1, .int .u64 c1, .int .u64 s1, .bool y1, ev1, mv1, iv1] 34).alloc (.cells #[.int .i64 k1, .int .u64 f1, .int .u64 t1, .int .u64 m1, .int .u64 i1, .int .u64 l1, .int .u64 c1, .int .u64 s1, .bool y1, ev2, mv2, iv2] 34)).ext hE3
  have b2 : Blk w3 (w.heap.size + 1) #[.int .i64 k1, .int .u64 f1, .int .u64 t1, .int .u64 m1, .int .u64 i1, .int .u64 l1, .int .u64 c1, .int .u64 s1, .bool y1, ev2, mv2, iv2] 34 := by
    have := (Blk.new (w.alloc (.cells #[.int .i64 k1, .int .u64 f1, .int .u64 t1, .int .u64 m1, .int .u64 i1, .int .u64 l1, .int .u64 c1, .int .u64 s1, .bool y1, ev1, mv1, iv1] 34)) #[.int .i64 k1, .int .u64 f1, .int .u64 t1, .int .u64 m1, .int .u64 i1, .int .u64 l1, .int .u64 c1, .int .u64 s1, .bool y1, ev2, mv2, iv2] 34).ext hE3
    simpa using this
  have B1 := Lib.hid b1; have B2 := Lib.hid b2
  have x10 := b1.cell 10 rfl; have x11 := b1.cell 11 rfl; have y10 := b2.cell 10 rfl; have y11 := b2.cell 11 rfl
  clear b1 b2 hE3
  by_cases he : E1 = E2
  case neg =>
    have HF : Hid (res = false) := Lib.hid (by rw [HR.out]; simp [he])
    have be : decide (E1 = E2) = false := decide_eq_false he
    rw [be]
    clear D1 D2 he be
    go_wp2_with fail
    go_ret
    exact ⟨by rw [HF.out]; rfl, HE3.out⟩
  have be : decide (E1 = E2) = true := decide_eq_true he
  rw [be]
  clear be
  go_wp2_with fail
  refine (NM.out _ HE3.out).mono ?_
  rintro e w4 ⟨rfl, nq, rfl⟩
  by_cases hm : M1 = M2
  case neg =>
    have HF : Hid (res = false) := Lib.hid (by rw [HR.out]; simp [hm])
    have be : decide (M1 = M2) = false := decide_eq_false hm
    rw [be]
    clear D1 D2 hm be he
    go_wp2_with fail
    go_ret
    exact ⟨by rw [HF.out]; rfl, HE3.out.trans (Ext.drewN _ _)⟩
  have be : decide (M1 = M2) = true := decide_eq_true hm
  rw [be]
  clear be
  have HX := Lib.hid (HE3.out.trans (Ext.drewN w3 nq))
  have z11 : (w3.drewN nq).cell? _ = _ := x11
  have z12 : (w3.drewN nq).cell? _ = _ := y11
  have HF : Hid (res = decide (I1 = I2)) := Lib.hid (by rw [HR.out]; simp [he, hm])
  clear D1 D2 he hm
  go_wp2_with fail
  refine (EQ1.out _ HX.out).mono ?_
  rintro e w5 ⟨rfl, rfl⟩
  go_wp2_with fail
  go_ret
  exact ⟨by rw [HF.out]; rfl, HX.out⟩
end Go.Proofs.Ytjodgbabfhcilaa
