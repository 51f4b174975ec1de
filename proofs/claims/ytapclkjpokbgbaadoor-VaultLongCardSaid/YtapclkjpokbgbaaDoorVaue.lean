/- tabellionlaw11: run.put of a text that is too long (printed by wip/gen/vlong.py). -/
import Derived.Test.YtapclkjpokbgbaaDoorBun2
set_option linter.unusedSimpArgs false
set_option linter.unusedVariables false
namespace Go.Proofs.YtapclkjpokbgbaaDoor
open Go Go.RowKit Go.Maps

set_option maxRecDepth 100000 in
set_option maxHeartbeats 4000000 in
theorem vrput_long (w0 : World) (r d v x n : Nat) (O : List Nat) (S : Dk) (t m : Txt) (cv bv : Value) (b : List Int) (w : World) (H : RunV w0 w r d v x n O S t t m false false cv) (hb : Rd w bv (u8s b)) (hl1 : 32768 < b.length) (hl2 : b.length ≤ 40000) :
    Calls Tryd.prog 21 #[dptr r, bv] w fun e w' => e = .returned (.bool true) ∧ Ext w w' := by
  have HCV := Lib.hid (fun (w : World) (v : Value) (xs : List Int) (h : Rd w v (u8s xs)) => h.convert (P := Tryd.prog) Tryd.underlying36 Tryd.underlying5 Tryd.underlying9)
  have HH := Lib.hid H; have HB := Lib.hid hb
  obtain ⟨ba, bc, rfl, _, _, _⟩ := hb
  rw [u8s_len] at HB ⊢
  obtain ⟨L, hL⟩ : ∃ L, L = b.length := ⟨_, rfl⟩
  rw [← hL] at HB hl1 hl2 ⊢
  have HL := Lib.hid hL
  clear H hL
  go_enter Tryd.func21, Tryd.ntmps21
  have HO1 : Hid ((w.alloc (.cells #[] 5)).ownsRow w.heap.size 5 1 (.slice (some ⟨w.heap.size, 0, none⟩) 0 0) 0 []) := own_lit w [] 5 (by simp)
  go_upto_region 2 with (at_builtin; refine wpList_append_rd rfl (.tmp 9) (.tmp 10) _ rfl el8 w.heap.size _ 0 [] (u8s b) rfl HO1.out _ rfl (HB.out.ext (Ext.alloc _ _)) (u8s_one _) (by rw [u8s_len]; have := HL.out; omega) (by rw [u8s_len]; unfold maxLen; have := HL.out; omega) (by simp) ?_; intro ov w2 ho2 hg2)
  have hg2' : (w.alloc (.cells #[] 5)).grownBy w2 (some w.heap.size) := hg2
  have hE2 : Ext w w2 := Below.grown (Ext.alloc w (.cells #[] 5)) hg2' (by simp) (by intro k hk; cases hk; exact Nat.le_refl _)
  have ho : w2.ownsRow w.heap.size 5 1 ov L (u8s b) := by
    rw [show L = 0 + (u8s b).length from by rw [u8s_len, ← HL.out, Nat.zero_add]]
    exact ho2
  obtain ⟨B0, hB0⟩ : ∃ B0, B0 = w.heap.size := ⟨_, rfl⟩
  rw [← hB0] at ho
  obtain ⟨oa, on, oc, rfl⟩ := (Rd.of_own ho).shape
  obtain rfl : L = on := by
    rcases ho.2 with ⟨hv, h0⟩ | ⟨g, cap, cur, hv, _⟩
    · injection hv with e1 e2 e3; omega
    · injection hv with e1 e2 e3; exact e2.symm
  have HO := Lib.hid ho; have HE2 := Lib.hid hE2; have HB0 := Lib.hid (show w.heap.size ≤ B0 from by rw [hB0]; exact Nat.le_refl _)
  have HR2 := Lib.hid (HH.out.ext hE2)
  obtain ⟨c0, c1, c2⟩ := HR2.out.rb.three
  clear hE2 ho ho2 hg2 hg2' hB0 HO1
  have hLm : L ≤ maxLen := by unfold maxLen; omega
  have HLM := Lib.hid hLm
  clear hLm
  go_wp2_with fail
  refine (vput_long v d snapN cv t.2 oa L oc w2 HR2.out.vs.vb hl1 HLM.out).mono ?_
  rintro e w3 ⟨rfl, hE3⟩
  have HO3 := Lib.hid (own_ext HO.out hE3); have HE3 := Lib.hid (HE2.out.trans hE3)
  clear hE3 c0 c1 c2 HR2 HO
  go_upto_region 3 with fail
  go_wp2_with fail
  go_loopg [7] L (fun g kv wk => ∃ (k : Nat) (xs : List Int), kv = .int .i64 (k : Int) ∧ k + g = L ∧ xs.length = L ∧ wk.ownsRow B0 5 1 (.slice oa L oc) L (u8s xs) ∧ Ext w wk)
  case atStart => exact ⟨0, b, rfl, by omega, HL.out.symm, HO3.out, HE3.out⟩
  case round =>
    obtain ⟨k, xs, rfl, hk, hxl, hxo, hEk⟩ := hrel
    have HXO := Lib.hid hxo; have HEK := Lib.hid hEk
    by_cases hkl : k < L
    · obtain ⟨g, rfl, hgw, hfz, c8⟩ : ∃ g, oa = some ⟨g, 0, none⟩ ∧ B0 ≤ g ∧ wr.frozen? ⟨g, k, none⟩ = false ∧ wr.cell? ⟨g, k, none⟩ = some (.int .u8 (xs.getD k 0)) := own_at8 hxo hxl hkl
      obtain ⟨z, hz⟩ : ∃ z, z = xs.getD k 0 := ⟨_, rfl⟩
      rw [← hz] at c8
      have hkc : k < oc := own_cap8 hxo hkl
      have HXL := Lib.hid hxl
      clear hxo hEk hxl hz
      go_wp2_with fail
      go_roundg (L - (k + 1))
      case measure => omega
      case rel =>
        have hb0 := HB0.out
        refine ⟨k + 1, _, by go_num, by omega, ?_, own_set8 HXO.out _ _, ((Chg.ext HEK.out : Chg [g] w wr).trans (Chg.set g k _ (by simp))).toExt (fun y hy => by simp at hy; subst hy; omega)⟩
        rw [List.length_set]; exact HXL.out
    · have hge : (L : Int) ≤ (k : Int) := by omega
      have hcv := HCV.out wr _ _ (HB.out.ext hEk)
      obtain ⟨s, hs⟩ : ∃ s, s = strOfNums b := ⟨_, rfl⟩
      rw [← hs] at hcv
      obtain ⟨w6, hw6⟩ : ∃ w6, w6 = wr.alloc (.cells #[.string s, .bool true] 45) := ⟨_, rfl⟩
      have hE6 : Ext wr w6 := by rw [hw6]; exact Ext.alloc _ _
      obtain ⟨p, hp⟩ : ∃ p, p = wr.heap.size := ⟨_, rfl⟩
      have HE6 := Lib.hid (hEk.trans hE6); have HR6 := Lib.hid (HH.out.ext (hEk.trans hE6))
      have hLi : (32768 : Int) < (L : Int) := by omega
      clear hkl hxo hEk hs hE6 HXO
      have hdk : decide (k < L) = false := decide_eq_false (by omega)
      have HDK := Lib.hid hdk
      clear hdk
      go_upto_region 8 with fail
      rw [← hw6, ← hp]
      try rw [HDK.out]
      clear HDK
      obtain ⟨c0, c1, c2⟩ := HR6.out.rb.three
      obtain ⟨y0, y1, y2, y3, y4⟩ := Blk.five HR6.out.xb
      obtain ⟨ts, hts⟩ : ∃ ts, ts = strOfNums t.1 := ⟨_, rfl⟩
      obtain ⟨tb, htb⟩ : ∃ tb, tb = t.2 := ⟨_, rfl⟩
      rw [← hts] at y0
      rw [← htb] at y1
      have HTX := Lib.hid (show textV t.1 t.2 = .agg #[.string ts, .bool tb] from by unfold textV; rw [hts, htb])
      have hlen := HR6.out.vs.len
      have HLEN := Lib.hid hlen
      clear hw6 hp hcv y2 y3 hts htb hlen
      go_upto_region 11 with fail
      clear y4
      apply Mono.region1 18 Ext [.is _, .is _, .is _, .is _, .is _, .is _, .is _, .is _, .is _, .is _, .is _, .is _, .is _, .is _, .is _, .is _, .is _, .is _] (by kernel_rfl) Ext.refl (fun _ _ _ => Ext.trans) (by kernel_rfl) rfl rfl trivial
      focus
        iterate 7 (apply Mono.step_is; (· refine Mono.obl_mk fun w7 hE7 _ K hK => ?_; (have j1 := hE7.cell (show w6.drew.cell? _ = _ from c1)); (have j2 := hE7.cell (show w6.drew.cell? _ = _ from c2)); (have i0 := hE7.cell (show w6.drew.cell? _ = _ from y0)); (have i1 := hE7.cell (show w6.drew.cell? _ = _ from y1)); clear hE7; go_wp2_with fail; simp only [Act.put, List.setIfInBounds_toArray, List.set_cons_succ, List.set_cons_zero] at hK; exact hK _ _ (Ext.refl _) (Mono.is_rfl _ _)); simp only [Act.put, List.setIfInBounds_toArray, List.set_cons_succ, List.set_cons_zero])
        apply Mono.step_is
        · refine Mono.obl_mk fun w7 hE7 _ K hK => ?_
          have HVS7 := Lib.hid (HR6.out.vs.ext ((Ext.drew _).trans hE7))
          clear hE7
          go_wp2_with fail
          refine (text_c v d snapN cv t.1 t.2 false w7 HVS7.out.vb HVS7.out.rd (by have := HLEN.out; omega)).mono ?_
          rintro e w8 ⟨rfl, hE8⟩
          rw [HTX.out]
          go_wp2_with fail
          simp only [Act.put, List.setIfInBounds_toArray, List.set_cons_succ, List.set_cons_zero] at hK
          exact hK _ _ hE8 (Mono.is_rfl _ _)
        simp only [Act.put, List.setIfInBounds_toArray, List.set_cons_succ, List.set_cons_zero]
        iterate 10 (apply Mono.step_is; (· refine Mono.obl_mk fun w7 hE7 _ K hK => ?_; (have j1 := hE7.cell (show w6.drew.cell? _ = _ from c1)); (have j2 := hE7.cell (show w6.drew.cell? _ = _ from c2)); (have i0 := hE7.cell (show w6.drew.cell? _ = _ from y0)); (have i1 := hE7.cell (show w6.drew.cell? _ = _ from y1)); clear hE7; go_wp2_with fail; simp only [Act.put, List.setIfInBounds_toArray, List.set_cons_succ, List.set_cons_zero] at hK; exact hK _ _ (Ext.refl _) (Mono.is_rfl _ _)); simp only [Act.put, List.setIfInBounds_toArray, List.set_cons_succ, List.set_cons_zero])
        refine Mono.step_end fun w7 hE7 hkn => ?_
        simp only [List.drop_succ_cons, List.drop_zero]
        clear hkn
        have HF := Lib.hid (HE6.out.trans ((Ext.drew w6).trans hE7))
        clear hE7 c0 c1 c2 y0 y1
        go_wp2_with fail
        go_ret
        exact ⟨rfl, HF.out⟩
end Go.Proofs.YtapclkjpokbgbaaDoor
