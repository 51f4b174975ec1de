/- vault: now, fresh, Get. -/
import Derived.Test.YtapclkjpokbgbaaDoorCel4
set_option linter.unusedSimpArgs false
set_option linter.unusedVariables false
namespace Go.Proofs.YtapclkjpokbgbaaDoor
open Go Go.RowKit Go.Maps

/-- A vault's files. -/
def vnow (name : ByteArray) : ByteArray := name ++ ⟨#[46, 110, 111, 119]⟩
def vfresh (name : ByteArray) : ByteArray := name ++ ⟨#[46, 110, 101, 119]⟩
/-- v is a vault of the disk d. -/
def VauB (w : World) (v d : Nat) (name : ByteArray) (bv : Value) (has over : Bool) : Prop := Blk w v #[dptr d, .string name, bv, .bool has, .bool over] 95
theorem Blk.five {w : World} {b : Nat} {e : TypeId} {c0 c1 c2 c3 c4 : Value} (h : Blk w b #[c0, c1, c2, c3, c4] e) :
    w.cell? ⟨b, 0, none⟩ = some c0 ∧ w.cell? ⟨b, 1, none⟩ = some c1 ∧ w.cell? ⟨b, 2, none⟩ = some c2 ∧ w.cell? ⟨b, 3, none⟩ = some c3 ∧ w.cell? ⟨b, 4, none⟩ = some c4 := ⟨h.cell 0 rfl, h.cell 1 rfl, h.cell 2 rfl, h.cell 3 rfl, h.cell 4 rfl⟩
theorem vnow_c (v d : Nat) (name : ByteArray) (bv : Value) (has ov : Bool) (w : World) (h : VauB w v d name bv has ov) (h4 : name.size ≤ 4) : Calls Tryd.prog 41 #[dptr v] w fun e w' => e = .returned (.string (vnow name)) ∧ w' = w := by
  obtain ⟨_, c1, _⟩ := Blk.five h
  clear h
  go_enter Tryd.func41, Tryd.ntmps41
  go_wp2_with fail
  go_ret
  exact ⟨rfl, rfl⟩
theorem vfresh_c (v d : Nat) (name : ByteArray) (bv : Value) (has ov : Bool) (w : World) (h : VauB w v d name bv has ov) (h4 : name.size ≤ 4) : Calls Tryd.prog 43 #[dptr v] w fun e w' => e = .returned (.string (vfresh name)) ∧ w' = w := by
  obtain ⟨_, c1, _⟩ := Blk.five h
  clear h
  go_enter Tryd.func43, Tryd.ntmps43
  go_wp2_with fail
  go_ret
  exact ⟨rfl, rfl⟩
set_option maxRecDepth 100000 in
theorem vget_nil (w : World) : Calls Tryd.prog 35 #[.pointer none] w fun e w' => e = .returned (.tuple #[.slice none 0 0, .bool false]) ∧ w' = w := by
  go_enter Tryd.func35, Tryd.ntmps35
  go_wp2_with fail
  go_ret2
  exact ⟨rfl, rfl⟩
set_option maxRecDepth 100000 in
set_option maxHeartbeats 1000000 in
theorem vget_c (v d : Nat) (name : ByteArray) (bv : Value) (bs : List Int) (has ov : Bool) (w : World) (h : VauB w v d name bv has ov) (hb : Rd w bv (u8s bs)) (hl : bs.length ≤ 140737488355328) : Calls Tryd.prog 35 #[dptr v] w fun e w' => ∃ cv, e = .returned (.tuple #[cv, .bool has]) ∧ w'.ownsRow w.heap.size 5 1 cv bs.length (u8s bs) ∧ Ext w w' := by
  obtain ⟨c0, c1, c2, c3, c4⟩ := Blk.five h
  have HB := Lib.hid hb
  obtain ⟨ba, bl, bc, rfl⟩ := hb.shape
  clear h hb c0 c1 c4
  go_enter Tryd.func35, Tryd.ntmps35
  go_upto_region 3 with fail
  apply Mono.region1 11 Ext [.is _, .is _, .is _, .is _, .rel (fun cv w' => w'.ownsRow w.heap.size 5 1 cv bs.length (u8s bs)), .is _, .is _, .is _, .is _, .rel (fun cv w' => w'.ownsRow w.heap.size 5 1 cv bs.length (u8s bs)), .is _] (by kernel_rfl) Ext.refl (fun _ _ _ => Ext.trans) (by kernel_rfl) rfl rfl ⟨fun v w w' h hE => own_ext h hE, fun v w w' h hE => own_ext h hE, trivial⟩
  focus
    iterate 4 (apply Mono.step_is; (· refine Mono.obl_mk fun w5 hE5 _ K hK => ?_; (have j2 := hE5.cell (show w.drew.cell? _ = _ from c2)); clear hE5; go_wp2_with fail; simp only [Act.put, List.setIfInBounds_toArray, List.set_cons_succ, List.set_cons_zero] at hK; exact hK _ _ (Ext.refl _) (Mono.is_rfl _ _)); simp only [Act.put, List.setIfInBounds_toArray, List.set_cons_succ, List.set_cons_zero])
    apply Mono.step_rel
    · refine Mono.obl_mk fun w5 hE5 _ K hK => ?_
      go_wp2_with fail
      refine (clone8 _ bs w5 (HB.out.ext ((Ext.drew _).trans hE5)) hl).mono ?_
      rintro e w6 ⟨cv, rfl, ho, hE6⟩
      have ho' := own_base ho (show w.heap.size ≤ w5.heap.size from hE5.size)
      rw [u8s_len] at ho'
      clear ho
      go_wp2_with fail
      simp only [Act.put, List.setIfInBounds_toArray, List.set_cons_succ, List.set_cons_zero] at hK
      exact hK _ _ hE6 (Mono.rel_mk ho')
    intro cv
    simp only [Act.put, List.setIfInBounds_toArray, List.set_cons_succ, List.set_cons_zero]
    iterate 4 (apply Mono.step_is; (· refine Mono.obl_mk fun w5 hE5 _ K hK => ?_; (have j3 := hE5.cell (show w.drew.cell? _ = _ from c3)); clear hE5; go_wp2_with fail; simp only [Act.put, List.setIfInBounds_toArray, List.set_cons_succ, List.set_cons_zero] at hK; exact hK _ _ (Ext.refl _) (Mono.is_rfl _ _)); simp only [Act.put, List.setIfInBounds_toArray, List.set_cons_succ, List.set_cons_zero])
    apply Mono.step_rel
    · refine Mono.obl_mk fun w5 hE5 hkn K hK => ?_
      have ho := Lib.hid (hkn.1 (by kernel_rfl))
      clear hkn hE5
      go_wp2_with fail
      simp only [Act.put, List.setIfInBounds_toArray, List.set_cons_succ, List.set_cons_zero] at hK
      exact hK _ _ (Ext.refl _) (Mono.rel_mk ho.out)
    intro cv2
    simp only [Act.put, List.setIfInBounds_toArray, List.set_cons_succ, List.set_cons_zero]
    iterate 1 (apply Mono.step_is; (· refine Mono.obl_mk fun w5 hE5 _ K hK => ?_; clear hE5; go_wp2_with fail; simp only [Act.put, List.setIfInBounds_toArray, List.set_cons_succ, List.set_cons_zero] at hK; exact hK _ _ (Ext.refl _) (Mono.is_rfl _ _)); simp only [Act.put, List.setIfInBounds_toArray, List.set_cons_succ, List.set_cons_zero])
    refine Mono.step_end fun w5 hE5 hkn => ?_
    simp only [List.drop_succ_cons, List.drop_zero]
    have HO := Lib.hid hkn.2.1
    have HE5 := Lib.hid ((Ext.drew w).trans hE5)
    clear hkn hE5 c2 c3
    go_wp2_with fail
    go_ret2
    exact ⟨cv2, rfl, HO.out, HE5.out⟩
end Go.Proofs.YtapclkjpokbgbaaDoor
