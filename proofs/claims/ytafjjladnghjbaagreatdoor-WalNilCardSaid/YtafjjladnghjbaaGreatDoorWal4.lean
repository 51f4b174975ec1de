/- Layer 9 (wal): First, Next, Get, dead of a log. -/
import Derived.Test.YtafjjladnghjbaaGreatDoorWal3
namespace Go.Proofs.YtafjjladnghjbaaGreatDoor
open Go Go.RowKit Go.Maps

set_option maxHeartbeats 400000 in
theorem wdead_c (l d : Nat) (name : ByteArray) (first last : Int) (recs segs : Value) (ov : Bool) (w : World) (hB : LogB w l d name first recs segs last ov) :
    Calls Tryz.prog 38 #[lptr l] w fun e w' => e = .returned (.bool ov) ∧ w' = w := by
  have c6 : w.cell? ⟨l, 6, none⟩ = some (.bool ov) := (show Blk w l _ _ from hB).cell 6 rfl
  clear hB
  go_enter Tryz.func38, Tryz.ntmps38
  go_wp2_with fail
  go_ret
  exact ⟨rfl, rfl⟩
set_option maxHeartbeats 400000 in
theorem wfirst_c (l d : Nat) (name : ByteArray) (first last : Int) (recs segs : Value) (ov : Bool) (w : World) (hB : LogB w l d name first recs segs last ov) :
    Calls Tryz.prog 12 #[lptr l] w fun e w' => e = .returned (.int .u64 first) ∧ w' = w := by
  have c2 : w.cell? ⟨l, 2, none⟩ = some (.int .u64 first) := (show Blk w l _ _ from hB).cell 2 rfl
  clear hB
  go_enter Tryz.func12, Tryz.ntmps12
  go_wp2_with fail
  go_ret
  exact ⟨rfl, rfl⟩
set_option maxRecDepth 100000 in
set_option maxHeartbeats 1000000 in
theorem wnext_c (l d : Nat) (name : ByteArray) (first : Nat) (last : Int) (ra : Option Addr) (n rc : Nat) (segs : Value) (ov : Bool) (w : World) (hB : LogB w l d name first (.slice ra n rc) segs last ov) (hn : first + n < 18446744073709551616) :
    Calls Tryz.prog 13 #[lptr l] w fun e w' => e = .returned (.int .u64 ((first + n : Nat) : Int)) ∧ Ext w w' := by
  have c2 : w.cell? ⟨l, 2, none⟩ = some (.int .u64 first) := (show Blk w l _ _ from hB).cell 2 rfl
  have c3 : w.cell? ⟨l, 3, none⟩ = some (.slice ra n rc) := (show Blk w l _ _ from hB).cell 3 rfl
  clear hB
  have hs : IntKind.u64.wrap ((first : Int) + (n : Int)) = ((first + n : Nat) : Int) := by rw [IntKind.wrap_u64]; omega
  go_enter Tryz.func13, Tryz.ntmps13
  go_upto_region 3 with fail
  apply Mono.region1 11 Ext [.is _, .is _, .is _, .is _, .is _, .is _, .is _, .is _, .is _, .is _, .is _] (by kernel_rfl) Ext.refl (fun _ _ _ => Ext.trans) (by kernel_rfl) rfl rfl trivial
  focus
    iterate 11 (apply Mono.step_is; (· refine Mono.obl_mk fun w8 hE8 _ K hK => ?_; (have j2 := hE8.cell (show w.drew.cell? _ = _ from c2)); (have j3 := hE8.cell (show w.drew.cell? _ = _ from c3)); clear hE8; go_wp2_with fail; simp only [Act.put, List.setIfInBounds_toArray, List.set_cons_succ, List.set_cons_zero] at hK; exact hK _ _ (Ext.refl _) (Mono.is_rfl _ _)); simp only [Act.put, List.setIfInBounds_toArray, List.set_cons_succ, List.set_cons_zero])
    refine Mono.step_end fun w8 hE8 hkn => ?_
    simp only [List.drop_succ_cons, List.drop_zero]
    have HE8 := Lib.hid ((Ext.drew w).trans hE8)
    clear hkn hE8 c2 c3
    go_wp2_with fail
    go_ret
    exact ⟨by push_cast; rfl, HE8.out⟩
set_option maxRecDepth 100000 in
set_option maxHeartbeats 1000000 in
theorem wget_c (l d : Nat) (name : ByteArray) (first : Nat) (last : Int) (ra : Option Addr) (n rc : Nat) (segs : Value) (ov : Bool) (cs : List Value) (c : Value) (r : List Int) (i : Nat) (w : World) (hB : LogB w l d name first (.slice ra n rc) segs last ov)
    (hR : Rd w (.slice ra n rc) cs) (hc : cs[i]? = some c) (hr : Rd w c (u8s r)) (hn : first + n < 18446744073709551616) (hl : r.length ≤ 140737488355328) :
    Calls Tryz.prog 8 #[lptr l, .int .u64 ((first + i : Nat) : Int)] w fun e w' => ∃ v, e = .returned (.tuple #[v, .int .i64 0]) ∧ w'.ownsRow w.heap.size 5 1 v (u8s r).length (u8s r) ∧ Ext w w' := by
  have c2 : w.cell? ⟨l, 2, none⟩ = some (.int .u64 first) := (show Blk w l _ _ from hB).cell 2 rfl
  have c3 : w.cell? ⟨l, 3, none⟩ = some (.slice ra n rc) := (show Blk w l _ _ from hB).cell 3 rfl
  have hlen : n = cs.length := by obtain ⟨a, k, h, -⟩ := hR; cases h; rfl
  have hin : i < n := by rw [hlen]; exact (List.getElem?_eq_some_iff.1 hc).1
  obtain ⟨b, o, rfl, hcell⟩ : ∃ b o, ra = some ⟨b, o, none⟩ ∧ w.cell? ⟨b, o + i, none⟩ = some c := by
    obtain ⟨a, k, h, -, -, h3⟩ := hR
    cases h
    rcases h3 with h3 | ⟨b, o, rfl, h3⟩
    · rw [h3] at hc; cases hc
    · exact ⟨b, o, rfl, h3 i c hc⟩
  have HB := Lib.hid hB; have HR := Lib.hid hr
  clear hB hR hc hr hlen
  have hge : ¬ ((first : Int) + (i : Int) < first) := by omega
  have hlt : ¬ ((first : Int) + (n : Int) ≤ (first : Int) + (i : Int)) := by omega
  have hsub : (first : Int) + (i : Int) - first = i := by omega
  go_enter Tryz.func8, Tryz.ntmps8
  go_wp2_with fail
  refine (wfirst_c l d name _ _ _ _ _ w HB.out).mono ?_
  rintro e w1 ⟨rfl, rfl⟩
  go_wp2_with fail
  refine (wnext_c l d name first _ _ n _ _ _ w1 HB.out hn).mono ?_
  rintro e w2 ⟨rfl, hE2⟩
  have d2 := hE2.cell c2; have d3 := hE2.cell c3; have dc := hE2.cell hcell
  have HE2 := Lib.hid hE2; have HR2 := Lib.hid (HR.out.ext hE2)
  clear hE2 c2 c3 hcell HB HR
  go_upto_region 3 with fail
  rw [decide_eq_false (show ¬ ((first : Int) + (i : Int) < (first : Int)) by omega), decide_eq_false (show ¬ n ≤ i by omega), Bool.or_false]
  clear hge hlt
  have hss : IntKind.u64.wrap ((first : Int) + (i : Int) - first) = (i : Int) := by rw [IntKind.wrap_u64]; omega
  have hlti : (i : Int) < (n : Int) := by omega
  apply Mono.region1 12 Ext [.is _, .is _, .is _, .is _, .is _, .is _, .is _, .is _, .is _, .is _, .is _, .is _] (by kernel_rfl) Ext.refl (fun _ _ _ => Ext.trans) (by kernel_rfl) rfl rfl trivial
  focus
    iterate 12 (apply Mono.step_is; (· refine Mono.obl_mk fun w8 hE8 _ K hK => ?_; (have j2 := hE8.cell (show w2.drew.cell? _ = _ from d2)); (have j3 := hE8.cell (show w2.drew.cell? _ = _ from d3)); (have jc := hE8.cell (show w2.drew.cell? _ = _ from dc)); clear hE8; go_wp2_with fail; simp only [Act.put, List.setIfInBounds_toArray, List.set_cons_succ, List.set_cons_zero] at hK; exact hK _ _ (Ext.refl _) (Mono.is_rfl _ _)); simp only [Act.put, List.setIfInBounds_toArray, List.set_cons_succ, List.set_cons_zero])
    refine Mono.step_end fun w8 hE8 hkn => ?_
    simp only [List.drop_succ_cons, List.drop_zero]
    have HE8 := Lib.hid (HE2.out.trans ((Ext.drew w2).trans hE8))
    have HR8 := Lib.hid ((HR2.out.ext (Ext.drew w2)).ext hE8)
    clear hkn hE8 d2 d3 dc
    go_wp2_with fail
    refine (clone8 c r w8 HR8.out hl).mono ?_
    rintro e w9 ⟨v, rfl, ho, hE9⟩
    have HO := Lib.hid ho; have HE9 := Lib.hid hE9
    clear ho hE9
    go_wp2_with fail
    exact bodyPost_ret (v := .tuple #[v, .int .i64 0]) (by simp [results, Tryz.results8, go_sem]) rfl ⟨v, rfl, own_base HO.out HE8.out.size, HE8.out.trans HE9.out⟩
end Go.Proofs.YtafjjladnghjbaaGreatDoor
