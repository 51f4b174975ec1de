/- tabellionlaw08: same. -/
import Derived.Test.YtmffknllnjagoaaDoorTw
set_option linter.unusedSimpArgs false
set_option linter.unusedVariables false
namespace Go.Proofs.YtmffknllnjagoaaDoor
open Go Go.RowKit Go.Maps Go.Sort
open Go.Proofs (encStr)

theorem enc_mk (k : Nm) : encStr k = .string ⟨k.toArray⟩ := rfl
theorem nm_mk (k : Nm) : nmOf ⟨k.toArray⟩ = k := rfl
/-- The reference's files, opened. -/
theorem RFv.open {w : World} {A : List Nat} {v : Value} {L : FL} (h : RFv w A v L) : ∃ a c, v = .slice a L.length c ∧ L.length ≤ c ∧ c ≤ maxLen ∧ (L = [] ∨ ∃ b, a = some ⟨b, 0, none⟩ ∧ ∀ (i : Nat) p, L[i]? = some p → w.cell? ⟨b, i * 2, none⟩ = some (encStr p.1)) := by
  obtain ⟨E, ⟨a, c, hv, hc1, hc2, hc3⟩, hok, rfl⟩ := h
  have hlen : (mapG (fun p : Value × List Int => p.2) E).length = E.length := by simp [mapG]
  refine ⟨a, c, by rw [hlen]; exact hv, by rw [hlen]; exact hc1, hc2, ?_⟩
  rcases hc3 with h0 | ⟨b, ha, _, hcc⟩
  · left; rw [h0]; rfl
  · refine .inr ⟨b, ha, fun i p hp => ?_⟩
    simp only [mapG, List.getElem?_map] at hp
    cases hE : E[i]? with
    | none => rw [hE] at hp; cases hp
    | some q => rw [hE] at hp; cases hp; exact (hcc i q hE).1
theorem info8 : (Tryd.prog.info? 5).map (fun i => (i.zero, i.size, i.bytes)) = some (some (.int .u8 0), 1, 1) := by kernel_rfl
/-- A row of bytes of one's own, at a place. -/
theorem own_at8 {w : World} {B : Nat} {xa : Option Addr} {L c : Nat} {xs : List Int} (h : w.ownsRow B 5 1 (.slice xa L c) L (u8s xs)) (hl : xs.length = L) {k : Nat} (hk : k < L) :
    ∃ g, xa = some ⟨g, 0, none⟩ ∧ B ≤ g ∧ w.frozen? ⟨g, k, none⟩ = false ∧ w.cell? ⟨g, k, none⟩ = some (.int .u8 (xs.getD k 0)) := by
  rcases h.2 with ⟨hv, h0⟩ | ⟨g, cap, cur, hv, hg, hh, h1, h2, h3, h4⟩
  · omega
  · injection hv with e1 e2 e3
    subst e1
    refine ⟨g, rfl, hg, (show Blk w g cur 5 from hh).free k, ?_⟩
    have := h.cells (g := g) rfl k (.int .u8 (xs.getD k 0)) (by simp [u8s, List.getD, List.getElem?_eq_getElem (show k < xs.length by omega)])
    rwa [Addr.add_lit, Nat.zero_add] at this
theorem own_cap8 {w : World} {B : Nat} {xa : Option Addr} {L c k : Nat} {cs : List Value} (h : w.ownsRow B 5 1 (.slice xa L c) L cs) (hk : k < L) : k < c := by
  rcases h.2 with ⟨hv, h0⟩ | ⟨g, cap, cur, hv, hg, hh, h1, h2, h3, h4⟩
  · omega
  · injection hv with e1 e2 e3; omega
theorem own_set8 {w : World} {B g L c : Nat} {xs : List Int} (h : w.ownsRow B 5 1 (.slice (some ⟨g, 0, none⟩) L c) L (u8s xs)) (k : Nat) (z : Int) : (w.setCell ⟨g, k, none⟩ (.int .u8 z)).ownsRow B 5 1 (.slice (some ⟨g, 0, none⟩) L c) L (u8s (xs.set k z)) := by
  have := own_set (j := k) h (.int .u8 z)
  rwa [show (u8s xs).set k (.int .u8 z) = u8s (xs.set k z) by simp [u8s, List.map_set]] at this
set_option maxRecDepth 100000 in
set_option maxHeartbeats 2000000 in
/-- A disk and a reference of one plain state are the same. -/
theorem same_c (d r n m M : Nat) (A Od Or F : List Nat) (S : Dk) (w : World) (hd : DkS w d n M Od A S) (hr : RkS w r m M Or F S) (hn : n < 1000000000) (hm : m < 800000000) (hM : M ≤ 70368744177664) (hnM : n * M ≤ 4611686018427387904) :
    Calls Tryd.prog 42 #[dptr d, dptr r] w fun e w' => e = .returned (.bool true) ∧ Ext w w' := by
  have HCV := Lib.hid (fun (w : World) (v : Value) (xs : List Int) (h : Rd w v (u8s xs)) => h.convert (P := Tryd.prog) Tryd.underlying22 Tryd.underlying5 Tryd.underlying9)
  obtain ⟨fv, sv, ov, _, ⟨oa, ol, oc, hov, hol⟩, hF, hB, _⟩ := hr.turn
  subst hov hol
  obtain ⟨c0, c1, c2, c3, c4, c5⟩ := hB.rsix
  obtain ⟨hlen, hnames⟩ := hd.names
  have hus := hd.usedLe hnM
  have hll := hr.lnow
  obtain ⟨fa, fc, rfl, hfc1, hfc2, hfcell⟩ := hF.open
  replace hfc2 : fc ≤ 9223372036854775807 := by unfold maxLen at hfc2; omega
  obtain ⟨N, hN⟩ : ∃ N, N = S.now.length := ⟨_, rfl⟩
  obtain ⟨W, hW⟩ : ∃ W, W = S.waits.length := ⟨_, rfl⟩
  rw [← hN] at hlen hll hfc1 c0 hF
  rw [← hW] at c2
  have hNb : N < 1000000000 := by omega
  have HD := Lib.hid hd; have HR := Lib.hid hr; have HF := Lib.hid hF; have HN := Lib.hid hN; have HW := Lib.hid hW; have HNM := Lib.hid hnames; have HUS := Lib.hid hus; have HFC := Lib.hid hfcell; have HLL := Lib.hid hll
  have HNNM := Lib.hid hnM
  clear hd hr hF hN hW hB hnames hus hfcell c1 c3 c4 hll hnM hlen
  go_enter Tryd.func42, Tryd.ntmps42
  go_wp2_with fail
  refine (list_c d n M Od A S w HD.out hn).mono ?_
  rintro e w1 ⟨lv, rfl, hown, hE1⟩
  rw [← HN.out] at hown
  obtain ⟨la, lc, rfl⟩ := own_shapeL hown
  have hlr := Rd.of_own hown
  obtain ⟨la', lc', hlv, hlc1, hlc2, hlcell⟩ := hlr
  have hml : (S.now.map fun p => encStr p.1).length = N := by rw [List.length_map, HN.out]
  rw [hml] at hlv hlc1
  injection hlv with e1 e2 e3
  subst e1 e3
  clear e2 hml hown
  replace hlc2 : lc ≤ 9223372036854775807 := by unfold maxLen at hlc2; omega
  have HLC := Lib.hid hlcell
  have HE1 := Lib.hid hE1
  replace c0 := hE1.cell c0
  replace c2 := hE1.cell c2
  replace c5 := hE1.cell c5
  clear hlcell hE1
  go_upto_region 2 with fail
  apply Mono.region1 37 Ext (.is _ :: .is _ :: .is _ :: .is _ :: .is _ :: .is _ :: .is _ :: .is _ :: .is _ :: .is _ :: .is _ :: .is _ :: .is _ :: .is _ :: .is _ :: .is _ :: .is _ :: .is _ :: .is _ :: .is _ :: .is _ :: .is _ :: .is _ :: .is _ :: .is _ :: .is _ :: .is _ :: .is _ :: .is _ :: .is _ :: .is _ :: .is _ :: .is _ :: .is _ :: .is _ :: .is _ :: .is _ :: []) (by kernel_rfl) Ext.refl (fun _ _ _ => Ext.trans) (by kernel_rfl) rfl rfl trivial
  focus
    iterate 10 (apply Mono.step_is; (· refine Mono.obl_mk fun w2 hE2 _ K hK => ?_; (have k0 := hE2.cell (show w1.drew.cell? _ = _ from c0)); clear hE2; go_wp2_with fail; simp only [Act.put, List.setIfInBounds_toArray, List.set_cons_succ, List.set_cons_zero] at hK; exact hK _ _ (Ext.refl _) (Mono.is_rfl _ _)); simp only [Act.put, List.setIfInBounds_toArray, List.set_cons_succ, List.set_cons_zero])
    apply Mono.step_is
    · refine Mono.obl_mk fun w2 hE2 _ K hK => ?_
      go_wp2_with fail
      refine (used_c d n M Od A S w2 ((HD.out.ext (HE1.out.trans (Ext.drew _))).ext hE2) HNNM.out).mono ?_
      rintro e w3 ⟨rfl, hE3⟩
      go_wp2_with fail
      simp only [Act.put, List.setIfInBounds_toArray, List.set_cons_succ, List.set_cons_zero] at hK
      exact hK _ _ hE3 (Mono.is_rfl _ _)
    simp only [Act.put, List.setIfInBounds_toArray, List.set_cons_succ, List.set_cons_zero]
    iterate 4 (apply Mono.step_is; (· refine Mono.obl_mk fun w2 hE2 _ K hK => ?_; (have k0 := hE2.cell (show w1.drew.cell? _ = _ from c0)); clear hE2; go_wp2_with fail; simp only [Act.put, List.setIfInBounds_toArray, List.set_cons_succ, List.set_cons_zero] at hK; exact hK _ _ (Ext.refl _) (Mono.is_rfl _ _)); simp only [Act.put, List.setIfInBounds_toArray, List.set_cons_succ, List.set_cons_zero])
    apply Mono.step_is
    · refine Mono.obl_mk fun w2 hE2 _ K hK => ?_
      go_wp2_with fail
      refine (rused_c (Or ++ F) (.slice fa N fc) S.now w2 (HF.out.ext ((HE1.out.trans (Ext.drew _)).trans hE2)) (by rw [← HN.out]; exact hNb) HUS.out).mono ?_
      rintro e w3 ⟨rfl, rfl⟩
      go_wp2_with fail
      simp only [Act.put, List.setIfInBounds_toArray, List.set_cons_succ, List.set_cons_zero] at hK
      exact hK _ _ (Ext.refl _) (Mono.is_rfl _ _)
    simp only [Act.put, List.setIfInBounds_toArray, List.set_cons_succ, List.set_cons_zero]
    iterate 4 (apply Mono.step_is; (· refine Mono.obl_mk fun w2 hE2 _ K hK => ?_; clear hE2; go_wp2_with fail; simp only [Act.put, List.setIfInBounds_toArray, List.set_cons_succ, List.set_cons_zero] at hK; exact hK _ _ (Ext.refl _) (Mono.is_rfl _ _)); simp only [Act.put, List.setIfInBounds_toArray, List.set_cons_succ, List.set_cons_zero])
    apply Mono.step_is
    · refine Mono.obl_mk fun w2 hE2 _ K hK => ?_
      go_wp2_with fail
      refine (waiting_c d n M Od A S w2 ((HD.out.ext (HE1.out.trans (Ext.drew _))).ext hE2)).mono ?_
      rintro e w3 ⟨rfl, rfl⟩
      rw [← HW.out]
      go_wp2_with fail
      simp only [Act.put, List.setIfInBounds_toArray, List.set_cons_succ, List.set_cons_zero] at hK
      exact hK _ _ (Ext.refl _) (Mono.is_rfl _ _)
    simp only [Act.put, List.setIfInBounds_toArray, List.set_cons_succ, List.set_cons_zero]
    iterate 9 (apply Mono.step_is; (· refine Mono.obl_mk fun w2 hE2 _ K hK => ?_; (have k2 := hE2.cell (show w1.drew.cell? _ = _ from c2)); clear hE2; go_wp2_with fail; simp only [Act.put, List.setIfInBounds_toArray, List.set_cons_succ, List.set_cons_zero] at hK; exact hK _ _ (Ext.refl _) (Mono.is_rfl _ _)); simp only [Act.put, List.setIfInBounds_toArray, List.set_cons_succ, List.set_cons_zero])
    apply Mono.step_is
    · refine Mono.obl_mk fun w2 hE2 _ K hK => ?_
      go_wp2_with fail
      refine (down_c d n M Od A S w2 ((HD.out.ext (HE1.out.trans (Ext.drew _))).ext hE2)).mono ?_
      rintro e w3 ⟨rfl, rfl⟩
      go_wp2_with fail
      simp only [Act.put, List.setIfInBounds_toArray, List.set_cons_succ, List.set_cons_zero] at hK
      exact hK _ _ (Ext.refl _) (Mono.is_rfl _ _)
    simp only [Act.put, List.setIfInBounds_toArray, List.set_cons_succ, List.set_cons_zero]
    iterate 6 (apply Mono.step_is; (· refine Mono.obl_mk fun w2 hE2 _ K hK => ?_; (have k5 := hE2.cell (show w1.drew.cell? _ = _ from c5)); clear hE2; go_wp2_with fail; simp only [Act.put, List.setIfInBounds_toArray, List.set_cons_succ, List.set_cons_zero] at hK; exact hK _ _ (Ext.refl _) (Mono.is_rfl _ _)); simp only [Act.put, List.setIfInBounds_toArray, List.set_cons_succ, List.set_cons_zero])
    refine Mono.step_end fun w2 hE2 hkn => ?_
    simp only [List.drop_succ_cons, List.drop_zero]
    clear hkn c2 c5
    have hE12 : Ext w1 w2 := (Ext.drew _).trans hE2
    have HE2 := Lib.hid (HE1.out.trans hE12)
    have HLC2 : Hid ((S.now.map fun p => encStr p.1) = [] ∨ ∃ b o, la = some ⟨b, o, none⟩ ∧ ∀ j u, (S.now.map fun p => encStr p.1)[j]? = some u → w2.cell? ⟨b, o + j, none⟩ = some u) := Lib.hid (HLC.out.imp id fun ⟨b, o, h1, h2⟩ => ⟨b, o, h1, fun j u hj => hE12.cell (h2 j u hj)⟩)
    replace c0 := hE12.cell c0
    clear hE2 hE12 HLC
    go_wp2_with fail
    go_loopg [6, 7, 8, 9, 10, 11] N (fun g iv xv ev yv fv kv wr => ∃ i : Nat, iv = .int .i64 (i : Int) ∧ i + g = N ∧ Ext w2 wr)
    case atStart => exact ⟨0, rfl, by omega, Ext.refl _⟩
    case round =>
      obtain ⟨i, rfl, hi, hER⟩ := hrel
      have HER := Lib.hid hER
      by_cases hlt : i < N
      · obtain ⟨p, hp⟩ : ∃ p, S.now[i]? = some p := ⟨_, List.getElem?_eq_getElem (by rw [← HN.out]; exact hlt)⟩
        have hne : S.now ≠ [] := by intro e; rw [e] at hp; simp at hp
        obtain ⟨lb, lo, rfl, hlcell⟩ := HLC2.out.resolve_left (by simpa using hne)
        obtain ⟨fb, rfl, hfcell⟩ := HFC.out.resolve_left hne
        have hlc0 := hER.cell (hlcell i (encStr p.1) (by rw [List.getElem?_map, hp]; rfl))
        have hfc0 := (HE2.out.trans hER).cell (hfcell i p hp)
        have hnm := HNM.out p (List.mem_of_getElem? hp)
        rw [enc_mk] at hlc0 hfc0
        obtain ⟨nm, hnmE⟩ : ∃ nm : ByteArray, nm = ⟨p.1.toArray⟩ := ⟨_, rfl⟩
        rw [← hnmE] at hlc0 hfc0
        have hnms : nm.size ≤ maxLen := by rw [hnmE]; simpa [ByteArray.size] using hnm
        replace c0 := hER.cell c0
        have HP := Lib.hid hp
        clear hER hp hne hlcell hfcell hnm hnmE
        go_wp2_with fail
        refine (read_c d n M Od A S nm wr (HD.out.ext (HE2.out.trans HER.out)) hM hnms).mono ?_
        rintro e w3 ⟨xv, rfl, hxr, hxo, hE3⟩
        have HXR := Lib.hid hxr; have HXO := Lib.hid hxo; have HE3 := Lib.hid hE3
        replace c0 := hE3.cell c0
        replace hlc0 := hE3.cell hlc0
        replace hfc0 := hE3.cell hfc0
        clear hxr hxo hE3
        go_wp2_with fail
        refine (rread_c r m M Or F S nm w3 (HR.out.ext (HE2.out.trans (HER.out.trans HE3.out))) hm).mono ?_
        rintro e w4 ⟨rfl, yv, rfl, hyr, hb8, hof⟩
        clear hof
        obtain ⟨X, hX⟩ : ∃ X, X = readS S nm := ⟨_, rfl⟩
        rw [← hX] at HXR HXO hyr hb8 ⊢
        have HYR := Lib.hid hyr; have HB8 := Lib.hid hb8
        obtain ⟨X1, X2⟩ := X
        dsimp only at HXR HXO HYR HB8 ⊢
        clear hyr hb8 hX
        go_upto_region 9 with fail
        apply Mono.region1 25 Ext [.is _, .is _, .is _, .is _, .is _, .is _, .is _, .is _, .is _, .is _, .is _, .is _, .is _, .is _, .is _, .is _, .is _, .is _, .is _, .is _, .is _, .is _, .is _, .is _, .is _] (by kernel_rfl) Ext.refl (fun _ _ _ => Ext.trans) (by kernel_rfl) rfl rfl trivial
        focus
          iterate 25 (apply Mono.step_is; (· refine Mono.obl_mk fun w5 hE5 _ K hK => ?_; (have k0 := hE5.cell (show w4.drew.cell? _ = _ from c0)); (have k1 := hE5.cell (show w4.drew.cell? _ = _ from hlc0)); (have k2 := hE5.cell (show w4.drew.cell? _ = _ from hfc0)); (have kx := HCV.out w5 _ _ (HXR.out.ext ((Ext.drew _).trans hE5))); (have ky := HCV.out w5 _ _ (HYR.out.ext ((Ext.drew _).trans hE5))); clear hE5; go_wp2_with fail; simp only [Act.put, List.setIfInBounds_toArray, List.set_cons_succ, List.set_cons_zero] at hK; exact hK _ _ (Ext.refl _) (Mono.is_rfl _ _)); simp only [Act.put, List.setIfInBounds_toArray, List.set_cons_succ, List.set_cons_zero])
          refine Mono.step_end fun w5 hE5 hkn => ?_
          simp only [List.drop_succ_cons, List.drop_zero]
          clear hkn
          have hxo5 := own_ext HXO.out ((Ext.drew _).trans hE5)
          have HE5 := Lib.hid (HER.out.trans (HE3.out.trans ((Ext.drew _).trans hE5)))
          obtain ⟨xa, xc, rfl⟩ := own_shapeL hxo5
          obtain ⟨L, hL⟩ : ∃ L, L = X1.length := ⟨_, rfl⟩
          rw [← hL] at hxo5 ⊢
          have hLb : L ≤ 9223372036854775807 := by have := HXR.out.len; rw [u8s_len, ← hL] at this; unfold maxLen at this; omega
          have hwb : wr.heap.size ≤ w5.heap.size := (HE3.out.trans ((Ext.drew _).trans hE5)).size
          have hwb2 : w2.heap.size ≤ wr.heap.size := HER.out.size
          obtain ⟨B0, hB0⟩ : ∃ B0, B0 = wr.heap.size := ⟨_, rfl⟩
          rw [← hB0] at hxo5 hwb hwb2
          clear hB0
          have HXO5 := Lib.hid hxo5; have HLX := Lib.hid hL
          clear hE5 hxo5 HXO HXR HYR c0 hlc0 hfc0 hL
          go_wp2_with fail
          go_loopg [11] L (fun g kv wk => ∃ (k : Nat) (xs : List Int), kv = .int .i64 (k : Int) ∧ k + g = L ∧ xs.length = L ∧ wk.ownsRow B0 5 1 (.slice xa L xc) L (u8s xs) ∧ Ext w2 wk)
          case atStart => exact ⟨0, X1, rfl, by omega, HLX.out.symm, HXO5.out, HE5.out⟩
          case round =>
            obtain ⟨k, xs, rfl, hk, hxl, hxo, hEK⟩ := hrel
            have HEK := Lib.hid hEK; have HXO := Lib.hid hxo
            by_cases hkl : k < L
            · obtain ⟨g, rfl, hgw, hfz, c8⟩ : ∃ g, xa = some ⟨g, 0, none⟩ ∧ B0 ≤ g ∧ wr.frozen? ⟨g, k, none⟩ = false ∧ wr.cell? ⟨g, k, none⟩ = some (.int .u8 (xs.getD k 0)) := own_at8 hxo hxl hkl
              obtain ⟨z, hz⟩ : ∃ z, z = xs.getD k 0 := ⟨_, rfl⟩
              rw [← hz] at c8
              have hkc : k < xc := own_cap8 hxo hkl
              have HXL := Lib.hid hxl
              clear hxo hEK hxl hz
              go_wp2_with fail
              go_roundg (L - (k + 1))
              case measure => omega
              case rel =>
                refine ⟨k + 1, _, by go_num, by omega, ?_, own_set8 HXO.out _ _, ?_⟩
                · rw [List.length_set]; exact HXL.out
                · exact Below.grown HEK.out (grown_set _ g _ _) HEK.out.size (fun j hj => by have := Option.some.inj hj; omega)
            · have hge : (L : Int) ≤ (k : Int) := by omega
              clear hkl hEK hxo
              go_wp2_with fail
              go_roundg (N - (i + 1))
              case measure => omega
              case rel => exact ⟨i + 1, by go_num, by omega, HEK.out⟩
      · have hge : (N : Int) ≤ (i : Int) := by omega
        clear hlt hER
        go_wp2_with fail
        go_ret
        exact ⟨rfl, HE2.out.trans HER.out⟩
end Go.Proofs.YtmffknllnjagoaaDoor
