/- tabellionlaw08: told, alike. -/
import Derived.Test.YtmffknllnjagoaaDoorTws
set_option linter.unusedSimpArgs false
set_option linter.unusedVariables false
namespace Go.Proofs.YtmffknllnjagoaaDoor
open Go Go.RowKit Go.Maps Go.Sort
open Go.Proofs (encStr)

theorem elS : ElT Tryd.prog 48 9 (.string ⟨#[]⟩) 16 := ElT.mk' Tryd.underlying48 (by kernel_rfl) rfl
/-- What is told of one file. -/
def told1 (S : Dk) (p : Nm × List Int) : List Value := [encStr p.1, .string (strOfNums (readS S ⟨p.1.toArray⟩).1)]
def toldL (S : Dk) : List Value := S.now.flatMap (told1 S)
theorem toldL_eq {S S' : Dk} (h1 : S'.now = S.now) (h2 : S'.off = S.off) : toldL S' = toldL S := by
  have : told1 S' = told1 S := by funext p; simp only [told1, readS, h1, h2]
  unfold toldL; rw [h1, this]
theorem toldL_str (S : Dk) : ∀ u ∈ toldL S, ∃ s, u = .string s := by
  intro u hu
  obtain ⟨p, _, hu⟩ := List.mem_flatMap.1 hu
  simp [told1] at hu
  rcases hu with rfl | rfl
  · exact ⟨_, enc_mk p.1⟩
  · exact ⟨_, rfl⟩
theorem told_take (S : Dk) {i : Nat} {p : Nm × List Int} (hp : S.now[i]? = some p) : (S.now.take (i + 1)).flatMap (told1 S) = (S.now.take i).flatMap (told1 S) ++ told1 S p := by
  rw [List.take_add_one, hp]; simp
theorem told_len (S : Dk) : ∀ l : List (Nm × List Int), (l.flatMap (told1 S)).length = 2 * l.length
  | [] => rfl
  | p :: r => by rw [List.flatMap_cons, List.length_append, told_len S r]; simp [told1]; omega
/-- The two texts just laid. -/
def New2 (B : Nat) (a b : Value) (v : Value) (w : World) : Prop := ∃ g, v = .slice (some ⟨g, 0, none⟩) 2 2 ∧ B ≤ g ∧ w.cell? ⟨g, 0, none⟩ = some a ∧ w.cell? ⟨g, 1, none⟩ = some b
theorem New2.ext {B : Nat} {a b v : Value} {w w' : World} (h : New2 B a b v w) (hE : Ext w w') : New2 B a b v w' := by
  obtain ⟨g, h1, h2, h3, h4⟩ := h
  exact ⟨g, h1, h2, hE.cell h3, hE.cell h4⟩
theorem New2.new {w : World} {B : Nat} (a b : Value) (t : TypeId) (hB : B ≤ w.heap.size) : New2 B a b (.slice (some ⟨w.heap.size, 0, none⟩) 2 2) (w.alloc (.cells #[a, b] t)) :=
  ⟨_, rfl, hB, (Blk.new w #[a, b] t).cell 0 rfl, (Blk.new w #[a, b] t).cell 1 rfl⟩
set_option maxRecDepth 100000 in
set_option maxHeartbeats 2000000 in
theorem told_c (d n M : Nat) (A Od : List Nat) (S : Dk) (w : World) (hd : DkS w d n M Od A S) (hn : n < 1000000000) (hM : M ≤ 70368744177664) :
    Calls Tryd.prog 24 #[dptr d] w fun e w' => ∃ v, e = .returned v ∧ Rd w' v (toldL S) ∧ From w.heap.size v ∧ Ext w w' := by
  have HCV := Lib.hid (fun (w : World) (v : Value) (xs : List Int) (h : Rd w v (u8s xs)) => h.convert (P := Tryd.prog) Tryd.underlying22 Tryd.underlying5 Tryd.underlying9)
  obtain ⟨hlen, hnames⟩ := hd.names
  obtain ⟨N, hN⟩ : ∃ N, N = S.now.length := ⟨_, rfl⟩
  rw [← hN] at hlen
  have hNb : N < 1000000000 := by omega
  have HD := Lib.hid hd; have HN := Lib.hid hN; have HNM := Lib.hid hnames
  clear hd hN hnames hlen
  go_enter Tryd.func24, Tryd.ntmps24
  go_wp2_with fail
  refine (list_c d n M Od A S w HD.out hn).mono ?_
  rintro e w1 ⟨lv, rfl, hown, hE1⟩
  rw [← HN.out] at hown
  obtain ⟨la, lc, rfl⟩ := own_shapeL hown
  have hlr := Rd.of_own hown
  obtain ⟨la', lc', hlv, hlc1, hlc2, hlcell⟩ := hlr
  have hml : (S.now.map fun p => encStr p.1).length = N := by rw [List.length_map, HN.out]
  rw [hml] at hlv hlc1
  injection hlv with e1 e2 e3
  subst e1 e3
  clear e2 hml hown
  replace hlc2 : lc ≤ 9223372036854775807 := by unfold maxLen at hlc2; omega
  have HLC := Lib.hid hlcell
  have HE1 := Lib.hid hE1
  clear hlcell hE1
  go_wp2_with fail
  go_loopg [3, 5, 6, 7] N (fun g ov iv bv ev wr => ∃ i : Nat, iv = .int .i64 (i : Int) ∧ i + g = N ∧ wr.ownsRow w1.heap.size 9 1 ov (2 * i) ((S.now.take i).flatMap (told1 S)) ∧ Ext w1 wr)
  case atStart => exact ⟨0, rfl, by omega, World.ownsRow_nil _ _ _ _, Ext.refl _⟩
  case round =>
    obtain ⟨i, rfl, hi, ho, hER⟩ := hrel
    have HER := Lib.hid hER; have HO := Lib.hid ho
    by_cases hlt : i < N
    · obtain ⟨p, hp⟩ : ∃ p, S.now[i]? = some p := ⟨_, List.getElem?_eq_getElem (by rw [← HN.out]; exact hlt)⟩
      have hne : S.now ≠ [] := by intro e; rw [e] at hp; simp at hp
      obtain ⟨lb, lo, rfl, hlcell⟩ := HLC.out.resolve_left (by simpa using hne)
      have hlc0 := hER.cell (hlcell i (encStr p.1) (by rw [List.getElem?_map, hp]; rfl))
      have hnm := HNM.out p (List.mem_of_getElem? hp)
      have htk := told_take S hp
      rw [enc_mk] at hlc0
      simp only [told1, enc_mk] at htk
      obtain ⟨nm, hnmE⟩ : ∃ nm : ByteArray, nm = ⟨p.1.toArray⟩ := ⟨_, rfl⟩
      rw [← hnmE] at hlc0 htk
      have hnms : nm.size ≤ maxLen := by rw [hnmE]; simpa [ByteArray.size] using hnm
      have HTK := Lib.hid htk
      clear hER hp hne hlcell hnm hnmE htk ho
      go_wp2_with fail
      refine (read_c d n M Od A S nm wr (HD.out.ext (HE1.out.trans HER.out)) hM hnms).mono ?_
      rintro e w3 ⟨xv, rfl, hxr, _, hE3⟩
      obtain ⟨X, hX⟩ : ∃ X, X = readS S nm := ⟨_, rfl⟩
      rw [← hX] at hxr ⊢
      replace HTK := HTK.out
      rw [← hX] at HTK
      replace HTK := Lib.hid HTK
      obtain ⟨X1, X2⟩ := X
      dsimp only at hxr HTK ⊢
      have HXR := Lib.hid hxr; have HE3 := Lib.hid hE3
      replace hlc0 := hE3.cell hlc0
      obtain ⟨T, hT⟩ : ∃ T, T = strOfNums X1 := ⟨_, rfl⟩
      rw [← hT] at HTK
      have HT := Lib.hid hT
      have hO3 := own_ext HO.out hE3
      have HO3 := Lib.hid hO3
      obtain ⟨cs, hcs⟩ : ∃ cs, cs = (S.now.take i).flatMap (told1 S) := ⟨_, rfl⟩
      rw [← hcs] at HTK HO3
      clear hxr hE3 hX hT hO3 HO
      go_upto_region 7 with fail
      apply Mono.region1 8 Ext [.is _, .is _, .is _, .is _, .is _, .is _, .is _, .rel (New2 w3.heap.size (.string nm) (.string T))] (by kernel_rfl) Ext.refl (fun _ _ _ => Ext.trans) (by kernel_rfl) rfl rfl ⟨fun v w w' h hE => New2.ext h hE, trivial⟩
      focus
        iterate 7 (apply Mono.step_is; (· refine Mono.obl_mk fun w5 hE5 _ K hK => ?_; (have k1 := hE5.cell (show w3.drew.cell? _ = _ from hlc0)); (have kx := HCV.out w5 _ _ (HXR.out.ext ((Ext.drew _).trans hE5))); (rw [← HT.out] at kx); clear hE5; go_wp2_with fail; simp only [Act.put, List.setIfInBounds_toArray, List.set_cons_succ, List.set_cons_zero] at hK; exact hK _ _ (Ext.refl _) (Mono.is_rfl _ _)); simp only [Act.put, List.setIfInBounds_toArray, List.set_cons_succ, List.set_cons_zero])
        apply Mono.step_rel
        · refine Mono.obl_mk fun w5 hE5 _ K hK => ?_
          go_wp2_with fail
          simp only [Act.put, List.setIfInBounds_toArray, List.set_cons_succ, List.set_cons_zero] at hK
          exact hK _ _ (Ext.alloc _ _) (Mono.rel_mk (New2.new _ _ _ hE5.size))
        intro sv
        simp only [Act.put, List.setIfInBounds_toArray, List.set_cons_succ, List.set_cons_zero]
        refine Mono.step_end fun w5 hE5 hkn => ?_
        simp only [List.drop_succ_cons, List.drop_zero]
        obtain ⟨g, rfl, hg, hg0, hg1⟩ := (hkn.1 : New2 w3.heap.size (.string nm) (.string T) sv w5)
        have hE35 : Ext w3 w5 := (Ext.drew _).trans hE5
        have hE0 : Ext w1 w5 := HER.out.trans (HE3.out.trans hE35)
        have HO5 := Lib.hid (own_ext HO3.out hE35)
        have hrd : Rd w5 (.slice (some ⟨g, 0, none⟩) 2 2) [.string nm, .string T] := ⟨_, 2, rfl, Nat.le_refl _, by unfold maxLen; omega, .inr ⟨g, 0, rfl, fun j u hj => by
          rw [Nat.zero_add]
          match j, hj with
          | 0, hj => cases hj; exact hg0
          | 1, hj => cases hj; exact hg1⟩⟩
        have hone : ∀ u ∈ [Value.string nm, Value.string T], u.oneCell' = true := by intro u hu; simp at hu; rcases hu with rfl | rfl <;> rfl
        have hfr : ∀ q, u3.ownBlock = some q → w1.heap.size ≤ q := own_from HO3.out
        have HRD := Lib.hid hrd; have HE0 := Lib.hid hE0;
        have hws := hE0.size
        have HCS := Lib.hid hcs
        clear hkn hg hg0 hg1 hE5 hE35 hE0 hrd HO3 hlc0 hcs
        go_wp2_with (at_builtin; refine wpList_append_rd rfl (.tmp 25) (.tmp 32) _ rfl elS w1.heap.size _ (2 * i) cs [.string nm, .string T] rfl HO5.out _ rfl HRD.out hone (by simp only [List.length_cons, List.length_nil]; omega) (by simp only [List.length_cons, List.length_nil]; unfold maxLen; omega) hws ?_; intro v7 w7 g1 g2)
        have hE7 : Ext w1 w7 := Below.grown HE0.out g2 hws hfr
        go_roundg (N - (i + 1))
        case measure => omega
        case rel => exact ⟨i + 1, by go_num, by omega, by rw [HTK.out]; exact g1, hE7⟩
    · have hge : (N : Int) ≤ (i : Int) := by omega
      have HTK : Hid (S.now.take i = S.now) := Lib.hid (by rw [List.take_of_length_le (by rw [← HN.out]; omega)])
      clear hlt hER ho
      go_wp2_with fail
      go_ret
      refine ⟨_, rfl, ?_, (From.own HO.out).mono HE1.out.size, HE1.out.trans HER.out⟩
      have := HO.out
      rw [HTK.out] at this
      exact Rd.of_own this
set_option maxRecDepth 100000 in
set_option maxHeartbeats 2000000 in
theorem alike_c (v1 v2 : Value) (cs : List Value) (w : World) (h1 : Rd w v1 cs) (h2 : Rd w v2 cs) (hs : ∀ u ∈ cs, ∃ s, u = .string s) :
    Calls Tryd.prog 25 #[v1, v2] w fun e w' => e = .returned (.bool true) ∧ Ext w w' := by
  obtain ⟨a1, c1, rfl, hl1, hc1, h1⟩ := h1
  obtain ⟨a2, c2, rfl, hl2, hc2, h2⟩ := h2
  obtain ⟨N, hN⟩ : ∃ N, N = cs.length := ⟨_, rfl⟩
  rw [← hN] at hl1 hl2 ⊢
  replace hc1 : c1 ≤ 9223372036854775807 := by unfold maxLen at hc1; omega
  replace hc2 : c2 ≤ 9223372036854775807 := by unfold maxLen at hc2; omega
  have H1 := Lib.hid h1; have H2 := Lib.hid h2; have HN := Lib.hid hN; have HS := Lib.hid hs
  clear h1 h2 hN hs
  go_enter Tryd.func25, Tryd.ntmps25
  go_wp2_with fail
  go_loopg [5] N (fun g iv wr => ∃ i : Nat, iv = .int .i64 (i : Int) ∧ i + g = N ∧ Ext w wr)
  case atStart => exact ⟨0, rfl, by omega, Ext.refl _⟩
  case round =>
    obtain ⟨i, rfl, hi, hE⟩ := hrel
    have HE := Lib.hid hE
    by_cases hlt : i < N
    · obtain ⟨u, hu⟩ : ∃ u, cs[i]? = some u := ⟨_, List.getElem?_eq_getElem (by rw [← HN.out]; exact hlt)⟩
      have hne : cs ≠ [] := by intro e; rw [e] at hu; simp at hu
      obtain ⟨b1, o1, rfl, k1⟩ := H1.out.resolve_left hne
      obtain ⟨b2, o2, rfl, k2⟩ := H2.out.resolve_left hne
      obtain ⟨s, rfl⟩ := HS.out u (List.mem_of_getElem? hu)
      replace k1 := hE.cell (k1 i _ hu)
      replace k2 := hE.cell (k2 i _ hu)
      clear hne hu hE
      go_upto_region 6 with fail
      apply Mono.region1 9 Ext [.is _, .is _, .is _, .is _, .is _, .is _, .is _, .is _, .is _] (by kernel_rfl) Ext.refl (fun _ _ _ => Ext.trans) (by kernel_rfl) rfl rfl trivial
      focus
        iterate 9 (apply Mono.step_is; (· refine Mono.obl_mk fun w5 hE5 _ K hK => ?_; (replace k1 := hE5.cell (show wr.drew.cell? _ = _ from k1)); (replace k2 := hE5.cell (show wr.drew.cell? _ = _ from k2)); clear hE5; go_wp2_with fail; simp only [Act.put, List.setIfInBounds_toArray, List.set_cons_succ, List.set_cons_zero] at hK; exact hK _ _ (Ext.refl _) (Mono.is_rfl _ _)); simp only [Act.put, List.setIfInBounds_toArray, List.set_cons_succ, List.set_cons_zero])
        refine Mono.step_end fun w5 hE5 hkn => ?_
        simp only [List.drop_succ_cons, List.drop_zero]
        clear hkn
        have HE5 := Lib.hid (HE.out.trans ((Ext.drew _).trans hE5))
        clear hE5 k1 k2
        go_wp2_with fail
        go_roundg (N - (i + 1))
        case measure => omega
        case rel => exact ⟨i + 1, by go_num, by omega, HE5.out⟩
    · have hge : (N : Int) ≤ (i : Int) := by omega
      clear hlt hE
      go_wp2_with fail
      go_ret
      exact ⟨rfl, HE.out⟩
end Go.Proofs.YtmffknllnjagoaaDoor
