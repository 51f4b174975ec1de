/- Layer 7 (frame): Lay of one record. -/
import Derived.Test.YtafjjladnghjbaaGreatDoorCrc2
import Derived.Test.YtafjjladnghjbaaGreatDoorRdn
import Derived.Test.YtafjjladnghjbaaGreatDoorFrmL
namespace Go.Proofs.YtafjjladnghjbaaGreatDoor
open Go Go.RowKit

def LayFin (w : World) (r : List Int) (e : Ending) (w' : World) : Prop :=
  ∃ v, e = .returned (.tuple #[v, .int .i64 0]) ∧ w'.ownsRow w.heap.size 5 1 v (frmB r).length (u8s (frmB r)) ∧ Ext w w'
set_option maxRecDepth 100000 in
set_option maxHeartbeats 4000000 in
theorem lay1_c (lv v : Value) (r : List Int) (w : World) (hL : Rd w lv [v]) (hR : Rd w v (u8s r)) (h8 : ∀ x ∈ r, 0 ≤ x ∧ x ≤ 255) (hl : r.length ≤ 32768) :
    Calls Tryz.prog 40 #[lv] w (LayFin w r) := by
  obtain ⟨la, lc, rfl, hlc, hlm, hcs⟩ := hL
  obtain ⟨lb, lo, rfl, hcell⟩ : ∃ b o, la = some ⟨b, o, none⟩ ∧ w.cell? ⟨b, o, none⟩ = some v := by
    rcases hcs with h0 | ⟨b, o, rfl, hc⟩
    · cases h0
    · exact ⟨b, o, rfl, hc 0 v rfl⟩
  obtain ⟨ra, rn, rc, rfl⟩ := hR.shape
  have hrn : rn = r.length := by obtain ⟨a, c, h, -⟩ := hR; cases h; simp [u8s]
  subst hrn
  obtain ⟨N, hN⟩ : ∃ N, N = r.length := ⟨_, rfl⟩
  rw [← hN] at hl hR hcell ⊢
  have HN := Lib.hid hN; have HR := Lib.hid hR; have H8 := Lib.hid h8; have HC := Lib.hid hcell
  clear hR h8 hcell hN hcs
  have hN' : (N : Int) ≤ 32768 := by omega
  have hN2 : ¬ (32768 < (N : Int)) := by omega
  simp only [List.length_cons, List.length_nil, Nat.zero_add]
  go_enter Tryz.func40, Tryz.ntmps40
  go_wp2_with fail
  go_loopg [4, 11] 1 (fun gg v4 v11 wr => (gg = 1 ∧ v4 = .slice none 0 0 ∧ v11 = .int .i64 0 ∧ wr = w) ∨ (gg = 0 ∧ v11 = .int .i64 1 ∧ wr.ownsRow w.heap.size 5 1 v4 (frmB r).length (u8s (frmB r)) ∧ Ext w wr))
  case atStart => exact .inl ⟨rfl, rfl, rfl, rfl⟩
  case round =>
    rcases hrel with ⟨rfl, rfl, rfl, rfl⟩ | ⟨rfl, rfl, ho, hE⟩
    · have hcell := HC.out
      go_upto_region 7 with fail
      clear hcell
      go_wp2_with fail
      refine (num_ret N _ (by omega)).mono ?_
      rintro e w1 ⟨nv, rfl, hno, hE1⟩
      obtain ⟨na, nn, nc, rfl⟩ := (Rd.of_own hno).shape
      have HNO := Lib.hid hno; have HE1 := Lib.hid hE1
      clear hno hE1
      go_wp2_with fail
      refine (sum_crc (numB N) _ _ (Rd.of_own HNO.out) (numB_bound N) (by have := numB_len N; have := numK_le N; omega)).mono ?_
      rintro e w2 ⟨rfl, hE2⟩
      have HE2 := Lib.hid hE2
      clear hE2
      go_wp2_with fail
      refine (sum_crc r _ _ ((HR.out.ext HE1.out).ext HE2.out) H8.out (by have := HN.out; omega)).mono ?_
      rintro e w3 ⟨rfl, hE3⟩
      have HE3 := Lib.hid (HE2.out.trans hE3)
      clear hE3 HE2
      go_wp2_with fail
      refine (join_c _ _ N _ (by omega)).mono ?_
      rintro e w4 ⟨rfl, hE4⟩
      have HE4 := Lib.hid (HE3.out.trans hE4)
      clear hE4 HE3
      obtain ⟨s, hs⟩ : ∃ s, s = crcJoin (crcSum (numB N)) (crcSum r) N := ⟨_, rfl⟩
      rw [← hs]
      have HS := Lib.hid hs
      clear hs
      have HRN := Lib.hid (Rd.of_own (own_ext HNO.out HE4.out))
      have HRR := Lib.hid ((HR.out.ext HE1.out).ext HE4.out)
      have hk9 : (u8s (numB N)).length ≤ 9 := by rw [u8s_len, numB_len]; have := numK_le N; omega
      have hrl : (u8s r).length = N := by rw [u8s_len]; exact HN.out.symm
      obtain ⟨C1, hC1⟩ : ∃ C, C = u8s (numB N) := ⟨_, rfl⟩
      obtain ⟨C2, hC2⟩ : ∃ C, C = u8s r := ⟨_, rfl⟩
      have one1 : ∀ u ∈ C1, u.oneCell' = true := by rw [hC1]; exact u8s_one _
      have one2 : ∀ u ∈ C2, u.oneCell' = true := by rw [hC2]; exact u8s_one _
      rw [← hC1] at HRN hk9
      rw [← hC2] at HRR hrl
      have HC1 := Lib.hid hC1; have HC2 := Lib.hid hC2; have HE14 := Lib.hid (HE1.out.trans HE4.out)
      have HO1 := Lib.hid one1; have HO2 := Lib.hid one2
      clear HNO HE1 HE4 one1 one2 hC1 hC2
      go_wp2_with (at_builtin; refine wpList_append_rd rfl (.tmp 30) (.tmp 31) _ rfl el8 w4.heap.size _ 0 [] C1 rfl (World.ownsRow_nil _ _ _ _) _ rfl HRN.out HO1.out (by omega) (by unfold maxLen; omega) (Nat.le_refl _) ?_)
      intro v5 w5 ho5 hg5
      have hE5 : Ext w4 w5 := Ext.grown hg5 (by intro k hk; cases hk)
      have HO5 := Lib.hid ho5; have HE5 := Lib.hid hE5
      clear ho5 hg5 hE5
      go_wp2_with (at_builtin; refine wpList_append_rd rfl (.tmp 32) (.tmp 33) _ rfl el8 w4.heap.size _ _ C1 C2 rfl HO5.out _ rfl (HRR.out.ext HE5.out) HO2.out (by omega) (by unfold maxLen; omega) HE5.out.size ?_)
      intro v6 w6 ho6 hg6
      have hE6 : Ext w4 w6 := Below.grown HE5.out hg6 HE5.out.size fun k hk => (HO5.out.lt k hk).1
      have HO6 := Lib.hid ho6; have HE6 := Lib.hid hE6
      clear ho6 hg6 hE6 HO5 HE5
      have HX := Lib.hid (Ext.alloc w6 (.cells (u8s (sum4 s)).toArray 5))
      have HRX := Lib.hid (Rd.of_own (own_lit w6 (u8s (sum4 s)) 5 (by simp [u8s, sum4, maxLen])))
      go_wp2_with (at_builtin; refine wpList_append_rd rfl (.tmp 34) (.tmp 46) _ rfl el8 w4.heap.size v6 _ (C1 ++ C2) (u8s (sum4 s)) rfl (own_ext HO6.out HX.out) _ rfl HRX.out (u8s_one _) (by simp [u8s, sum4]; omega) (by simp [u8s, sum4, maxLen]; omega) (Nat.le_trans HE6.out.size HX.out.size) ?_)
      intro v7 w7 ho7 hg7
      have hE7 : Ext w4 w7 := Below.grown (HE6.out.trans HX.out) hg7 (Nat.le_trans HE6.out.size HX.out.size) fun k hk => (HO6.out.lt k hk).1
      have ho7' : w7.ownsRow wr.heap.size 5 1 v7 (frmB r).length (u8s (frmB r)) := by
        have hfr : u8s (frmB r) = C1 ++ C2 ++ u8s (sum4 s) := by
          rw [HC1.out, HC2.out, HS.out, HN.out]
          simp only [frmB, u8s_append]
        have hln : (frmB r).length = C1.length + C2.length + (u8s (sum4 s)).length := by
          rw [← u8s_len, hfr]; simp [Nat.add_assoc]
        rw [hfr, hln, hrl, List.append_assoc]
        exact own_base ho7 HE14.out.size
      have HO7 := Lib.hid ho7'; have HE7 := Lib.hid (HE14.out.trans hE7)
      clear ho7 ho7' hg7 hE7 HO6 HE6 HX HRX
      go_wp2_with fail
      go_roundg 0
      case measure => omega
      case rel => exact .inr ⟨rfl, rfl, HO7.out, HE7.out⟩
    · have HO := Lib.hid ho; have HE := Lib.hid hE
      clear ho hE
      go_wp2_with fail
      refine bodyPost_ret (v := .tuple #[u4, .int .i64 0]) (by simp [results, Tryz.results40, go_sem]) rfl ⟨_, rfl, HO.out, HE.out⟩
end Go.Proofs.YtafjjladnghjbaaGreatDoor
