/- Layer 25 (seq): SeqBooks. -/
import Derived.Test.YtgefphfnicjbiaaSkz
import Derived.Test.YtgefphfnicjbiaaSks
set_option linter.unusedSimpArgs false
set_option linter.unusedVariables false
namespace Go.Proofs.Ytgefphfnicjbiaa
open Go Go.RowKit

theorem put_open {b : Bk} {w w' : World} {e : Ending} (h : PutOut b w e w') : ∃ pv, e = .returned (.tuple #[pv, .int .i64 (if formedK b then 0 else 1)]) ∧ Rd w' pv (u8s (if formedK b then putK b else [])) ∧ Ext w w' := by
  obtain ⟨hE, h⟩ := h
  split at h
  · obtain ⟨pv, h1, h2⟩ := h
    rename_i hf
    rw [if_pos hf, if_pos hf]
    exact ⟨pv, h1, Rd.of_own h2, hE⟩
  · rename_i hf
    rw [if_neg hf, if_neg hf]
    exact ⟨_, h, Rd.nil _, hE⟩
def errX : Except Int Bk → Int
  | .error no => no
  | .ok _ => 0
def bkX : Except Int Bk → Bk
  | .error _ => ⟨[], []⟩
  | .ok y => y
theorem get_open {X : Except Int Bk} {w w' : World} {e : Ending} (h : KOut X w e w') : ∃ v, e = .returned (.tuple #[v, .int .i64 (errX X)]) ∧ BookT w' v (bkX X) ∧ Ext w w' := by
  obtain ⟨hE, v, e0, x, h1, h2, h3⟩ := h
  cases X with
  | error no => obtain ⟨rfl, rfl⟩ := h3; exact ⟨v, h1, h2, hE⟩
  | ok y => obtain ⟨rfl, rfl⟩ := h3; exact ⟨v, h1, h2, hE⟩
theorem rdLfs_err : ∀ {k : Nat} {acc : List (List Int)} {bs : List Int} {e : Int}, rdLfs k acc bs = .error e → e ≠ 0
  | 0, _, _, _, h => by simp [rdLfs] at h
  | k + 1, acc, bs, e, h => by
    simp only [rdLfs] at h
    split at h
    · rename_i heq; cases h; exact rdRaw_err' heq
    · exact rdLfs_err h
theorem rdSls_err {n : Int} : ∀ {k : Nat} {acc : List (Int × Int)} {bs : List Int} {e : Int}, rdSls n k acc bs = .error e → e ≠ 0
  | 0, _, _, _, h => by simp [rdSls] at h
  | k + 1, acc, bs, e, h => by
    simp only [rdSls] at h
    split at h
    · rename_i heq; cases h; exact rdNum_err' heq
    · split at h
      · split at h
        · rename_i heq; cases h; exact rdNum_err' heq
        · split at h
          · exact rdSls_err h
          · cases h; decide
      · cases h; decide
theorem rdCls_err {n : Int} : ∀ {k : Nat} {acc : List Cl} {bs : List Int} {e : Int}, rdCls n k acc bs = .error e → e ≠ 0
  | 0, _, _, _, h => by simp [rdCls] at h
  | k + 1, acc, bs, e, h => by
    simp only [rdCls] at h
    split at h
    · rename_i heq; cases h; exact rdNum_err' heq
    · split at h
      · split at h
        · rename_i heq; cases h; exact rdMany_err heq
        · split at h
          · split at h
            · rename_i heq; cases h; exact rdSls_err heq
            · exact rdCls_err h
          · cases h; decide
      · cases h; decide
theorem kN_err0 {bs : List Int} {no : Int} (h : getK bs = .error no) : no ≠ 0 := by
  intro h0
  subst h0
  unfold getK at h
  split at h
  · rename_i heq; cases h; exact rdMany_err heq rfl
  · split at h
    · rename_i heq; cases h
      exact absurd rfl (rdLfs_err heq)
    · split at h
      · rename_i heq; cases h; exact rdMany_err heq rfl
      · split at h
        · rename_i heq; cases h
          exact absurd rfl (rdCls_err heq)
        · split at h
          · cases h
          · cases h
set_option maxRecDepth 100000 in
set_option maxHeartbeats 8000000 in
theorem seqbooks_c (v0 v1 : Value) (b : Bk) (bs : List Int) (w : World) (h : BookV w v0 b) (hbd : BkBe b) (ok : OkK b) (hsz : (putK b).length ≤ 140737488355000) (hR : Rd w v1 (u8s bs)) (hb8 : B8 bs) (hl : bs.length ≤ 140737488355000) :
    Calls Try.prog 6 #[v0, v1] w (RetE (.bool true) w) := by
  have haw := fun w => awake25_c w
  have hput := fun W h => kput_c v0 b W h ok hsz
  have hrput := fun W h => rkput_c v0 b W h hbd ok hsz
  have hget := fun W h => kget_c v1 bs W h hb8 (by omega)
  have hrget := fun W h => rkget_c v1 bs W h hb8 hl
  have hfm := fun W h => kformed_c v0 b W h ok hsz
  have hrfm := fun W h => rformed_c v0 b W h hbd (fun c hc s hs => by have := ((ok.cl c hc).2.2 s hs).2; unfold U64 at this; omega)
  obtain ⟨fm, hfme⟩ : ∃ f, f = formedK b := ⟨_, rfl⟩
  obtain ⟨X, hX⟩ : ∃ X, X = getK bs := ⟨_, rfl⟩
  rw [← hfme] at hfm hrfm
  rw [← hX] at hget hrget
  have HAW := Lib.hid haw; have HPUT := Lib.hid hput; have HRPUT := Lib.hid hrput; have HGET := Lib.hid hget; have HRGET := Lib.hid hrget; have HFM := Lib.hid hfm; have HRFM := Lib.hid hrfm
  have HV := Lib.hid h; have HR := Lib.hid hR; have HF := Lib.hid hfme; have HX := Lib.hid hX; have HOK := Lib.hid ok; have HB8 := Lib.hid hb8; have HL := Lib.hid hl; have HSZ := Lib.hid hsz
  obtain ⟨a1, n1, c1, a2, n2, c2, rfl⟩ := book_shape h
  obtain ⟨xa, xn, xc, rfl⟩ := hR.shape
  clear haw hput hrput hget hrget hfm hrfm hfme hX h hR ok hb8 hl hsz hbd
  go_enter Try.func6, Try.ntmps6
  have hB2 := Blk.new w #[.slice a1 n1 c1, .slice a2 n2 c2] 27
  have hE2 := Ext.alloc w (.cells #[.slice a1 n1 c1, .slice a2 n2 c2] 27)
  go_upto_region 1 with fail
  obtain ⟨T2, hT2⟩ : ∃ T, T = w.heap.size := ⟨_, rfl⟩
  rw [← hT2] at hB2 ⊢
  generalize w.alloc (.cells #[.slice a1 n1 c1, .slice a2 n2 c2] 27) = W1 at *
  clear hT2
  go_wp2_with fail
  refine (HAW.out _).mono ?_
  rintro e w1 ⟨rfl, hE1⟩
  have HB2 := Lib.hid (hB2.ext hE1); have HE := Lib.hid (hE2.trans hE1)
  clear hB2 hE2 hE1 HAW
  go_wp2_with (refine wpList_load_row rfl 27 (.tmp 2) rfl T2 rfl 27 _ (0, 0) _ HB2.out Try.underlying27 rfl (by kernel_rfl) ?_)
  refine (HPUT.out _ (HV.out.ext HE.out)).mono ?_
  intro e w2 hp
  obtain ⟨pv, rfl, hp1, hE2⟩ := put_open hp
  rw [← HF.out] at hp1 ⊢
  obtain ⟨e0, he0⟩ : ∃ e0 : Int, e0 = if fm then 0 else 1 := ⟨_, rfl⟩
  obtain ⟨PB, hPB⟩ : ∃ l, l = if fm then putK b else [] := ⟨_, rfl⟩
  rw [← he0]
  rw [← hPB] at hp1
  have HE0 := Lib.hid he0; have HPB := Lib.hid hPB; have HP1 := Lib.hid hp1
  have HB2 := Lib.hid (HB2.out.ext hE2); have HE := Lib.hid (HE.out.trans hE2)
  obtain ⟨pa, pn, pc, rfl⟩ := hp1.shape
  clear hp hp1 hE2 he0 hPB HPUT
  go_upto_region 4 with fail
  go_wp2_with (refine wpList_load_row rfl 27 (.tmp 2) rfl T2 rfl 27 _ (0, 0) _ HB2.out Try.underlying27 rfl (by kernel_rfl) ?_)
  refine (HRPUT.out _ (HV.out.ext HE.out)).mono ?_
  intro e w3 hp
  obtain ⟨qv, rfl, hq1, hE3⟩ := put_open hp
  rw [← HF.out] at hq1 ⊢
  rw [← HE0.out]
  rw [← HPB.out] at hq1
  have HQ1 := Lib.hid hq1; have HP1 := Lib.hid (HP1.out.ext hE3)
  have HB2 := Lib.hid (HB2.out.ext hE3); have HE := Lib.hid (HE.out.trans hE3)
  obtain ⟨qa, qn, qc, rfl⟩ := hq1.shape
  clear hp hq1 hE3 HRPUT
  go_upto_region 5 with fail
  go_wp2_with fail
  refine (HGET.out _ (HR.out.ext HE.out)).mono ?_
  intro e w4 hg
  obtain ⟨yv, rfl, hy, hE4⟩ := get_open hg
  obtain ⟨g0, hg0⟩ : ∃ g0 : Int, g0 = errX X := ⟨_, rfl⟩
  obtain ⟨yb, hyb⟩ : ∃ y, y = bkX X := ⟨_, rfl⟩
  rw [← hg0]
  rw [← hyb] at hy
  obtain ⟨y1, ym1, yc1, y2, ym2, yc2, rfl⟩ := book_shape hy.book
  have HG0 := Lib.hid hg0; have HYB := Lib.hid hyb; have HY := Lib.hid hy
  have HQ1 := Lib.hid (HQ1.out.ext hE4); have HP1 := Lib.hid (HP1.out.ext hE4)
  have HB2 := Lib.hid (HB2.out.ext hE4); have HE := Lib.hid (HE.out.trans hE4)
  clear hg hy hE4 hg0 hyb
  go_upto_region 6 with (refine wpList_store_row rfl 27 (.tmp 9) (.tmp 32) rfl w4.heap.size #[.slice y1 ym1 yc1, .slice y2 ym2 yc2] rfl rfl 27 _ (Blk.new w4 #[.slice none 0 0, .slice none 0 0] 27) (book_size _ _) rfl (by simp [Value.oneCell']) ?_)
  have hB9 : Blk ((w4.alloc (.cells #[.slice none 0 0, .slice none 0 0] 27)).setRow w4.heap.size #[.slice y1 ym1 yc1, .slice y2 ym2 yc2]) w4.heap.size #[.slice y1 ym1 yc1, .slice y2 ym2 yc2] 27 := setRow_heap _ _ _ _ _ (0, 0) (Blk.new w4 #[.slice none 0 0, .slice none 0 0] 27)
  have hE5 : Ext w4 ((w4.alloc (.cells #[.slice none 0 0, .slice none 0 0] 27)).setRow w4.heap.size #[.slice y1 ym1 yc1, .slice y2 ym2 yc2]) := ((Chg.ext (Ext.alloc w4 (.cells #[.slice none 0 0, .slice none 0 0] 27)) : Chg [w4.heap.size] w4 _).trans (Chg.some (grown_rowS _ w4.heap.size _) (.inl (by simp)))).toExt (fun t ht => by simp at ht; omega)
  obtain ⟨T9, hT9⟩ : ∃ T, T = w4.heap.size := ⟨_, rfl⟩
  rw [← hT9] at hB9 hE5 ⊢
  generalize (w4.alloc (.cells #[.slice none 0 0, .slice none 0 0] 27)).setRow T9 #[.slice y1 ym1 yc1, .slice y2 ym2 yc2] = W5 at *
  have HY := Lib.hid (HY.out.ext hE5); have HB9 := Lib.hid hB9
  have HQ1 := Lib.hid (HQ1.out.ext hE5); have HP1 := Lib.hid (HP1.out.ext hE5)
  have HB2 := Lib.hid (HB2.out.ext hE5); have HE := Lib.hid (HE.out.trans hE5)
  clear hB9 hE5 hT9
  go_wp2_with fail
  refine (HRGET.out _ (HR.out.ext HE.out)).mono ?_
  intro e w6 hg
  obtain ⟨zv, rfl, hz, hE6⟩ := get_open hg
  rw [← HG0.out]
  rw [← HYB.out] at hz
  obtain ⟨z1, zm1, zc1, z2, zm2, zc2, rfl⟩ := book_shape hz.book
  have HZ := Lib.hid hz
  have HY := Lib.hid (HY.out.ext hE6); have HB9 := Lib.hid (HB9.out.ext hE6)
  have HQ1 := Lib.hid (HQ1.out.ext hE6); have HP1 := Lib.hid (HP1.out.ext hE6)
  have HB2 := Lib.hid (HB2.out.ext hE6); have HE := Lib.hid (HE.out.trans hE6)
  clear hg hz hE6 HRGET
  go_upto_region 7 with (refine wpList_store_row rfl 27 (.tmp 11) (.tmp 37) rfl w6.heap.size #[.slice z1 zm1 zc1, .slice z2 zm2 zc2] rfl rfl 27 _ (Blk.new w6 #[.slice none 0 0, .slice none 0 0] 27) (book_size _ _) rfl (by simp [Value.oneCell']) ?_)
  have hB11 : Blk ((w6.alloc (.cells #[.slice none 0 0, .slice none 0 0] 27)).setRow w6.heap.size #[.slice z1 zm1 zc1, .slice z2 zm2 zc2]) w6.heap.size #[.slice z1 zm1 zc1, .slice z2 zm2 zc2] 27 := setRow_heap _ _ _ _ _ (0, 0) (Blk.new w6 #[.slice none 0 0, .slice none 0 0] 27)
  have hE7 : Ext w6 ((w6.alloc (.cells #[.slice none 0 0, .slice none 0 0] 27)).setRow w6.heap.size #[.slice z1 zm1 zc1, .slice z2 zm2 zc2]) := ((Chg.ext (Ext.alloc w6 (.cells #[.slice none 0 0, .slice none 0 0] 27)) : Chg [w6.heap.size] w6 _).trans (Chg.some (grown_rowS _ w6.heap.size _) (.inl (by simp)))).toExt (fun t ht => by simp at ht; omega)
  obtain ⟨T11, hT11⟩ : ∃ T, T = w6.heap.size := ⟨_, rfl⟩
  rw [← hT11] at hB11 hE7 ⊢
  generalize (w6.alloc (.cells #[.slice none 0 0, .slice none 0 0] 27)).setRow T11 #[.slice z1 zm1 zc1, .slice z2 zm2 zc2] = W7 at *
  have HZ := Lib.hid (HZ.out.ext hE7); have HB11 := Lib.hid hB11
  have HY := Lib.hid (HY.out.ext hE7); have HB9 := Lib.hid (HB9.out.ext hE7)
  have HQ1 := Lib.hid (HQ1.out.ext hE7); have HP1 := Lib.hid (HP1.out.ext hE7)
  have HB2 := Lib.hid (HB2.out.ext hE7); have HE := Lib.hid (HE.out.trans hE7)
  clear hB11 hE7 hT11
  obtain ⟨sl, hsl⟩ : ∃ s, s = strOfNums PB := ⟨_, rfl⟩
  have HSL := Lib.hid hsl
  clear hsl
  apply Mono.region1 28 Ext (.is _ :: .is _ :: .is _ :: .is _ :: .is _ :: .is _ :: .is _ :: .is _ :: .is _ :: .is _ :: .is _ :: .is _ :: .is _ :: .is _ :: .is _ :: .is _ :: .is _ :: .is _ :: .is _ :: .is _ :: .is _ :: .is _ :: .is _ :: .is _ :: .is _ :: .is _ :: .is _ :: .is _ :: []) (by kernel_rfl) Ext.refl (fun _ _ _ => Ext.trans) (by kernel_rfl) rfl rfl trivial
  focus
    apply Mono.step_is
    · refine Mono.obl_mk fun w9 hE9 _ K hK => ?_
      have HBL := Lib.hid (HB2.out.ext ((Ext.drew W7).trans hE9))
      have k0 := HBL.out.cell 0 rfl; have k1 := HBL.out.cell 1 rfl
      simp only [List.getElem_toArray, List.getElem_cons_zero, List.getElem_cons_succ] at k0 k1
      clear hE9
      go_wp2_with fail
      simp only [Act.put, List.setIfInBounds_toArray, List.set_cons_succ, List.set_cons_zero] at hK
      exact hK _ _ (Ext.refl _) (Mono.is_rfl _ _)
    simp only [Act.put, List.setIfInBounds_toArray, List.set_cons_succ, List.set_cons_zero]
    apply Mono.step_is
    · refine Mono.obl_mk fun w9 hE9 _ K hK => ?_
      have HE9 := Lib.hid ((Ext.drew W7).trans hE9)
      clear hE9
      go_wp2_with fail
      refine (HFM.out _ (HV.out.ext (HE.out.trans HE9.out))).mono ?_
      rintro e w10 ⟨rfl, hE10⟩
      have HE10 := Lib.hid hE10
      clear hE10
      go_wp2_with fail
      simp only [Act.put, List.setIfInBounds_toArray, List.set_cons_succ, List.set_cons_zero] at hK
      exact hK _ _ HE10.out (Mono.is_rfl _ _)
    simp only [Act.put, List.setIfInBounds_toArray, List.set_cons_succ, List.set_cons_zero]
    apply Mono.step_is
    · refine Mono.obl_mk fun w9 hE9 _ K hK => ?_
      have HBL := Lib.hid (HB2.out.ext ((Ext.drew W7).trans hE9))
      have k0 := HBL.out.cell 0 rfl; have k1 := HBL.out.cell 1 rfl
      simp only [List.getElem_toArray, List.getElem_cons_zero, List.getElem_cons_succ] at k0 k1
      clear hE9
      go_wp2_with fail
      simp only [Act.put, List.setIfInBounds_toArray, List.set_cons_succ, List.set_cons_zero] at hK
      exact hK _ _ (Ext.refl _) (Mono.is_rfl _ _)
    simp only [Act.put, List.setIfInBounds_toArray, List.set_cons_succ, List.set_cons_zero]
    apply Mono.step_is
    · refine Mono.obl_mk fun w9 hE9 _ K hK => ?_
      have HE9 := Lib.hid ((Ext.drew W7).trans hE9)
      clear hE9
      go_wp2_with fail
      refine (HRFM.out _ (HV.out.ext (HE.out.trans HE9.out))).mono ?_
      rintro e w10 ⟨rfl, hE10⟩
      have HE10 := Lib.hid hE10
      clear hE10
      go_wp2_with fail
      simp only [Act.put, List.setIfInBounds_toArray, List.set_cons_succ, List.set_cons_zero] at hK
      exact hK _ _ HE10.out (Mono.is_rfl _ _)
    simp only [Act.put, List.setIfInBounds_toArray, List.set_cons_succ, List.set_cons_zero]
    iterate 3 (apply Mono.step_is; (· refine Mono.obl_mk fun w9 hE9 _ K hK => ?_; clear hE9; go_wp2_with fail; simp only [Act.put, List.setIfInBounds_toArray, List.set_cons_succ, List.set_cons_zero] at hK; exact hK _ _ (Ext.refl _) (Mono.is_rfl _ _)); simp only [Act.put, List.setIfInBounds_toArray, List.set_cons_succ, List.set_cons_zero])
    apply Mono.step_is
    · refine Mono.obl_mk fun w9 hE9 _ K hK => ?_
      have cv1 := (HP1.out.ext ((Ext.drew W7).trans hE9)).convert Try.underlying29 Try.underlying5 Try.underlying9
      rw [← HSL.out] at cv1
      clear hE9
      go_wp2_with fail
      simp only [Act.put, List.setIfInBounds_toArray, List.set_cons_succ, List.set_cons_zero] at hK
      exact hK _ _ (Ext.refl _) (Mono.is_rfl _ _)
    simp only [Act.put, List.setIfInBounds_toArray, List.set_cons_succ, List.set_cons_zero]
    iterate 1 (apply Mono.step_is; (· refine Mono.obl_mk fun w9 hE9 _ K hK => ?_; clear hE9; go_wp2_with fail; simp only [Act.put, List.setIfInBounds_toArray, List.set_cons_succ, List.set_cons_zero] at hK; exact hK _ _ (Ext.refl _) (Mono.is_rfl _ _)); simp only [Act.put, List.setIfInBounds_toArray, List.set_cons_succ, List.set_cons_zero])
    apply Mono.step_is
    · refine Mono.obl_mk fun w9 hE9 _ K hK => ?_
      have cv1 := (HQ1.out.ext ((Ext.drew W7).trans hE9)).convert Try.underlying29 Try.underlying5 Try.underlying9
      rw [← HSL.out] at cv1
      clear hE9
      go_wp2_with fail
      simp only [Act.put, List.setIfInBounds_toArray, List.set_cons_succ, List.set_cons_zero] at hK
      exact hK _ _ (Ext.refl _) (Mono.is_rfl _ _)
    simp only [Act.put, List.setIfInBounds_toArray, List.set_cons_succ, List.set_cons_zero]
    iterate 8 (apply Mono.step_is; (· refine Mono.obl_mk fun w9 hE9 _ K hK => ?_; clear hE9; go_wp2_with fail; simp only [Act.put, List.setIfInBounds_toArray, List.set_cons_succ, List.set_cons_zero] at hK; exact hK _ _ (Ext.refl _) (Mono.is_rfl _ _)); simp only [Act.put, List.setIfInBounds_toArray, List.set_cons_succ, List.set_cons_zero])
    apply Mono.step_is
    · refine Mono.obl_mk fun w9 hE9 _ K hK => ?_
      have HBL := Lib.hid (HB9.out.ext ((Ext.drew W7).trans hE9))
      have k0 := HBL.out.cell 0 rfl; have k1 := HBL.out.cell 1 rfl
      simp only [List.getElem_toArray, List.getElem_cons_zero, List.getElem_cons_succ] at k0 k1
      clear hE9
      go_wp2_with fail
      simp only [Act.put, List.setIfInBounds_toArray, List.set_cons_succ, List.set_cons_zero] at hK
      exact hK _ _ (Ext.refl _) (Mono.is_rfl _ _)
    simp only [Act.put, List.setIfInBounds_toArray, List.set_cons_succ, List.set_cons_zero]
    apply Mono.step_is
    · refine Mono.obl_mk fun w9 hE9 _ K hK => ?_
      have HBL := Lib.hid (HB11.out.ext ((Ext.drew W7).trans hE9))
      have k0 := HBL.out.cell 0 rfl; have k1 := HBL.out.cell 1 rfl
      simp only [List.getElem_toArray, List.getElem_cons_zero, List.getElem_cons_succ] at k0 k1
      clear hE9
      go_wp2_with fail
      simp only [Act.put, List.setIfInBounds_toArray, List.set_cons_succ, List.set_cons_zero] at hK
      exact hK _ _ (Ext.refl _) (Mono.is_rfl _ _)
    simp only [Act.put, List.setIfInBounds_toArray, List.set_cons_succ, List.set_cons_zero]
    apply Mono.step_is
    · refine Mono.obl_mk fun w9 hE9 _ K hK => ?_
      have HE9 := Lib.hid ((Ext.drew W7).trans hE9)
      clear hE9
      go_wp2_with fail
      refine (rsame25_c _ _ yb _ (HY.out.ext HE9.out).book (HZ.out.ext HE9.out).book).mono ?_
      rintro e w10 ⟨rfl, hE10⟩
      have HE10 := Lib.hid hE10
      clear hE10
      go_wp2_with fail
      simp only [Act.put, List.setIfInBounds_toArray, List.set_cons_succ, List.set_cons_zero] at hK
      exact hK _ _ HE10.out (Mono.is_rfl _ _)
    simp only [Act.put, List.setIfInBounds_toArray, List.set_cons_succ, List.set_cons_zero]
    iterate 7 (apply Mono.step_is; (· refine Mono.obl_mk fun w9 hE9 _ K hK => ?_; clear hE9; go_wp2_with fail; simp only [Act.put, List.setIfInBounds_toArray, List.set_cons_succ, List.set_cons_zero] at hK; exact hK _ _ (Ext.refl _) (Mono.is_rfl _ _)); simp only [Act.put, List.setIfInBounds_toArray, List.set_cons_succ, List.set_cons_zero])
    refine Mono.step_end fun w9 hE9 hkn => ?_
    simp only [List.drop_succ_cons, List.drop_zero]
    replace hE9 : Ext W7 w9 := (Ext.drew W7).trans hE9
    have HP1 := Lib.hid (HP1.out.ext hE9); have HB2 := Lib.hid (HB2.out.ext hE9); have HE := Lib.hid (HE.out.trans hE9); have HY := Lib.hid (HY.out.ext hE9); have HB9 := Lib.hid (HB9.out.ext hE9)
    clear hkn hE9 HQ1 HZ HB11
    go_upto_if 68 with fail
    go_cut [] (fun wd => Ext w9 wd)
    case first =>
      cases fm with
      | false =>
        have h1 : e0 = 1 := HE0.out
        subst h1
        go_wp2_with fail
        go_meet
        exact Ext.refl _
      | true =>
        have h1 : e0 = 0 := HE0.out
        subst h1
        have hpb : PB = putK b := HPB.out
        subst hpb
        have hgk := getK_put HOK.out
        rw [← HF.out] at hgk
        simp only [if_true] at hgk
        have hgp := kget_c (.slice pa pn pc) (putK b) w9 HP1.out (putK_b8 HOK.out) (by have := HSZ.out; omega)
        rw [hgk] at hgp
        have HGP := Lib.hid hgp
        clear hgk hgp
        go_wp2_with fail
        refine HGP.out.mono ?_
        intro e w11 hg
        obtain ⟨cv, rfl, hc, hE11⟩ := get_open hg
        have hc : BookT w11 cv b := hc
        obtain ⟨y3, ym3, yc3, y4, ym4, yc4, rfl⟩ := book_shape hc.book
        have HC := Lib.hid hc
        have HB2 := Lib.hid (HB2.out.ext hE11); have HE11 := Lib.hid hE11
        clear hg hc hE11 HGP
        simp only [errX]
        go_upto_region 11 with (refine wpList_store_row rfl 27 (.tmp 13) (.tmp 72) rfl w11.heap.size #[.slice y3 ym3 yc3, .slice y4 ym4 yc4] rfl rfl 27 _ (Blk.new w11 #[.slice none 0 0, .slice none 0 0] 27) (book_size _ _) rfl (by simp [Value.oneCell']) ?_)
        have hB13 : Blk ((w11.alloc (.cells #[.slice none 0 0, .slice none 0 0] 27)).setRow w11.heap.size #[.slice y3 ym3 yc3, .slice y4 ym4 yc4]) w11.heap.size #[.slice y3 ym3 yc3, .slice y4 ym4 yc4] 27 := setRow_heap _ _ _ _ _ (0, 0) (Blk.new w11 #[.slice none 0 0, .slice none 0 0] 27)
        have hE12 : Ext w11 ((w11.alloc (.cells #[.slice none 0 0, .slice none 0 0] 27)).setRow w11.heap.size #[.slice y3 ym3 yc3, .slice y4 ym4 yc4]) := ((Chg.ext (Ext.alloc w11 (.cells #[.slice none 0 0, .slice none 0 0] 27)) : Chg [w11.heap.size] w11 _).trans (Chg.some (grown_rowS _ w11.heap.size _) (.inl (by simp)))).toExt (fun t ht => by simp at ht; omega)
        obtain ⟨T13, hT13⟩ : ∃ T, T = w11.heap.size := ⟨_, rfl⟩
        rw [← hT13] at hB13 hE12 ⊢
        generalize (w11.alloc (.cells #[.slice none 0 0, .slice none 0 0] 27)).setRow T13 #[.slice y3 ym3 yc3, .slice y4 ym4 yc4] = W12 at *
        have HC := Lib.hid (HC.out.ext hE12); have HB13 := Lib.hid hB13; have HB2 := Lib.hid (HB2.out.ext hE12); have HE12 := Lib.hid (HE11.out.trans hE12)
        have k0 := HB13.out.cell 0 rfl; have k1 := HB13.out.cell 1 rfl; have k2 := HB2.out.cell 0 rfl; have k3 := HB2.out.cell 1 rfl
        simp only [List.getElem_toArray, List.getElem_cons_zero, List.getElem_cons_succ] at k0 k1 k2 k3
        clear hB13 hE12 hT13
        go_wp2_with fail
        refine (rsame25_c _ _ b _ HC.out.book (HV.out.ext (HE.out.trans HE12.out))).mono ?_
        rintro e w13 ⟨rfl, hE13⟩
        have HE13 := Lib.hid (HE12.out.trans hE13)
        clear hE13 k0 k1 k2 k3
        go_wp2_with fail
        go_meet
        exact HE13.out
    case rest =>
      have HEC := Lib.hid hcut
      have HE := Lib.hid (HE.out.trans hcut)
      clear hcut
      cases X with
      | error no =>
        have h1 : g0 = no := HG0.out
        subst h1
        have hne := kN_err0 HX.out.symm
        have hnb : (g0 == 0) = false := by simpa using hne
        clear hne
        go_wp2_with fail
        go_ret
        exact ⟨rfl, HE.out⟩
      | ok y =>
        have h1 : g0 = 0 := HG0.out
        subst h1
        have h2 : yb = y := HYB.out
        subst h2
        obtain ⟨hbs, hfy, hoy⟩ := getK_inv HB8.out HX.out.symm
        have hpy := fun W h => kput_c (.agg #[.slice y1 ym1 yc1, .slice y2 ym2 yc2]) yb W h hoy (by rw [← hbs]; exact HL.out)
        have HPY := Lib.hid hpy; have HFY := Lib.hid hfy; have HBS := Lib.hid hbs
        have HB9 := Lib.hid (HB9.out.ext HEC.out); have HY := Lib.hid (HY.out.ext HEC.out)
        clear hbs hfy hoy hpy
        go_wp2_with (refine wpList_load_row rfl 27 (.tmp 9) rfl T9 rfl 27 _ (0, 0) _ HB9.out Try.underlying27 rfl (by kernel_rfl) ?_)
        refine (HPY.out _ HY.out.book).mono ?_
        intro e w14 hp
        obtain ⟨ov, rfl, ho1, hE14⟩ := put_open hp
        rw [HFY.out] at ho1 ⊢
        simp only [if_true] at ho1 ⊢
        rw [← HBS.out] at ho1
        obtain ⟨oa, on, oc, rfl⟩ := ho1.shape
        have cv1 := ho1.convert Try.underlying29 Try.underlying5 Try.underlying9
        have cv2 := (HR.out.ext (HE.out.trans hE14)).convert Try.underlying29 Try.underlying5 Try.underlying9
        generalize strOfNums bs = sx at *
        have HE14 := Lib.hid (HE.out.trans hE14)
        clear hp ho1 hE14
        go_wp2_with fail
        go_ret
        exact ⟨rfl, HE14.out⟩
end Go.Proofs.Ytgefphfnicjbiaa
