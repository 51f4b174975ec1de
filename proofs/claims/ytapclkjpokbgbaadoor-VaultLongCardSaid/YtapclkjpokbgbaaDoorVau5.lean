/- vault: Put of none, on a vault that is over, of too long a text; tabellionlaw11: text. -/
import Derived.Test.YtapclkjpokbgbaaDoorVau4
set_option linter.unusedSimpArgs false
set_option linter.unusedVariables false
namespace Go.Proofs.YtapclkjpokbgbaaDoor
open Go Go.RowKit Go.Maps

set_option maxHeartbeats 1000000 in
theorem vput_fin0 (b : Nat) (e : Int) (F : World) (tmps : Array Value) (R : Ending → World → Prop) (hb : Blk F b #[.int .i64 e] 27) (ht : tmps[4]? = some (ptr b)) (hR : R (.returned (.int .i64 e)) F) :
    bodyPostD Tryd.prog Tryd.f17 R .ret { tmps := tmps, defers := [] } F := by
  have y0 := hb.cell 0 rfl
  simp only [List.getElem_toArray, List.getElem_cons_zero] at y0
  simp [bodyPostD, Leaves, settle, results, Tryd.results17, go_sem, ht, y0]
  exact hR
theorem two_blk (w : World) (v e : Value) : Ext w ((w.alloc (.cells #[v] 37)).alloc (.cells #[e] 27)) ∧ Blk ((w.alloc (.cells #[v] 37)).alloc (.cells #[e] 27)) (w.heap.size + 1) #[e] 27 := by
  have hs : (w.alloc (.cells #[v] 37)).heap.size = w.heap.size + 1 := by simp
  refine ⟨(Ext.alloc _ _).trans (Ext.alloc _ _), ?_⟩
  rw [← hs]; exact Blk.new _ _ _
set_option maxRecDepth 100000 in
set_option maxHeartbeats 1000000 in
theorem vput_nil (bv : Value) (w : World) : Calls Tryd.prog 17 #[.pointer none, bv] w fun e w' => e = .returned (.int .i64 6) ∧ Ext w w' := by
  go_enter_defers Tryd.func17, Tryd.ntmps17
  go_wp2_with fail
  obtain ⟨h1, h2⟩ := two_blk w (.pointer none) (.int .i64 6)
  exact vput_fin0 _ 6 _ _ _ h2 rfl ⟨rfl, h1⟩
set_option maxRecDepth 100000 in
set_option maxHeartbeats 1000000 in
theorem vput_over (v d : Nat) (name : ByteArray) (cv bv : Value) (has : Bool) (w : World) (hv : VauB w v d name cv has true) : Calls Tryd.prog 17 #[dptr v, bv] w fun e w' => e = .returned (.int .i64 6) ∧ Ext w w' := by
  have hlv := Blk.lt hv
  obtain ⟨c0, c1, c2, c3, c4⟩ := Blk.five hv
  clear c0 c1 c2 c3 hv
  go_enter_defers Tryd.func17, Tryd.ntmps17
  go_wp2_with fail
  obtain ⟨h1, h2⟩ := two_blk w (dptr v) (.int .i64 6)
  exact vput_fin0 _ 6 _ _ _ h2 rfl ⟨rfl, h1⟩
set_option maxRecDepth 100000 in
set_option maxHeartbeats 1000000 in
theorem vput_long (v d : Nat) (name : ByteArray) (cv : Value) (has : Bool) (ba : Option Addr) (L bc : Nat) (w : World) (hv : VauB w v d name cv has false) (hL : 32768 < L) (hL2 : L ≤ maxLen) : Calls Tryd.prog 17 #[dptr v, .slice ba L bc] w fun e w' => e = .returned (.int .i64 4) ∧ Ext w w' := by
  have hlv := Blk.lt hv
  have hLi : (32768 : Int) < L := by omega
  replace hL2 : L ≤ 9223372036854775807 := by unfold maxLen at hL2; omega
  obtain ⟨c0, c1, c2, c3, c4⟩ := Blk.five hv
  clear c0 c1 c2 c3 hv hL
  go_enter_defers Tryd.func17, Tryd.ntmps17
  go_wp2_with fail
  obtain ⟨h1, h2⟩ := two_blk w (dptr v) (.int .i64 4)
  exact vput_fin0 _ 4 _ _ _ h2 rfl ⟨rfl, h1⟩
/-- A text. -/
def textV (b : List Int) (has : Bool) : Value := .agg #[.string (strOfNums b), .bool has]
set_option maxHeartbeats 1000000 in
theorem text_fin (p : Nat) (s : ByteArray) (h : Bool) (F : World) (tmps : Array Value) (R : Ending → World → Prop) (hP : Blk F p #[.string s, .bool h] 45) (ht : tmps[2]? = some (ptr p)) (hR : R (.returned (.agg #[.string s, .bool h])) F) :
    bodyPost Tryd.prog Tryd.f19 R .ret { tmps := tmps, defers := [] } F := by
  have y0 := hP.cell 0 rfl; have y1 := hP.cell 1 rfl
  simp only [List.getElem_toArray, List.getElem_cons_zero, List.getElem_cons_succ] at y0 y1
  refine bodyPost_ret (v := .agg #[.string s, .bool h]) ?_ rfl hR
  simp [results, Tryd.results19, go_sem, ht, y0, y1]
set_option maxRecDepth 100000 in
set_option maxHeartbeats 1000000 in
theorem text_nil (w : World) : Calls Tryd.prog 19 #[.pointer none] w fun e w' => e = .returned (textV [] false) ∧ Ext w w' := by
  have hcv := fun (w : World) => (Rd.nil w).convert (P := Tryd.prog) (xs := []) Tryd.underlying36 Tryd.underlying5 Tryd.underlying9
  go_enter Tryd.func19, Tryd.ntmps19
  go_wp2_with fail
  refine (vget_nil _).mono ?_
  rintro e w1 ⟨rfl, rfl⟩
  go_wp2_with fail
  go_loopg [6] 1 (fun g iv wr => iv = .int .i64 0 ∧ wr = w.alloc (.cells #[.string ⟨#[]⟩, .bool false] 45))
  case atStart => exact ⟨rfl, rfl⟩
  case round =>
    obtain ⟨rfl, rfl⟩ := hrel
    go_wp2_with fail
    exact text_fin _ _ _ _ _ _ (Blk.new _ _ _) rfl ⟨rfl, Ext.alloc _ _⟩
set_option maxRecDepth 100000 in
set_option maxHeartbeats 1000000 in
theorem text_c (v d : Nat) (name : ByteArray) (bv : Value) (bs : List Int) (has ov : Bool) (w : World) (h : VauB w v d name bv has ov) (hb : Rd w bv (u8s bs)) (hl : bs.length ≤ 140737488355328) :
    Calls Tryd.prog 19 #[dptr v] w fun e w' => e = .returned (textV bs has) ∧ Ext w w' := by
  have HCV := Lib.hid (fun (w : World) (v : Value) (xs : List Int) (h : Rd w v (u8s xs)) => h.convert (P := Tryd.prog) Tryd.underlying36 Tryd.underlying5 Tryd.underlying9)
  have HV := Lib.hid h; have HB := Lib.hid hb
  clear h hb
  go_enter Tryd.func19, Tryd.ntmps19
  obtain ⟨w1, hw1⟩ : ∃ w1, w1 = w.alloc (.cells #[.string ⟨#[]⟩, .bool false] 45) := ⟨_, rfl⟩
  have hE1 : Ext w w1 := by rw [hw1]; exact Ext.alloc _ _
  have hP : Blk w1 w.heap.size #[.string ⟨#[]⟩, .bool false] 45 := by rw [hw1]; exact Blk.new _ _ _
  go_upto_region 1 with fail
  rw [← hw1]
  obtain ⟨p, hp⟩ : ∃ p, p = w.heap.size := ⟨_, rfl⟩
  rw [← hp] at hP ⊢
  have HE1 := Lib.hid hE1; have HP := Lib.hid hP; have hpw : w.heap.size ≤ p := by omega
  clear hw1 hE1 hP hp
  go_wp2_with fail
  refine (vget_c v d name bv bs has ov w1 (Blk.ext HV.out HE1.out) (HB.out.ext HE1.out) hl).mono ?_
  rintro e w2 ⟨cv, rfl, ho, hE2⟩
  obtain ⟨xa, L', xc, rfl⟩ := (Rd.of_own ho).shape
  obtain rfl : bs.length = L' := by
    rcases ho.2 with ⟨hv, h0⟩ | ⟨g, cap, cur, hv, _⟩
    · injection hv with e1 e2 e3; omega
    · injection hv with e1 e2 e3; exact e2.symm
  obtain ⟨L, hL⟩ : ∃ L, L = bs.length := ⟨_, rfl⟩
  rw [← hL] at ho hl ⊢
  have hwb : w1.heap.size ≤ w2.heap.size := hE2.size
  have hpl : p < w1.heap.size := HP.out.lt
  have hcv := HCV.out w2 _ _ (Rd.of_own ho)
  obtain ⟨B0, hB0⟩ : ∃ B0, B0 = w1.heap.size := ⟨_, rfl⟩
  rw [← hB0] at ho hwb hpl
  have hB0w : w.heap.size ≤ B0 := by rw [hB0]; exact HE1.out.size
  have HO := Lib.hid ho; have HE2 := Lib.hid (HE1.out.trans hE2); have HP2 := Lib.hid (HP.out.ext hE2); have HLN := Lib.hid hL.symm
  clear ho hE2 hL hB0
  go_wp2_with fail
  go_loopg [6] L (fun g kv wk => ∃ (k : Nat) (xs : List Int), kv = .int .i64 (k : Int) ∧ k + g = L ∧ xs.length = L ∧ wk.ownsRow B0 5 1 (.slice xa L xc) L (u8s xs) ∧ Ext w wk ∧ Blk wk p #[.string ⟨#[]⟩, .bool false] 45)
  case atStart => exact ⟨0, bs, rfl, by omega, HLN.out, HO.out, HE2.out, HP2.out⟩
  case round =>
    obtain ⟨k, xs, rfl, hk, hxl, hxo, hEK, hPK⟩ := hrel
    have HEK := Lib.hid hEK; have HXO := Lib.hid hxo; have HPK := Lib.hid hPK
    by_cases hkl : k < L
    · obtain ⟨g, rfl, hgw, hfz, c8⟩ : ∃ g, xa = some ⟨g, 0, none⟩ ∧ B0 ≤ g ∧ wr.frozen? ⟨g, k, none⟩ = false ∧ wr.cell? ⟨g, k, none⟩ = some (.int .u8 (xs.getD k 0)) := own_at8 hxo hxl hkl
      obtain ⟨z, hz⟩ : ∃ z, z = xs.getD k 0 := ⟨_, rfl⟩
      rw [← hz] at c8
      have hkc : k < xc := own_cap8 hxo hkl
      have HXL := Lib.hid hxl
      clear hxo hEK hxl hz hPK
      go_wp2_with fail
      go_roundg (L - (k + 1))
      case measure => omega
      case rel =>
        refine ⟨k + 1, _, by go_num, by omega, ?_, own_set8 HXO.out _ _, ?_, ?_⟩
        · rw [List.length_set]; exact HXL.out
        · exact Below.grown HEK.out (grown_set _ g _ _) HEK.out.size (fun j hj => by have := Option.some.inj hj; omega)
        · exact HPK.out.other ⟨g, k, none⟩ _ (show g ≠ p by omega)
    · have hge : (L : Int) ≤ (k : Int) := by omega
      have f0 := hPK.free 0; have f1 := hPK.free 1
      have y0 := hPK.cell 0 rfl; have y1 := hPK.cell 1 rfl
      simp only [List.getElem_toArray, List.getElem_cons_zero, List.getElem_cons_succ] at y0 y1
      clear hkl hEK hxo hPK
      go_wp2_with fail
      have hS : Blk ((wr.setCell ⟨p, 0, none⟩ (.string (strOfNums bs))).setCell ⟨p, 1, none⟩ (.bool has)) p #[.string (strOfNums bs), .bool has] 45 := by simpa using (HPK.out.set 0 (.string (strOfNums bs))).set 1 (.bool has)
      have hg : Chg [p] wr ((wr.setCell ⟨p, 0, none⟩ (.string (strOfNums bs))).setCell ⟨p, 1, none⟩ (.bool has)) := (Chg.set _ 0 _ (by simp)).setNew _ 1 _ (.inl (by simp))
      exact text_fin _ _ _ _ _ _ hS rfl ⟨rfl, Chg.below HEK.out hg HEK.out.size (fun t ht => by simp at ht; subst ht; exact hpw)⟩
end Go.Proofs.YtapclkjpokbgbaaDoor
