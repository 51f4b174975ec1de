/- tabellionlaw11: run.put. -/
import Derived.Test.YtapclkjpokbgbaaDoorVauc
set_option linter.unusedSimpArgs false
set_option linter.unusedVariables false
namespace Go.Proofs.YtapclkjpokbgbaaDoor
open Go Go.RowKit Go.Maps

theorem own_blk {w : World} {B : Nat} {e : TypeId} {v : Value} {n : Nat} {xs : List Value} (h : w.ownsRow B e 1 v n xs) : ∀ g ∈ v.ownBlock.toList, B ≤ g ∧ g < w.heap.size := by
  intro g hg
  rcases h.2 with ⟨hv, _⟩ | ⟨g', cap, cur, hv, hge, hh, _⟩
  · rw [hv] at hg; simp [Value.ownBlock] at hg
  · rw [hv] at hg; simp [Value.ownBlock] at hg; subst hg; exact ⟨hge, (Array.getElem?_eq_some_iff.1 hh).1⟩
/-- What a put leaves of a run. -/
def PutFin (w0 w : World) (r d v x n : Nat) (t : Txt) (b : List Int) (bv : Value) (X : Int × Dk) : Prop :=
  Rd w bv (u8s b) ∧ ∃ O' cv, OffL bv (u8s b) O' ∧ (X.1 = 0 ∧ RunV w0 w r d v x (n + 2) O' X.2 (b, true) (b, true) (b, true) false false cv ∨ X.1 = 6 ∧ RunV w0 w r d v x (n + 2) O' X.2 t t (b, true) true true cv)
theorem PutFin.ext {w0 w w' : World} {r d v x n : Nat} {t : Txt} {b : List Int} {bv : Value} {X : Int × Dk} (H : PutFin w0 w r d v x n t b bv X) (hE : Ext w w') : PutFin w0 w' r d v x n t b bv X := by
  obtain ⟨h0, O', cv, h1, h | h⟩ := H
  · exact ⟨h0.ext hE, O', cv, h1, .inl ⟨h.1, h.2.ext hE⟩⟩
  · exact ⟨h0.ext hE, O', cv, h1, .inr ⟨h.1, h.2.ext hE⟩⟩
set_option maxRecDepth 100000 in
set_option maxHeartbeats 4000000 in
theorem vrput_c (w0 : World) (r d v x n : Nat) (O : List Nat) (S : Dk) (t m : Txt) (cv bv : Value) (b : List Int) (w : World) (H : RunV w0 w r d v x n O S t t m false false cv) (hn : n ≤ 900) (hV : VInv snapN S t) (hu : (usedF S.now : Int) + b.length ≤ S.room) (hb : Rd w bv (u8s b)) (hbO : OffL bv (u8s b) O) (hb8 : B8 b) (hbl : b.length ≤ 32768) :
    Calls Tryd.prog 21 #[dptr r, bv] w fun e w' => e = .returned (.bool true) ∧ PutOut snapN S t b (putV S snapN b) ∧ PutFin w0 w' r d v x n t b bv (putV S snapN b) := by
  have HCV := Lib.hid (fun (w : World) (v : Value) (xs : List Int) (h : Rd w v (u8s xs)) => h.convert (P := Tryd.prog) Tryd.underlying36 Tryd.underlying5 Tryd.underlying9)
  have HH := Lib.hid H; have HV := Lib.hid hV; have HU := Lib.hid hu; have HB := Lib.hid hb; have HBO := Lib.hid hbO; have HB8 := Lib.hid hb8
  obtain ⟨ba, bc, rfl, _, _, _⟩ := hb
  rw [u8s_len] at HB HBO ⊢
  obtain ⟨L, hL⟩ : ∃ L, L = b.length := ⟨_, rfl⟩
  rw [← hL] at HB HBO hbl ⊢
  have HL := Lib.hid hL
  clear H hV hu hb8 hL hbO
  obtain ⟨X, hX⟩ : ∃ X, X = putV S snapN b := ⟨_, rfl⟩
  rw [← hX]
  have HX := Lib.hid hX
  clear hX
  obtain ⟨X1, X2⟩ := X
  go_enter Tryd.func21, Tryd.ntmps21
  have HO1 : Hid ((w.alloc (.cells #[] 5)).ownsRow w.heap.size 5 1 (.slice (some ⟨w.heap.size, 0, none⟩) 0 0) 0 []) := own_lit w [] 5 (by simp)
  go_upto_region 2 with (at_builtin; refine wpList_append_rd rfl (.tmp 9) (.tmp 10) _ rfl el8 w.heap.size _ 0 [] (u8s b) rfl HO1.out _ rfl (HB.out.ext (Ext.alloc _ _)) (u8s_one _) (by rw [u8s_len]; have := HL.out; omega) (by rw [u8s_len]; unfold maxLen; have := HL.out; omega) (by simp) ?_; intro ov w2 ho2 hg2)
  have hg2' : (w.alloc (.cells #[] 5)).grownBy w2 (some w.heap.size) := hg2
  have hE2 : Ext w w2 := Below.grown (Ext.alloc w (.cells #[] 5)) hg2' (by simp) (by intro k hk; cases hk; exact Nat.le_refl _)
  have ho : w2.ownsRow w.heap.size 5 1 ov L (u8s b) := by
    rw [show L = 0 + (u8s b).length from by rw [u8s_len, ← HL.out, Nat.zero_add]]
    exact ho2
  have hblk := own_blk ho
  obtain ⟨B0, hB0⟩ : ∃ B0, B0 = w.heap.size := ⟨_, rfl⟩
  rw [← hB0] at ho hblk
  obtain ⟨oa, on, oc, rfl⟩ := (Rd.of_own ho).shape
  obtain rfl : L = on := by
    rcases ho.2 with ⟨hv, h0⟩ | ⟨g, cap, cur, hv, _⟩
    · injection hv with e1 e2 e3; omega
    · injection hv with e1 e2 e3; exact e2.symm
  obtain ⟨G, hG⟩ : ∃ G, G = (Value.slice oa L oc).ownBlock.toList := ⟨_, rfl⟩
  rw [← hG] at hblk
  have HG := Lib.hid hG; have HO := Lib.hid ho; have HBLK := Lib.hid hblk
  have HR2 := Lib.hid (HH.out.ext hE2); have HB2 := Lib.hid (HB.out.ext hE2)
  have HVS2 := Lib.hid (HH.out.vs.foreign hE2 (F' := G) (fun k hk => .inr (by have := (hblk k hk).1; omega)) (fun k hk => (hblk k hk).2))
  have HOO := Lib.hid (show OffL (.slice oa L oc) (u8s b) O from (From.own ho).off fun k hk => by rw [hB0]; exact HH.out.vs.dk.low k hk)
  have HLB0 := Lib.hid (show ∀ k, k = r ∨ k = x ∨ k = v ∨ k ∈ O → k < B0 from fun k hk => by
    rw [hB0]
    rcases hk with rfl | rfl | rfl | hk
    · exact HH.out.rb.lt
    · exact Blk.lt HH.out.xb
    · exact Blk.lt HH.out.vs.vb
    · exact HH.out.vs.dk.low k hk)
  have hB02 : B0 ≤ w2.heap.size := by rw [hB0]; exact hE2.size
  have hBoff : ∀ k ∈ G, ∀ a n c, Value.slice ba L bc = .slice (some a) n c → u8s b ≠ [] → a.block ≠ k := fun k hk a n c e hne e2 => by
    have h1 := HB.out.ltB e hne
    have h2 := (hblk k hk).1
    omega
  have HBOG := Lib.hid (show OffL (.slice ba L bc) (u8s b) G from fun a n c e hne hm => hBoff _ hm a n c e hne rfl)
  have HNW := Lib.hid (show w0.heap.size ≤ B0 from by rw [hB0]; exact HH.out.vs.old.size)
  obtain ⟨c0, c1, c2⟩ := HR2.out.rb.three
  clear hE2 ho ho2 hg2 hg2' hblk hG hB0 hBoff HO1
  go_wp2_with fail
  refine (vput_s w0 v d n O G S snapN t cv (.slice oa L oc) b w2 HVS2.out (by omega) snap4 HV.out HU.out (Rd.of_own HO.out) HOO.out HB8.out (by have := HL.out; omega)).mono ?_
  rintro e w3 ⟨hP, rfl, hC3, O3, hO3, cv', h⟩
  rw [← HX.out] at hP h ⊢
  dsimp only at hP h ⊢
  clear HX
  obtain ⟨t2, vo2, hVS, hk⟩ : ∃ t2 vo2, VS w0 w3 v d (n + 2) O3 G X2 snapN t2 vo2 cv' ∧ (X1 = 0 ∧ t2 = (b, true) ∧ vo2 = false ∨ X1 = 6 ∧ t2 = t ∧ vo2 = true) := by
    rcases h with ⟨h0, h1, _⟩ | ⟨h6, h1⟩
    · exact ⟨_, _, h1, .inl ⟨h0, rfl, rfl⟩⟩
    · exact ⟨_, _, h1, .inr ⟨h6, rfl, rfl⟩⟩
  have hvO : ∀ k ∈ v :: O, k < B0 := fun k hk => HLB0.out k ((List.mem_cons.1 hk).elim (fun e => .inr (.inr (.inl e))) (fun e => .inr (.inr (.inr e))))
  have HP := Lib.hid hP; have HK := Lib.hid hk; have HVS := Lib.hid hVS
  have HO3 := Lib.hid (own_chgB HO.out hC3 (fun k hk => .inl (hvO k hk)))
  have HRB3 := Lib.hid (HR2.out.rb.chg hC3 (fun hm => (List.mem_cons.1 hm).elim (fun e => HR2.out.vr e.symm) HR2.out.rO))
  have HXB3 := Lib.hid (show RVauB w3 x t m false from Blk.chg HR2.out.xb hC3 (fun hm => (List.mem_cons.1 hm).elim (fun e => HR2.out.vx e.symm) HR2.out.xO))
  have hrO3 : r ∉ O3 := new_off11 hO3 HR2.out.rO HR2.out.rb.lt
  have hxO3 : x ∉ O3 := new_off11 hO3 HR2.out.xO (Blk.lt HR2.out.xb)
  have hgO3 : ∀ k ∈ G, k ∉ O3 := fun k hk hm => by
    have := HBLK.out k hk
    rcases hO3 k hm with e | e
    · have := HLB0.out k (.inr (.inr (.inr e))); omega
    · omega
  have HB3 := Lib.hid (HB2.out.chgA HBO.out hC3 (fun k hk => (List.mem_cons.1 hk).elim (fun e => by rw [e]; exact .inl (vau_nob HR2.out.vs.vb HR2.out.vs.rd.shape)) (fun e => .inr (.inl e))))
  have HOF := Lib.hid (HBO.out.more HB2.out hO3)
  have hvr := HR2.out.vr; have hvx := HR2.out.vx; have hrx := HR2.out.rx; have hnr := HR2.out.newr; have hnx := HR2.out.newx
  have HSEP := Lib.hid (show (v ≠ r ∧ v ≠ x ∧ r ≠ x ∧ w0.heap.size ≤ r ∧ w0.heap.size ≤ x ∧ r ∉ O3 ∧ x ∉ O3) from ⟨hvr, hvx, hrx, hnr, hnx, hrO3, hxO3⟩)
  have HGO3 := Lib.hid hgO3
  clear hP h hk hVS hC3 hO3 hvO hrO3 hxO3 hgO3 hvr hvx hrx hnr hnx c0 c1 c2 HR2 HVS2 HB2 HO
  go_upto_region 3 with fail
  go_wp2_with fail
  go_loopg [7] L (fun g kv wk => ∃ (k : Nat) (xs : List Int), kv = .int .i64 (k : Int) ∧ k + g = L ∧ xs.length = L ∧ wk.ownsRow B0 5 1 (.slice oa L oc) L (u8s xs) ∧ VS w0 wk v d (n + 2) O3 G X2 snapN t2 vo2 cv' ∧ Blk wk r #[dptr d, dptr v, dptr x] 55 ∧ RVauB wk x t m false ∧ Rd wk (.slice ba L bc) (u8s b))
  case atStart => exact ⟨0, b, rfl, by omega, HL.out.symm, HO3.out, HVS.out, HRB3.out, HXB3.out, HB3.out⟩
  case round =>
    obtain ⟨k, xs, rfl, hk, hxl, hxo, hVk, hrk, hxk, hbk⟩ := hrel
    have HXO := Lib.hid hxo; have HVK := Lib.hid hVk; have HRK := Lib.hid hrk; have HXK := Lib.hid hxk; have HBK := Lib.hid hbk
    by_cases hkl : k < L
    · obtain ⟨g, rfl, hgw, hfz, c8⟩ : ∃ g, oa = some ⟨g, 0, none⟩ ∧ B0 ≤ g ∧ wr.frozen? ⟨g, k, none⟩ = false ∧ wr.cell? ⟨g, k, none⟩ = some (.int .u8 (xs.getD k 0)) := own_at8 hxo hxl hkl
      have hgG : g ∈ G := by rw [HG.out]; simp [Value.ownBlock]
      have HGG := Lib.hid hgG
      obtain ⟨z, hz⟩ : ∃ z, z = xs.getD k 0 := ⟨_, rfl⟩
      rw [← hz] at c8
      have hkc : k < oc := own_cap8 hxo hkl
      have HXL := Lib.hid hxl
      clear hxo hVk hrk hxk hbk hxl hz hgG
      go_wp2_with fail
      go_roundg (L - (k + 1))
      case measure => omega
      case rel =>
        have hgr : ∀ z', Chg [g] wr (wr.setCell ⟨g, k, none⟩ z') := fun z' => Chg.set g k z' (by simp)
        have hlt := HLB0.out
        refine ⟨k + 1, _, by go_num, by omega, ?_, own_set8 HXO.out _ _, HVK.out.chg (hgr _) (fun y hy => by
          simp at hy
          subst hy
          exact ⟨HGO3.out _ HGG.out, by have := hlt v (.inr (.inr (.inl rfl))); omega, .inr HGG.out, Nat.le_trans HNW.out hgw⟩), HRK.out.chg (hgr _) (by simp; have := hlt r (.inl rfl); omega), Blk.chg HXK.out (hgr _) (by simp; have := hlt x (.inr (.inl rfl)); omega), HBK.out.chgA HBOG.out (hgr _) (fun y hy => by simp at hy; subst hy; exact .inr (.inl HGG.out))⟩
        rw [List.length_set]; exact HXL.out
    · have hge : (L : Int) ≤ (k : Int) := by omega
      obtain ⟨hvr, hvx, hrx, hnr, hnx, hrO3, hxO3⟩ := HSEP.out
      have hRK : RunV w0 wr r d v x (n + 2) O3 X2 t2 t m vo2 false cv' := ⟨HVK.out.foreign (Ext.refl _) (F' := []) (by simp) (by simp), hrk, hxk, hrO3, hxO3, hvr, hvx, hrx, hnr, hnx⟩
      have HRK := Lib.hid hRK
      have hcv := HCV.out wr _ _ hbk
      obtain ⟨s, hs⟩ : ∃ s, s = strOfNums b := ⟨_, rfl⟩
      rw [← hs] at hcv
      have HS := Lib.hid hs
      obtain ⟨w6, hw6⟩ : ∃ w6, w6 = wr.alloc (.cells #[.string s, .bool true] 45) := ⟨_, rfl⟩
      have hE6 : Ext wr w6 := by rw [hw6]; exact Ext.alloc _ _
      have hP6 : Blk w6 wr.heap.size #[.string s, .bool true] 45 := by rw [hw6]; exact Blk.new _ _ _
      obtain ⟨p, hp⟩ : ∃ p, p = wr.heap.size := ⟨_, rfl⟩
      rw [← hp] at hP6
      have HP6 := Lib.hid hP6; have HR6 := Lib.hid (hRK.ext hE6); have HB6 := Lib.hid (hbk.ext hE6)
      have hLi : (L : Int) ≤ 32768 := by omega
      clear hkl hxo hVk hrk hxk hbk hs hRK hvr hvx hrx hnr hnx hrO3 hxO3 hE6 hP6 HVK HXK HBK HXO
      have hdk : decide (k < L) = false := decide_eq_false (by omega)
      have HDK := Lib.hid hdk
      clear hdk
      go_upto_region 8 with fail
      rw [← hw6, ← hp]
      try rw [HDK.out]
      clear HDK
      obtain ⟨c0, c1, c2⟩ := HR6.out.rb.three
      obtain ⟨y0, y1, y2, y3, y4⟩ := Blk.five HR6.out.xb
      have q0 := HP6.out.cell 0 rfl; have q1 := HP6.out.cell 1 rfl
      simp only [List.getElem_toArray, List.getElem_cons_zero, List.getElem_cons_succ] at q0 q1
      clear hw6 hp hcv y0 y1 y2 y3
      go_upto_block 2 with fail
      clear y4
      go_cut [] (fun wc => PutFin w0 wc r d v x n t b (.slice ba L bc) (X1, X2))
      case first =>
        rcases HK.out with ⟨h1, h2, h3⟩ | ⟨h1, h2, h3⟩
        · subst h1 h2 h3
          clear HK HVS HRK
          go_upto_region 15 with fail
          apply Mono.region1 5 Ext [.is _, .is _, .is _, .is _, .is _] (by kernel_rfl) Ext.refl (fun _ _ _ => Ext.trans) (by kernel_rfl) rfl rfl trivial
          focus
            iterate 5 (apply Mono.step_is; (· refine Mono.obl_mk fun w7 hE7 _ K hK => ?_; (have j2 := hE7.cell (show w6.drew.cell? _ = _ from c2)); (have i0 := hE7.cell (show w6.drew.cell? _ = _ from q0)); (have i1 := hE7.cell (show w6.drew.cell? _ = _ from q1)); clear hE7; go_wp2_with fail; simp only [Act.put, List.setIfInBounds_toArray, List.set_cons_succ, List.set_cons_zero] at hK; exact hK _ _ (Ext.refl _) (Mono.is_rfl _ _)); simp only [Act.put, List.setIfInBounds_toArray, List.set_cons_succ, List.set_cons_zero])
            refine Mono.step_end fun w7 hE7 hkn => ?_
            simp only [List.drop_succ_cons, List.drop_zero]
            clear hkn
            have hE67 := (Ext.drew w6).trans hE7
            have HR7 := Lib.hid (HR6.out.ext hE67); have HB7 := Lib.hid (HB6.out.ext hE67)
            clear hE7 hE67
            go_wp2_with fail
            rw [show (Value.agg #[.string s, .bool true]) = textV (b, true).1 (b, true).2 from by unfold textV; rw [HS.out]]
            refine (vtook_c x t m (b, true) false w7 HR7.out.xb).mono ?_
            rintro e w8 ⟨rfl, hx8, hg8⟩
            have HF := Lib.hid (HR7.out.ref hx8 hg8); have HB8 := Lib.hid (HB7.out.chgB hg8 (fun k hk => by simp at hk; subst hk; exact .inl (rvau_nob HR7.out.xb)))
            clear hx8 hg8
            go_wp2_with fail
            go_meet
            exact ⟨HB8.out, O3, cv', HOF.out, .inl ⟨rfl, HF.out⟩⟩
        · subst h1 h2 h3
          clear HK HVS HRK
          obtain ⟨e0, _⟩ | ⟨_, _, hoff, _⟩ := HP.out
          · exact absurd (show (6 : Int) = 0 from e0) (by decide)
          have HOFF := Lib.hid hoff
          clear hoff
          go_wp2_with fail
          refine (down_c d (n + 2) 32768 O3 [] X2 w6 HR6.out.vs.dk).mono ?_
          rintro e w5 ⟨rfl, rfl⟩
          rw [show X2.off = true from HOFF.out]
          go_upto_region 20 with fail
          apply Mono.region1 5 Ext [.is _, .is _, .is _, .is _, .is _] (by kernel_rfl) Ext.refl (fun _ _ _ => Ext.trans) (by kernel_rfl) rfl rfl trivial
          focus
            iterate 5 (apply Mono.step_is; (· refine Mono.obl_mk fun w7 hE7 _ K hK => ?_; (have j2 := hE7.cell (show w5.drew.cell? _ = _ from c2)); (have i0 := hE7.cell (show w5.drew.cell? _ = _ from q0)); (have i1 := hE7.cell (show w5.drew.cell? _ = _ from q1)); clear hE7; go_wp2_with fail; simp only [Act.put, List.setIfInBounds_toArray, List.set_cons_succ, List.set_cons_zero] at hK; exact hK _ _ (Ext.refl _) (Mono.is_rfl _ _)); simp only [Act.put, List.setIfInBounds_toArray, List.set_cons_succ, List.set_cons_zero])
            refine Mono.step_end fun w7 hE7 hkn => ?_
            simp only [List.drop_succ_cons, List.drop_zero]
            clear hkn
            have hE67 := (Ext.drew w5).trans hE7
            have HR7 := Lib.hid (HR6.out.ext hE67); have HB7 := Lib.hid (HB6.out.ext hE67)
            clear hE7 hE67
            go_wp2_with fail
            rw [show (Value.agg #[.string s, .bool true]) = textV (b, true).1 (b, true).2 from by unfold textV; rw [HS.out]]
            refine (vlost_c x _ m (b, true) false w7 HR7.out.xb).mono ?_
            rintro e w8 ⟨rfl, hx8, hg8⟩
            have HF := Lib.hid (HR7.out.ref hx8 hg8); have HB8 := Lib.hid (HB7.out.chgB hg8 (fun k hk => by simp at hk; subst hk; exact .inl (rvau_nob HR7.out.xb)))
            clear hx8 hg8
            go_wp2_with fail
            go_meet
            exact ⟨HB8.out, O3, cv', HOF.out, .inr ⟨rfl, HF.out⟩⟩
      case rest =>
      have hgen : ∃ n' O' S' tt m' vov' ov' cv2, tt.1.length ≤ 32768 ∧ RunV w0 wc r d v x n' O' S' tt tt m' vov' ov' cv2 := by
        obtain ⟨_, O', c2, _, hc | hc⟩ := hcut
        · exact ⟨_, _, _, _, _, _, _, _, hc.2.vs.len, hc.2⟩
        · exact ⟨_, _, _, _, _, _, _, _, hc.2.vs.len, hc.2⟩
      obtain ⟨n', O', S', tt, m', vov', ov', cv2, htl, hGn⟩ := hgen
      have HC := Lib.hid hcut; have HGn := Lib.hid hGn
      obtain ⟨e0, e1, e2⟩ := hGn.rb.three
      obtain ⟨y0, y1, y2, y3, y4⟩ := Blk.five hGn.xb
      obtain ⟨ts, hts⟩ : ∃ ts, ts = strOfNums tt.1 := ⟨_, rfl⟩
      obtain ⟨tb, htb⟩ : ∃ tb, tb = tt.2 := ⟨_, rfl⟩
      rw [← hts] at y0
      rw [← htb] at y1
      have HTX := Lib.hid (show textV tt.1 tt.2 = .agg #[.string ts, .bool tb] from by unfold textV; rw [hts, htb])
      clear hcut hGn e0 y2 y3 y4 c0 c1 c2 q0 q1 HR6 HB6 HP6 hts htb
      go_upto_region 21 with fail
      apply Mono.region1 14 Ext [.is _, .is _, .is _, .is _, .is _, .is _, .is _, .is _, .is _, .is _, .is _, .is _, .is _, .is _] (by kernel_rfl) Ext.refl (fun _ _ _ => Ext.trans) (by kernel_rfl) rfl rfl trivial
      focus
        iterate 4 (apply Mono.step_is; (· refine Mono.obl_mk fun w7 hE7 _ K hK => ?_; (have j1 := hE7.cell (show wc.drew.cell? _ = _ from e1)); (have j2 := hE7.cell (show wc.drew.cell? _ = _ from e2)); (have i0 := hE7.cell (show wc.drew.cell? _ = _ from y0)); (have i1 := hE7.cell (show wc.drew.cell? _ = _ from y1)); clear hE7; go_wp2_with fail; simp only [Act.put, List.setIfInBounds_toArray, List.set_cons_succ, List.set_cons_zero] at hK; exact hK _ _ (Ext.refl _) (Mono.is_rfl _ _)); simp only [Act.put, List.setIfInBounds_toArray, List.set_cons_succ, List.set_cons_zero])
        apply Mono.step_is
        · refine Mono.obl_mk fun w7 hE7 _ K hK => ?_
          have HVS7 := Lib.hid (HGn.out.vs.ext ((Ext.drew _).trans hE7))
          clear hE7
          go_wp2_with fail
          refine (text_c v d snapN cv2 tt.1 tt.2 vov' w7 HVS7.out.vb HVS7.out.rd (by omega)).mono ?_
          rintro e w8 ⟨rfl, hE8⟩
          rw [HTX.out]
          go_wp2_with fail
          simp only [Act.put, List.setIfInBounds_toArray, List.set_cons_succ, List.set_cons_zero] at hK
          exact hK _ _ hE8 (Mono.is_rfl _ _)
        simp only [Act.put, List.setIfInBounds_toArray, List.set_cons_succ, List.set_cons_zero]
        iterate 9 (apply Mono.step_is; (· refine Mono.obl_mk fun w7 hE7 _ K hK => ?_; (have j1 := hE7.cell (show wc.drew.cell? _ = _ from e1)); (have j2 := hE7.cell (show wc.drew.cell? _ = _ from e2)); (have i0 := hE7.cell (show wc.drew.cell? _ = _ from y0)); (have i1 := hE7.cell (show wc.drew.cell? _ = _ from y1)); clear hE7; go_wp2_with fail; simp only [Act.put, List.setIfInBounds_toArray, List.set_cons_succ, List.set_cons_zero] at hK; exact hK _ _ (Ext.refl _) (Mono.is_rfl _ _)); simp only [Act.put, List.setIfInBounds_toArray, List.set_cons_succ, List.set_cons_zero])
        refine Mono.step_end fun w7 hE7 hkn => ?_
        simp only [List.drop_succ_cons, List.drop_zero]
        clear hkn
        have HF := Lib.hid (HC.out.ext ((Ext.drew wc).trans hE7))
        clear hE7 e1 e2 y0 y1
        go_wp2_with fail
        go_ret
        exact ⟨rfl, HP.out, HF.out⟩
end Go.Proofs.YtapclkjpokbgbaaDoor
