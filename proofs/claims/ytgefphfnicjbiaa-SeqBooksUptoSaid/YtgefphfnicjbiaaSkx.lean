/- Layer 25 (seq): tabellionref25.Put. PRINTED BY gen/rkput.py -/
import Derived.Test.YtgefphfnicjbiaaSkw
import Derived.Test.YtgefphfnicjbiaaRef01
set_option linter.unusedSimpArgs false
set_option linter.unusedVariables false
namespace Go.Proofs.Ytgefphfnicjbiaa
open Go Go.RowKit

/-- What is known within Put beside a client's variable. -/
structure PS7 (w wr : World) (lv cv xv : Value) (bytes : List Int) (T7 : Nat) (c : Array Value) : Prop where
  ps : PS w wr lv cv xv bytes
  b7 : Blk wr T7 c 55
theorem PS7.ext' {w wr wq : World} {lv cv xv : Value} {bytes : List Int} {T7 : Nat} {c : Array Value} (h : PS7 w wr lv cv xv bytes T7 c) (hE : Ext wr wq) : PS7 w wq lv cv xv bytes T7 c := ⟨h.ps.ext' hE, h.b7.ext hE⟩
theorem PS7.turn {w wr wq : World} {lv cv xv yv : Value} {bytes more : List Int} {T7 : Nat} {c : Array Value} (h : PS7 w wr lv cv xv bytes T7 c) (ho : wq.ownsRow w.heap.size 5 1 yv more.length (u8s more)) (hg : wr.grownBy wq xv.ownBlock) : PS7 w wq lv cv yv more T7 c :=
  ⟨h.ps.turn ho hg, h.b7.chg (Chg.grown hg) (fun hm => own_notin h.ps.own h.b7 (by decide) hm)⟩
set_option maxRecDepth 100000 in
set_option maxHeartbeats 8000000 in
theorem rkput_c (v : Value) (b : Bk) (w : World) (h : BookV w v b) (hbd : BkBe b) (ok : OkK b) (hsz : (putK b).length ≤ 140737488355000) : Calls Try.prog 15 #[v] w (PutOut b w) := by
  have hnum := fun n w h => rnum_ret n w h
  have hraw := fun v xs w h1 h2 => rraw_ret v xs w h1 h2
  have hfm := fun W h => rformed_c v b W h hbd (fun c hc s hs => by have := ((ok.cl c hc).2.2 s hs).2; unfold U64 at this; omega)
  have HV := Lib.hid h
  have HOK := Lib.hid ok; have HSZ := Lib.hid hsz
  obtain ⟨lv, cv, L, C, rfl, hL, hC, h3, h4, h5, h6⟩ := h
  obtain ⟨la, lc, rfl, hl1, hl2⟩ := h3.shape
  obtain ⟨ca, cc, rfl, hc1, hc2⟩ := h4.shape
  have hll : (L.map lfR).length = b.leaves.length := by rw [List.length_map, ← hL, List.length_map]
  have hcl : (C.map clR).length = b.clients.length := by rw [List.length_map, ← hC, List.length_map]
  rw [hll] at hl1; rw [hcl] at hc1
  obtain ⟨nL, hnL⟩ : ∃ n, n = b.leaves.length := ⟨_, rfl⟩
  obtain ⟨nC, hnC⟩ : ∃ n, n = b.clients.length := ⟨_, rfl⟩
  rw [hll, hcl] at hfm HV ⊢
  rw [← hnL] at hl1 hfm HV ⊢
  rw [← hnC] at hc1 hfm HV ⊢
  have HL := Lib.hid hL; have HC := Lib.hid hC; have H3 := Lib.hid h3; have H4 := Lib.hid h4; have H5 := Lib.hid h5; have H6 := Lib.hid h6; have HNL := Lib.hid hnL; have HNC := Lib.hid hnC; have HRAW := Lib.hid hraw; have HNUM := Lib.hid hnum
  obtain ⟨fm, hfme⟩ : ∃ f, f = formedK b := ⟨_, rfl⟩
  rw [← hfme] at hfm
  have HFM := Lib.hid hfm; have HF := Lib.hid hfme
  clear hL hC h3 h4 h5 h6 hnL hnC hll hcl ok hsz hraw hnum hfm hfme hbd
  go_enter Try.func15, Try.ntmps15
  have hB1 := Blk.new w #[.slice la nL lc, .slice ca nC cc] 27
  have hE1 := Ext.alloc w (.cells #[.slice la nL lc, .slice ca nC cc] 27)
  go_wp2_with fail
  refine (HFM.out _ (HV.out.ext hE1)).mono ?_
  rintro e w1 ⟨rfl, hE2⟩
  have HE1 := Lib.hid (hE1.trans hE2)
  have HB1 := Lib.hid (hB1.ext hE2)
  clear hB1 hE1 hE2 HFM HV
  cases fm with
  | false =>
    go_wp2_with fail
    go_ret2
    refine ⟨HE1.out, ?_⟩
    rw [← HF.out]
    rfl
  | true =>
  have c10 := HB1.out.cell 0 rfl; have c11 := HB1.out.cell 1 rfl
  simp only [List.getElem_toArray, List.getElem_cons_zero, List.getElem_cons_succ] at c10 c11
  go_wp2_with fail
  refine (HNUM.out nL _ (by omega)).mono ?_
  intro e w2 hr
  obtain ⟨xv, rfl, ho, hE⟩ := ret_own hr
  have HP : Hid (PS w w2 (.slice la nL lc) (.slice ca nC cc) xv (numB nL)) := Lib.hid ⟨HE1.out.trans hE, HB1.out.ext hE, own_low ho HE1.out.size⟩
  have HPRE : Hid (numB nL ++ (b.leaves.flatMap rawB ++ (numB nC ++ b.clients.flatMap clB)) = putK b) := Lib.hid (by unfold putK; rw [HNL.out, HNC.out]; simp)
  clear c10 c11
  have c10 := HP.out.b1.cell 0 rfl; have c11 := HP.out.b1.cell 1 rfl
  simp only [List.getElem_toArray, List.getElem_cons_zero, List.getElem_cons_succ] at c10 c11
  clear hr ho hE
  go_wp2_with fail
  go_loopg [4, 5] nL (fun g v4 v5 wr => ∃ (i : Nat) (bytes : List Int), v5 = .int .i64 (i : Int) ∧ i + g = nL ∧ PS w wr (.slice la nL lc) (.slice ca nC cc) v4 bytes ∧ bytes ++ ((b.leaves.drop i).flatMap rawB ++ (numB nC ++ b.clients.flatMap clB)) = putK b)
  case atStart => exact ⟨0, _, rfl, by omega, HP.out, HPRE.out⟩
  case round =>
    obtain ⟨i, bytes, rfl, hiN, hP, hpre⟩ := hrel
    clear HP HPRE c10 c11
    have c10 := hP.b1.cell 0 rfl; have c11 := hP.b1.cell 1 rfl
    simp only [List.getElem_toArray, List.getElem_cons_zero, List.getElem_cons_succ] at c10 c11
    by_cases hlt : i < nL
    · have hlt' : (i : Int) < (nL : Int) := by omega
      obtain ⟨q, hq⟩ : ∃ q, L[i]? = some q := ⟨_, List.getElem?_eq_getElem (by have h1 := congrArg List.length HL.out; rw [List.length_map] at h1; have := HNL.out; omega)⟩
      have hlq : b.leaves[i]? = some q.1 := by rw [← HL.out, List.getElem?_map, hq]; rfl
      obtain ⟨sb, so, rfl, hcell⟩ := H3.out.cells1 hq
      have hrd := (H5.out q (List.mem_of_getElem? hq)).ext hP.ext
      have kc := hP.ext.cell hcell
      rw [drop_cons hlq, List.flatMap_cons, List.append_assoc, ← List.append_assoc bytes] at hpre
      have hbl := len_left hpre
      rw [List.length_append] at hbl
      have hql : q.1.length ≤ (rawB q.1).length := by unfold rawB; simp
      have hsz := HSZ.out
      have HP := Lib.hid hP; have HPRE := Lib.hid hpre; have HRD := Lib.hid hrd; have HBL := Lib.hid hbl
      have HRW := Lib.hid (fun W (h : Ext wr W) => HRAW.out q.2 q.1 W (hrd.ext h) (by omega))
      have hown := hP.own
      obtain ⟨xa, xc, rfl, hx1, hx2, -⟩ := own_slice hown
      obtain ⟨qa, qn, qc, hqv⟩ := hrd.shape
      rw [hqv] at kc HRW
      have HOW := Lib.hid hown
      clear hq hlq hrd hcell hP hpre hbl hsz hql hqv hown hlt
      go_wp2_with fail
      refine (HRW.out _ (Ext.refl _)).mono ?_
      intro e w3 hr
      obtain ⟨rv, rfl, ho3, hE3⟩ := ret_own hr
      have HR3 := Lib.hid (Rd.of_own ho3); have HE3 := Lib.hid hE3
      clear hr ho3 hE3 kc c10 c11
      go_wp2_with (at_builtin; refine wpList_append_rd rfl (.tmp 24) (.tmp 30) _ rfl el8 w.heap.size _ bytes.length (u8s bytes) (u8s (rawB q.1)) rfl (own_ext HOW.out HE3.out) _ rfl HR3.out (u8s_one _) (by have h1 := HBL.out; have h2 := HSZ.out; rw [u8s_len]; omega) (by have h1 := HBL.out; have h2 := HSZ.out; rw [u8s_len]; unfold maxLen; omega) (HP.out.ext.trans HE3.out).size ?_; intro v' w' ho' hg'; have HO' := Lib.hid (show w'.ownsRow w.heap.size 5 1 v' (bytes ++ (rawB q.1)).length (u8s (bytes ++ (rawB q.1))) by rw [List.length_append, u8s_append]; rwa [u8s_len] at ho'); have HG' := Lib.hid hg'; clear ho' hg')
      go_roundg (nL - (i + 1))
      case measure => omega
      case rel => exact ⟨i + 1, bytes ++ rawB q.1, by go_num, by omega, (HP.out.ext' HE3.out).turn HO'.out HG'.out, HPRE.out⟩
    · have hge : (nL : Int) ≤ (i : Int) := by omega
      obtain rfl : i = nL := by omega
      rw [List.drop_of_length_le (by rw [HNL.out]; exact Nat.le_refl _), List.flatMap_nil, List.nil_append, ← List.append_assoc] at hpre
      have hbl := len_left hpre
      rw [List.length_append] at hbl
      have HP := Lib.hid hP; have HPRE := Lib.hid hpre; have HBL := Lib.hid hbl
      have hown := hP.own
      obtain ⟨xa, xc, rfl, hx1, hx2, -⟩ := own_slice hown
      have HOW := Lib.hid hown
      clear hP hpre hbl hge hlt hiN hown
      go_wp2_with fail
      refine (HNUM.out nC _ (by omega)).mono ?_
      intro e w3 hr
      obtain ⟨rv, rfl, ho3, hE3⟩ := ret_own hr
      have HR3 := Lib.hid (Rd.of_own ho3)
      have HP3 := Lib.hid (HP.out.ext' hE3)
      clear hr ho3 hE3 c11 c10
      go_wp2_with (at_builtin; refine wpList_append_rd rfl (.tmp 32) (.tmp 37) _ rfl el8 w.heap.size _ bytes.length (u8s bytes) (u8s (numB nC)) rfl (HP3.out.own) _ rfl HR3.out (u8s_one _) (by have h1 := HBL.out; have h2 := HSZ.out; rw [u8s_len]; omega) (by have h1 := HBL.out; have h2 := HSZ.out; rw [u8s_len]; unfold maxLen; omega) (HP3.out.ext).size ?_; intro v' w' ho' hg'; have HO' := Lib.hid (show w'.ownsRow w.heap.size 5 1 v' (bytes ++ (numB nC)).length (u8s (bytes ++ (numB nC))) by rw [List.length_append, u8s_append]; rwa [u8s_len] at ho'); have HG' := Lib.hid hg'; clear ho' hg')
      have HP4 := Lib.hid (HP3.out.turn HO'.out HG'.out)
      have c11 := HP4.out.b1.cell 1 rfl
      simp only [List.getElem_toArray, List.getElem_cons_zero, List.getElem_cons_succ] at c11
      clear HO' HG' HP3
      go_wp2_with fail
      go_loopg [4, 6] nC (fun g v4 v6 wr => ∃ (i' : Nat) (bytes : List Int), v6 = .int .i64 (i' : Int) ∧ i' + g = nC ∧ PS w wr (.slice la i lc) (.slice ca nC cc) v4 bytes ∧ bytes ++ (b.clients.drop i').flatMap clB = putK b)
      case atStart => exact ⟨0, _, rfl, by omega, HP4.out, HPRE.out⟩
      case round =>
        obtain ⟨i', bytes', rfl, hiN, hP, hpre⟩ := hrel
        clear HP HP4 HPRE c11 HBL HOW hx1 hx2 HR3
        have c11 := hP.b1.cell 1 rfl
        simp only [List.getElem_toArray, List.getElem_cons_zero, List.getElem_cons_succ] at c11
        by_cases hlt : i' < nC
        · have hlt' : (i' : Int) < (nC : Int) := by omega
          obtain ⟨q, hq⟩ : ∃ q, C[i']? = some q := ⟨_, List.getElem?_eq_getElem (by have h1 := congrArg List.length HC.out; rw [List.length_map] at h1; have := HNC.out; omega)⟩
          have hlq : b.clients[i']? = some q.1 := by rw [← HC.out, List.getElem?_map, hq]; rfl
          obtain ⟨hu1, hu2, hu3⟩ := HOK.out.cl q.1 (List.mem_of_getElem? hlq)
          obtain ⟨sb, so, rfl, hcell⟩ := H4.out.cells2 hq
          have k0 := hP.ext.cell (hcell 0 _ rfl); have k1 := hP.ext.cell (hcell 1 _ rfl)
          rw [Nat.add_zero] at k0
          have hsl : RowV w 2 q.2 (q.1.slots.map slR) := H6.out q (List.mem_of_getElem? hq)
          obtain ⟨sa, sc, hsv, hs1, hs2⟩ := hsl.shape
          rw [List.length_map] at hsv hs1
          obtain ⟨ns, hns⟩ : ∃ n, n = q.1.slots.length := ⟨_, rfl⟩
          obtain ⟨idn, hid⟩ : ∃ n : Nat, q.1.id = (n : Int) := ⟨q.1.id.toNat, by unfold U64 at hu1; omega⟩
          rw [← hns] at hsv hs1
          rw [hsv] at k1 hsl
          rw [hid] at k0
          rw [drop_cons hlq, List.flatMap_cons, show clB q.1 = numB idn ++ (numB ns ++ q.1.slots.flatMap slotB) by unfold clB; rw [hid, hns, Int.toNat_natCast, List.append_assoc], List.append_assoc, List.append_assoc, ← List.append_assoc] at hpre
          have hbl := len_left hpre
          rw [List.length_append] at hbl
          have hU : idn < 2 ^ 64 := by unfold U64 at hu1; omega
          obtain ⟨xa', xc', rfl, hx1, hx2, -⟩ := own_slice hP.own
          have HP := Lib.hid hP; have HPRE := Lib.hid hpre; have HBL := Lib.hid hbl; have HU := Lib.hid hU; have HSL := Lib.hid hsl; have HNS := Lib.hid hns; have HU3 := Lib.hid hu3
          clear hq hlq hcell hP hpre hbl hsl hns hu1 hu2 hu3 hU hid hsv hlt
          go_upto_region 13 with (refine wpList_store_row rfl 55 (.tmp 7) (.tmp 50) rfl wr.heap.size #[.int .u64 idn, .slice sa ns sc] rfl rfl 55 _ (Blk.new wr #[.int .u64 0, .slice none 0 0] 55) (client_size _ _) rfl (by simp [Value.oneCell']) ?_)
          have hB8 : Blk ((wr.alloc (.cells #[.int .u64 0, .slice none 0 0] 55)).setRow wr.heap.size #[.int .u64 idn, .slice sa ns sc]) wr.heap.size #[.int .u64 idn, .slice sa ns sc] 55 := setRow_heap _ _ _ _ _ (0, 0) (Blk.new wr #[.int .u64 0, .slice none 0 0] 55)
          have hE8 : Ext wr ((wr.alloc (.cells #[.int .u64 0, .slice none 0 0] 55)).setRow wr.heap.size #[.int .u64 idn, .slice sa ns sc]) := ((Chg.ext (Ext.alloc wr (.cells #[.int .u64 0, .slice none 0 0] 55)) : Chg [wr.heap.size] wr _).trans (Chg.some (grown_rowS _ wr.heap.size _) (.inl (by simp)))).toExt (fun t ht => by simp at ht; omega)
          obtain ⟨T8, hT8⟩ : ∃ T, T = wr.heap.size := ⟨_, rfl⟩
          rw [← hT8] at hB8 hE8 ⊢
          generalize (wr.alloc (.cells #[.int .u64 0, .slice none 0 0] 55)).setRow T8 #[.int .u64 idn, .slice sa ns sc] = W8 at *
          have HP8 : Hid (PS7 w W8 (.slice la i lc) (.slice (some ⟨sb, so, none⟩) nC cc) (.slice xa' bytes'.length xc') bytes' T8 #[.int .u64 idn, .slice sa ns sc]) := Lib.hid ⟨HP.out.ext' hE8, hB8⟩
          have c80 := hB8.cell 0 rfl
          simp only [List.getElem_toArray, List.getElem_cons_zero, List.getElem_cons_succ] at c80
          clear hB8 k0 k1 hT8 HP hE8 c11
          go_wp2_with fail
          refine (HNUM.out idn _ (by have := HU.out; omega)).mono ?_
          intro e w3 hr
          obtain ⟨rv, rfl, ho3, hE3⟩ := ret_own hr
          have HR3 := Lib.hid (Rd.of_own ho3)
          have HP3 := Lib.hid (HP8.out.ext' hE3)
          clear hr ho3 hE3 c80 HP8
          go_upto_region 14 with (at_builtin; refine wpList_append_rd rfl (.tmp 51) (.tmp 54) _ rfl el8 w.heap.size _ bytes'.length (u8s bytes') (u8s (numB idn)) rfl (HP3.out.ps.own) _ rfl HR3.out (u8s_one _) (by have h1 := HBL.out; have h2 := HSZ.out; rw [u8s_len]; omega) (by have h1 := HBL.out; have h2 := HSZ.out; rw [u8s_len]; unfold maxLen; omega) (HP3.out.ps.ext).size ?_; intro v' w' ho' hg'; have HO' := Lib.hid (show w'.ownsRow w.heap.size 5 1 v' (bytes' ++ (numB idn)).length (u8s (bytes' ++ (numB idn))) by rw [List.length_append, u8s_append]; rwa [u8s_len] at ho'); have HG' := Lib.hid hg'; clear ho' hg')
          have HP4 := Lib.hid (HP3.out.turn HO'.out HG'.out)
          obtain ⟨B2, hB2⟩ : ∃ B, B = bytes' ++ numB idn := ⟨_, rfl⟩
          have hpre2 : (B2 ++ numB ns) ++ (q.1.slots.flatMap slotB ++ (b.clients.drop (i' + 1)).flatMap clB) = putK b := by rw [hB2, ← HPRE.out]; simp
          rw [← hB2] at HP4
          have hbl2 := len_left hpre2
          rw [List.length_append] at hbl2
          have HBL := Lib.hid hbl2; have HPRE := Lib.hid hpre2
          have c81 := HP4.out.b7.cell 1 rfl
          simp only [List.getElem_toArray, List.getElem_cons_zero, List.getElem_cons_succ] at c81
          obtain ⟨xa2, xc2, rfl, -, -, -⟩ := own_slice HP4.out.ps.own
          clear HO' HG' HP3 hB2 hpre2 hbl2 HR3
          go_wp2_with fail
          refine (HNUM.out ns _ (by omega)).mono ?_
          intro e w3 hr
          obtain ⟨rv2, rfl, ho3, hE3⟩ := ret_own hr
          have HR3 := Lib.hid (Rd.of_own ho3)
          have HP3 := Lib.hid (HP4.out.ext' hE3)
          clear hr ho3 hE3 c81 HP4
          go_wp2_with (at_builtin; refine wpList_append_rd rfl (.tmp 56) (.tmp 61) _ rfl el8 w.heap.size _ B2.length (u8s B2) (u8s (numB ns)) rfl (HP3.out.ps.own) _ rfl HR3.out (u8s_one _) (by have h1 := HBL.out; have h2 := HSZ.out; rw [u8s_len]; omega) (by have h1 := HBL.out; have h2 := HSZ.out; rw [u8s_len]; unfold maxLen; omega) (HP3.out.ps.ext).size ?_; intro v' w' ho' hg'; have HO' := Lib.hid (show w'.ownsRow w.heap.size 5 1 v' (B2 ++ (numB ns)).length (u8s (B2 ++ (numB ns))) by rw [List.length_append, u8s_append]; rwa [u8s_len] at ho'); have HG' := Lib.hid hg'; clear ho' hg')
          have HP4 := Lib.hid (HP3.out.turn HO'.out HG'.out)
          have c81 := HP4.out.b7.cell 1 rfl
          simp only [List.getElem_toArray, List.getElem_cons_zero, List.getElem_cons_succ] at c81
          clear HO' HG' HP3 HR3
          go_wp2_with fail
          go_loopg [4, 8] ns (fun g v4 v8 wr => ∃ (k : Nat) (bytes : List Int), v8 = .int .i64 (k : Int) ∧ k + g = ns ∧ PS7 w wr (.slice la i lc) (.slice (some ⟨sb, so, none⟩) nC cc) v4 bytes T8 #[.int .u64 idn, .slice sa ns sc] ∧ bytes ++ ((q.1.slots.drop k).flatMap slotB ++ (b.clients.drop (i' + 1)).flatMap clB) = putK b)
          case atStart => exact ⟨0, _, rfl, by omega, HP4.out, HPRE.out⟩
          case round =>
            obtain ⟨k, B3, rfl, hkn, hP, hpre⟩ := hrel
            clear HP4 HPRE HBL c81
            have c81 := hP.b7.cell 1 rfl
            simp only [List.getElem_toArray, List.getElem_cons_zero, List.getElem_cons_succ] at c81
            by_cases hk : k < ns
            · have hk' : (k : Int) < (ns : Int) := by omega
              obtain ⟨⟨x1, x2⟩, hs⟩ : ∃ s, q.1.slots[k]? = some s := ⟨_, List.getElem?_eq_getElem (by have := HNS.out; omega)⟩
              obtain ⟨hu1, hu2⟩ := HU3.out _ (List.mem_of_getElem? hs)
              obtain ⟨y1, rfl⟩ : ∃ n : Nat, x1 = (n : Int) := ⟨x1.toNat, by unfold U64 at hu1; dsimp only at hu1; omega⟩
              obtain ⟨y2, rfl⟩ : ∃ n : Nat, x2 = (n : Int) := ⟨x2.toNat, by unfold U64 at hu2; dsimp only at hu2; omega⟩
              obtain ⟨s3, o3, rfl, hc3⟩ := HSL.out.cells2 hs
              have HF : Hid (∀ W, Ext w W → W.cell? ⟨s3, o3 + k * 2, none⟩ = some (.int .u64 (y1 : Int)) ∧ W.cell? ⟨s3, o3 + k * 2 + 1, none⟩ = some (.int .u64 (y2 : Int))) := Lib.hid fun W hE => ⟨hE.cell (hc3 0 _ rfl), hE.cell (hc3 1 _ rfl)⟩
              rw [drop_cons hs, List.flatMap_cons, show slotB ((y1 : Int), (y2 : Int)) = numB y1 ++ numB y2 by unfold slotB; dsimp only; rw [Int.toNat_natCast, Int.toNat_natCast], List.append_assoc, List.append_assoc, ← List.append_assoc] at hpre
              have hbl := len_left hpre
              rw [List.length_append] at hbl
              have hy1 : y1 ≤ 18446744073709551615 := by unfold U64 at hu1; dsimp only at hu1; omega
              have hy2 : y2 ≤ 18446744073709551615 := by unfold U64 at hu2; dsimp only at hu2; omega
              have HY := Lib.hid (And.intro hy1 hy2)
              have HPRE := Lib.hid hpre; have HBL := Lib.hid hbl; have HP := Lib.hid hP
              obtain ⟨k0, -⟩ := HF.out _ hP.ps.ext
              obtain ⟨xa3, xc3, rfl, -, -, -⟩ := own_slice hP.ps.own
              clear hs hc3 hpre hbl hP hu1 hu2 hy1 hy2 hk
              go_wp2_with fail
              refine (HNUM.out y1 _ HY.out.1).mono ?_
              intro e w3 hr
              obtain ⟨rv, rfl, ho3, hE3⟩ := ret_own hr
              have HR3 := Lib.hid (Rd.of_own ho3)
              have HP3 := Lib.hid (HP.out.ext' hE3)
              clear hr ho3 hE3 k0 c81 HP
              go_upto_region 19 with (at_builtin; refine wpList_append_rd rfl (.tmp 70) (.tmp 77) _ rfl el8 w.heap.size _ B3.length (u8s B3) (u8s (numB y1)) rfl (HP3.out.ps.own) _ rfl HR3.out (u8s_one _) (by have h1 := HBL.out; have h2 := HSZ.out; rw [u8s_len]; omega) (by have h1 := HBL.out; have h2 := HSZ.out; rw [u8s_len]; unfold maxLen; omega) (HP3.out.ps.ext).size ?_; intro v' w' ho' hg'; have HO' := Lib.hid (show w'.ownsRow w.heap.size 5 1 v' (B3 ++ (numB y1)).length (u8s (B3 ++ (numB y1))) by rw [List.length_append, u8s_append]; rwa [u8s_len] at ho'); have HG' := Lib.hid hg'; clear ho' hg')
              have HP4 := Lib.hid (HP3.out.turn HO'.out HG'.out)
              obtain ⟨B4, hB4⟩ : ∃ B, B = B3 ++ numB y1 := ⟨_, rfl⟩
              have hpre2 : (B4 ++ numB y2) ++ ((q.1.slots.drop (k + 1)).flatMap slotB ++ (b.clients.drop (i' + 1)).flatMap clB) = putK b := by rw [hB4, ← HPRE.out]; simp
              rw [← hB4] at HP4
              have hbl2 := len_left hpre2
              rw [List.length_append] at hbl2
              have HBL := Lib.hid hbl2; have HPRE := Lib.hid hpre2
              have c81 := HP4.out.b7.cell 1 rfl
              simp only [List.getElem_toArray, List.getElem_cons_zero, List.getElem_cons_succ] at c81
              obtain ⟨-, k1⟩ := HF.out _ HP4.out.ps.ext
              obtain ⟨xa2, xc2, rfl, -, -, -⟩ := own_slice HP4.out.ps.own
              clear HO' HG' HP3 hB4 hpre2 hbl2 HR3
              go_wp2_with fail
              refine (HNUM.out y2 _ HY.out.2).mono ?_
              intro e w3 hr
              obtain ⟨rv2, rfl, ho3, hE3⟩ := ret_own hr
              have HR3 := Lib.hid (Rd.of_own ho3)
              have HP3 := Lib.hid (HP4.out.ext' hE3)
              clear hr ho3 hE3 c81 k1 HP4
              go_wp2_with (at_builtin; refine wpList_append_rd rfl (.tmp 79) (.tmp 86) _ rfl el8 w.heap.size _ B4.length (u8s B4) (u8s (numB y2)) rfl (HP3.out.ps.own) _ rfl HR3.out (u8s_one _) (by have h1 := HBL.out; have h2 := HSZ.out; rw [u8s_len]; omega) (by have h1 := HBL.out; have h2 := HSZ.out; rw [u8s_len]; unfold maxLen; omega) (HP3.out.ps.ext).size ?_; intro v' w' ho' hg'; have HO' := Lib.hid (show w'.ownsRow w.heap.size 5 1 v' (B4 ++ (numB y2)).length (u8s (B4 ++ (numB y2))) by rw [List.length_append, u8s_append]; rwa [u8s_len] at ho'); have HG' := Lib.hid hg'; clear ho' hg')
              go_roundg (ns - (k + 1))
              case measure => omega
              case rel => exact ⟨k + 1, _, by go_num, by omega, HP3.out.turn HO'.out HG'.out, HPRE.out⟩
            · have hge : (ns : Int) ≤ (k : Int) := by omega
              have hpre2 : B3 ++ (b.clients.drop (i' + 1)).flatMap clB = putK b := by rw [← hpre, show q.1.slots.drop k = [] from List.drop_of_length_le (by have := HNS.out; omega)]; simp
              have HP := Lib.hid hP; have HPRE := Lib.hid hpre2
              clear hk hkn hpre hpre2 hP
              go_wp2_with fail
              go_roundg (nC - (i' + 1))
              case measure => omega
              case rel => exact ⟨i' + 1, _, by go_num, by omega, HP.out.ps, HPRE.out⟩
        · have hge : (nC : Int) ≤ (i' : Int) := by omega
          have hpre2 : bytes' = putK b := by rw [← hpre, show b.clients.drop i' = [] from List.drop_of_length_le (by have := HNC.out; omega)]; simp
          subst hpre2
          have HP := Lib.hid hP
          obtain ⟨xa', xc', rfl, -, -, -⟩ := own_slice hP.own
          clear hlt hiN hpre hP
          go_wp2_with fail
          go_ret2
          refine ⟨HP.out.ext, ?_⟩
          rw [← HF.out]
          exact ⟨_, rfl, HP.out.own⟩
end Go.Proofs.Ytgefphfnicjbiaa
