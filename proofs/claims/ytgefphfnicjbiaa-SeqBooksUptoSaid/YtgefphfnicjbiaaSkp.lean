/- Layer 25 (seq): Put, Formed. -/
import Derived.Test.YtgefphfnicjbiaaSki
import Derived.Test.YtgefphfnicjbiaaBun6
set_option linter.unusedSimpArgs false
set_option linter.unusedVariables false
namespace Go.Proofs.Ytgefphfnicjbiaa
open Go Go.RowKit

theorem len_left {xs ys zs : List Int} (h : xs ++ ys = zs) : xs.length ≤ zs.length := by rw [← h]; simp
theorem drop_cons {α : Type} {l : List α} {i : Nat} {x : α} (h : l[i]? = some x) : l.drop i = x :: l.drop (i + 1) := by
  obtain ⟨hi, rfl⟩ := List.getElem?_eq_some_iff.1 h
  exact List.drop_eq_getElem_cons hi
/-- What is known within Put: the book's variable, the bytes so far. -/
structure PS (w wr : World) (lv cv xv : Value) (bytes : List Int) : Prop where
  ext : Ext w wr
  b1 : Blk wr w.heap.size #[lv, cv] 27
  own : wr.ownsRow w.heap.size 5 1 xv bytes.length (u8s bytes)
theorem PS.ext' {w wr wq : World} {lv cv xv : Value} {bytes : List Int} (h : PS w wr lv cv xv bytes) (hE : Ext wr wq) : PS w wq lv cv xv bytes := ⟨h.ext.trans hE, h.b1.ext hE, own_ext h.own hE⟩
theorem PS.turn {w wr wq : World} {lv cv xv yv : Value} {bytes more : List Int} (h : PS w wr lv cv xv bytes) (ho : wq.ownsRow w.heap.size 5 1 yv more.length (u8s more)) (hg : wr.grownBy wq xv.ownBlock) : PS w wq lv cv yv more :=
  ⟨own_extG h.own hg h.ext (Nat.le_refl _), h.b1.chg (Chg.grown hg) (fun hm => own_notin h.own h.b1 (by decide) hm), ho⟩
theorem PS.new {w wr wq : World} {lv cv xv yv : Value} {bytes more : List Int} {B : Nat} (h : PS w wr lv cv xv bytes) (ho : wq.ownsRow B 5 1 yv more.length (u8s more)) (hB : w.heap.size ≤ B) (hE : Ext wr wq) : PS w wq lv cv yv more :=
  ⟨h.ext.trans hE, h.b1.ext hE, own_low ho hB⟩
theorem PS.rd {w wr : World} {lv cv xv : Value} {bytes : List Int} (h : PS w wr lv cv xv bytes) : Rd wr xv (u8s bytes) := Rd.of_own h.own
theorem ret_own {w w' : World} {e : Ending} {l : List Int} (h : RetOwn 5 w (u8s l) e w') : ∃ v', e = .returned v' ∧ w'.ownsRow w.heap.size 5 1 v' l.length (u8s l) ∧ Ext w w' := by
  obtain ⟨v', h1, h2, h3⟩ := h
  rw [u8s_len] at h2
  exact ⟨v', h1, h2, h3⟩
theorem RowV.cells1 {w : World} {a : Option Addr} {n c : Nat} {L : List LQ} (h : RowV w 1 (.slice a n c) (L.map lfR)) {i : Nat} {q : LQ} (hq : L[i]? = some q) : ∃ b o, a = some ⟨b, o, none⟩ ∧ w.cell? ⟨b, o + i, none⟩ = some q.2 := by
  obtain ⟨a', c', hv, h1, h2, h3⟩ := h
  cases hv
  rcases h3 with h3 | ⟨b, o, ha, hc⟩
  · rw [List.map_eq_nil_iff.1 h3] at hq; simp at hq
  · refine ⟨b, o, ha, ?_⟩
    have := hc i (lfR q) (by rw [List.getElem?_map, hq]; rfl) 0 q.2 rfl
    simpa using this
theorem RowV.cells2 {w : World} {a : Option Addr} {n c : Nat} {α : Type} {f : α → List Value} {l : List α} (h : RowV w 2 (.slice a n c) (l.map f)) {i : Nat} {q : α} (hq : l[i]? = some q) : ∃ b o, a = some ⟨b, o, none⟩ ∧ ∀ j u, (f q)[j]? = some u → w.cell? ⟨b, o + i * 2 + j, none⟩ = some u := by
  obtain ⟨a', c', hv, h1, h2, h3⟩ := h
  cases hv
  rcases h3 with h3 | ⟨b, o, ha, hc⟩
  · rw [List.map_eq_nil_iff.1 h3] at hq; simp at hq
  · exact ⟨b, o, ha, fun j u hu => hc i (f q) (by rw [List.getElem?_map, hq]; rfl) j u hu⟩
theorem b8_app {xs ys : List Int} (h : B8 xs) (k : B8 ys) : B8 (xs ++ ys) := fun x hx => by
  rcases List.mem_append.1 hx with hx | hx
  · exact h x hx
  · exact k x hx
theorem b8_flat {α : Type} {f : α → List Int} {l : List α} (h : ∀ a ∈ l, B8 (f a)) : B8 (l.flatMap f) := fun x hx => by
  obtain ⟨a, ha, hx⟩ := List.mem_flatMap.1 hx
  exact h a ha x hx
theorem putK_b8 {b : Bk} (h : OkK b) : B8 (putK b) := by
  unfold putK
  exact b8_app (b8_app (b8_app (numB_bound _) (b8_flat fun l hl => b8_app (numB_bound _) (h.each l hl).2)) (numB_bound _)) (b8_flat fun c _ => b8_app (b8_app (numB_bound _) (numB_bound _)) (b8_flat fun s _ => b8_app (numB_bound _) (numB_bound _)))
/-- slices.Concat of three texts that the walk has just laid. -/
theorem cat3 (W : World) (x y z : Value) (xs ys zs : List Int) (hx : Rd W x (u8s xs)) (hy : Rd W y (u8s ys)) (hz : Rd W z (u8s zs)) (hn : (xs ++ (ys ++ zs)).length ≤ 140737488355300) :
    Calls Try.prog 29 #[.slice (some ⟨W.heap.size, 0, none⟩) 3 3] (W.alloc (.cells #[x, y, z] 29)) fun e w' => ∃ v', e = .returned v' ∧ w'.ownsRow W.heap.size 5 1 v' (xs ++ (ys ++ zs)).length (u8s (xs ++ (ys ++ zs))) ∧ Ext W w' := by
  have hE := Ext.alloc W (.cells #[x, y, z] 29)
  refine (concat8 _ [x, y, z] [xs, ys, zs] _ (rd_mark25 W [x, y, z] 29 (0, 0) (by unfold maxLen; simp)) (Texts.cons (hx.ext hE) (Texts.cons (hy.ext hE) (Texts.cons (hz.ext hE) (Texts.nil _)))) (by simpa using hn)).mono ?_
  intro e w' hr
  obtain ⟨v', h1, h2, h3⟩ := ret_own hr
  simp only [List.flatten_cons, List.flatten_nil, List.append_nil] at h2
  exact ⟨v', h1, own_low h2 (by simp), hE.trans h3⟩
theorem book_shape {w : World} {v : Value} {b : Bk} (h : BookV w v b) : ∃ a n c a' n' c', v = .agg #[.slice a n c, .slice a' n' c'] := by
  obtain ⟨lv, cv, L, C, rfl, -, -, h3, h4, -⟩ := h
  obtain ⟨a, c, rfl, -⟩ := h3.shape
  obtain ⟨a', c', rfl, -⟩ := h4.shape
  exact ⟨_, _, _, _, _, _, rfl⟩
/-- How Put ends. -/
def PutOut (b : Bk) (w : World) (e : Ending) (w' : World) : Prop := Ext w w' ∧
  if formedK b then ∃ pv, e = .returned (.tuple #[pv, .int .i64 0]) ∧ w'.ownsRow w.heap.size 5 1 pv (putK b).length (u8s (putK b)) else e = .returned (.tuple #[.slice none 0 0, .int .i64 1])
set_option maxRecDepth 100000 in
set_option maxHeartbeats 8000000 in
theorem kput_c (v : Value) (b : Bk) (w : World) (h : BookV w v b) (ok : OkK b) (hsz : (putK b).length ≤ 140737488355000) : Calls Try.prog 10 #[v] w (PutOut b w) := by
  have hnum := fun n w h => num_ret n w h
  have hraw := fun v xs w h1 h2 => raw_ret v xs w h1 h2
  have HOK := Lib.hid ok; have HSZ := Lib.hid hsz
  obtain ⟨lv, cv, L, C, rfl, hL, hC, h3, h4, h5, h6⟩ := h
  obtain ⟨la, lc, rfl, hl1, hl2⟩ := h3.shape
  obtain ⟨ca, cc, rfl, hc1, hc2⟩ := h4.shape
  have hll : (L.map lfR).length = b.leaves.length := by rw [List.length_map, ← hL, List.length_map]
  have hcl : (C.map clR).length = b.clients.length := by rw [List.length_map, ← hC, List.length_map]
  rw [hll] at hl1; rw [hcl] at hc1
  obtain ⟨nL, hnL⟩ : ∃ n, n = b.leaves.length := ⟨_, rfl⟩
  obtain ⟨nC, hnC⟩ : ∃ n, n = b.clients.length := ⟨_, rfl⟩
  rw [hll, hcl]
  rw [← hnL] at hl1 ⊢
  rw [← hnC] at hc1 ⊢
  have HL := Lib.hid hL; have HC := Lib.hid hC; have H3 := Lib.hid h3; have H4 := Lib.hid h4; have H5 := Lib.hid h5; have H6 := Lib.hid h6; have HNL := Lib.hid hnL; have HNC := Lib.hid hnC; have HRAW := Lib.hid hraw; have HNUM := Lib.hid hnum
  clear hL hC h3 h4 h5 h6 hnL hnC hll hcl ok hsz hraw hnum
  go_enter Try.func10, Try.ntmps10
  go_wp2_with fail
  refine (HNUM.out nL _ (by omega)).mono ?_
  intro e w2 hr
  obtain ⟨xv, rfl, ho, hE⟩ := ret_own hr
  have HP : Hid (PS w w2 (.slice la nL lc) (.slice ca nC cc) xv (numB nL)) := Lib.hid ⟨(Ext.alloc w _).trans hE, (Blk.new w _ _).ext hE, own_low ho (by simp)⟩
  have HPRE : Hid (numB nL ++ (b.leaves.flatMap rawB ++ (numB nC ++ b.clients.flatMap clB)) = putK b) := Lib.hid (by unfold putK; rw [HNL.out, HNC.out]; simp)
  have c10 := HP.out.b1.cell 0 rfl; have c11 := HP.out.b1.cell 1 rfl
  simp only [List.getElem_toArray, List.getElem_cons_zero, List.getElem_cons_succ] at c10 c11
  clear hr ho hE
  go_wp2_with fail
  go_loopg [4, 21] nL (fun g v4 v21 wr => ∃ (i : Nat) (bytes : List Int), v21 = .int .i64 (i : Int) ∧ i + g = nL ∧ PS w wr (.slice la nL lc) (.slice ca nC cc) v4 bytes ∧ bytes ++ ((b.leaves.drop i).flatMap rawB ++ (numB nC ++ b.clients.flatMap clB)) = putK b)
  case atStart => exact ⟨0, _, rfl, by omega, HP.out, HPRE.out⟩
  case round =>
    obtain ⟨i, bytes, rfl, hiN, hP, hpre⟩ := hrel
    clear HP HPRE c10 c11
    by_cases hlt : i < nL
    · have hlt' : (i : Int) < (nL : Int) := by omega
      obtain ⟨q, hq⟩ : ∃ q, L[i]? = some q := ⟨_, List.getElem?_eq_getElem (by have h1 := congrArg List.length HL.out; rw [List.length_map] at h1; have := HNL.out; omega)⟩
      have hlq : b.leaves[i]? = some q.1 := by rw [← HL.out, List.getElem?_map, hq]; rfl
      obtain ⟨sb, so, rfl, hcell⟩ := H3.out.cells1 hq
      have hrd := (H5.out q (List.mem_of_getElem? hq)).ext hP.ext
      have kc := hP.ext.cell hcell
      rw [drop_cons hlq, List.flatMap_cons, List.append_assoc, ← List.append_assoc bytes] at hpre
      have hbl := len_left hpre
      rw [List.length_append] at hbl
      have hql : q.1.length ≤ (rawB q.1).length := by unfold rawB; simp
      have hsz := HSZ.out
      have HP := Lib.hid hP; have HPRE := Lib.hid hpre; have HRD := Lib.hid hrd; have HBL := Lib.hid hbl
      obtain ⟨bl, hbl'⟩ : ∃ n, n = bytes.length := ⟨_, rfl⟩
      have HRW := Lib.hid (fun W (h : Ext wr W) => HRAW.out q.2 q.1 W (hrd.ext h) (by omega))
      have hown := hP.own
      obtain ⟨xa, xc, rfl, hx1, hx2, -⟩ := own_slice hown
      obtain ⟨qa, qn, qc, hqv⟩ := hrd.shape
      rw [hqv] at kc HRW
      have HOW := Lib.hid hown
      clear hq hlq hrd hcell hP hpre hbl hsz hql hqv hown hlt
      go_wp2_with fail
      refine (HRW.out _ (Ext.refl _)).mono ?_
      intro e w3 hr
      obtain ⟨rv, rfl, ho3, hE3⟩ := ret_own hr
      have HR3 := Lib.hid (Rd.of_own ho3); have HE3 := Lib.hid hE3
      clear hr ho3 hE3 kc
      go_wp2_with (at_builtin; refine wpList_append_rd rfl (.tmp 25) (.tmp 27) _ rfl el8 w.heap.size _ bytes.length (u8s bytes) (u8s (rawB q.1)) rfl (own_ext HOW.out HE3.out) _ rfl HR3.out (u8s_one _) (by have h1 := HBL.out; have h2 := HSZ.out; rw [u8s_len]; omega) (by have h1 := HBL.out; have h2 := HSZ.out; rw [u8s_len]; unfold maxLen; omega) (HP.out.ext.trans HE3.out).size ?_; intro v' w' ho' hg'; have HO' := Lib.hid ho'; have HG' := Lib.hid hg'; clear ho' hg')
      go_roundg (nL - (i + 1))
      case measure => omega
      case rel => exact ⟨i + 1, bytes ++ rawB q.1, by go_num, by omega, (HP.out.ext' HE3.out).turn (by rw [List.length_append, u8s_append]; have := HO'.out; rwa [u8s_len] at this) HG'.out, HPRE.out⟩
    · have hge : (nL : Int) ≤ (i : Int) := by omega
      obtain rfl : i = nL := by omega
      rw [List.drop_of_length_le (by rw [HNL.out]; exact Nat.le_refl _), List.flatMap_nil, List.nil_append, ← List.append_assoc] at hpre
      have hbl := len_left hpre
      rw [List.length_append] at hbl
      have HP := Lib.hid hP; have HPRE := Lib.hid hpre; have HBL := Lib.hid hbl
      have c11 := hP.b1.cell 1 rfl
      simp only [List.getElem_toArray, List.getElem_cons_zero, List.getElem_cons_succ] at c11
      have hown := hP.own
      obtain ⟨xa, xc, rfl, hx1, hx2, -⟩ := own_slice hown
      have HOW := Lib.hid hown
      clear hP hpre hbl hge hlt hiN hown
      go_wp2_with fail
      refine (HNUM.out nC _ (by omega)).mono ?_
      intro e w3 hr
      obtain ⟨rv, rfl, ho3, hE3⟩ := ret_own hr
      have HR3 := Lib.hid (Rd.of_own ho3); have HE3 := Lib.hid hE3
      have HP3 := Lib.hid (HP.out.ext' hE3)
      clear hr ho3 hE3 c11
      go_wp2_with (at_builtin; refine wpList_append_rd rfl (.tmp 30) (.tmp 35) _ rfl el8 w.heap.size _ bytes.length (u8s bytes) (u8s (numB nC)) rfl HP3.out.own _ rfl HR3.out (u8s_one _) (by have h1 := HBL.out; have h2 := HSZ.out; rw [u8s_len]; omega) (by have h1 := HBL.out; have h2 := HSZ.out; rw [u8s_len]; unfold maxLen; omega) HP3.out.ext.size ?_; intro v' w' ho' hg'; have HP4 := Lib.hid (HP3.out.turn (more := bytes ++ numB nC) (by rw [List.length_append, u8s_append]; rwa [u8s_len] at ho') hg'); have c12 := HP4.out.b1.cell 1 rfl; simp only [List.getElem_toArray, List.getElem_cons_zero, List.getElem_cons_succ] at c12; clear ho' hg')
      go_loopg [4, 40] nC (fun g v4 v40 wr => ∃ (i' : Nat) (bytes : List Int), v40 = .int .i64 (i' : Int) ∧ i' + g = nC ∧ PS w wr (.slice la i lc) (.slice ca nC cc) v4 bytes ∧ bytes ++ (b.clients.drop i').flatMap clB = putK b)
      case atStart => exact ⟨0, _, rfl, by omega, HP4.out, HPRE.out⟩
      case round =>
        obtain ⟨i', bytes', rfl, hiN, hP, hpre⟩ := hrel
        clear HP HP3 HP4 HPRE c12 HBL HOW hx1 hx2 HE3 HR3
        by_cases hlt : i' < nC
        · have hlt' : (i' : Int) < (nC : Int) := by omega
          obtain ⟨q, hq⟩ : ∃ q, C[i']? = some q := ⟨_, List.getElem?_eq_getElem (by have h1 := congrArg List.length HC.out; rw [List.length_map] at h1; have := HNC.out; omega)⟩
          have hlq : b.clients[i']? = some q.1 := by rw [← HC.out, List.getElem?_map, hq]; rfl
          obtain ⟨hu1, hu2, hu3⟩ := HOK.out.cl q.1 (List.mem_of_getElem? hlq)
          obtain ⟨sb, so, rfl, hcell⟩ := H4.out.cells2 hq
          have k0 := hP.ext.cell (hcell 0 _ rfl); have k1 := hP.ext.cell (hcell 1 _ rfl)
          rw [Nat.add_zero] at k0
          have hsl : RowV w 2 q.2 (q.1.slots.map slR) := H6.out q (List.mem_of_getElem? hq)
          obtain ⟨sa, sc, hsv, hs1, hs2⟩ := hsl.shape
          rw [List.length_map] at hsv hs1
          obtain ⟨ns, hns⟩ : ∃ n, n = q.1.slots.length := ⟨_, rfl⟩
          obtain ⟨idn, hid⟩ : ∃ n : Nat, q.1.id = (n : Int) := ⟨q.1.id.toNat, by unfold U64 at hu1; omega⟩
          rw [← hns] at hsv hs1
          rw [hsv] at k1 hsl
          rw [hid] at k0
          rw [drop_cons hlq, List.flatMap_cons, show clB q.1 = numB idn ++ numB ns ++ q.1.slots.flatMap slotB by unfold clB; rw [hid, hns, Int.toNat_natCast], ← List.append_assoc, ← List.append_assoc, List.append_assoc] at hpre
          have hbl := len_left hpre
          rw [List.length_append, List.length_append] at hbl
          have hU : idn < 2 ^ 64 := by unfold U64 at hu1; omega
          obtain ⟨xa', xc', rfl, hx1, hx2, -⟩ := own_slice hP.own
          have HP := Lib.hid hP; have HPRE := Lib.hid hpre; have HBL := Lib.hid hbl; have HU := Lib.hid hU; have HSL := Lib.hid hsl; have HNS := Lib.hid hns; have HU3 := Lib.hid hu3
          clear hq hlq hcell hP hpre hbl hsl hns hu1 hu2 hu3 hU hid hsv hlt
          go_upto_region 11 with fail
          obtain ⟨T8, hT8⟩ : ∃ T, T = wr.heap.size := ⟨_, rfl⟩
          rw [← hT8]
          have hB8 := Blk.new wr #[.int .u64 idn, .slice sa ns sc] 55
          rw [← hT8] at hB8
          have HP8 := Lib.hid (HP.out.ext' (Ext.alloc wr (.cells #[.int .u64 idn, .slice sa ns sc] 55)))
          generalize wr.alloc (.cells #[.int .u64 idn, .slice sa ns sc] 55) = W8 at *
          have c80 := hB8.cell 0 rfl; have c81 := hB8.cell 1 rfl
          simp only [List.getElem_toArray, List.getElem_cons_zero, List.getElem_cons_succ] at c80 c81
          have HB8 := Lib.hid hB8
          clear hB8 k0 k1 hT8 HP
          apply Mono.region1 9 Ext [.is _, .is _, .is _, .rel (fun v W => Rd W v (u8s (numB idn))), .is _, .is _, .is _, .is _, .rel (fun v W => Rd W v (u8s (numB ns)))] (by kernel_rfl) Ext.refl (fun _ _ _ => Ext.trans) (by kernel_rfl) rfl rfl ⟨fun _ _ _ h hE => h.ext hE, fun _ _ _ h hE => h.ext hE, trivial⟩
          focus
            iterate 3 (apply Mono.step_is; (· refine Mono.obl_mk fun w9 hE9 _ K hK => ?_; (have r0 := hE9.cell (show W8.drew.cell? _ = _ from c80)); (have r1 := hE9.cell (show W8.drew.cell? _ = _ from c81)); clear hE9; go_wp2_with fail; simp only [Act.put, List.setIfInBounds_toArray, List.set_cons_succ, List.set_cons_zero] at hK; exact hK _ _ (Ext.refl _) (Mono.is_rfl _ _)); simp only [Act.put, List.setIfInBounds_toArray, List.set_cons_succ, List.set_cons_zero])
            refine Mono.step_rel (Mono.obl_mk fun w9 hE9 hkn K hK => ?_) fun v47 => ?_
            · clear hE9 hkn
              go_wp2_with fail
              refine (HNUM.out idn _ (by have := HU.out; omega)).mono ?_
              intro e w10 hr
              obtain ⟨rv, rfl, ho9, hE10⟩ := ret_own hr
              have HR9 := Lib.hid (Rd.of_own ho9); have HE10 := Lib.hid hE10
              clear hr ho9 hE10
              go_wp2_with fail
              simp only [Act.put, List.setIfInBounds_toArray, List.set_cons_succ, List.set_cons_zero] at hK
              exact hK _ _ HE10.out (Mono.rel_mk HR9.out)
            simp only [Act.put, List.setIfInBounds_toArray, List.set_cons_succ, List.set_cons_zero]
            iterate 4 (apply Mono.step_is; (· refine Mono.obl_mk fun w9 hE9 _ K hK => ?_; (have r0 := hE9.cell (show W8.drew.cell? _ = _ from c80)); (have r1 := hE9.cell (show W8.drew.cell? _ = _ from c81)); clear hE9; go_wp2_with fail; simp only [Act.put, List.setIfInBounds_toArray, List.set_cons_succ, List.set_cons_zero] at hK; exact hK _ _ (Ext.refl _) (Mono.is_rfl _ _)); simp only [Act.put, List.setIfInBounds_toArray, List.set_cons_succ, List.set_cons_zero])
            refine Mono.step_rel (Mono.obl_mk fun w9 hE9 hkn K hK => ?_) fun v52 => ?_
            · clear hE9 hkn
              go_wp2_with fail
              refine (HNUM.out ns _ (by omega)).mono ?_
              intro e w10 hr
              obtain ⟨rv, rfl, ho9, hE10⟩ := ret_own hr
              have HR9 := Lib.hid (Rd.of_own ho9); have HE10 := Lib.hid hE10
              clear hr ho9 hE10
              go_wp2_with fail
              simp only [Act.put, List.setIfInBounds_toArray, List.set_cons_succ, List.set_cons_zero] at hK
              exact hK _ _ HE10.out (Mono.rel_mk HR9.out)
            simp only [Act.put, List.setIfInBounds_toArray, List.set_cons_succ, List.set_cons_zero]
            refine Mono.step_end fun w11 hE11 hkn => ?_
            simp only [List.drop_succ_cons, List.drop_zero]
            obtain ⟨hr47, hr52, -⟩ := hkn
            replace hE11 : Ext W8 w11 := (Ext.drew W8).trans hE11
            have hr47 : Rd w11 v47 (u8s (numB idn)) := hr47
            have hr52 : Rd w11 v52 (u8s (numB ns)) := hr52
            obtain ⟨a47, n47, c47, rfl⟩ := hr47.shape
            obtain ⟨a52, n52, c52, rfl⟩ := hr52.shape
            have HP11 := Lib.hid (HP8.out.ext' hE11); have HR47 := Lib.hid hr47; have HR52 := Lib.hid hr52; have HB811 := Lib.hid (HB8.out.ext hE11)
            clear hr47 hr52 hE11 c80 c81
            go_wp2_with fail
            refine (cat3 w11 _ _ _ bytes' (numB idn) (numB ns) HP11.out.rd HR47.out HR52.out (by have h1 := HBL.out; have h2 := HSZ.out; simp only [List.length_append] at h1 ⊢; omega)).mono ?_
            rintro e w12 ⟨yv, rfl, ho12, hE12⟩
            have HP12 := Lib.hid (HP11.out.new ho12 HP11.out.ext.size hE12)
            have c81 := (HB811.out.ext hE12).cell 1 rfl
            simp only [List.getElem_toArray, List.getElem_cons_zero, List.getElem_cons_succ] at c81
            clear ho12 hE12
            go_wp2_with fail
            go_loopg [4, 58] ns (fun g v4 v58 wr => ∃ (j : Nat) (bytes : List Int), v58 = .int .i64 (j : Int) ∧ j + g = ns ∧ PS w wr (.slice la i lc) (.slice (some ⟨sb, so, none⟩) nC cc) v4 bytes ∧ bytes ++ ((q.1.slots.drop j).flatMap slotB ++ (b.clients.drop (i' + 1)).flatMap clB) = putK b)
            case atStart => exact ⟨0, _, rfl, by omega, HP12.out, HPRE.out⟩
            case round =>
              obtain ⟨j, bytes, rfl, hjn, hP, hpre⟩ := hrel
              clear HP8 HP11 HP12 HPRE HBL c81 HR47 HR52 HB811 HB8
              by_cases hj : j < ns
              · have hj' : (j : Int) < (ns : Int) := by omega
                obtain ⟨s, hs⟩ : ∃ s, q.1.slots[j]? = some s := ⟨_, List.getElem?_eq_getElem (by have := HNS.out; omega)⟩
                obtain ⟨hu1, hu2⟩ := HU3.out s (List.mem_of_getElem? hs)
                obtain ⟨tb, t9, rfl, hcell⟩ := HSL.out.cells2 hs
                have k0 := hP.ext.cell (hcell 0 _ rfl); have k1 := hP.ext.cell (hcell 1 _ rfl)
                rw [Nat.add_zero] at k0
                obtain ⟨sn, hsn⟩ : ∃ n : Nat, s.1 = (n : Int) := ⟨s.1.toNat, by unfold U64 at hu1; omega⟩
                obtain ⟨xn, hxn⟩ : ∃ n : Nat, s.2 = (n : Int) := ⟨s.2.toNat, by unfold U64 at hu2; omega⟩
                rw [hsn] at k0; rw [hxn] at k1
                rw [drop_cons hs, List.flatMap_cons, show slotB s = numB sn ++ numB xn by unfold slotB; rw [hsn, hxn, Int.toNat_natCast, Int.toNat_natCast], List.append_assoc, ← List.append_assoc] at hpre
                have hbl := len_left hpre
                have hU1 : sn < 2 ^ 64 := by unfold U64 at hu1; omega
                have hU2 : xn < 2 ^ 64 := by unfold U64 at hu2; omega
                obtain ⟨xa3, xc3, rfl, hx31, hx32, -⟩ := own_slice hP.own
                have HP := Lib.hid hP; have HPRE := Lib.hid hpre; have HBL := Lib.hid hbl; have HU1 := Lib.hid hU1; have HU2 := Lib.hid hU2
                clear hs hcell hP hpre hbl hu1 hu2 hU1 hU2 hsn hxn hj
                go_upto_region 15 with fail
                obtain ⟨T10, hT10⟩ : ∃ T, T = wr.heap.size := ⟨_, rfl⟩
                rw [← hT10]
                have hB10 := Blk.new wr #[.int .u64 sn, .int .u64 xn] 59
                rw [← hT10] at hB10
                have HP10 := Lib.hid (HP.out.ext' (Ext.alloc wr (.cells #[.int .u64 sn, .int .u64 xn] 59)))
                generalize wr.alloc (.cells #[.int .u64 sn, .int .u64 xn] 59) = W10 at *
                have c80 := hB10.cell 0 rfl; have c81 := hB10.cell 1 rfl
                simp only [List.getElem_toArray, List.getElem_cons_zero, List.getElem_cons_succ] at c80 c81
                clear hB10 k0 k1 hT10 HP
                apply Mono.region1 7 Ext [.is _, .is _, .is _, .rel (fun v W => Rd W v (u8s (numB sn))), .is _, .is _, .rel (fun v W => Rd W v (u8s (numB xn)))] (by kernel_rfl) Ext.refl (fun _ _ _ => Ext.trans) (by kernel_rfl) rfl rfl ⟨fun _ _ _ h hE => h.ext hE, fun _ _ _ h hE => h.ext hE, trivial⟩
                focus
                  iterate 3 (apply Mono.step_is; (· refine Mono.obl_mk fun w9 hE9 _ K hK => ?_; (have r0 := hE9.cell (show W10.drew.cell? _ = _ from c80)); (have r1 := hE9.cell (show W10.drew.cell? _ = _ from c81)); clear hE9; go_wp2_with fail; simp only [Act.put, List.setIfInBounds_toArray, List.set_cons_succ, List.set_cons_zero] at hK; exact hK _ _ (Ext.refl _) (Mono.is_rfl _ _)); simp only [Act.put, List.setIfInBounds_toArray, List.set_cons_succ, List.set_cons_zero])
                  refine Mono.step_rel (Mono.obl_mk fun w9 hE9 hkn K hK => ?_) fun v65 => ?_
                  · clear hE9 hkn
                    go_wp2_with fail
                    refine (HNUM.out sn _ (by have := HU1.out; omega)).mono ?_
                    intro e w10 hr
                    obtain ⟨rv, rfl, ho9, hE10⟩ := ret_own hr
                    have HR9 := Lib.hid (Rd.of_own ho9); have HE10 := Lib.hid hE10
                    clear hr ho9 hE10
                    go_wp2_with fail
                    simp only [Act.put, List.setIfInBounds_toArray, List.set_cons_succ, List.set_cons_zero] at hK
                    exact hK _ _ HE10.out (Mono.rel_mk HR9.out)
                  simp only [Act.put, List.setIfInBounds_toArray, List.set_cons_succ, List.set_cons_zero]
                  iterate 2 (apply Mono.step_is; (· refine Mono.obl_mk fun w9 hE9 _ K hK => ?_; (have r0 := hE9.cell (show W10.drew.cell? _ = _ from c80)); (have r1 := hE9.cell (show W10.drew.cell? _ = _ from c81)); clear hE9; go_wp2_with fail; simp only [Act.put, List.setIfInBounds_toArray, List.set_cons_succ, List.set_cons_zero] at hK; exact hK _ _ (Ext.refl _) (Mono.is_rfl _ _)); simp only [Act.put, List.setIfInBounds_toArray, List.set_cons_succ, List.set_cons_zero])
                  refine Mono.step_rel (Mono.obl_mk fun w9 hE9 hkn K hK => ?_) fun v68 => ?_
                  · clear hE9 hkn
                    go_wp2_with fail
                    refine (HNUM.out xn _ (by have := HU2.out; omega)).mono ?_
                    intro e w10 hr
                    obtain ⟨rv, rfl, ho9, hE10⟩ := ret_own hr
                    have HR9 := Lib.hid (Rd.of_own ho9); have HE10 := Lib.hid hE10
                    clear hr ho9 hE10
                    go_wp2_with fail
                    simp only [Act.put, List.setIfInBounds_toArray, List.set_cons_succ, List.set_cons_zero] at hK
                    exact hK _ _ HE10.out (Mono.rel_mk HR9.out)
                  simp only [Act.put, List.setIfInBounds_toArray, List.set_cons_succ, List.set_cons_zero]
                  refine Mono.step_end fun w11 hE11 hkn => ?_
                  simp only [List.drop_succ_cons, List.drop_zero]
                  obtain ⟨hr65, hr68, -⟩ := hkn
                  replace hE11 : Ext W10 w11 := (Ext.drew W10).trans hE11
                  have hr65 : Rd w11 v65 (u8s (numB sn)) := hr65
                  have hr68 : Rd w11 v68 (u8s (numB xn)) := hr68
                  obtain ⟨a65, n65, c65, rfl⟩ := hr65.shape
                  obtain ⟨a68, n68, c68, rfl⟩ := hr68.shape
                  have HP11 := Lib.hid (HP10.out.ext' hE11); have HR65 := Lib.hid hr65; have HR68 := Lib.hid hr68
                  clear hr65 hr68 hE11 c80 c81
                  go_wp2_with fail
                  refine (cat3 w11 _ _ _ bytes (numB sn) (numB xn) HP11.out.rd HR65.out HR68.out (by have h1 := HBL.out; have h2 := HSZ.out; simp only [List.length_append] at h1 ⊢; omega)).mono ?_
                  rintro e w12 ⟨yv, rfl, ho12, hE12⟩
                  have HP12 := Lib.hid (HP11.out.new ho12 HP11.out.ext.size hE12)
                  clear ho12 hE12
                  go_wp2_with fail
                  go_roundg (ns - (j + 1))
                  case measure => omega
                  case rel => exact ⟨j + 1, _, by go_num, by omega, HP12.out, HPRE.out⟩
              · have hge : (ns : Int) ≤ (j : Int) := by omega
                rw [List.drop_of_length_le (by have := HNS.out; omega), List.flatMap_nil, List.nil_append] at hpre
                have HP := Lib.hid hP; have HPRE := Lib.hid hpre
                clear hP hpre hj
                go_wp2_with fail
                go_roundg (nC - (i' + 1))
                case measure => omega
                case rel => exact ⟨i' + 1, bytes, by go_num, by omega, HP.out, HPRE.out⟩
        · have hge : (nC : Int) ≤ (i' : Int) := by omega
          rw [List.drop_of_length_le (by have := HNC.out; omega), List.flatMap_nil, List.append_nil] at hpre
          subst hpre
          have hget := kget_c u4 (putK b) wr hP.rd (putK_b8 HOK.out) (by have := HSZ.out; omega)
          have hk := getK_put HOK.out
          have HP := Lib.hid hP
          obtain ⟨xa3, xc3, rfl, hx31, hx32, -⟩ := own_slice hP.own
          clear hP hlt
          cases hf : formedK b with
          | true =>
            rw [hf] at hk
            simp only [if_true] at hk
            rw [hk] at hget
            have HGET := Lib.hid hget
            clear hget hk
            have HF := Lib.hid hf
            clear hf
            go_wp2_with fail
            refine HGET.out.mono ?_
            rintro e w9 ⟨hE, v, e9, x, rfl, hB, rfl, rfl⟩
            obtain ⟨a39, n39, c39, a49, n49, c49, rfl⟩ := book_shape hB.book
            have HP9 := Lib.hid (HP.out.ext' hE)
            clear hB hE
            go_wp2_with fail
            go_ret2
            have HPa := HP9.out.ext' (Ext.alloc w9 (.cells #[.slice a39 n39 c39, .slice a49 n49 c49] 27))
            exact ⟨HPa.ext, by rw [if_pos HF.out]; exact ⟨_, rfl, HPa.own⟩⟩
          | false =>
            rw [hf] at hk
            simp only [Bool.false_eq_true, if_false] at hk
            obtain ⟨no, hno, hk⟩ := hk
            rw [hk] at hget
            have HGET := Lib.hid hget
            have b1 : (no != 0) = true := by simpa using hno
            clear hget hk hno
            have HF := Lib.hid hf
            clear hf
            go_wp2_with fail
            refine HGET.out.mono ?_
            rintro e w9 ⟨hE, v, e9, x, rfl, hB, rfl, rfl⟩
            obtain ⟨a39, n39, c39, a49, n49, c49, rfl⟩ := book_shape hB.book
            have HE9 := Lib.hid (HP.out.ext.trans hE)
            clear hB hE
            go_wp2_with fail
            go_ret2
            exact ⟨HE9.out.trans (Ext.alloc _ _), by rw [HF.out]; rfl⟩
set_option maxRecDepth 100000 in
set_option maxHeartbeats 2000000 in
theorem kformed_c (v : Value) (b : Bk) (w : World) (h : BookV w v b) (ok : OkK b) (hsz : (putK b).length ≤ 140737488355000) : Calls Try.prog 14 #[v] w (RetE (.bool (formedK b)) w) := by
  have hput := fun W h => kput_c v b W h ok hsz
  obtain ⟨a, n, c, a', n', c', rfl⟩ := book_shape h
  have HV := Lib.hid h; have HPUT := Lib.hid hput
  clear h ok hsz hput
  go_enter Try.func14, Try.ntmps14
  go_wp2_with fail
  refine (HPUT.out _ (HV.out.ext (Ext.alloc _ _))).mono ?_
  rintro e w2 ⟨hE, hp⟩
  have HE := Lib.hid ((Ext.alloc w _).trans hE)
  cases hf : formedK b with
  | true =>
    rw [hf] at hp
    simp only [if_true] at hp
    obtain ⟨pv, rfl, ho⟩ := hp
    obtain ⟨pa, pc, rfl, -⟩ := own_slice ho
    have HF := Lib.hid hf
    clear ho hE hf
    go_wp2_with fail
    go_ret
    exact ⟨by rw [HF.out]; rfl, HE.out⟩
  | false =>
    rw [hf] at hp
    simp only [Bool.false_eq_true, if_false] at hp
    subst hp
    have HF := Lib.hid hf
    clear hE hf
    go_wp2_with fail
    go_ret
    exact ⟨by rw [HF.out]; rfl, HE.out⟩
end Go.Proofs.Ytgefphfnicjbiaa
