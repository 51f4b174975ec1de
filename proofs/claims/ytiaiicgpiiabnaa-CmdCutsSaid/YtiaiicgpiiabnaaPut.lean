/- Contract of cmd.Put. -/
import Derived.Test.YtiaiicgpiiabnaaEnt2
import Derived.Test.YtiaiicgpiiabnaaConcat
namespace Go.Proofs.Ytiaiicgpiiabnaa
open Go Go.RowKit

set_option maxHeartbeats 1000000 in
theorem put_none (v : Value) (x : Ent) (w : World) (hv : EntV w v x) (hok : EntOk x) (hf : formedB x = false) : Calls Try.prog 10 #[v] w (RetIs (.tuple #[.slice none 0 0, .int .i64 1]) w) := by
  have HV := Lib.hid hv
  obtain ⟨dv, mv, rfl, _, _⟩ := hv
  go_enter Try.func10, Try.ntmps10
  go_wp2_with fail
  refine (formed_ret _ x _ (HV.out.ext (Ext.alloc _ _)) hok).mono ?_
  rintro e w2 ⟨rfl, hE2⟩
  rw [hf]
  go_wp2_with fail
  go_ret2
  exact ⟨rfl, (Ext.alloc _ _).trans hE2⟩

set_option maxHeartbeats 1000000 in
theorem put_ret (v : Value) (x : Ent) (w : World) (hv : EntV w v x) (hok : EntOk x) (hf : formedB x = true) :
    Calls Try.prog 10 #[v] w fun e w' => ∃ b, e = .returned (.tuple #[b, .int .i64 0]) ∧ w'.ownsRow w.heap.size 5 1 b (putB x).length (u8s (putB x)) ∧ Ext w w' := by
  have HV := Lib.hid hv
  obtain ⟨dv, mv, rfl, hd, hm⟩ := hv
  go_enter Try.func10, Try.ntmps10
  go_wp2_with fail
  refine (formed_ret _ x _ (HV.out.ext (Ext.alloc _ _)) hok).mono ?_
  rintro e w2 ⟨rfl, hE2⟩
  rw [hf]
  go_wp2_with fail
  have hE : Ext w w2 := (Ext.alloc _ _).trans hE2
  have hbl : ∀ w3, Ext w2.drew w3 → w3.cell? ⟨w.heap.size, 0, none⟩ = some (.int .u64 x.term) ∧ w3.cell? ⟨w.heap.size, 1, none⟩ = some (.int .i64 x.kind) ∧ w3.cell? ⟨w.heap.size, 2, none⟩ = some (.int .u64 x.client) ∧ w3.cell? ⟨w.heap.size, 3, none⟩ = some (.int .u64 x.seq) ∧ w3.cell? ⟨w.heap.size, 4, none⟩ = some dv ∧ w3.cell? ⟨w.heap.size, 5, none⟩ = some mv := by
    intro w3 h3
    have h3' : Ext w2 w3 := (Ext.drew w2).trans h3
    have g : ∀ j u, #[Value.int .u64 x.term, .int .i64 x.kind, .int .u64 x.client, .int .u64 x.seq, dv, mv][j]? = some u → w3.cell? ⟨w.heap.size, j, none⟩ = some u := by
      intro j u hj
      refine (hE2.trans h3').cell ?_
      rw [World.cell?_alloc_new]
      simpa using hj
    exact ⟨g 0 _ rfl, g 1 _ rfl, g 2 _ rfl, g 3 _ rfl, g 4 _ rfl, g 5 _ rfl⟩
  have HBL := Lib.hid hbl; clear hbl
  have hk : IntKind.u8.wrap x.kind = x.kind % 256 := IntKind.wrap_u8 _
  apply Mono.region1 7 Ext [.is _, .is _, .rel (fun v w' => w'.ownsRow w2.heap.size 5 1 v (numB x.term.toNat).length (u8s (numB x.term.toNat))), .is _, .is _, .is _, .rel (fun v w' => Rd w' v [.int .u8 (x.kind % 256)])] (by kernel_rfl) Ext.refl (fun _ _ _ => Ext.trans) (by kernel_rfl) rfl rfl ⟨fun _ _ _ => own_ext, fun _ _ _ => Rd.ext, trivial⟩
  focus
    iterate 2 (apply Mono.step_is; (· refine Mono.obl_mk fun w3 hE3 _ K hK => ?_; obtain ⟨c0, c1, c2, c3, c4, c5⟩ := HBL.out w3 hE3; go_wp2_with fail; simp only [Act.put, List.setIfInBounds_toArray, List.set_cons_succ, List.set_cons_zero] at hK; exact hK _ _ (Ext.refl _) (Mono.is_rfl _ _)); simp only [Act.put, List.setIfInBounds_toArray, List.set_cons_succ, List.set_cons_zero])
    refine Mono.step_rel (Mono.obl_mk fun w3 hE3 _ K hK => ?_) fun v12 => ?_
    · go_wp2_with fail
      refine (num_int _ _ hok.term).mono ?_
      rintro e w4 ⟨v4, rfl, ho4, hE4⟩
      rw [u8s_len] at ho4
      have HO4 := Lib.hid ho4; clear ho4
      go_wp2_with fail
      simp only [Act.put, List.setIfInBounds_toArray, List.set_cons_succ, List.set_cons_zero] at hK
      exact hK _ _ hE4 (Mono.rel_mk (own_base HO4.out hE3.size))
    simp only [Act.put, List.setIfInBounds_toArray, List.set_cons_succ, List.set_cons_zero]
    iterate 3 (apply Mono.step_is; (· refine Mono.obl_mk fun w3 hE3 _ K hK => ?_; obtain ⟨c0, c1, c2, c3, c4, c5⟩ := HBL.out w3 hE3; go_wp2_with fail; simp only [Act.put, List.setIfInBounds_toArray, List.set_cons_succ, List.set_cons_zero] at hK; exact hK _ _ (Ext.refl _) (Mono.is_rfl _ _)); simp only [Act.put, List.setIfInBounds_toArray, List.set_cons_succ, List.set_cons_zero])
    refine Mono.step_rel (Mono.obl_mk fun w3 hE3 _ K hK => ?_) fun v16 => ?_
    · go_wp2_with fail
      simp only [Act.put, List.setIfInBounds_toArray, List.set_cons_succ, List.set_cons_zero] at hK
      exact hK _ _ (Ext.alloc _ _) (Mono.rel_mk (Rd.of_own (own_lit w3 [.int .u8 (x.kind % 256)] 5 (by unfold maxLen; simp))))
    simp only [Act.put, List.setIfInBounds_toArray, List.set_cons_succ, List.set_cons_zero]
    refine Mono.step_end fun w3 hE3 hkn => ?_
    obtain ⟨ho12, hr16, _⟩ := hkn
    have hs3 : w2.heap.size ≤ w3.heap.size := hE3.size
    have hn8 := numK_le x.term.toNat
    have hnl := numB_len x.term.toNat
    have HO12 : Hid (w3.ownsRow w2.heap.size 5 1 v12 (numB x.term.toNat).length (u8s (numB x.term.toNat))) := ho12
    have HR16 : Hid (Rd w3 v16 [.int .u8 (x.kind % 256)]) := hr16
    clear ho12 hr16
    simp only [List.drop_succ_cons, List.drop_zero]
    go_wp2_with (at_builtin; refine wpList_append_rd rfl (.tmp 12) (.tmp 16) _ rfl el8 w2.heap.size _ _ _ [.int .u8 (x.kind % 256)] rfl HO12.out _ rfl HR16.out (one1 _ _) (by simp; omega) (by unfold maxLen; simp; omega) hs3 ?_)
    intro vb w4 ho4 hg4
    have hE24 : Ext w2.drew w4 := Below.grown hE3 hg4 hs3 fun k hk => (HO12.out.lt k hk).1
    have hE4 : Ext w w4 := (hE.trans (Ext.drew _)).trans hE24
    have HO4 : Hid (w4.ownsRow w2.heap.size 5 1 vb (numB x.term.toNat ++ [x.kind % 256]).length (u8s (numB x.term.toNat ++ [x.kind % 256]))) := by
      have := own_n ho4
      exact Lib.hid (by simpa [u8s] using this)
    have hs24 : w2.heap.size ≤ w4.heap.size := hE24.size
    have hsw : w.heap.size ≤ w2.heap.size := hE.size
    obtain ⟨c0, c1, c2, c3, c4, c5⟩ := HBL.out w4 hE24
    clear ho4 hg4
    rcases (formed_cases x hf).2 with ⟨k1, g1, g2, g3, g4⟩ | ⟨k2, g1, g2⟩ | ⟨k3, g1, g2, g3, g4⟩
    · have e1 : (x.kind == 2) = false := by rw [k1]; rfl
      have e2 : (x.kind == 3) = false := by rw [k1]; rfl
      have e : putB x = numB x.term.toNat ++ [x.kind % 256] := by unfold putB; rw [k1]; simp
      have HE := Lib.hid e
      clear k1 e g1 g2 g3 g4
      go_wp2_with fail
      go_ret2
      exact ⟨_, rfl, by rw [HE.out]; exact own_base HO4.out hsw, hE4⟩
    · have e1 : (x.kind == 2) = true := by rw [k2]; rfl
      have e : putB x = [numB x.term.toNat ++ [x.kind % 256], numB x.client.toNat, numB x.seq.toNat, numB x.data.length ++ x.data].flatten := by unfold putB; rw [k2]; simp
      have hlen : (putB x).length ≤ 200 := by
        have := numK_le x.client.toNat; have := numK_le x.seq.toNat; have := numK_le x.data.length
        rw [e]; simp [numB_len]; omega
      have HE := Lib.hid e
      have HBL2 : Hid (∀ w3, Ext w4.drew w3 → w3.cell? ⟨w.heap.size, 0, none⟩ = some (.int .u64 x.term) ∧ w3.cell? ⟨w.heap.size, 1, none⟩ = some (.int .i64 x.kind) ∧ w3.cell? ⟨w.heap.size, 2, none⟩ = some (.int .u64 x.client) ∧ w3.cell? ⟨w.heap.size, 3, none⟩ = some (.int .u64 x.seq) ∧ w3.cell? ⟨w.heap.size, 4, none⟩ = some dv ∧ w3.cell? ⟨w.heap.size, 5, none⟩ = some mv) := fun w3 h3 => HBL.out w3 ((hE24.trans (Ext.drew _)).trans h3)
      have HRb := Lib.hid (Rd.of_own HO4.out)
      have HD := Lib.hid (hd.ext hE4)
      clear k2 e g2 c0 c2 c3 c4 c5
      go_wp2_with fail
      apply Mono.region1 12 Ext [.rel (fun v w' => Rd w' v (u8s (numB x.term.toNat ++ [x.kind % 256]))), .is _, .is _, .rel (fun v w' => Rd w' v (u8s (numB x.client.toNat))), .is _, .is _, .rel (fun v w' => Rd w' v (u8s (numB x.seq.toNat))), .is _, .is _, .rel (fun v w' => Rd w' v (u8s (numB x.data.length ++ x.data))),
        .rel (fun v w' => ∃ cs, Rd w' v cs ∧ Texts w' cs [numB x.term.toNat ++ [x.kind % 256], numB x.client.toNat, numB x.seq.toNat, numB x.data.length ++ x.data]), .rel (fun v w' => w'.ownsRow w2.heap.size 5 1 v (putB x).length (u8s (putB x)))]
        (by kernel_rfl) Ext.refl (fun _ _ _ => Ext.trans) (by kernel_rfl) rfl rfl ⟨fun _ _ _ => Rd.ext, fun _ _ _ => Rd.ext, fun _ _ _ => Rd.ext, fun _ _ _ => Rd.ext, fun _ _ _ ⟨cs, h1, h2⟩ he => ⟨cs, h1.ext he, h2.ext he⟩, fun _ _ _ => own_ext, trivial⟩
      refine Mono.step_rel (Mono.obl_mk fun w3 hE3 _ K hK => ?_) fun v22 => ?_
      · go_wp2_with fail
        simp only [Act.put, List.setIfInBounds_toArray, List.set_cons_succ, List.set_cons_zero] at hK
        exact hK _ _ (Ext.refl _) (Mono.rel_mk (HRb.out.ext ((Ext.drew _).trans hE3)))
      simp only [Act.put, List.setIfInBounds_toArray, List.set_cons_succ, List.set_cons_zero]
      iterate 2 (apply Mono.step_is; (· refine Mono.obl_mk fun w3 hE3 _ K hK => ?_; obtain ⟨c0, c1, c2, c3, c4, c5⟩ := HBL2.out w3 hE3; go_wp2_with fail; simp only [Act.put, List.setIfInBounds_toArray, List.set_cons_succ, List.set_cons_zero] at hK; exact hK _ _ (Ext.refl _) (Mono.is_rfl _ _)); simp only [Act.put, List.setIfInBounds_toArray, List.set_cons_succ, List.set_cons_zero])
      refine Mono.step_rel (Mono.obl_mk fun w3 hE3 _ K hK => ?_) fun v25 => ?_
      · go_wp2_with fail
        refine (num_int _ _ hok.client).mono ?_
        rintro e w4 ⟨v4, rfl, ho4, hE4⟩
        have HO4 := Lib.hid ho4; clear ho4
        go_wp2_with fail
        simp only [Act.put, List.setIfInBounds_toArray, List.set_cons_succ, List.set_cons_zero] at hK
        exact hK _ _ hE4 (Mono.rel_mk (Rd.of_own HO4.out))
      simp only [Act.put, List.setIfInBounds_toArray, List.set_cons_succ, List.set_cons_zero]
      iterate 2 (apply Mono.step_is; (· refine Mono.obl_mk fun w3 hE3 _ K hK => ?_; obtain ⟨c0, c1, c2, c3, c4, c5⟩ := HBL2.out w3 hE3; go_wp2_with fail; simp only [Act.put, List.setIfInBounds_toArray, List.set_cons_succ, List.set_cons_zero] at hK; exact hK _ _ (Ext.refl _) (Mono.is_rfl _ _)); simp only [Act.put, List.setIfInBounds_toArray, List.set_cons_succ, List.set_cons_zero])
      refine Mono.step_rel (Mono.obl_mk fun w3 hE3 _ K hK => ?_) fun v28 => ?_
      · go_wp2_with fail
        refine (num_int _ _ hok.seq).mono ?_
        rintro e w4 ⟨v4, rfl, ho4, hE4⟩
        have HO4 := Lib.hid ho4; clear ho4
        go_wp2_with fail
        simp only [Act.put, List.setIfInBounds_toArray, List.set_cons_succ, List.set_cons_zero] at hK
        exact hK _ _ hE4 (Mono.rel_mk (Rd.of_own HO4.out))
      simp only [Act.put, List.setIfInBounds_toArray, List.set_cons_succ, List.set_cons_zero]
      iterate 2 (apply Mono.step_is; (· refine Mono.obl_mk fun w3 hE3 _ K hK => ?_; obtain ⟨c0, c1, c2, c3, c4, c5⟩ := HBL2.out w3 hE3; go_wp2_with fail; simp only [Act.put, List.setIfInBounds_toArray, List.set_cons_succ, List.set_cons_zero] at hK; exact hK _ _ (Ext.refl _) (Mono.is_rfl _ _)); simp only [Act.put, List.setIfInBounds_toArray, List.set_cons_succ, List.set_cons_zero])
      refine Mono.step_rel (Mono.obl_mk fun w3 hE3 _ K hK => ?_) fun v31 => ?_
      · go_wp2_with fail
        refine (raw_ret _ x.data _ (HD.out.ext ((Ext.drew _).trans hE3)) (by omega)).mono ?_
        rintro e w4 ⟨v4, rfl, ho4, hE4⟩
        have HO4 := Lib.hid ho4; clear ho4
        go_wp2_with fail
        simp only [Act.put, List.setIfInBounds_toArray, List.set_cons_succ, List.set_cons_zero] at hK
        exact hK _ _ hE4 (Mono.rel_mk (Rd.of_own HO4.out))
      simp only [Act.put, List.setIfInBounds_toArray, List.set_cons_succ, List.set_cons_zero]
      refine Mono.step_rel (Mono.obl_mk fun w3 hE3 hk K hK => ?_) fun v32 => ?_
      · obtain ⟨q0, q1, q2, q3, _⟩ := hk
        have Q0 := Lib.hid (q0 (by kernel_rfl)); have Q1 := Lib.hid (q1 (by kernel_rfl)); have Q2 := Lib.hid (q2 (by kernel_rfl)); have Q3 := Lib.hid (q3 (by kernel_rfl))
        clear q0 q1 q2 q3
        obtain ⟨a0, n0, b0, rfl⟩ := Rd.shape Q0.out
        obtain ⟨a1, n1, b1, rfl⟩ := Rd.shape Q1.out
        obtain ⟨a2, n2, b2, rfl⟩ := Rd.shape Q2.out
        obtain ⟨a3, n3, b3, rfl⟩ := Rd.shape Q3.out
        go_wp2_with fail
        simp only [Act.put, List.setIfInBounds_toArray, List.set_cons_succ, List.set_cons_zero] at hK
        exact hK _ _ (Ext.alloc _ _) (Mono.rel_mk ⟨_, Rd.of_own (own_lit w3 [_, _, _, _] 23 (by unfold maxLen; simp)), (((Texts.nil w3).cons Q3.out).cons Q2.out |>.cons Q1.out |>.cons Q0.out).ext (Ext.alloc _ _)⟩)
      simp only [Act.put, List.setIfInBounds_toArray, List.set_cons_succ, List.set_cons_zero]
      refine Mono.step_rel (Mono.obl_mk fun w3 hE3 hk K hK => ?_) fun v33 => ?_
      · obtain ⟨_, _, _, _, q4, _⟩ := hk
        obtain ⟨cs, q5, q6⟩ := q4 (by kernel_rfl)
        have Q5 := Lib.hid q5; have Q6 := Lib.hid q6; clear q4 q5 q6
        go_wp2_with fail
        refine (concat8 v32 cs _ w3 Q5.out Q6.out (by rw [← HE.out]; omega)).mono ?_
        rintro e w4 ⟨v4, rfl, ho4, hE4⟩
        rw [← HE.out, u8s_len] at ho4
        have HO4 := Lib.hid ho4; clear ho4
        go_wp2_with fail
        simp only [Act.put, List.setIfInBounds_toArray, List.set_cons_succ, List.set_cons_zero] at hK
        exact hK _ _ hE4 (Mono.rel_mk (own_base HO4.out (Nat.le_trans hs24 hE3.size)))
      simp only [Act.put, List.setIfInBounds_toArray, List.set_cons_succ, List.set_cons_zero]
      refine Mono.step_end fun w3 hE3 hkn => ?_
      obtain ⟨_, _, _, _, _, ho33, _⟩ := hkn
      have HO33 : Hid (w3.ownsRow w2.heap.size 5 1 v33 (putB x).length (u8s (putB x))) := ho33
      clear ho33
      simp only [List.drop_succ_cons, List.drop_zero]
      go_wp2_with fail
      go_ret2
      exact ⟨_, rfl, own_base HO33.out hsw, hE4.trans ((Ext.drew _).trans hE3)⟩
    · have e1 : (x.kind == 2) = false := by rw [k3]; rfl
      have e2 : (x.kind == 3) = true := by rw [k3]; rfl
      have hml : x.members.length ≤ 7 := by
        rcases memGo_len x.members 0 (by omega) g4 with h | h
        · omega
        · rw [h]; simp
      have e : putB x = numB x.term.toNat ++ [x.kind % 256] ++ (numB x.members.length ++ x.members.flatMap (fun m => numB m.toNat)) := by unfold putB; rw [k3]; simp
      have HE := Lib.hid e
      have HMB := Lib.hid hok.members
      have HM := Lib.hid (hm.ext hE4)
      obtain ⟨a2, n2, rfl, hl2, hc2, h3⟩ := Rd.open hm
      unfold maxLen at hc2
      have H3 := Lib.hid h3
      obtain ⟨M, hM⟩ : ∃ M, M = x.members.length := ⟨_, rfl⟩
      rw [← hM] at hml hl2 c5 HBL HM HV ⊢
      have HMM := Lib.hid hM
      obtain ⟨pre, hpre⟩ : ∃ pre, pre = numB x.term.toNat ++ [x.kind % 256] := ⟨_, rfl⟩
      rw [← hpre] at HO4
      have hpl : pre.length ≤ 10 := by rw [hpre]; simp; omega
      have HPRE := Lib.hid hpre
      clear k3 e g1 g2 g3 g4 h3 hM hpre hm
      go_wp2_with fail
      refine (num_int (M : Int) w4 ⟨by omega, by omega⟩).mono ?_
      rintro e w5 ⟨v5, rfl, ho5, hE5⟩
      have hMl := numB_len M
      have hM8 := numK_le M
      rw [Int.toNat_natCast, u8s_len] at ho5
      have HO5 := Lib.hid ho5; clear ho5
      have hs25 : w2.heap.size ≤ w5.heap.size := Nat.le_trans hs24 hE5.size
      go_wp2_with (at_builtin; refine wpList_append_rd rfl (.tmp 36) (.tmp 41) _ rfl el8 w2.heap.size _ _ _ (u8s (numB M)) rfl (own_ext HO4.out hE5) _ rfl (Rd.of_own HO5.out) (u8s_one _) (by rw [u8s_len]; omega) (by rw [u8s_len]; unfold maxLen; omega) hs25 ?_)
      intro v6 w6 ho6 hg6
      have hE6 : Ext w2.drew w6 := Below.grown (hE24.trans hE5) hg6 hs25 fun k hk => (HO4.out.lt k hk).1
      have ho6' := own_n ho6
      rw [← u8s_append, u8s_len] at ho6'
      have HO6 := Lib.hid ho6'; clear ho6 ho6' hg6
      obtain ⟨_, _, _, _, _, d5⟩ := HBL.out w6 hE6
      have HS6 : Hid (w2.heap.size ≤ w6.heap.size) := hE6.size
      clear c0 c1 c2 c3 c4 c5
      go_wp2_with fail
      go_loopg [4, 46] M (fun g b i wr => ∃ (r : Nat), r + g = M ∧ i = .int .i64 (r : Int) ∧ wr.ownsRow w2.heap.size 5 1 b (pre ++ numB M ++ (x.members.take r).flatMap (fun m => numB m.toNat)).length (u8s (pre ++ numB M ++ (x.members.take r).flatMap (fun m => numB m.toNat))) ∧ Ext w2.drew wr ∧ w2.heap.size ≤ wr.heap.size ∧ (pre ++ numB M ++ (x.members.take r).flatMap (fun m => numB m.toNat)).length ≤ 19 + 9 * r)
      case atStart =>
        refine ⟨0, by omega, rfl, ?_, hE6, HS6.out, ?_⟩
        · have := HO6.out
          simpa using this
        · simp; omega
      case round =>
        obtain ⟨r, hg, rfl, ho7, hE7, hs7, hl7⟩ := hrel
        by_cases hlt : r < M
        · rcases H3.out with h0 | ⟨b, o, rfl, hc⟩
          · have := HMM.out; rw [h0] at this; simp at this; omega
          · have hrl : r < x.members.length := by have := HMM.out; omega
            have hcell := ((hE.trans (Ext.drew _)).trans hE7).cell (hc r hrl)
            · obtain ⟨y, hy⟩ : ∃ y, y = x.members.getD r 0 := ⟨_, rfl⟩
              rw [← hy] at hcell
              have hyb : U64 y := by rw [hy]; have := HMB.out (x.members[r]) (by simp); simpa [List.getD, hrl] using this
              have htk : x.members.take (r + 1) = x.members.take r ++ [y] := by rw [List.take_add_one, hy]; simp [List.getD, hrl]
              obtain ⟨L, hL⟩ : ∃ L, L = pre ++ numB M ++ (x.members.take r).flatMap (fun m => numB m.toNat) := ⟨_, rfl⟩
              rw [← hL] at ho7 hl7
              have eL : L ++ numB y.toNat = pre ++ numB M ++ (x.members.take (r + 1)).flatMap (fun m => numB m.toNat) := by rw [hL, htk]; simp
              have HEL := Lib.hid eL; have HYB := Lib.hid hyb; have HO7 := Lib.hid ho7
              have hy8 := numK_le y.toNat
              have hyl := numB_len y.toNat
              clear hc hy htk hL eL hyb ho7
              go_wp2_with fail
              refine (num_int y wr HYB.out).mono ?_
              rintro e w8 ⟨v8, rfl, ho8, hE8⟩
              rw [u8s_len] at ho8
              have HO8 := Lib.hid ho8; clear ho8
              have hs8 : w2.heap.size ≤ w8.heap.size := Nat.le_trans hs7 hE8.size
              go_wp2_with (at_builtin; refine wpList_append_rd rfl (.tmp 50) (.tmp 52) _ rfl el8 w2.heap.size _ _ _ (u8s (numB y.toNat)) rfl (own_ext HO7.out hE8) _ rfl (Rd.of_own HO8.out) (u8s_one _) (by rw [u8s_len]; omega) (by rw [u8s_len]; unfold maxLen; omega) hs8 ?_)
              intro v9 w9 ho9 hg9
              have hE9 : Ext w2.drew w9 := Below.grown (hE7.trans hE8) hg9 hs8 fun k hk => (HO7.out.lt k hk).1
              have hs9 : w2.heap.size ≤ w9.heap.size := hE9.size
              have ho9' := own_n ho9
              have hl9 : (L ++ numB y.toNat).length ≤ 19 + 9 * (r + 1) := by simp; omega
              rw [← u8s_append, u8s_len, HEL.out] at ho9'
              rw [HEL.out] at hl9
              have HO9 := Lib.hid ho9'; have HL9 := Lib.hid hl9; clear ho9 ho9' hg9 hl9
              go_wp2_with fail
              go_roundg (gk - 1)
              case measure => omega
              case rel => exact ⟨r + 1, by omega, by go_num, HO9.out, hE9, hs9, HL9.out⟩
        · have hrk : r = M := by omega
          subst hrk
          have HO7 := Lib.hid ho7; clear ho7 hl7
          go_wp2_with fail
          go_ret2
          refine ⟨_, rfl, ?_, (hE.trans (Ext.drew _)).trans hE7⟩
          have h7 := HO7.out
          rw [List.take_of_length_le (by rw [HMM.out]; exact Nat.le_refl _)] at h7
          rw [HE.out, ← HPRE.out, ← List.append_assoc, ← HMM.out]
          exact own_base h7 hsw
end Go.Proofs.Ytiaiicgpiiabnaa
