/- Parts of the proof, in plain words at the head of each: Must, Put, Rdn, RPut, Rdm, Rfn, Rde, Rdw, GetS. -/
import Derived.Test.YtjodgbabfhcilaaRdr
import Derived.Test.YtjodgbabfhcilaaEnt2
import Derived.Test.YtjodgbabfhcilaaBun2
import Derived.Test.YtjodgbabfhcilaaBun1
set_option linter.unusedSimpArgs false
set_option linter.unusedVariables false
/- cmd's must and ought. -/
namespace Go.Proofs.Ytjodgbabfhcilaa
open Go Go.RowKit

set_option maxHeartbeats 400000 in
theorem must_u64 (v : Value) (e : Int) (w : World) : Calls Try.prog 96 #[v, .int .i64 e] w fun en w' => w' = w ∧ en = if e = 0 then .returned v else thrown e := by
  by_cases he : e = 0
  · subst he
    go_enter Try.func96, Try.ntmps96
    go_wp2
    go_ret
    exact ⟨rfl, rfl⟩
  · have hb : (e != 0) = true := by simpa using he
    simp only [if_neg he]
    go_enter Try.func96, Try.ntmps96
    go_wp2
    exact ⟨rfl, rfl, rfl⟩

set_option maxHeartbeats 400000 in
theorem must_u8 (v : Value) (e : Int) (w : World) : Calls Try.prog 98 #[v, .int .i64 e] w fun en w' => w' = w ∧ en = if e = 0 then .returned v else thrown e := by
  by_cases he : e = 0
  · subst he
    go_enter Try.func98, Try.ntmps98
    go_wp2
    go_ret
    exact ⟨rfl, rfl⟩
  · have hb : (e != 0) = true := by simpa using he
    simp only [if_neg he]
    go_enter Try.func98, Try.ntmps98
    go_wp2
    exact ⟨rfl, rfl, rfl⟩

set_option maxHeartbeats 400000 in
theorem must_raw (v : Value) (e : Int) (w : World) : Calls Try.prog 99 #[v, .int .i64 e] w fun en w' => w' = w ∧ en = if e = 0 then .returned v else thrown e := by
  by_cases he : e = 0
  · subst he
    go_enter Try.func99, Try.ntmps99
    go_wp2
    go_ret
    exact ⟨rfl, rfl⟩
  · have hb : (e != 0) = true := by simpa using he
    simp only [if_neg he]
    go_enter Try.func99, Try.ntmps99
    go_wp2
    exact ⟨rfl, rfl, rfl⟩

set_option maxHeartbeats 400000 in
theorem must_err (v : Value) (e : Int) (w : World) : Calls Try.prog 100 #[v, .int .i64 e] w fun en w' => w' = w ∧ en = if e = 0 then .returned v else thrown e := by
  by_cases he : e = 0
  · subst he
    go_enter Try.func100, Try.ntmps100
    go_wp2
    go_ret
    exact ⟨rfl, rfl⟩
  · have hb : (e != 0) = true := by simpa using he
    simp only [if_neg he]
    go_enter Try.func100, Try.ntmps100
    go_wp2
    exact ⟨rfl, rfl, rfl⟩

set_option maxHeartbeats 400000 in
theorem ought_c (ok : Bool) (w : World) : Calls Try.prog 97 #[.bool ok] w fun en w' => w' = w ∧ en = if ok then .returned (.tuple #[]) else thrown 3 := by
  cases ok
  · go_enter Try.func97, Try.ntmps97
    go_wp2
    exact ⟨rfl, rfl, rfl⟩
  · go_enter Try.func97, Try.ntmps97
    go_wp2
    exact ⟨rfl, _, results_none rfl _ _ _, rfl, rfl⟩
end Go.Proofs.Ytjodgbabfhcilaa

/- Contract of cmd.Put. -/
namespace Go.Proofs.Ytjodgbabfhcilaa
open Go Go.RowKit

set_option maxHeartbeats 1000000 in
theorem put_none (v : Value) (x : Ent) (w : World) (hv : EntV w v x) (hok : EntOk x) (hf : formedB x = false) : Calls Try.prog 76 #[v] w (RetIs (.tuple #[.slice none 0 0, .int .i64 1]) w) := by
  have HV := Lib.hid hv
  obtain ⟨dv, mv, rfl, _, _⟩ := hv
  go_enter Try.func76, Try.ntmps76
  go_wp2_with fail
  refine (formed_ret _ x _ (HV.out.ext (Ext.alloc _ _)) hok).mono ?_
  rintro e w2 ⟨rfl, hE2⟩
  rw [hf]
  go_wp2_with fail
  go_ret2
  exact ⟨rfl, (Ext.alloc _ _).trans hE2⟩

set_option maxHeartbeats 1000000 in
theorem put_ret (v : Value) (x : Ent) (w : World) (hv : EntV w v x) (hok : EntOk x) (hf : formedB x = true) :
    Calls Try.prog 76 #[v] w fun e w' => ∃ b, e = .returned (.tuple #[b, .int .i64 0]) ∧ w'.ownsRow w.heap.size 5 1 b (putB x).length (u8s (putB x)) ∧ Ext w w' := by
  have HV := Lib.hid hv
  obtain ⟨dv, mv, rfl, hd, hm⟩ := hv
  go_enter Try.func76, Try.ntmps76
  go_wp2_with fail
  refine (formed_ret _ x _ (HV.out.ext (Ext.alloc _ _)) hok).mono ?_
  rintro e w2 ⟨rfl, hE2⟩
  rw [hf]
  go_wp2_with fail
  have hE : Ext w w2 := (Ext.alloc _ _).trans hE2
  have hbl : ∀ w3, Ext w2.drew w3 → w3.cell? ⟨w.heap.size, 0, none⟩ = some (.int .u64 x.term) ∧ w3.cell? ⟨w.heap.size, 1, none⟩ = some (.int .i64 x.kind) ∧ w3.cell? ⟨w.heap.size, 2, none⟩ = some (.int .u64 x.client) ∧ w3.cell? ⟨w.heap.size, 3, none⟩ = some (.int .u64 x.seq) ∧ w3.cell? ⟨w.heap.size, 4, none⟩ = some dv ∧ w3.cell? ⟨w.heap.size, 5, none⟩ = some mv := by
    intro w3 h3
    have h3' : Ext w2 w3 := (Ext.drew w2).trans h3
    have g : ∀ j u, #[Value.int .u64 x.term, .int .i64 x.kind, .int .u64 x.client, .int .u64 x.seq, dv, mv][j]? = some u → w3.cell? ⟨w.heap.size, j, none⟩ = some u := by
      intro j u hj
      refine (hE2.trans h3').cell ?_
      rw [World.cell?_alloc_new]
      simpa using hj
    exact ⟨g 0 _ rfl, g 1 _ rfl, g 2 _ rfl, g 3 _ rfl, g 4 _ rfl, g 5 _ rfl⟩
  have HBL := Lib.hid hbl; clear hbl
  have hk : IntKind.u8.wrap x.kind = x.kind % 256 := IntKind.wrap_u8 _
  apply Mono.region1 7 Ext [.is _, .is _, .rel (fun v w' => w'.ownsRow w2.heap.size 5 1 v (numB x.term.toNat).length (u8s (numB x.term.toNat))), .is _, .is _, .is _, .rel (fun v w' => Rd w' v [.int .u8 (x.kind % 256)])] (by kernel_rfl) Ext.refl (fun _ _ _ => Ext.trans) (by kernel_rfl) rfl rfl ⟨fun _ _ _ => own_ext, fun _ _ _ => Rd.ext, trivial⟩
  focus
    iterate 2 (apply Mono.step_is; (· refine Mono.obl_mk fun w3 hE3 _ K hK => ?_; obtain ⟨c0, c1, c2, c3, c4, c5⟩ := HBL.out w3 hE3; go_wp2_with fail; simp only [Act.put, List.setIfInBounds_toArray, List.set_cons_succ, List.set_cons_zero] at hK; exact hK _ _ (Ext.refl _) (Mono.is_rfl _ _)); simp only [Act.put, List.setIfInBounds_toArray, List.set_cons_succ, List.set_cons_zero])
    refine Mono.step_rel (Mono.obl_mk fun w3 hE3 _ K hK => ?_) fun v12 => ?_
    · go_wp2_with fail
      refine (num_int _ _ hok.term).mono ?_
      rintro e w4 ⟨v4, rfl, ho4, hE4⟩
      rw [u8s_len] at ho4
      have HO4 := Lib.hid ho4; clear ho4
      go_wp2_with fail
      simp only [Act.put, List.setIfInBounds_toArray, List.set_cons_succ, List.set_cons_zero] at hK
      exact hK _ _ hE4 (Mono.rel_mk (own_base HO4.out hE3.size))
    simp only [Act.put, List.setIfInBounds_toArray, List.set_cons_succ, List.set_cons_zero]
    iterate 3 (apply Mono.step_is; (· refine Mono.obl_mk fun w3 hE3 _ K hK => ?_; obtain ⟨c0, c1, c2, c3, c4, c5⟩ := HBL.out w3 hE3; go_wp2_with fail; simp only [Act.put, List.setIfInBounds_toArray, List.set_cons_succ, List.set_cons_zero] at hK; exact hK _ _ (Ext.refl _) (Mono.is_rfl _ _)); simp only [Act.put, List.setIfInBounds_toArray, List.set_cons_succ, List.set_cons_zero])
    refine Mono.step_rel (Mono.obl_mk fun w3 hE3 _ K hK => ?_) fun v16 => ?_
    · go_wp2_with fail
      simp only [Act.put, List.setIfInBounds_toArray, List.set_cons_succ, List.set_cons_zero] at hK
      exact hK _ _ (Ext.alloc _ _) (Mono.rel_mk (Rd.of_own (own_lit w3 [.int .u8 (x.kind % 256)] 5 (by unfold maxLen; simp))))
    simp only [Act.put, List.setIfInBounds_toArray, List.set_cons_succ, List.set_cons_zero]
    refine Mono.step_end fun w3 hE3 hkn => ?_
    obtain ⟨ho12, hr16, _⟩ := hkn
    have hs3 : w2.heap.size ≤ w3.heap.size := hE3.size
    have hn8 := numK_le x.term.toNat
    have hnl := numB_len x.term.toNat
    have HO12 : Hid (w3.ownsRow w2.heap.size 5 1 v12 (numB x.term.toNat).length (u8s (numB x.term.toNat))) := ho12
    have HR16 : Hid (Rd w3 v16 [.int .u8 (x.kind % 256)]) := hr16
    clear ho12 hr16
    simp only [List.drop_succ_cons, List.drop_zero]
    go_wp2_with (at_builtin; refine wpList_append_rd rfl (.tmp 12) (.tmp 16) _ rfl el8 w2.heap.size _ _ _ [.int .u8 (x.kind % 256)] rfl HO12.out _ rfl HR16.out (one1 _ _) (by simp; omega) (by unfold maxLen; simp; omega) hs3 ?_)
    intro vb w4 ho4 hg4
    have hE24 : Ext w2.drew w4 := Below.grown hE3 hg4 hs3 fun k hk => (HO12.out.lt k hk).1
    have hE4 : Ext w w4 := (hE.trans (Ext.drew _)).trans hE24
    have HO4 : Hid (w4.ownsRow w2.heap.size 5 1 vb (numB x.term.toNat ++ [x.kind % 256]).length (u8s (numB x.term.toNat ++ [x.kind % 256]))) := by
      have := own_n ho4
      exact Lib.hid (by simpa [u8s] using this)
    have hs24 : w2.heap.size ≤ w4.heap.size := hE24.size
    have hsw : w.heap.size ≤ w2.heap.size := hE.size
    obtain ⟨c0, c1, c2, c3, c4, c5⟩ := HBL.out w4 hE24
    clear ho4 hg4
    rcases (formed_cases x hf).2 with ⟨k1, g1, g2, g3, g4⟩ | ⟨k2, g1, g2⟩ | ⟨k3, g1, g2, g3, g4⟩
    · have e1 : (x.kind == 2) = false := by rw [k1]; rfl
      have e2 : (x.kind == 3) = false := by rw [k1]; rfl
      have e : putB x = numB x.term.toNat ++ [x.kind % 256] := by unfold putB; rw [k1]; simp
      have HE := Lib.hid e
      clear k1 e g1 g2 g3 g4
      go_wp2_with fail
      go_ret2
      exact ⟨_, rfl, by rw [HE.out]; exact own_base HO4.out hsw, hE4⟩
    · have e1 : (x.kind == 2) = true := by rw [k2]; rfl
      have e : putB x = [numB x.term.toNat ++ [x.kind % 256], numB x.client.toNat, numB x.seq.toNat, numB x.data.length ++ x.data].flatten := by unfold putB; rw [k2]; simp
      have hlen : (putB x).length ≤ 200 := by
        have := numK_le x.client.toNat; have := numK_le x.seq.toNat; have := numK_le x.data.length
        rw [e]; simp [numB_len]; omega
      have HE := Lib.hid e
      have HBL2 : Hid (∀ w3, Ext w4.drew w3 → w3.cell? ⟨w.heap.size, 0, none⟩ = some (.int .u64 x.term) ∧ w3.cell? ⟨w.heap.size, 1, none⟩ = some (.int .i64 x.kind) ∧ w3.cell? ⟨w.heap.size, 2, none⟩ = some (.int .u64 x.client) ∧ w3.cell? ⟨w.heap.size, 3, none⟩ = some (.int .u64 x.seq) ∧ w3.cell? ⟨w.heap.size, 4, none⟩ = some dv ∧ w3.cell? ⟨w.heap.size, 5, none⟩ = some mv) := fun w3 h3 => HBL.out w3 ((hE24.trans (Ext.drew _)).trans h3)
      have HRb := Lib.hid (Rd.of_own HO4.out)
      have HD := Lib.hid (hd.ext hE4)
      clear k2 e g2 c0 c2 c3 c4 c5
      go_wp2_with fail
      apply Mono.region1 12 Ext [.rel (fun v w' => Rd w' v (u8s (numB x.term.toNat ++ [x.kind % 256]))), .is _, .is _, .rel (fun v w' => Rd w' v (u8s (numB x.client.toNat))), .is _, .is _, .rel (fun v w' => Rd w' v (u8s (numB x.seq.toNat))), .is _, .is _, .rel (fun v w' => Rd w' v (u8s (numB x.data.length ++ x.data))),
        .rel (fun v w' => ∃ cs, Rd w' v cs ∧ Texts w' cs [numB x.term.toNat ++ [x.kind % 256], numB x.client.toNat, numB x.seq.toNat, numB x.data.length ++ x.data]), .rel (fun v w' => w'.ownsRow w2.heap.size 5 1 v (putB x).length (u8s (putB x)))]
        (by kernel_rfl) Ext.refl (fun _ _ _ => Ext.trans) (by kernel_rfl) rfl rfl ⟨fun _ _ _ => Rd.ext, fun _ _ _ => Rd.ext, fun _ _ _ => Rd.ext, fun _ _ _ => Rd.ext, fun _ _ _ ⟨cs, h1, h2⟩ he => ⟨cs, h1.ext he, h2.ext he⟩, fun _ _ _ => own_ext, trivial⟩
      refine Mono.step_rel (Mono.obl_mk fun w3 hE3 _ K hK => ?_) fun v22 => ?_
      · go_wp2_with fail
        simp only [Act.put, List.setIfInBounds_toArray, List.set_cons_succ, List.set_cons_zero] at hK
        exact hK _ _ (Ext.refl _) (Mono.rel_mk (HRb.out.ext ((Ext.drew _).trans hE3)))
      simp only [Act.put, List.setIfInBounds_toArray, List.set_cons_succ, List.set_cons_zero]
      iterate 2 (apply Mono.step_is; (· refine Mono.obl_mk fun w3 hE3 _ K hK => ?_; obtain ⟨c0, c1, c2, c3, c4, c5⟩ := HBL2.out w3 hE3; go_wp2_with fail; simp only [Act.put, List.setIfInBounds_toArray, List.set_cons_succ, List.set_cons_zero] at hK; exact hK _ _ (Ext.refl _) (Mono.is_rfl _ _)); simp only [Act.put, List.setIfInBounds_toArray, List.set_cons_succ, List.set_cons_zero])
      refine Mono.step_rel (Mono.obl_mk fun w3 hE3 _ K hK => ?_) fun v25 => ?_
      · go_wp2_with fail
        refine (num_int _ _ hok.client).mono ?_
        rintro e w4 ⟨v4, rfl, ho4, hE4⟩
        have HO4 := Lib.hid ho4; clear ho4
        go_wp2_with fail
        simp only [Act.put, List.setIfInBounds_toArray, List.set_cons_succ, List.set_cons_zero] at hK
        exact hK _ _ hE4 (Mono.rel_mk (Rd.of_own HO4.out))
      simp only [Act.put, List.setIfInBounds_toArray, List.set_cons_succ, List.set_cons_zero]
      iterate 2 (apply Mono.step_is; (· refine Mono.obl_mk fun w3 hE3 _ K hK => ?_; obtain ⟨c0, c1, c2, c3, c4, c5⟩ := HBL2.out w3 hE3; go_wp2_with fail; simp only [Act.put, List.setIfInBounds_toArray, List.set_cons_succ, List.set_cons_zero] at hK; exact hK _ _ (Ext.refl _) (Mono.is_rfl _ _)); simp only [Act.put, List.setIfInBounds_toArray, List.set_cons_succ, List.set_cons_zero])
      refine Mono.step_rel (Mono.obl_mk fun w3 hE3 _ K hK => ?_) fun v28 => ?_
      · go_wp2_with fail
        refine (num_int _ _ hok.seq).mono ?_
        rintro e w4 ⟨v4, rfl, ho4, hE4⟩
        have HO4 := Lib.hid ho4; clear ho4
        go_wp2_with fail
        simp only [Act.put, List.setIfInBounds_toArray, List.set_cons_succ, List.set_cons_zero] at hK
        exact hK _ _ hE4 (Mono.rel_mk (Rd.of_own HO4.out))
      simp only [Act.put, List.setIfInBounds_toArray, List.set_cons_succ, List.set_cons_zero]
      iterate 2 (apply Mono.step_is; (· refine Mono.obl_mk fun w3 hE3 _ K hK => ?_; obtain ⟨c0, c1, c2, c3, c4, c5⟩ := HBL2.out w3 hE3; go_wp2_with fail; simp only [Act.put, List.setIfInBounds_toArray, List.set_cons_succ, List.set_cons_zero] at hK; exact hK _ _ (Ext.refl _) (Mono.is_rfl _ _)); simp only [Act.put, List.setIfInBounds_toArray, List.set_cons_succ, List.set_cons_zero])
      refine Mono.step_rel (Mono.obl_mk fun w3 hE3 _ K hK => ?_) fun v31 => ?_
      · go_wp2_with fail
        refine (raw_ret _ x.data _ (HD.out.ext ((Ext.drew _).trans hE3)) (by omega)).mono ?_
        rintro e w4 ⟨v4, rfl, ho4, hE4⟩
        have HO4 := Lib.hid ho4; clear ho4
        go_wp2_with fail
        simp only [Act.put, List.setIfInBounds_toArray, List.set_cons_succ, List.set_cons_zero] at hK
        exact hK _ _ hE4 (Mono.rel_mk (Rd.of_own HO4.out))
      simp only [Act.put, List.setIfInBounds_toArray, List.set_cons_succ, List.set_cons_zero]
      refine Mono.step_rel (Mono.obl_mk fun w3 hE3 hk K hK => ?_) fun v32 => ?_
      · obtain ⟨q0, q1, q2, q3, _⟩ := hk
        have Q0 := Lib.hid (q0 (by kernel_rfl)); have Q1 := Lib.hid (q1 (by kernel_rfl)); have Q2 := Lib.hid (q2 (by kernel_rfl)); have Q3 := Lib.hid (q3 (by kernel_rfl))
        clear q0 q1 q2 q3
        obtain ⟨a0, n0, b0, rfl⟩ := Rd.shape Q0.out
        obtain ⟨a1, n1, b1, rfl⟩ := Rd.shape Q1.out
        obtain ⟨a2, n2, b2, rfl⟩ := Rd.shape Q2.out
        obtain ⟨a3, n3, b3, rfl⟩ := Rd.shape Q3.out
        go_wp2_with fail
        simp only [Act.put, List.setIfInBounds_toArray, List.set_cons_succ, List.set_cons_zero] at hK
        exact hK _ _ (Ext.alloc _ _) (Mono.rel_mk ⟨_, Rd.of_own (own_lit w3 [_, _, _, _] 32 (by unfold maxLen; simp)), (((Texts.nil w3).cons Q3.out).cons Q2.out |>.cons Q1.out |>.cons Q0.out).ext (Ext.alloc _ _)⟩)
      simp only [Act.put, List.setIfInBounds_toArray, List.set_cons_succ, List.set_cons_zero]
      refine Mono.step_rel (Mono.obl_mk fun w3 hE3 hk K hK => ?_) fun v33 => ?_
      · obtain ⟨_, _, _, _, q4, _⟩ := hk
        obtain ⟨cs, q5, q6⟩ := q4 (by kernel_rfl)
        have Q5 := Lib.hid q5; have Q6 := Lib.hid q6; clear q4 q5 q6
        go_wp2_with fail
        refine (concat8 v32 cs _ w3 Q5.out Q6.out (by rw [← HE.out]; omega)).mono ?_
        rintro e w4 ⟨v4, rfl, ho4, hE4⟩
        rw [← HE.out, u8s_len] at ho4
        have HO4 := Lib.hid ho4; clear ho4
        go_wp2_with fail
        simp only [Act.put, List.setIfInBounds_toArray, List.set_cons_succ, List.set_cons_zero] at hK
        exact hK _ _ hE4 (Mono.rel_mk (own_base HO4.out (Nat.le_trans hs24 hE3.size)))
      simp only [Act.put, List.setIfInBounds_toArray, List.set_cons_succ, List.set_cons_zero]
      refine Mono.step_end fun w3 hE3 hkn => ?_
      obtain ⟨_, _, _, _, _, ho33, _⟩ := hkn
      have HO33 : Hid (w3.ownsRow w2.heap.size 5 1 v33 (putB x).length (u8s (putB x))) := ho33
      clear ho33
      simp only [List.drop_succ_cons, List.drop_zero]
      go_wp2_with fail
      go_ret2
      exact ⟨_, rfl, own_base HO33.out hsw, hE4.trans ((Ext.drew _).trans hE3)⟩
    · have e1 : (x.kind == 2) = false := by rw [k3]; rfl
      have e2 : (x.kind == 3) = true := by rw [k3]; rfl
      have hml : x.members.length ≤ 7 := by
        rcases memGo_len x.members 0 (by omega) g4 with h | h
        · omega
        · rw [h]; simp
      have e : putB x = numB x.term.toNat ++ [x.kind % 256] ++ (numB x.members.length ++ x.members.flatMap (fun m => numB m.toNat)) := by unfold putB; rw [k3]; simp
      have HE := Lib.hid e
      have HMB := Lib.hid hok.members
      have HM := Lib.hid (hm.ext hE4)
      obtain ⟨a2, n2, rfl, hl2, hc2, h3⟩ := Rd.open hm
      unfold maxLen at hc2
      have H3 := Lib.hid h3
      obtain ⟨M, hM⟩ : ∃ M, M = x.members.length := ⟨_, rfl⟩
      rw [← hM] at hml hl2 c5 HBL HM HV ⊢
      have HMM := Lib.hid hM
      obtain ⟨pre, hpre⟩ : ∃ pre, pre = numB x.term.toNat ++ [x.kind % 256] := ⟨_, rfl⟩
      rw [← hpre] at HO4
      have hpl : pre.length ≤ 10 := by rw [hpre]; simp; omega
      have HPRE := Lib.hid hpre
      clear k3 e g1 g2 g3 g4 h3 hM hpre hm
      go_wp2_with fail
      refine (num_int (M : Int) w4 ⟨by omega, by omega⟩).mono ?_
      rintro e w5 ⟨v5, rfl, ho5, hE5⟩
      have hMl := numB_len M
      have hM8 := numK_le M
      rw [Int.toNat_natCast, u8s_len] at ho5
      have HO5 := Lib.hid ho5; clear ho5
      have hs25 : w2.heap.size ≤ w5.heap.size := Nat.le_trans hs24 hE5.size
      go_wp2_with (at_builtin; refine wpList_append_rd rfl (.tmp 36) (.tmp 41) _ rfl el8 w2.heap.size _ _ _ (u8s (numB M)) rfl (own_ext HO4.out hE5) _ rfl (Rd.of_own HO5.out) (u8s_one _) (by rw [u8s_len]; omega) (by rw [u8s_len]; unfold maxLen; omega) hs25 ?_)
      intro v6 w6 ho6 hg6
      have hE6 : Ext w2.drew w6 := Below.grown (hE24.trans hE5) hg6 hs25 fun k hk => (HO4.out.lt k hk).1
      have ho6' := own_n ho6
      rw [← u8s_append, u8s_len] at ho6'
      have HO6 := Lib.hid ho6'; clear ho6 ho6' hg6
      obtain ⟨_, _, _, _, _, d5⟩ := HBL.out w6 hE6
      have HS6 : Hid (w2.heap.size ≤ w6.heap.size) := hE6.size
      clear c0 c1 c2 c3 c4 c5
      go_wp2_with fail
      go_loopg [4, 46] M (fun g b i wr => ∃ (r : Nat), r + g = M ∧ i = .int .i64 (r : Int) ∧ wr.ownsRow w2.heap.size 5 1 b (pre ++ numB M ++ (x.members.take r).flatMap (fun m => numB m.toNat)).length (u8s (pre ++ numB M ++ (x.members.take r).flatMap (fun m => numB m.toNat))) ∧ Ext w2.drew wr ∧ w2.heap.size ≤ wr.heap.size ∧ (pre ++ numB M ++ (x.members.take r).flatMap (fun m => numB m.toNat)).length ≤ 19 + 9 * r)
      case atStart =>
        refine ⟨0, by omega, rfl, ?_, hE6, HS6.out, ?_⟩
        · have := HO6.out
          simpa using this
        · simp; omega
      case round =>
        obtain ⟨r, hg, rfl, ho7, hE7, hs7, hl7⟩ := hrel
        by_cases hlt : r < M
        · rcases H3.out with h0 | ⟨b, o, rfl, hc⟩
          · have := HMM.out; rw [h0] at this; simp at this; omega
          · have hrl : r < x.members.length := by have := HMM.out; omega
            have hcell := ((hE.trans (Ext.drew _)).trans hE7).cell (hc r hrl)
            · obtain ⟨y, hy⟩ : ∃ y, y = x.members.getD r 0 := ⟨_, rfl⟩
              rw [← hy] at hcell
              have hyb : U64 y := by rw [hy]; have := HMB.out (x.members[r]) (by simp); simpa [List.getD, hrl] using this
              have htk : x.members.take (r + 1) = x.members.take r ++ [y] := by rw [List.take_add_one, hy]; simp [List.getD, hrl]
              obtain ⟨L, hL⟩ : ∃ L, L = pre ++ numB M ++ (x.members.take r).flatMap (fun m => numB m.toNat) := ⟨_, rfl⟩
              rw [← hL] at ho7 hl7
              have eL : L ++ numB y.toNat = pre ++ numB M ++ (x.members.take (r + 1)).flatMap (fun m => numB m.toNat) := by rw [hL, htk]; simp
              have HEL := Lib.hid eL; have HYB := Lib.hid hyb; have HO7 := Lib.hid ho7
              have hy8 := numK_le y.toNat
              have hyl := numB_len y.toNat
              clear hc hy htk hL eL hyb ho7
              go_wp2_with fail
              refine (num_int y wr HYB.out).mono ?_
              rintro e w8 ⟨v8, rfl, ho8, hE8⟩
              rw [u8s_len] at ho8
              have HO8 := Lib.hid ho8; clear ho8
              have hs8 : w2.heap.size ≤ w8.heap.size := Nat.le_trans hs7 hE8.size
              go_wp2_with (at_builtin; refine wpList_append_rd rfl (.tmp 50) (.tmp 52) _ rfl el8 w2.heap.size _ _ _ (u8s (numB y.toNat)) rfl (own_ext HO7.out hE8) _ rfl (Rd.of_own HO8.out) (u8s_one _) (by rw [u8s_len]; omega) (by rw [u8s_len]; unfold maxLen; omega) hs8 ?_)
              intro v9 w9 ho9 hg9
              have hE9 : Ext w2.drew w9 := Below.grown (hE7.trans hE8) hg9 hs8 fun k hk => (HO7.out.lt k hk).1
              have hs9 : w2.heap.size ≤ w9.heap.size := hE9.size
              have ho9' := own_n ho9
              have hl9 : (L ++ numB y.toNat).length ≤ 19 + 9 * (r + 1) := by simp; omega
              rw [← u8s_append, u8s_len, HEL.out] at ho9'
              rw [HEL.out] at hl9
              have HO9 := Lib.hid ho9'; have HL9 := Lib.hid hl9; clear ho9 ho9' hg9 hl9
              go_wp2_with fail
              go_roundg (gk - 1)
              case measure => omega
              case rel => exact ⟨r + 1, by omega, by go_num, HO9.out, hE9, hs9, HL9.out⟩
        · have hrk : r = M := by omega
          subst hrk
          have HO7 := Lib.hid ho7; clear ho7 hl7
          go_wp2_with fail
          go_ret2
          refine ⟨_, rfl, ?_, (hE.trans (Ext.drew _)).trans hE7⟩
          have h7 := HO7.out
          rw [List.take_of_length_le (by rw [HMM.out]; exact Nat.le_refl _)] at h7
          rw [HE.out, ← HPRE.out, ← List.append_assoc, ← HMM.out]
          exact own_base h7 hsw
end Go.Proofs.Ytjodgbabfhcilaa

/- bin.Reader: number. -/
namespace Go.Proofs.Ytjodgbabfhcilaa
open Go Go.RowKit

theorem shl_or (acc : Nat) (c : Int) (j : Nat) (hj : j < 8) (ha : acc < 256 ^ j) (h0 : 0 ≤ c) (h1 : c ≤ 255) : bits BinOp.or IntKind.u64 (IntKind.u64.wrap ((acc : Int) * 256)) c = ((acc * 256 + c.toNat : Nat) : Int) := by
  have h7 : 256 ^ j ≤ 256 ^ 7 := Nat.pow_le_pow_right (by decide) (by omega)
  have hb : acc < 72057594037927936 := by simpa using Nat.lt_of_lt_of_le ha h7
  obtain ⟨n, rfl⟩ := Int.eq_ofNat_of_zero_le h0
  have hn : n < 2 ^ 8 := by omega
  rw [IntKind.wrap_u64, show ((acc : Int) * 256) % 18446744073709551616 = ((2 ^ 8 * acc : Nat) : Int) by omega, u64_or_nat _ _ (by omega) (by omega), ← Nat.two_pow_add_eq_or_of_lt hn]
  simp; omega
theorem rdDig_step (n j acc K : Nat) (c : Int) (r r0 : List Int) (hn : K - j = n + 1) (h : rdDig (n + 1) (decide (j = 0)) acc (c :: r) = rdDig K true 0 r0) (hc : ¬ (j = 0 ∧ c = 0)) :
    rdDig (K - (j + 1)) (decide (j + 1 = 0)) (acc * 256 + c.toNat) r = rdDig K true 0 r0 := by
  rw [← h]
  simp only [rdDig]
  rw [if_neg (by simpa using hc), show K - (j + 1) = n by omega]
  simp
theorem acc_step (acc j : Nat) (c : Int) (ha : acc < 256 ^ j) (h0 : 0 ≤ c) (h1 : c ≤ 255) : acc * 256 + c.toNat < 256 ^ (j + 1) := by
  rw [Nat.pow_succ]; omega

set_option maxHeartbeats 1000000 in
theorem number_c (b : Nat) (bs : List Int) (e : Int) (w : World) (hb8 : B8 bs) (h : Rdr w b bs e) : Calls Try.prog 93 #[ptr b] w (Inner b e (Value.int .u64) (rdNum bs) w) := by
  obtain ⟨X, hX⟩ : ∃ X, X = rdNum bs := ⟨_, rfl⟩
  rw [← hX]
  go_enter Try.func93, Try.ntmps93
  go_wp2_with fail
  refine (one_c b bs e w h).mono ?_
  rintro en w1 ⟨hg1, h1⟩
  cases bs with
  | nil =>
    obtain ⟨rfl, r, hr⟩ := h1
    subst hX
    exact ⟨rfl, hg1, rfl, r, hr⟩
  | cons k r0 =>
    obtain ⟨rfl, hr1⟩ := h1
    have hk := hb8 k (by simp)
    have hr8 : B8 r0 := fun x hx => hb8 x (by simp [hx])
    by_cases h8 : 8 < k
    · have hX' : Hid (X = .error 3) := Lib.hid (by rw [hX]; simp [rdNum, h8])
      have HR := Lib.hid hr1; clear hr1 hX
      go_wp2
      rw [hX'.out]
      exact ⟨rfl, hg1, rfl, _, HR.out⟩
    · obtain ⟨K, rfl⟩ := Int.eq_ofNat_of_zero_le hk.1
      have hX' : Hid ((∀ er, rdDig K true 0 r0 = .error er → X = .error er) ∧ (∀ n r', rdDig K true 0 r0 = .ok (n, r') → X = .ok ((n : Int), r'))) := by
        refine Lib.hid ⟨fun er he => ?_, fun n r' he => ?_⟩ <;> (rw [hX]; simp [rdNum, h8, he])
      have HR := Lib.hid hr1; have HG := Lib.hid hg1; have HB := Lib.hid hr8
      have hK : K ≤ 8 := by omega
      clear hr1 hX hg1 hr8 hb8 h hk
      go_wp2_with fail
      go_loopg [2, 12] K (fun g n i wr => ∃ (j acc : Nat) (r : List Int), j + g = K ∧ i = .int .u8 (j : Int) ∧ n = .int .u64 (acc : Int) ∧ acc < 256 ^ j ∧ Rdr wr b r e ∧ w.grownBy wr (some b) ∧ B8 r ∧ rdDig (K - j) (decide (j = 0)) acc r = rdDig K true 0 r0)
      case atStart =>
        refine ⟨0, 0, r0, by omega, rfl, rfl, by simp, HR.out, HG.out, HB.out, by simp⟩
      case round =>
        obtain ⟨j, acc, r, hj, rfl, rfl, ha, hr, hg, hr8, hd⟩ := hrel
        by_cases hlt : j < K
        · have HA := Lib.hid ha; have HR := Lib.hid hr; have HG := Lib.hid hg; have HB := Lib.hid hr8
          obtain ⟨n, hn⟩ : ∃ n, K - j = n + 1 := ⟨K - j - 1, by omega⟩
          rw [hn] at hd
          have HD := Lib.hid hd
          clear ha hr hg hr8 hd
          go_wp2_with fail
          refine (one_c b r e _ HR.out).mono ?_
          rintro en w2 ⟨hg2, h2⟩
          have hgw := Lib.hid (grown_trans1 HG.out hg2)
          clear hg2
          cases r with
          | nil =>
            obtain ⟨rfl, r', hr'⟩ := h2
            have hX2 : X = .error 2 := hX'.out.1 2 (by rw [← HD.out]; simp [rdDig])
            rw [hX2]
            exact ⟨rfl, hgw.out, rfl, r', hr'⟩
          | cons c r' =>
            obtain ⟨rfl, hr'⟩ := h2
            have HR' := Lib.hid hr'; clear hr'
            have hc := HB.out c (by simp)
            by_cases hj0 : j = 0
            · by_cases hc0 : c = 0
              · have hX2 : Hid (X = .error 3) := Lib.hid (hX'.out.1 3 (by rw [← HD.out]; simp [rdDig, hj0, hc0]))
                go_wp2
                rw [hX2.out]
                exact ⟨rfl, hgw.out, rfl, _, HR'.out⟩
              · go_wp2
                go_roundg n
                case rel => exact ⟨j + 1, acc * 256 + c.toNat, r', by omega, by rw [hj0]; rfl, by rw [shl_or acc c j (by omega) HA.out hc.1 hc.2], acc_step acc j c HA.out hc.1 hc.2, HR'.out, hgw.out, fun x hx => HB.out x (by simp [hx]), rdDig_step n j acc K c r' r0 hn HD.out (fun h => hc0 h.2)⟩
                case measure => omega
            · have hjw : IntKind.u8.wrap ((j : Int) + 1) = ((j + 1 : Nat) : Int) := by simp [IntKind.wrap, IntKind.bits, IntKind.signed]; omega
              go_wp2
              go_roundg n
              case rel => exact ⟨j + 1, acc * 256 + c.toNat, r', by omega, by simp, by rw [shl_or acc c j (by omega) HA.out hc.1 hc.2], acc_step acc j c HA.out hc.1 hc.2, HR'.out, hgw.out, fun x hx => HB.out x (by simp [hx]), rdDig_step n j acc K c r' r0 hn HD.out (fun h => hj0 h.1)⟩
              case measure => omega
        · have hjk : j = K := by omega
          have hX2 : Hid (X = .ok ((acc : Int), r)) := Lib.hid (hX'.out.2 acc r (by rw [← hd, hjk]; simp [rdDig]))
          have HR := Lib.hid hr; have HG := Lib.hid hg
          clear hr hg ha hr8 hd
          go_wp2
          go_ret
          rw [hX2.out]
          exact ⟨HG.out, rfl, HR.out⟩
end Go.Proofs.Ytjodgbabfhcilaa

/- Contract of tabellionref12.Put. -/
namespace Go.Proofs.Ytjodgbabfhcilaa
open Go Go.RowKit
end Go.Proofs.Ytjodgbabfhcilaa

/- bin.Reader: Num, Byte, Raw, End; New. -/
namespace Go.Proofs.Ytjodgbabfhcilaa
open Go Go.RowKit

/-- What a reading call brings: X, or the reader's error if it is stuck. -/
def stuck? {α : Type} (e : Int) (X : Except Int α) : Except Int α := if e = 0 then X else .error e
/-- How an outer reading call ends. -/
def Outer {α : Type} (b : Nat) (bs : List Int) (V : α → Value → World → Prop) (z : Value) (X : Except Int (α × List Int)) (w : World) (en : Ending) (w' : World) : Prop :=
  w.grownBy w' (some b) ∧ match X with
  | .error no => en = .returned (.tuple #[z, .int .i64 no]) ∧ Rdr w' b bs no
  | .ok (x, r) => ∃ v, en = .returned (.tuple #[v, .int .i64 0]) ∧ V x v w' ∧ Rdr w' b r 0

theorem grown_new {w w' : World} {r : Option Nat} (h : w.grownBy w' r) {p : Nat} (hp : w.heap.size ≤ p) (j : Nat) (v : Value) : w.grownBy (w'.setCell ⟨p, j, none⟩ v) r :=
  grown_trans h (grown_set w' p j v) (.inr fun i hi => by cases hi; exact hp)
theorem rdr_lt {w : World} {b : Nat} {bs : List Int} {e : Int} (h : Rdr w b bs e) : b < w.heap.size := by obtain ⟨v, hB, _⟩ := h; exact hB.lt

/-- At the door of a reading call: its own three variables, and what it found. -/
structure Door (w W : World) (b : Nat) (a : Option Addr) (n c : Nat) (bs : List Int) : Prop where
  lt : b < w.heap.size
  g : w.grownBy W (some b)
  pr : Blk W w.heap.size #[ptr b] 87
  pe : Blk W (w.heap.size + 1) #[.int .i64 0] 27
  pw : Blk W (w.heap.size + 2) #[.slice a n c] 32
  st : ∃ r e, Rdr W b r e
  rd : Rd w (.slice a n c) (u8s bs)
  off : Off (.slice a n c) (u8s bs) (some b)
  bef : Bef (.slice a n c) b
theorem Door.mk' {w : World} {b : Nat} {a : Option Addr} {n c : Nat} {bs : List Int} {e : Int} (hB : Blk w b #[.slice a n c, .int .i64 e] 110) (hR : Rd w (.slice a n c) (u8s bs)) (hF : Bef (.slice a n c) b) :
    Door w (((w.alloc (.cells #[ptr b] 87)).alloc (.cells #[.int .i64 0] 27)).alloc (.cells #[.slice a n c] 32)) b a n c bs where
  lt := hB.lt
  g := Ext.grownBy (((Ext.alloc _ _).trans (Ext.alloc _ _)).trans (Ext.alloc _ _)) _
  pr := ((Blk.new w _ _).alloc _).alloc _
  pe := by have := Blk.new (w.alloc (.cells #[ptr b] 87)) #[.int .i64 0] 27; simp at this; exact this.alloc _
  pw := by have := Blk.new ((w.alloc (.cells #[ptr b] 87)).alloc (.cells #[.int .i64 0] 27)) #[.slice a n c] 32; simpa [Nat.add_assoc] using this
  st := ⟨bs, e, _, ((hB.alloc _).alloc _).alloc _, hR.ext (((Ext.alloc _ _).trans (Ext.alloc _ _)).trans (Ext.alloc _ _)), hF⟩
  rd := hR
  off := rdr_off hR hB ⟨_, _, _, rfl⟩
  bef := hF
theorem Door.go {w W W' : World} {b : Nat} {a : Option Addr} {n c : Nat} {bs : List Int} (h : Door w W b a n c bs) (hg : W.grownBy W' (some b)) (hs : ∃ r e, Rdr W' b r e) : Door w W' b a n c bs where
  lt := h.lt
  g := grown_trans1 h.g hg
  pr := h.pr.grown hg (by have := h.lt; intro e; cases e; omega)
  pe := h.pe.grown hg (by have := h.lt; intro e; cases e; omega)
  pw := h.pw.grown hg (by have := h.lt; intro e; cases e; omega)
  st := hs
  rd := h.rd
  off := h.off
  bef := h.bef
theorem Door.caught {w W : World} {b : Nat} {a : Option Addr} {n c : Nat} {bs : List Int} (h : Door w W b a n c bs) (no : Int) (F : World) (hF : F = ((W.drew.setCell ⟨b, 0, none⟩ (.slice a n c)).setCell ⟨b, 1, none⟩ (.int .i64 no)).setCell ⟨w.heap.size + 1, 0, none⟩ (.int .i64 no)) :
    w.grownBy F (some b) ∧ Rdr F b bs no ∧ F.cell? ⟨w.heap.size + 1, 0, none⟩ = some (.int .i64 no) := by
  have hlt := h.lt
  have hg : w.grownBy F (some b) := by rw [hF]; exact grown_new (grown_trans1 (grown_trans1 (grown_drew h.g) (grown_set _ _ _ _)) (grown_set _ _ _ _)) (by omega) _ _
  refine ⟨hg, ⟨.slice a n c, ?_, h.rd.grown hg h.off, h.bef⟩, ?_⟩
  · obtain ⟨r, e, v, hB, _⟩ := h.st
    have := (((hB.drew).set 0 (.slice a n c)).set 1 (.int .i64 no)).other ⟨w.heap.size + 1, 0, none⟩ (.int .i64 no) (by simp; omega)
    rw [hF]; simpa using this
  · have := (((h.pe.drew).other ⟨b, 0, none⟩ (.slice a n c) (by simp; omega)).other ⟨b, 1, none⟩ (.int .i64 no) (by simp; omega)).set 0 (.int .i64 no)
    rw [hF]; exact this.cell 0 (by simp)
/-- All went well: the error's variable is laid once more. -/
theorem Door.ok {w W : World} {b : Nat} {a : Option Addr} {n c : Nat} {bs r : List Int} {e : Int} (h : Door w W b a n c bs) (hr : Rdr W b r e) (F : World) (hF : F = (W.setCell ⟨w.heap.size + 1, 0, none⟩ (.int .i64 0)).drew) :
    w.grownBy F (some b) ∧ Rdr F b r e ∧ F.cell? ⟨w.heap.size + 1, 0, none⟩ = some (.int .i64 0) := by
  have hlt := h.lt
  have hs := grown_drew (grown_set W (w.heap.size + 1) 0 (.int .i64 0))
  rw [hF]
  refine ⟨grown_drew (grown_new h.g (by omega) _ _), ?_, ?_⟩
  · obtain ⟨v, hB, hR, hBf⟩ := hr
    refine ⟨v, (hB.other _ _ (by simp; omega)).drew, hR.grown hs (Rd.off hR h.pe fun x hx hm => ?_), hBf⟩
    obtain ⟨y, _, rfl⟩ := List.mem_map.1 hm
    simp at hx
  · exact ((h.pe.set 0 (.int .i64 0)).drew).cell 0 (by simp)

set_option maxHeartbeats 1000000 in
theorem num_door (b : Nat) (a : Option Addr) (n c : Nat) (bs : List Int) (_e no : Int) (w W : World) (tmps : Array Value) (X : Except Int (Int × List Int)) (V : Int → Value → World → Prop) (hX : X = .error no) (hd : Door w W b a n c bs)
    (hz : tmps[2]? = some (.int .u64 0)) (he : tmps[3]? = some (ptr (w.heap.size + 1))) :
    bodyPostD Try.prog Try.f89 (Outer b bs V (.int .u64 0) X w) (.panic [{ v := errv no, recovered := false }]) { tmps := tmps, defers := [{ target := .fn (.func 92) #[ptr w.heap.size, ptr (w.heap.size + 2), ptr (w.heap.size + 1)], args := #[] }] } W := by
  subst hX
  refine leaves_cons (f := 92) (args := #[ptr w.heap.size, ptr (w.heap.size + 2), ptr (w.heap.size + 1)]) (by simp) (by simp [go_sem]) ?_
  have hlt := hd.lt
  obtain ⟨r, e', v', hB', hR'⟩ := hd.st
  refine (catch_Num b _ _ _ a n c no [] W (hd.pr.cell 0 rfl) (hd.pw.cell 0 rfl) (by omega) (hB'.free 0) (hB'.free 1) (hd.pe.free 0) ⟨_, hB'.cell 0 rfl⟩ ⟨_, hB'.cell 1 rfl⟩ ⟨_, hd.pe.cell 0 rfl⟩).mono ?_
  rintro en u w2 ⟨rfl, rfl, hF⟩
  obtain ⟨h1, h2, h3⟩ := hd.caught no w2 hF
  clear hF
  simp [Leaves, settle, results, Try.results89, go_sem, hz, he, h3]
  exact ⟨h1, rfl, h2⟩
set_option maxHeartbeats 1000000 in
theorem num_m (b : Nat) (bs : List Int) (e : Int) (w : World) (hb8 : B8 bs) (h : Rdr w b bs e) :
    Calls Try.prog 89 #[ptr b] w (Outer b bs (fun n v _ => v = .int .u64 n) (.int .u64 0) (stuck? e (rdNum bs)) w) := by
  have hmf : ∀ (fn : Fn) (first cap : Array Value) (w : World), (Instr.makeFunc fn first cap).run Try.prog w = .ok (.func fn first cap) w := fun _ _ _ _ => rfl
  obtain ⟨X, hX⟩ : ∃ X, X = stuck? e (rdNum bs) := ⟨_, rfl⟩
  rw [← hX]
  have hlt := rdr_lt h
  obtain ⟨v, hB, hR, hF⟩ := h
  obtain ⟨a, n, c, rfl⟩ := Rd.shape hR
  have c0 := hB.cell 0 rfl
  have e0 : ∀ o1 o2 : Obj, ((w.alloc o1).alloc o2).cell? ⟨b, 0, none⟩ = some (.slice a n c) := fun o1 o2 => ((Ext.alloc w o1).trans (Ext.alloc _ o2)).cell c0
  have hD := Door.mk' hB hR hF
  have h3 : Rdr (((w.alloc (.cells #[ptr b] 87)).alloc (.cells #[.int .i64 0] 27)).alloc (.cells #[.slice a n c] 32)) b bs e :=
    ⟨_, ((hB.alloc _).alloc _).alloc _, hR.ext (((Ext.alloc _ _).trans (Ext.alloc _ _)).trans (Ext.alloc _ _)), hF⟩
  have HD := Lib.hid hD; have H3 := Lib.hid h3
  clear hD h3 hB hR hF
  go_enter_defers Try.func89, Try.ntmps89
  go_wp2_with fail
  generalize ((w.alloc (.cells #[ptr b] 87)).alloc (.cells #[.int .i64 0] 27)).alloc (.cells #[.slice a n c] 32) = W at *
  refine (start_c b bs e W H3.out).mono ?_
  rintro en w1 ⟨rfl, hen⟩
  by_cases he : e = 0
  · subst he
    simp only [if_true] at hen
    subst hen
    have hc1 := HD.out.pr.cell 0 rfl
    clear c0 e0
    simp only [stuck?, if_true] at hX
    have HX := Lib.hid hX; clear hX
    go_wp2_with fail
    have hX := HX.out; clear HX
    refine (number_c b bs 0 w1 hb8 H3.out).mono ?_
    rintro en w2 ⟨hg2, h2⟩
    rw [← hX] at h2
    cases X with
    | error no =>
      obtain ⟨rfl, r, hr⟩ := h2
      exact num_door b a n c bs 0 no w w2 _ _ _ rfl (HD.out.go hg2 ⟨r, 0, hr⟩) rfl rfl
    | ok y =>
      obtain ⟨x, r⟩ := y
      obtain ⟨rfl, hr⟩ := h2
      have hD2 := HD.out.go hg2 ⟨r, 0, hr⟩
      have f1 := hD2.pe.free 0
      have c1 := hD2.pe.cell 0 rfl
      go_wp2
      refine leaves_cons (f := 92) (args := #[ptr w.heap.size, ptr (w.heap.size + 2), ptr (w.heap.size + 1)]) (by simp) (by simp [go_sem]) ?_
      refine (idle_Num b _ _ _ a n c _ ((hD2.pr.other ⟨w.heap.size + 1, 0, none⟩ (.int .i64 0) (by simp)).cell 0 rfl) ((hD2.pw.other ⟨w.heap.size + 1, 0, none⟩ (.int .i64 0) (by simp)).cell 0 rfl)).mono ?_
      rintro en u w3 ⟨rfl, rfl, hF⟩
      obtain ⟨h1, h2, h3⟩ := hD2.ok hr w3 hF
      clear hF
      simp [Leaves, settle, results, Try.results89, go_sem, h3]
      exact ⟨h1, _, rfl, rfl, h2⟩
  · simp only [if_neg he] at hen
    subst hen
    exact num_door b a n c bs e e w w1 _ _ _ (by rw [hX]; simp [stuck?, he]) HD.out rfl rfl

set_option maxHeartbeats 1000000 in
theorem byte_door (b : Nat) (a : Option Addr) (n c : Nat) (bs : List Int) (_e no : Int) (w W : World) (tmps : Array Value) (X : Except Int (Int × List Int)) (V : Int → Value → World → Prop) (hX : X = .error no) (hd : Door w W b a n c bs)
    (hz : tmps[2]? = some (.int .u8 0)) (he : tmps[3]? = some (ptr (w.heap.size + 1))) :
    bodyPostD Try.prog Try.f44 (Outer b bs V (.int .u8 0) X w) (.panic [{ v := errv no, recovered := false }]) { tmps := tmps, defers := [{ target := .fn (.func 51) #[ptr w.heap.size, ptr (w.heap.size + 2), ptr (w.heap.size + 1)], args := #[] }] } W := by
  subst hX
  refine leaves_cons (f := 51) (args := #[ptr w.heap.size, ptr (w.heap.size + 2), ptr (w.heap.size + 1)]) (by simp) (by simp [go_sem]) ?_
  have hlt := hd.lt
  obtain ⟨r, e', v', hB', hR'⟩ := hd.st
  refine (catch_Byte b _ _ _ a n c no [] W (hd.pr.cell 0 rfl) (hd.pw.cell 0 rfl) (by omega) (hB'.free 0) (hB'.free 1) (hd.pe.free 0) ⟨_, hB'.cell 0 rfl⟩ ⟨_, hB'.cell 1 rfl⟩ ⟨_, hd.pe.cell 0 rfl⟩).mono ?_
  rintro en u w2 ⟨rfl, rfl, hF⟩
  obtain ⟨h1, h2, h3⟩ := hd.caught no w2 hF
  clear hF
  simp [Leaves, settle, results, Try.results44, go_sem, hz, he, h3]
  exact ⟨h1, rfl, h2⟩
set_option maxHeartbeats 1000000 in
theorem byte_m (b : Nat) (bs : List Int) (e : Int) (w : World) (h : Rdr w b bs e) :
    Calls Try.prog 44 #[ptr b] w (Outer b bs (fun n v _ => v = .int .u8 n) (.int .u8 0) (stuck? e (rdByte bs)) w) := by
  have hmf : ∀ (fn : Fn) (first cap : Array Value) (w : World), (Instr.makeFunc fn first cap).run Try.prog w = .ok (.func fn first cap) w := fun _ _ _ _ => rfl
  obtain ⟨X, hX⟩ : ∃ X, X = stuck? e (rdByte bs) := ⟨_, rfl⟩
  rw [← hX]
  have hlt := rdr_lt h
  obtain ⟨v, hB, hR, hF⟩ := h
  obtain ⟨a, n, c, rfl⟩ := Rd.shape hR
  have c0 := hB.cell 0 rfl
  have e0 : ∀ o1 o2 : Obj, ((w.alloc o1).alloc o2).cell? ⟨b, 0, none⟩ = some (.slice a n c) := fun o1 o2 => ((Ext.alloc w o1).trans (Ext.alloc _ o2)).cell c0
  have hD := Door.mk' hB hR hF
  have h3 : Rdr (((w.alloc (.cells #[ptr b] 87)).alloc (.cells #[.int .i64 0] 27)).alloc (.cells #[.slice a n c] 32)) b bs e :=
    ⟨_, ((hB.alloc _).alloc _).alloc _, hR.ext (((Ext.alloc _ _).trans (Ext.alloc _ _)).trans (Ext.alloc _ _)), hF⟩
  have HD := Lib.hid hD; have H3 := Lib.hid h3
  clear hD h3 hB hR hF
  go_enter_defers Try.func44, Try.ntmps44
  go_wp2_with fail
  generalize ((w.alloc (.cells #[ptr b] 87)).alloc (.cells #[.int .i64 0] 27)).alloc (.cells #[.slice a n c] 32) = W at *
  refine (start_c b bs e W H3.out).mono ?_
  rintro en w1 ⟨rfl, hen⟩
  by_cases he : e = 0
  · subst he
    simp only [if_true] at hen
    subst hen
    have hc1 := HD.out.pr.cell 0 rfl
    clear c0 e0
    simp only [stuck?, if_true] at hX
    have HX := Lib.hid hX; clear hX
    go_wp2_with fail
    have hX := HX.out; clear HX
    refine (one_c b bs 0 w1 H3.out).mono ?_
    rintro en w2 ⟨hg2, h2⟩
    rw [← hX] at h2
    cases X with
    | error no =>
      obtain ⟨rfl, r, hr⟩ := h2
      exact byte_door b a n c bs 0 no w w2 _ _ _ rfl (HD.out.go hg2 ⟨r, 0, hr⟩) rfl rfl
    | ok y =>
      obtain ⟨x, r⟩ := y
      obtain ⟨rfl, hr⟩ := h2
      have hD2 := HD.out.go hg2 ⟨r, 0, hr⟩
      have f1 := hD2.pe.free 0
      have c1 := hD2.pe.cell 0 rfl
      go_wp2
      refine leaves_cons (f := 51) (args := #[ptr w.heap.size, ptr (w.heap.size + 2), ptr (w.heap.size + 1)]) (by simp) (by simp [go_sem]) ?_
      refine (idle_Byte b _ _ _ a n c _ ((hD2.pr.other ⟨w.heap.size + 1, 0, none⟩ (.int .i64 0) (by simp)).cell 0 rfl) ((hD2.pw.other ⟨w.heap.size + 1, 0, none⟩ (.int .i64 0) (by simp)).cell 0 rfl)).mono ?_
      rintro en u w3 ⟨rfl, rfl, hF⟩
      obtain ⟨h1, h2, h3⟩ := hD2.ok hr w3 hF
      clear hF
      simp [Leaves, settle, results, Try.results44, go_sem, h3]
      exact ⟨h1, _, rfl, rfl, h2⟩
  · simp only [if_neg he] at hen
    subst hen
    exact byte_door b a n c bs e e w w1 _ _ _ (by rw [hX]; simp [stuck?, he]) HD.out rfl rfl

end Go.Proofs.Ytjodgbabfhcilaa

/- tabellionref01.Reader: Num. -/
namespace Go.Proofs.Ytjodgbabfhcilaa
open Go Go.RowKit

theorem mul_add (acc : Nat) (c : Int) (j : Nat) (hj : j < 8) (ha : acc < 256 ^ j) (h0 : 0 ≤ c) (h1 : c ≤ 255) : IntKind.u64.wrap (IntKind.u64.wrap ((acc : Int) * 256) + c) = ((acc * 256 + c.toNat : Nat) : Int) := by
  have h7 : 256 ^ j ≤ 256 ^ 7 := Nat.pow_le_pow_right (by decide) (by omega)
  have hb : acc < 72057594037927936 := by simpa using Nat.lt_of_lt_of_le ha h7
  rw [IntKind.wrap_u64, IntKind.wrap_u64]; omega

end Go.Proofs.Ytjodgbabfhcilaa

/- bin.Reader: End; New. -/
namespace Go.Proofs.Ytjodgbabfhcilaa
open Go Go.RowKit

def endE (e : Int) (bs : List Int) : Int := if e = 0 ∧ bs ≠ [] then 5 else e

set_option maxHeartbeats 1000000 in
theorem end_m (b : Nat) (bs : List Int) (e : Int) (w : World) (h : Rdr w b bs e) :
    Calls Try.prog 45 #[ptr b] w fun en w' => en = .returned (.int .i64 (endE e bs)) ∧ w.grownBy w' (some b) ∧ Rdr w' b bs (endE e bs) := by
  have H := Lib.hid h
  obtain ⟨v, hB, hR, hF⟩ := h
  obtain ⟨a, c, rfl, _, _, _⟩ := Rd.open hR
  have c0 := hB.cell 0 rfl
  have c1 := hB.cell 1 rfl
  have f1 := hB.free 1
  clear hB hR hF
  by_cases he : e = 0
  · subst he
    by_cases hb : bs = []
    · subst hb
      simp only [endE, ne_eq, not_true_eq_false, and_false, if_false]
      go_enter Try.func45, Try.ntmps45
      go_wp2
      all_goals go_ret
      all_goals exact ⟨rfl, grown_refl _ _, H.out⟩
    · have hl : 0 < bs.length := List.length_pos_iff.2 hb
      have H5 := Lib.hid (rdr_err H.out 5)
      simp only [endE, ne_eq, hb, not_false_eq_true, and_self, if_true]
      go_enter Try.func45, Try.ntmps45
      go_wp2
      all_goals go_ret
      all_goals exact ⟨rfl, grown_set _ _ _ _, H5.out⟩
  · simp only [endE, he, false_and, if_false]
    have hee : (e == 0) = false := by simpa using he
    go_enter Try.func45, Try.ntmps45
    go_wp2
    all_goals go_ret
    all_goals exact ⟨rfl, grown_refl _ _, H.out⟩

set_option maxHeartbeats 1000000 in
theorem new_m (v : Value) (bs : List Int) (w : World) (h : Rd w v (u8s bs)) (hl : bs.length ≤ 140737488355328) :
    Calls Try.prog 43 #[v] w fun en w' => ∃ b, en = .returned (ptr b) ∧ w.heap.size ≤ b ∧ Rdr w' b bs 0 ∧ Ext w w' := by
  go_enter Try.func43, Try.ntmps43
  go_wp2_with fail
  refine (clone8 v bs w h hl).mono ?_
  rintro en w1 ⟨v1, rfl, ho, hE⟩
  have HO := Lib.hid ho; have HE := Lib.hid hE
  obtain ⟨a1, n1, c1, rfl⟩ := Rd.shape (Rd.of_own ho)
  clear ho hE
  go_wp2
  go_ret
  have hE1 := Ext.alloc w1 (.cells #[.slice a1 n1 c1, .int .i64 0] 110)
  exact ⟨_, rfl, HE.out.size, ⟨_, Blk.new _ _ _, (Rd.of_own HO.out).ext hE1, fun a n c h => by cases h; exact (HO.out.lt _ rfl).2⟩, HE.out.trans hE1⟩
end Go.Proofs.Ytjodgbabfhcilaa

/- bin.Reader: Raw. -/
namespace Go.Proofs.Ytjodgbabfhcilaa
open Go Go.RowKit

set_option maxHeartbeats 1000000 in
theorem raw_door (b : Nat) (a : Option Addr) (n c : Nat) (bs : List Int) (e no : Int) (w W : World) (tmps : Array Value) (X : Except Int (List Int × List Int)) (V : List Int → Value → World → Prop) (hX : X = .error no) (hd : Door w W b a n c bs)
    (hz : tmps[4]? = some (.slice none 0 0)) (he : tmps[5]? = some (ptr (w.heap.size + 1))) :
    bodyPostD Try.prog Try.f90 (Outer b bs V (.slice none 0 0) X w) (.panic [{ v := errv no, recovered := false }]) { tmps := tmps, defers := [{ target := .fn (.func 94) #[ptr w.heap.size, ptr (w.heap.size + 2), ptr (w.heap.size + 1)], args := #[] }] } W := by
  subst hX
  refine leaves_cons (f := 94) (args := #[ptr w.heap.size, ptr (w.heap.size + 2), ptr (w.heap.size + 1)]) (by simp) (by simp [go_sem]) ?_
  have hlt := hd.lt
  obtain ⟨r, e', v', hB', hR'⟩ := hd.st
  refine (catch_Raw b _ _ _ a n c no [] W (hd.pr.cell 0 rfl) (hd.pw.cell 0 rfl) (by omega) (hB'.free 0) (hB'.free 1) (hd.pe.free 0) ⟨_, hB'.cell 0 rfl⟩ ⟨_, hB'.cell 1 rfl⟩ ⟨_, hd.pe.cell 0 rfl⟩).mono ?_
  rintro en u w2 ⟨rfl, rfl, hF⟩
  obtain ⟨h1, h2, h3⟩ := hd.caught no w2 hF
  clear hF
  simp [Leaves, settle, results, Try.results90, go_sem, hz, he, h3]
  exact ⟨h1, rfl, h2⟩

/-- A slice of bytes in memory that w had not. -/
def NewRd (w : World) (xs : List Int) (v : Value) (w' : World) : Prop := Rd w' v (u8s xs) ∧ (∀ a n c, v = .slice (some a) n c → w.heap.size ≤ a.block) ∧ UnA w' v
theorem NewRd.grown {w w1 w2 : World} {xs : List Int} {v : Value} {b : Nat} (h : NewRd w xs v w1) (hb : b < w.heap.size) (hg : w1.grownBy w2 (some b)) : NewRd w xs v w2 :=
  ⟨h.1.grown hg fun a n c hv _ he => by have := h.2.1 a n c hv; cases he; omega, h.2.1, h.2.2.grown hg fun a n c hv _ he => by have := h.2.1 a n c hv; cases he; omega⟩
theorem NewRd.set {w w1 : World} {xs : List Int} {v : Value} {p : Nat} {ds : Array Value} {T : TypeId} (h : NewRd w xs v w1) (j : Nat) (u : Value) (hb : Blk w1 p ds T) (hd : ∀ x ∈ ds, ∀ y, x ≠ .int .u8 y) : NewRd w xs v (w1.setCell ⟨p, j, none⟩ u) :=
  ⟨h.1.grown (grown_set w1 p j u) (Rd.off h.1 hb fun x hx hm => by obtain ⟨y, _, rfl⟩ := List.mem_map.1 hm; exact hd _ hx y rfl), h.2.1, h.2.2.set p j u⟩
theorem rdNum_ok {bs r : List Int} {x : Int} (h : rdNum bs = .ok (x, r)) : 0 ≤ x ∧ r.length ≤ bs.length := by
  have hd : ∀ (k : Nat) (f : Bool) (n : Nat) (bs r : List Int) (m : Nat), rdDig k f n bs = .ok (m, r) → r.length ≤ bs.length := by
    intro k
    induction k with
    | zero => intro f n bs r m h; simp [rdDig] at h; rw [h.2]; exact Nat.le_refl _
    | succ k ih =>
      intro f n bs r m h
      cases bs with
      | nil => simp [rdDig] at h
      | cons c s =>
        simp only [rdDig] at h
        split at h
        · cases h
        · have := ih _ _ _ _ _ h; simp; omega
  cases bs with
  | nil => simp [rdNum] at h
  | cons k s =>
    simp only [rdNum] at h
    split at h
    · cases h
    · split at h
      · cases h
      · rename_i n r' heq
        cases h
        have := hd _ _ _ _ _ _ heq
        simp; omega

theorem Rd.take {w : World} {a : Option Addr} {n c : Nat} {r : List Int} (h : Rd w (.slice a n c) (u8s r)) {N : Nat} (hN : N ≤ r.length) : Rd w (.slice a N c) (u8s (r.take N)) := by
  obtain ⟨a', c', hv, h1, h2, h3⟩ := h
  cases hv
  rw [u8s_len] at h1
  refine ⟨a, c, by rw [u8s_len, List.length_take, Nat.min_eq_left hN], by rw [u8s_len, List.length_take]; omega, h2, ?_⟩
  rcases h3 with h3 | ⟨b, o, rfl, hc⟩
  · left
    have : r = [] := by simpa [u8s] using h3
    subst this; simp [u8s]
  · refine .inr ⟨b, o, rfl, fun j u hj => hc j u ?_⟩
    simp only [u8s, List.map_take] at hj ⊢
    rw [List.getElem?_take] at hj
    split at hj
    · exact hj
    · cases hj

theorem Rd.drop {w : World} {a : Option Addr} {c : Nat} {r : List Int} {n : Nat} (h : Rd w (.slice a n c) (u8s r)) {N : Nat} (hN : N ≤ r.length) : Rd w (.slice (if c = N then a else a.map (·.add N)) (r.length - N) (c - N)) (u8s (r.drop N)) := by
  obtain ⟨a', c', hv, h1, h2, h3⟩ := h
  cases hv
  rw [u8s_len] at h1
  refine ⟨_, _, by rw [u8s_len, List.length_drop], by rw [u8s_len, List.length_drop]; omega, by omega, ?_⟩
  by_cases hn : r.length ≤ N
  · left; rw [List.drop_eq_nil_of_le hn]; rfl
  · rcases h3 with h3 | ⟨b, o, rfl, hc⟩
    · have : r = [] := by simpa [u8s] using h3
      subst this; simp at hn
    · right
      rw [if_neg (by omega)]
      refine ⟨b, o + N, by simp [Addr.add], fun j u hj => ?_⟩
      have := hc (N + j) u (by simpa [u8s] using hj)
      rw [← Nat.add_assoc] at this
      exact this
theorem Off.drop {a : Option Addr} {c : Nat} {r : List Int} {n : Nat} {b : Option Nat} (h : Off (.slice a n c) (u8s r) b) {N : Nat} (hN : N ≤ r.length) : Off (.slice (if c = N then a else a.map (·.add N)) (r.length - N) (c - N)) (u8s (r.drop N)) b := by
  intro a' n' c' hv hne
  have hr : u8s r ≠ [] := by intro e; apply hne; simp [u8s] at e ⊢; rw [e]; simp
  cases a with
  | none => simp at hv
  | some a0 =>
    have h0 := h a0 n c rfl hr
    simp only [Value.slice.injEq] at hv
    have : a'.block = a0.block := by
      have := hv.1
      split at this
      · cases this; rfl
      · simp at this; rw [← this]; simp only [Addr.add]; split <;> rfl
    rw [this]; exact h0
theorem Bef.drop {a : Option Addr} {n c m q N : Nat} {b : Nat} (h : Bef (.slice a n c) b) : Bef (.slice (if c = N then a else a.map (·.add N)) m q) b := by
  intro a' n' c' hv
  cases a with
  | none => simp at hv
  | some a0 =>
    have h0 := h a0 n c rfl
    simp only [Value.slice.injEq] at hv
    have : a'.block = a0.block := by
      have := hv.1
      split at this
      · cases this; rfl
      · simp at this; rw [← this]; simp only [Addr.add]; split <;> rfl
    omega
theorem newRd_own {w w1 : World} {base : Nat} {v : Value} {xs : List Int} {n : Nat} (h : w1.ownsRow base 5 1 v n (u8s xs)) (hb : w.heap.size ≤ base) : NewRd w xs v w1 := by
  refine ⟨Rd.of_own h, fun a n c hv => ?_, UnA.own h⟩
  rcases h.2 with ⟨hn, _⟩ | ⟨g, cap, cur, hv', hg, _⟩
  · rw [hn] at hv; cases hv
  · rw [hv'] at hv; cases hv; simp; omega

set_option maxHeartbeats 2000000 in
theorem raw_m (b : Nat) (bs : List Int) (e most : Int) (w : World) (hb8 : B8 bs) (hl : bs.length ≤ 140737488355328) (hm : -9223372036854775808 ≤ most ∧ most ≤ 9223372036854775807) (h : Rdr w b bs e) :
    Calls Try.prog 90 #[ptr b, .int .i64 most] w (Outer b bs (NewRd w) (.slice none 0 0) (stuck? e (rdRaw most bs)) w) := by
  have hmf : ∀ (fn : Fn) (first cap : Array Value) (w : World), (Instr.makeFunc fn first cap).run Try.prog w = .ok (.func fn first cap) w := fun _ _ _ _ => rfl
  obtain ⟨X, hX⟩ : ∃ X, X = stuck? e (rdRaw most bs) := ⟨_, rfl⟩
  rw [← hX]
  have hlt := rdr_lt h
  obtain ⟨v, hB, hR, hF⟩ := h
  obtain ⟨a, n, c, rfl⟩ := Rd.shape hR
  have c0 := hB.cell 0 rfl
  have e0 : ∀ o1 o2 : Obj, ((w.alloc o1).alloc o2).cell? ⟨b, 0, none⟩ = some (.slice a n c) := fun o1 o2 => ((Ext.alloc w o1).trans (Ext.alloc _ o2)).cell c0
  have hD := Door.mk' hB hR hF
  have h3 : Rdr (((w.alloc (.cells #[ptr b] 87)).alloc (.cells #[.int .i64 0] 27)).alloc (.cells #[.slice a n c] 32)) b bs e :=
    ⟨_, ((hB.alloc _).alloc _).alloc _, hR.ext (((Ext.alloc _ _).trans (Ext.alloc _ _)).trans (Ext.alloc _ _)), hF⟩
  have HD := Lib.hid hD; have H3 := Lib.hid h3
  clear hD h3 hB hR hF
  go_enter_defers Try.func90, Try.ntmps90
  go_wp2_with fail
  generalize ((w.alloc (.cells #[ptr b] 87)).alloc (.cells #[.int .i64 0] 27)).alloc (.cells #[.slice a n c] 32) = W at *
  refine (start_c b bs e W H3.out).mono ?_
  rintro en w1 ⟨rfl, hen⟩
  by_cases he : e = 0
  · subst he
    simp only [if_true] at hen
    subst hen
    have hc1 := HD.out.pr.cell 0 rfl
    clear c0 e0
    simp only [stuck?, if_true] at hX
    have HX := Lib.hid hX; clear hX
    go_wp2_with fail
    have hX := HX.out; clear HX
    refine (number_c b bs 0 w1 hb8 H3.out).mono ?_
    rintro en w2 ⟨hg2, h2⟩
    obtain ⟨Y, hY⟩ : ∃ Y, Y = rdNum bs := ⟨_, rfl⟩
    rw [← hY] at h2
    unfold rdRaw at hX
    rw [← hY] at hX
    cases Y with
    | error no =>
      obtain ⟨rfl, r, hr⟩ := h2
      exact raw_door b a n c bs 0 no w w2 _ _ _ hX (HD.out.go hg2 ⟨r, 0, hr⟩) rfl rfl
    | ok y =>
      obtain ⟨x, r⟩ := y
      obtain ⟨rfl, hr⟩ := h2
      obtain ⟨hx0, hrl⟩ := rdNum_ok hY.symm
      obtain ⟨N, rfl⟩ := Int.eq_ofNat_of_zero_le hx0
      have hD2 := HD.out.go hg2 ⟨r, 0, hr⟩
      simp only [] at hX
      have HD2 := Lib.hid hD2; have HR := Lib.hid hr
      obtain ⟨v2, hB2, hR2, hF2⟩ := hr
      obtain ⟨a2, c2, rfl, hl2, hc2, hcs2⟩ := Rd.open hR2
      have p0 := hD2.pr.cell 0 rfl
      have q0 := hB2.cell 0 rfl
      have HR2 := Lib.hid hR2; have HB2 := Lib.hid hB2; have HF2 := Lib.hid hF2
      clear hD2 hR2 hB2 hF2 hcs2 hg2 hc1 hx0 hY
      by_cases h4 : max most 0 < (N : Int)
      · rw [if_pos h4] at hX
        have HX := Lib.hid hX; clear hX
        go_wp2
        exact raw_door b a n c bs 0 4 w w2 _ _ _ HX.out HD2.out rfl rfl
      · rw [if_neg h4] at hX
        by_cases h2 : (r.length : Int) < N
        · rw [if_pos h2] at hX
          have HX := Lib.hid hX; clear hX
          go_wp2
          exact raw_door b a n c bs 0 2 w w2 _ _ _ HX.out HD2.out rfl rfl
        · rw [if_neg h2] at hX
          have HX := Lib.hid hX; clear hX
          go_wp2_with fail
          have hN : N ≤ r.length := by omega
          refine (clone8 _ (r.take N) w2 (HR2.out.take hN) (by simp; omega)).mono ?_
          rintro en w3 ⟨v3, rfl, ho3, hE3⟩
          have hD3 := HD2.out.go (Ext.grownBy hE3 _) ⟨r, 0, _, HB2.out.ext hE3, HR2.out.ext hE3, HF2.out⟩
          have p0 := hD3.pr.cell 0 rfl
          have q0 := (HB2.out.ext hE3).cell 0 rfl
          have q1 := (HB2.out.ext hE3).free 0
          have HD3 := Lib.hid hD3; have HE3 := Lib.hid hE3; have HO3 := Lib.hid ho3
          clear hD3 hE3 ho3
          go_wp2
          have hR4 := (HR2.out.ext HE3.out).drop hN
          have hoff4 := (rdr_off (HR2.out.ext HE3.out) (HB2.out.ext HE3.out) ⟨_, _, _, rfl⟩).drop hN
          have h4 := rdr_put (HB2.out.ext HE3.out) hR4 hoff4 HF2.out.drop
          have hD4 := HD3.out.go (grown_set w3 b 0 _) ⟨_, _, h4⟩
          have hV4 := (newRd_own HO3.out (w := w) (by have := HD2.out.g.size; exact this)).grown hlt (grown_set w3 b 0 (.slice (if c2 = N then a2 else a2.map (·.add N)) (r.length - N) (c2 - N)))
          have H4 := Lib.hid h4; have HD4 := Lib.hid hD4; have HV4 := Lib.hid hV4
          clear hR4 hoff4 h4 hD4 hV4
          go_region
          clear p0 q0 q1
          generalize Value.slice (if c2 = N then a2 else a2.map (·.add N)) (r.length - N) (c2 - N) = v5 at *
          generalize w3.setCell ⟨b, 0, none⟩ v5 = W4 at *
          have f1 := HD4.out.pe.free 0
          have k1 := HD4.out.pe.cell 0 rfl
          go_wp2
          refine leaves_cons (f := 94) (args := #[ptr w.heap.size, ptr (w.heap.size + 2), ptr (w.heap.size + 1)]) (by simp) (by simp [go_sem]) ?_
          refine (idle_Raw b _ _ _ a n c _ (((HD4.out.pr.other ⟨w.heap.size + 1, 0, none⟩ (.int .i64 0) (by simp)).drew).cell 0 rfl) (((HD4.out.pw.other ⟨w.heap.size + 1, 0, none⟩ (.int .i64 0) (by simp)).drew).cell 0 rfl)).mono ?_
          rintro en u w5 ⟨rfl, rfl, hF⟩
          obtain ⟨h1, h2, h3⟩ := HD4.out.ok H4.out _ rfl
          have hV := HV4.out.set 0 (.int .i64 0) HD4.out.pe (fun x hx y => by simp at hx; subst hx; simp)
          have e3 : w5.cell? ⟨w.heap.size + 1, 0, none⟩ = some (.int .i64 0) := by rw [hF]; exact h3
          have g3 : w.grownBy w5 (some b) := by rw [hF]; exact grown_drew h1
          have r3 : Rdr w5 b (r.drop N) 0 := by rw [hF]; obtain ⟨v, hB, hR⟩ := h2; exact ⟨v, hB.drew, hR⟩
          have n3 : NewRd w (r.take N) v3 w5 := by rw [hF]; exact ⟨hV.1, hV.2.1, hV.2.2.drew⟩
          clear hF h1 h2 h3 hV
          have hX := HX.out
          simp only [Int.toNat_natCast] at hX
          rw [hX]
          simp [Leaves, settle, results, Try.results90, go_sem, e3]
          exact ⟨g3, _, rfl, n3, r3⟩
  · simp only [if_neg he] at hen
    subst hen
    exact raw_door b a n c bs e e w w1 _ _ _ (by simp [stuck?, he]) HD.out rfl rfl
end Go.Proofs.Ytjodgbabfhcilaa

/- cmd.Get: its state, its door. -/
namespace Go.Proofs.Ytjodgbabfhcilaa
open Go Go.RowKit

/-! ### What readings bring, plainly -/
theorem rdDig_err : ∀ (k : Nat) (f : Bool) (n : Nat) (bs : List Int) (e : Int), rdDig k f n bs = .error e → e ≠ 0
  | 0, _, _, _, _, h => by simp [rdDig] at h
  | k + 1, _, _, [], _, h => by simp [rdDig] at h; omega
  | k + 1, f, n, c :: r, e, h => by
    simp only [rdDig] at h
    split at h
    · cases h; decide
    · exact rdDig_err k _ _ _ _ h
theorem rdNum_err {bs : List Int} {e : Int} (h : rdNum bs = .error e) : e ≠ 0 := by
  cases bs with
  | nil => simp [rdNum] at h; omega
  | cons k r =>
    simp only [rdNum] at h
    split at h
    · cases h; decide
    · split at h
      · rename_i heq; cases h; exact rdDig_err _ _ _ _ _ heq
      · cases h
theorem rdByte_err {bs : List Int} {e : Int} (h : rdByte bs = .error e) : e ≠ 0 := by
  cases bs with
  | nil => simp [rdByte] at h; omega
  | cons k r => simp [rdByte] at h
theorem rdRaw_err {most : Int} {bs : List Int} {e : Int} (h : rdRaw most bs = .error e) : e ≠ 0 := by
  simp only [rdRaw] at h
  split at h
  · rename_i heq; cases h; exact rdNum_err heq
  · split at h
    · cases h; decide
    · split at h
      · cases h; decide
      · cases h
theorem rdNum_b8 {bs r : List Int} {n : Int} (hb : B8 bs) (h : rdNum bs = .ok (n, r)) : B8 r ∧ U64 n ∧ r.length ≤ bs.length := by
  obtain ⟨e, h0, h1⟩ := rdNum_inv bs r n hb h
  refine ⟨fun x hx => hb x (by rw [e]; simp [hx]), ⟨h0, by omega⟩, by rw [e]; simp⟩
theorem rdByte_b8 {bs r : List Int} {n : Int} (hb : B8 bs) (h : rdByte bs = .ok (n, r)) : B8 r ∧ (0 ≤ n ∧ n ≤ 255) ∧ r.length ≤ bs.length := by
  cases bs with
  | nil => simp [rdByte] at h
  | cons k s =>
    simp [rdByte] at h
    obtain ⟨rfl, rfl⟩ := h
    exact ⟨fun x hx => hb x (by simp [hx]), hb _ (by simp), by simp⟩
theorem rdRaw_b8 {most : Int} {bs r d : List Int} (hb : B8 bs) (h : rdRaw most bs = .ok (d, r)) : B8 r ∧ B8 d ∧ r.length ≤ bs.length ∧ (d.length : Int) ≤ max most 0 := by
  simp only [rdRaw] at h
  split at h
  · cases h
  · rename_i n s heq
    obtain ⟨h8, hu, hl⟩ := rdNum_b8 hb heq
    split at h
    · cases h
    · split at h
      · cases h
      · cases h
        refine ⟨fun x hx => h8 x (List.mem_of_mem_drop hx), fun x hx => h8 x (List.mem_of_mem_take hx), by simp; omega, by simp; omega⟩

/-! ### The state -/
structure GS (w W : World) (b : Nat) (cs : Array Value) (bs : List Int) : Prop where
  below : Below w.heap.size w W
  x : Blk W w.heap.size cs 67
  nu : ∀ c ∈ cs, ∀ y, c ≠ .int .u8 y
  e : Blk W (w.heap.size + 1) #[.int .i64 0] 27
  r : Rdr W b bs 0
  hb : w.heap.size + 2 ≤ b
  b8 : B8 bs
  hl : bs.length ≤ 140737488355328
/-- What the door asks. -/
structure GD (w W : World) (cs : Array Value) : Prop where
  below : Below w.heap.size w W
  x : Blk W w.heap.size cs 67
  e : Blk W (w.heap.size + 1) #[.int .i64 0] 27
section
variable {w W W' : World} {b : Nat} {cs : Array Value} {bs bs' : List Int}
theorem below_grown (h : Below w.heap.size w W) (hg : W.grownBy W' (some b)) (hb : w.heap.size ≤ b) : Below w.heap.size w W' :=
  h.grown hg h.size fun k hk => by cases hk; exact hb
theorem GS.door (h : GS w W b cs bs) (hg : W.grownBy W' (some b)) : GD w W' cs :=
  ⟨below_grown h.below hg (by have := h.hb; omega), h.x.grown hg (by have := h.hb; intro e; cases e; omega), h.e.grown hg (by have := h.hb; intro e; cases e; omega)⟩
theorem GS.here (h : GS w W b cs bs) : GD w W cs := ⟨h.below, h.x, h.e⟩
theorem GS.read (h : GS w W b cs bs) (hg : W.grownBy W' (some b)) (hr : Rdr W' b bs' 0) (h8 : B8 bs') (hl : bs'.length ≤ bs.length) : GS w W' b cs bs' :=
  ⟨(h.door hg).below, (h.door hg).x, h.nu, (h.door hg).e, hr, h.hb, h8, Nat.le_trans hl h.hl⟩
theorem GS.drew (h : GS w W b cs bs) : GS w W.drew b cs bs :=
  ⟨h.below.drew, h.x.drew, h.nu, h.e.drew, by obtain ⟨v, hB, hR⟩ := h.r; exact ⟨v, hB.drew, hR⟩, h.hb, h.b8, h.hl⟩
theorem GS.size2 (h : GS w W b cs bs) : w.heap.size + 2 ≤ W.heap.size := by have := h.e.lt; omega
theorem Rdr.lt {W : World} {b : Nat} {bs : List Int} {e : Int} (h : Rdr W b bs e) : b < W.heap.size := rdr_lt h
theorem GS.own (h : GS w W b cs bs) {row : Option Nat} {B : Nat} (hg : W.grownBy W' row) (hrow : ∀ k, row = some k → B ≤ k) (hB : b < B) : GS w W' b cs bs where
  below := h.below.grown hg h.below.size fun k hk => by have := hrow k hk; have := h.hb; omega
  x := h.x.grown hg (by intro e; have := hrow _ e.symm; have := h.hb; omega)
  nu := h.nu
  e := h.e.grown hg (by intro e; have := hrow _ e.symm; have := h.hb; omega)
  r := by
    obtain ⟨v0, hb, hR, hF⟩ := h.r
    exact ⟨v0, hb.grown hg (by intro e; have := hrow _ e.symm; omega), hR.grown hg fun a n c hv _ e => (by have := hrow _ e.symm; have := hF a n c hv; omega), hF⟩
  hb := h.hb
  b8 := h.b8
  hl := h.hl
theorem GS.set (h : GS w W b cs bs) (j : Nat) (v : Value) (hv : ∀ y, v ≠ .int .u8 y) : GS w (W.setCell ⟨w.heap.size, j, none⟩ v) b (cs.setIfInBounds j v) bs where
  below := h.below.setCell (Nat.le_refl _) v
  x := h.x.set j v
  nu c hc y := by
    rcases Array.mem_or_eq_of_mem_setIfInBounds hc with h1 | h1
    · exact h.nu c h1 y
    · rw [h1]; exact hv y
  e := h.e.other _ _ (by simp)
  r := by
    obtain ⟨v0, hB, hR, hF⟩ := h.r
    have := h.hb
    exact ⟨v0, hB.other _ _ (by simp; omega), hR.grown (grown_set W _ j v) (Rd.off hR h.x fun x hx hm => by obtain ⟨y, _, rfl⟩ := List.mem_map.1 hm; exact h.nu _ hx y rfl), hF⟩
  hb := h.hb
  b8 := h.b8
  hl := h.hl
end

/-! ### The deferred closure -/
set_option maxHeartbeats 400000 in
theorem get_idle (p q : Nat) (w : World) : CallsD Try.prog 95 #[ptr p, ptr q] .returning w fun en u w' => en = .returned (.tuple #[]) ∧ u = .returning ∧ w' = w := by
  refine callsD_of_wpS Try.func95 rfl fun c₀ cs hu => ?_
  have ha := isErr_nil
  apply wpS_seq
  apply wpS_region
  simp [wpOpsS, go_sem, recoverD, hu, ha, Try.ntmps95, Exit.thenS]
  refine wpS_of_wp ?_
  simp [Array.replicate]
  go_wp2
  exact ⟨rfl, .returning, by cases c₀; simp_all, _, results_none rfl _ _ _, rfl, rfl, rfl⟩

set_option maxHeartbeats 400000 in
theorem get_catch (p q : Nat) (c0 c1 c2 c3 c4 c5 e0 : Value) (no : Int) (older : List PanicEntry) (w : World) (hx : Blk w p #[c0, c1, c2, c3, c4, c5] 67) (he : Blk w q #[e0] 27) (hpq : p ≠ q) :
    CallsD Try.prog 95 #[ptr p, ptr q] (.panicking ({ v := errv no, recovered := false } :: older)) w fun en u w' => en = .returned (.tuple #[]) ∧ u = .panicking ({ v := errv no, recovered := true } :: older) ∧ (∀ B, B ≤ p → B ≤ q → Below B w w') ∧ Blk w' p #[.int .u64 0, .int .i64 0, .int .u64 0, .int .u64 0, .slice none 0 0, .slice none 0 0] 67 ∧ Blk w' q #[.int .i64 no] 27 := by
  refine callsD_of_wpS Try.func95 rfl fun c₀ cs hu => ?_
  have ha := isErr_some
  obtain ⟨x0, x1, x2, x3, x4, x5⟩ := hx.six
  obtain ⟨f0, f1, f2, f3, f4, f5⟩ := hx.six_free
  have y0 := he.cell 0 rfl
  have g0 := he.free 0
  apply wpS_seq
  apply wpS_region
  simp [wpOpsS, go_sem, recoverD, hu, ha, Try.ntmps95, Exit.thenS]
  refine wpS_of_wp ?_
  simp [Array.replicate]
  go_wp2
  have hx' := ((((((hx.set 0 (.int .u64 0)).set 1 (.int .i64 0)).set 2 (.int .u64 0)).set 3 (.int .u64 0)).set 4 (.slice none 0 0)).set 5 (.slice none 0 0)).other ⟨q, 0, none⟩ (.int .i64 no) (Ne.symm hpq)
  have he' := ((((((he.other ⟨p, 0, none⟩ (.int .u64 0) hpq).other ⟨p, 1, none⟩ (.int .i64 0) hpq).other ⟨p, 2, none⟩ (.int .u64 0) hpq).other ⟨p, 3, none⟩ (.int .u64 0) hpq).other ⟨p, 4, none⟩ (.slice none 0 0) hpq).other ⟨p, 5, none⟩ (.slice none 0 0) hpq).set 0 (.int .i64 no)
  refine ⟨rfl, _, rfl, _, results_none rfl _ _ _, rfl, rfl, fun B hp hq => ?_, by simpa using hx', by simpa using he'⟩
  exact (((((((Below.refl B w).setCell hp _).setCell hp _).setCell hp _).setCell hp _).setCell hp _).setCell hp _).setCell hq _

/-- Lists of an entry that lie in blocks which w lacks. -/
def EntNew (w : World) (v : Value) : Prop :=
  ∃ c0 c1 c2 c3 dv mv, v = .agg #[c0, c1, c2, c3, dv, mv] ∧ (∀ a n c, dv = .slice (some a) n c → w.heap.size ≤ a.block) ∧ ∀ a n c, mv = .slice (some a) n c → w.heap.size ≤ a.block
theorem EntNew.nil (w : World) (c0 c1 c2 c3 : Value) : EntNew w (.agg #[c0, c1, c2, c3, .slice none 0 0, .slice none 0 0]) :=
  ⟨_, _, _, _, _, _, rfl, (fun _ _ _ h => by cases h), (fun _ _ _ h => by cases h)⟩
/-- Lists of an entry that may be written. -/
def EntU (w : World) (v : Value) : Prop := ∃ c0 c1 c2 c3 dv mv, v = .agg #[c0, c1, c2, c3, dv, mv] ∧ UnA w dv ∧ UnA w mv
theorem EntU.nil (w : World) (c0 c1 c2 c3 : Value) : EntU w (.agg #[c0, c1, c2, c3, .slice none 0 0, .slice none 0 0]) := ⟨_, _, _, _, _, _, rfl, UnA.nil _, UnA.nil _⟩
/-- How cmd.Get ends. -/
def GetOut (X : Except Int Ent) (w : World) (en : Ending) (w' : World) : Prop :=
  Ext w w' ∧ ∃ v e x, en = .returned (.tuple #[v, .int .i64 e]) ∧ (EntV w' v x ∧ EntNew w v ∧ EntU w' v) ∧ match X with
  | .error no => e = no ∧ x = ⟨0, 0, 0, 0, [], []⟩
  | .ok y => e = 0 ∧ x = y

set_option maxHeartbeats 400000 in
theorem get_door (c0 c1 c2 c3 c4 c5 : Value) (no : Int) (w W : World) (tmps : Array Value) (X : Except Int Ent) (hX : X = .error no) (hd : GD w W #[c0, c1, c2, c3, c4, c5])
    (hz : tmps[2]? = some (ptr w.heap.size)) (he : tmps[3]? = some (ptr (w.heap.size + 1))) :
    bodyPostD Try.prog Try.f91 (GetOut X w) (.panic [{ v := errv no, recovered := false }]) { tmps := tmps, defers := [{ target := .fn (.func 95) #[ptr w.heap.size, ptr (w.heap.size + 1)], args := #[] }] } W := by
  subst hX
  refine leaves_cons (f := 95) (args := #[ptr w.heap.size, ptr (w.heap.size + 1)]) (by simp) (by simp [go_sem]) ?_
  refine (get_catch _ _ c0 c1 c2 c3 c4 c5 _ no [] W hd.x hd.e (by omega)).mono ?_
  rintro en u w2 ⟨rfl, rfl, hB, h1, h2⟩
  obtain ⟨x0, x1, x2, x3, x4, x5⟩ := h1.six
  have y0 := h2.cell 0 rfl
  have hE : Ext w w2 := Below.trans hd.below ((hB w.heap.size (Nat.le_refl _) (by omega)))
  simp [Leaves, settle, results, Try.results91, go_sem, hz, he, x0, x1, x2, x3, x4, x5, y0]
  exact ⟨hE, _, no, ⟨0, 0, 0, 0, [], []⟩, rfl, ⟨⟨_, _, rfl, Rd.nil _, Rd.nil _⟩, EntNew.nil _ _ _ _ _, EntU.nil _ _ _ _ _⟩, rfl, rfl⟩

theorem below_set {B : Nat} {w W : World} (h : Below B w W) (p j : Nat) (v : Value) (hp : B ≤ p) : Below B w (W.setCell ⟨p, j, none⟩ v) := h.setCell hp v
/-- A slice that lies behind the call's own two variables. -/
def NewV (w W : World) (v : Value) (cs : List Value) : Prop := Rd W v cs ∧ (∀ a n c, v = .slice (some a) n c → w.heap.size + 2 ≤ a.block) ∧ UnA W v
theorem NewV.nil (w W : World) : NewV w W (.slice none 0 0) [] := ⟨Rd.nil W, (fun _ _ _ h => by cases h), UnA.nil W⟩
theorem NewV.set {w W : World} {v : Value} {cs : List Value} (h : NewV w W v cs) {p : Nat} (hp : p < w.heap.size + 2) (j : Nat) (u : Value) : NewV w (W.setCell ⟨p, j, none⟩ u) v cs :=
  ⟨h.1.grown (grown_set W p j u) fun a n c hv _ he => by have := h.2.1 a n c hv; cases he; omega, h.2.1, h.2.2.set p j u⟩
theorem NewV.drew {w W : World} {v : Value} {cs : List Value} (h : NewV w W v cs) : NewV w W.drew v cs := ⟨h.1, h.2.1, h.2.2.drew⟩
theorem NewV.grown {w W W' : World} {v : Value} {cs : List Value} (h : NewV w W v cs) {b : Nat} (hb : ∀ a n c, v = .slice (some a) n c → b ≠ a.block) (hg : W.grownBy W' (some b)) : NewV w W' v cs :=
  ⟨h.1.grown hg fun a n c hv _ he => by cases he; exact hb a n c hv rfl, h.2.1, h.2.2.grown hg fun a n c hv _ he => by cases he; exact hb a n c hv rfl⟩

set_option maxHeartbeats 1000000 in
theorem get_fin (t k cl sq : Int) (dv mv : Value) (d ms : List Int) (w W : World) (tmps : Array Value) (X : Except Int Ent) (hX : X = .ok ⟨t, k, cl, sq, d, ms⟩)
    (hd : GD w W #[.int .u64 t, .int .i64 k, .int .u64 cl, .int .u64 sq, dv, mv]) (h4 : NewV w W dv (u8s d)) (h5 : NewV w W mv (u64s ms))
    (hz : tmps[2]? = some (ptr w.heap.size)) (he : tmps[3]? = some (ptr (w.heap.size + 1))) :
    bodyPostD Try.prog Try.f91 (GetOut X w) .ret { tmps := tmps, defers := [{ target := .fn (.func 95) #[ptr w.heap.size, ptr (w.heap.size + 1)], args := #[] }] }
      (((((((W.setCell ⟨w.heap.size, 0, none⟩ (.int .u64 t)).setCell ⟨w.heap.size, 1, none⟩ (.int .i64 k)).setCell ⟨w.heap.size, 2, none⟩ (.int .u64 cl)).setCell ⟨w.heap.size, 3, none⟩ (.int .u64 sq)).setCell ⟨w.heap.size, 4, none⟩ dv).setCell ⟨w.heap.size, 5, none⟩ mv).setCell ⟨w.heap.size + 1, 0, none⟩ (.int .i64 0)) := by
  subst hX
  have hx' := ((((((hd.x.set 0 (.int .u64 t)).set 1 (.int .i64 k)).set 2 (.int .u64 cl)).set 3 (.int .u64 sq)).set 4 dv).set 5 mv).other ⟨w.heap.size + 1, 0, none⟩ (.int .i64 0) (by simp)
  have he' := ((((((hd.e.other ⟨w.heap.size, 0, none⟩ (.int .u64 t) (by simp)).other ⟨w.heap.size, 1, none⟩ (.int .i64 k) (by simp)).other ⟨w.heap.size, 2, none⟩ (.int .u64 cl) (by simp)).other ⟨w.heap.size, 3, none⟩ (.int .u64 sq) (by simp)).other ⟨w.heap.size, 4, none⟩ dv (by simp)).other ⟨w.heap.size, 5, none⟩ mv (by simp)).set 0 (.int .i64 0)
  have hB := below_set (below_set (below_set (below_set (below_set (below_set (below_set hd.below w.heap.size 0 (.int .u64 t) (Nat.le_refl _)) w.heap.size 1 (.int .i64 k) (Nat.le_refl _)) w.heap.size 2 (.int .u64 cl) (Nat.le_refl _)) w.heap.size 3 (.int .u64 sq) (Nat.le_refl _)) w.heap.size 4 dv (Nat.le_refl _)) w.heap.size 5 mv (Nat.le_refl _)) (w.heap.size + 1) 0 (.int .i64 0) (Nat.le_succ _)
  have n4 := ((((((h4.set (p := w.heap.size) (by omega) 0 (.int .u64 t)).set (p := w.heap.size) (by omega) 1 (.int .i64 k)).set (p := w.heap.size) (by omega) 2 (.int .u64 cl)).set (p := w.heap.size) (by omega) 3 (.int .u64 sq)).set (p := w.heap.size) (by omega) 4 dv).set (p := w.heap.size) (by omega) 5 mv).set (p := w.heap.size + 1) (by omega) 0 (.int .i64 0)
  have n5 := ((((((h5.set (p := w.heap.size) (by omega) 0 (.int .u64 t)).set (p := w.heap.size) (by omega) 1 (.int .i64 k)).set (p := w.heap.size) (by omega) 2 (.int .u64 cl)).set (p := w.heap.size) (by omega) 3 (.int .u64 sq)).set (p := w.heap.size) (by omega) 4 dv).set (p := w.heap.size) (by omega) 5 mv).set (p := w.heap.size + 1) (by omega) 0 (.int .i64 0)
  generalize (((((((W.setCell ⟨w.heap.size, 0, none⟩ (.int .u64 t)).setCell ⟨w.heap.size, 1, none⟩ (.int .i64 k)).setCell ⟨w.heap.size, 2, none⟩ (.int .u64 cl)).setCell ⟨w.heap.size, 3, none⟩ (.int .u64 sq)).setCell ⟨w.heap.size, 4, none⟩ dv).setCell ⟨w.heap.size, 5, none⟩ mv).setCell ⟨w.heap.size + 1, 0, none⟩ (.int .i64 0)) = F at *
  simp only [List.setIfInBounds_toArray, List.set_cons_succ, List.set_cons_zero] at hx' he'
  obtain ⟨x0, x1, x2, x3, x4, x5⟩ := hx'.six
  have y0 := he'.cell 0 rfl
  obtain ⟨a4, m4, q4, rfl⟩ := Rd.shape h4.1
  obtain ⟨a5, m5, q5, rfl⟩ := Rd.shape h5.1
  refine leaves_cons (f := 95) (args := #[ptr w.heap.size, ptr (w.heap.size + 1)]) (by simp) (by simp [go_sem]) ?_
  refine (get_idle _ _ F).mono ?_
  rintro en u w2 ⟨rfl, rfl, rfl⟩
  simp [Leaves, settle, results, Try.results91, go_sem, hz, he, x0, x1, x2, x3, x4, x5, y0]
  exact ⟨hB, _, 0, _, rfl, ⟨⟨_, _, rfl, n4.1, n5.1⟩, ⟨_, _, _, _, _, _, rfl, (fun a n c h => Nat.le_trans (by omega) (n4.2.1 a n c h)), fun a n c h => Nat.le_trans (by omega) (n5.2.1 a n c h)⟩, _, _, _, _, _, _, rfl, n4.2.2, n5.2.2⟩, rfl, rfl⟩

theorem own_grown {w w' : World} {base : Nat} {e : TypeId} {size : Nat} {v : Value} {n : Nat} {xs : List Value} {b : Nat} (h : w.ownsRow base e size v n xs) (hg : w.grownBy w' (some b)) (hb : b < base) : w'.ownsRow base e size v n xs := by
  obtain ⟨h1, h2⟩ := h
  refine ⟨h1, ?_⟩
  rcases h2 with h2 | ⟨g, cap, cur, hv, hg', hh, r⟩
  · exact .inl h2
  · exact .inr ⟨g, cap, cur, hv, hg', (hg.block g (Array.getElem?_eq_some_iff.1 hh).1 (by intro e; cases e; omega)).trans hh, r⟩
theorem newV_own {w w1 : World} {base : Nat} {e : TypeId} {v : Value} {xs : List Value} {n : Nat} (h : w1.ownsRow base e 1 v n xs) (hb : w.heap.size + 2 ≤ base) : NewV w w1 v xs ∧ ∀ a n c, v = .slice (some a) n c → base ≤ a.block := by
  have hk : ∀ a n c, v = .slice (some a) n c → base ≤ a.block := fun a n c hv => by
    rcases h.2 with ⟨hn, _⟩ | ⟨g, cap, cur, hv', hg, _⟩
    · rw [hn] at hv; cases hv
    · rw [hv'] at hv; cases hv; exact hg
  exact ⟨⟨Rd.of_own h, (fun a n c hv => Nat.le_trans hb (hk a n c hv)), UnA.own h⟩, hk⟩
theorem rdIds_step {N j M : Nat} {acc r r' : List Int} {m : Int} (hM : N - j = M + 1) (hm : rdNum r = .ok (m, r')) : rdIds (N - j) acc r = if membersB (acc ++ [m]) then rdIds (N - (j + 1)) (acc ++ [m]) r' else .error 3 := by
  rw [hM, show N - (j + 1) = M by omega]; simp [rdIds, hm]
theorem u64s_one'' (x : Int) : u64s [x] = [.int .u64 x] := rfl
end Go.Proofs.Ytjodgbabfhcilaa
