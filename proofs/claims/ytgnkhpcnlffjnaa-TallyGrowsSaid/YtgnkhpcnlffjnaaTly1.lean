/- Tally: the walks of the laws TallyAgrees, TallyAdvances, TallyMajority. -/
import Derived.Test.YtgnkhpcnlffjnaaTlyV
namespace Go.Proofs.Ytgnkhpcnlffjnaa
open Go Go.RowKit

theorem agr_u64 {ms : List Int} {ps : List PeerC} {r : Int} (h : Agr ms ps r) (hp : ∀ p ∈ ps, U64 p.mtch) : U64 r := by
  have h0 : ∀ p ∈ ps, 0 ≤ p.mtch := fun p hm => (hp p hm).1
  rw [← agr_best h h0]
  rcases (bestB_spec ms ps ps 0).2.2 with he | ⟨p, hm, he, _⟩
  · rw [he]; exact ⟨by omega, by omega⟩
  · rw [he]; exact hp p hm

set_option maxHeartbeats 2000000 in
theorem agrees_law (v1 v2 : Value) (ms : List Int) (ps : List PeerC) (w : World) (h1 : Rd w v1 (u64s ms)) (h2 : PeersV w v2 ps) (hp : ∀ p ∈ ps, U64 p.mtch) :
    Calls Try.prog 3 #[v1, v2] w (RetW (.bool true) w) := by
  obtain ⟨a1, n1, c1, rfl⟩ := Rd.shape h1
  obtain ⟨a2, c2, rfl, hl2, hm2⟩ := h2.shape
  have H1 := Lib.hid h1; have H2 := Lib.hid h2; have HP := Lib.hid hp
  clear h1 h2 hp
  go_enter Try.func3, Try.ntmps3
  go_wp2_with fail
  refine (awake23 w).mono ?_
  rintro e w1 ⟨rfl, hE1⟩
  have HE1 := Lib.hid hE1
  clear hE1
  go_wp2_with fail
  refine (few_c _ _ ms ps w1 (H1.out.ext HE1.out) (H2.out.ext HE1.out)).mono ?_
  rintro e w2 ⟨rfl, rfl⟩
  obtain ⟨f, hf⟩ : ∃ f, f = decide (ms.length ≤ 100 ∧ ps.length ≤ 100) := ⟨_, rfl⟩
  rw [← hf]
  have HF := Lib.hid hf
  clear hf
  cases f with
  | false =>
    go_wp2_with fail
    refine (awake23 w1).mono ?_
    rintro e w3 ⟨rfl, hE3⟩
    have HE3 := Lib.hid (HE1.out.trans hE3)
    clear hE3
    go_wp2_with fail
    go_ret
    exact ⟨rfl, HE3.out⟩
  | true =>
    have hfew := of_decide_eq_true HF.out.symm
    have HFEW := Lib.hid hfew
    clear hfew
    go_wp2_with fail
    refine (agreed_c _ _ ms ps w1 (H1.out.ext HE1.out) (H2.out.ext HE1.out) (by have := HFEW.out; omega) (fun p hm => (HP.out p hm).1)).mono ?_
    rintro e w3 ⟨r, rfl, hr, hE3⟩
    have HR := Lib.hid (agr_best hr (fun p hm => (HP.out p hm).1))
    have HE3 := Lib.hid (HE1.out.trans hE3)
    clear hr hE3
    go_wp2_with fail
    refine (ragreed_c _ _ ms ps w3 (H1.out.ext HE3.out) (H2.out.ext HE3.out)).mono ?_
    rintro e w4 ⟨rfl, rfl⟩
    rw [HR.out]
    go_wp2_with fail
    go_ret
    exact ⟨ret_eq (congrArg Value.bool (by simp)), HE3.out⟩

set_option maxHeartbeats 2000000 in
theorem advances_law (v : Value) (base bt : Int) (ts : List Int) (term commit agreed : Int) (w : World) (h : LogV w v base bt ts) (hb : U64 base) (hi : U64 agreed) (hl : ts.length ≤ 140737488355328) :
    Calls Try.prog 4 #[v, .int .u64 term, .int .u64 commit, .int .u64 agreed] w (RetW (.bool true) w) := by
  have H := Lib.hid h; have HB := Lib.hid hb; have HI := Lib.hid hi
  obtain ⟨a, c, rfl, h1, h2, _⟩ := h
  have hE0 := Ext.alloc w (.cells #[.int .u64 base, .int .u64 bt, .slice a ts.length c] 30)
  have hB0 : Blk (w.alloc (.cells #[.int .u64 base, .int .u64 bt, .slice a ts.length c] 30)) w.heap.size #[.int .u64 base, .int .u64 bt, .slice a ts.length c] 30 := Blk.new _ _ _
  have HE0 := Lib.hid hE0; have HB0 := Lib.hid hB0
  clear hb hi hE0 hB0
  go_enter Try.func4, Try.ntmps4
  go_wp2_with fail
  refine (awake23 _).mono ?_
  rintro e w1 ⟨rfl, hE1⟩
  have hB1 := HB0.out.ext hE1
  have c0 := hB1.cell 0 rfl
  have c1 := hB1.cell 1 rfl
  have c2 := hB1.cell 2 rfl
  have HB1 := Lib.hid hB1
  have HE1 := Lib.hid (HE0.out.trans hE1)
  clear hE1 hB1
  by_cases hbig : 4611686018427387904 < base
  · go_wp2_with fail
    go_ret
    exact ⟨rfl, HE1.out⟩
  · have hsum : base + ts.length ≤ 9000000000000000000 := by omega
    have HS := Lib.hid hsum
    clear hsum
    obtain ⟨r, hr⟩ : ∃ r, r = advB base bt ts term commit agreed := ⟨_, rfl⟩
    have hge : commit ≤ r := by rw [hr]; exact advB_ge _ _ _ _ _ _
    have HR := Lib.hid hr
    clear hr
    go_wp2_with fail
    refine (adv_c _ base bt ts term commit agreed w1 (H.out.ext HE1.out) HB.out HI.out HS.out).mono ?_
    rintro e w2 ⟨rfl, hE2⟩
    rw [← HR.out]
    have hB2 := HB1.out.ext hE2
    clear c0 c1 c2
    have c0 := hB2.cell 0 rfl
    have c1 := hB2.cell 1 rfl
    have c2 := hB2.cell 2 rfl
    have HE2 := Lib.hid (HE1.out.trans hE2)
    clear hE2 hB2
    go_wp2_with fail
    refine (radv_c _ base bt ts term commit agreed w2 (H.out.ext HE2.out) HB.out HI.out HS.out).mono ?_
    rintro e w3 ⟨rfl, hE3⟩
    rw [← HR.out]
    have HE3 := Lib.hid (HE2.out.trans hE3)
    clear hE3
    go_wp2_with fail
    go_ret
    exact ⟨rfl, HE3.out⟩

set_option maxHeartbeats 4000000 in
theorem majority_law (v1 v2 : Value) (ms : List Int) (ps : List PeerC) (w : World) (h1 : Rd w v1 (u64s ms)) (h2 : PeersV w v2 ps) (hp : ∀ p ∈ ps, U64 p.mtch) :
    Calls Try.prog 5 #[v1, v2] w (RetW (.bool true) w) := by
  have hl : ∃ a1 c1, v1 = .slice a1 ms.length c1 ∧ ms.length ≤ c1 ∧ c1 ≤ maxLen := by
    obtain ⟨a1, c1, hv, hl1, hm1, _⟩ := Rd.open h1
    exact ⟨a1, c1, hv, hl1, hm1⟩
  obtain ⟨a1, c1, rfl, hl1, hm1⟩ := hl
  obtain ⟨a2, c2, rfl, hl2, hm2⟩ := h2.shape
  unfold maxLen at hm1 hm2
  have H1 := Lib.hid h1; have H2 := Lib.hid h2; have HP := Lib.hid hp
  clear h1 h2 hp
  go_enter Try.func5, Try.ntmps5
  go_wp2_with fail
  refine (awake23 w).mono ?_
  rintro e w1 ⟨rfl, hE1⟩
  have HE1 := Lib.hid hE1
  clear hE1
  go_wp2_with fail
  refine (few_c _ _ ms ps w1 (H1.out.ext HE1.out) (H2.out.ext HE1.out)).mono ?_
  rintro e w2 ⟨rfl, rfl⟩
  obtain ⟨f, hf⟩ : ∃ f, f = decide (ms.length ≤ 100 ∧ ps.length ≤ 100) := ⟨_, rfl⟩
  rw [← hf]
  have HF := Lib.hid hf
  clear hf
  cases f with
  | false =>
    go_wp2_with fail
    refine (awake23 w1).mono ?_
    rintro e w3 ⟨rfl, hE3⟩
    have HE3 := Lib.hid (HE1.out.trans hE3)
    clear hE3
    go_wp2_with fail
    go_ret
    exact ⟨rfl, HE3.out⟩
  | true =>
    have hfew := of_decide_eq_true HF.out.symm
    have HFEW := Lib.hid hfew
    clear hfew
    go_wp2_with fail
    refine (agreed_c _ _ ms ps w1 (H1.out.ext HE1.out) (H2.out.ext HE1.out) (by have := HFEW.out; omega) (fun p hm => (HP.out p hm).1)).mono ?_
    rintro e w3 ⟨r, rfl, hr, hE3⟩
    have hu := agr_u64 hr HP.out
    obtain ⟨hu0, hu1⟩ := hu
    have HR := Lib.hid hr
    have HE3 := Lib.hid (HE1.out.trans hE3)
    clear hr hE3
    go_wp2_with fail
    refine (maj_c _ ms w3 (H1.out.ext HE3.out)).mono ?_
    rintro e w4 ⟨rfl, rfl⟩
    obtain ⟨mj, hmj⟩ : ∃ mj, mj = majB ms := ⟨_, rfl⟩
    rw [← hmj]
    have HMJ := Lib.hid hmj
    clear hmj
    by_cases hm : ms = []
    · have hr0 : r = 0 := HR.out.none hm
      subst hr0
      have hml : ((ms.length : Int) == 0) = true := by rw [hm]; rfl
      clear hm
      go_wp2_with fail
      go_ret
      exact ⟨rfl, HE3.out⟩
    · have hml : ((ms.length : Int) == 0) = false := by
        rw [beq_eq_false_iff_ne]; have := List.length_pos_iff.2 hm; omega
      obtain ⟨x1, hx1⟩ : ∃ x1, x1 = haveB ms ps r := ⟨_, rfl⟩
      have hge : mj ≤ x1 := by rw [hx1, HMJ.out]; exact HR.out.has hm
      have HX1 := Lib.hid hx1
      have HM := Lib.hid hm
      clear hx1 hm
      go_wp2_with fail
      refine (rhave_c _ _ ms ps r w3 (H1.out.ext HE3.out) (H2.out.ext HE3.out)).mono ?_
      rintro e w4 ⟨rfl, rfl⟩
      rw [← HX1.out]
      by_cases htop : r = 18446744073709551615
      · have hb : (r == 18446744073709551615) = true := by rw [beq_iff_eq]; exact htop
        clear htop
        go_wp2_with fail
        go_ret
        exact ⟨rfl, HE3.out⟩
      · have hb : (r == 18446744073709551615) = false := by rw [beq_eq_false_iff_ne]; exact htop
        have hw : IntKind.u64.wrap (r + 1) = r + 1 := by rw [IntKind.wrap_u64]; omega
        obtain ⟨x2, hx2⟩ : ∃ x2, x2 = haveB ms ps (r + 1) := ⟨_, rfl⟩
        have hlt : x2 < mj := by rw [hx2, HMJ.out]; exact HR.out.most HM.out _ (by omega)
        have HX2 := Lib.hid hx2
        clear hx2 htop
        go_wp2_with fail
        refine (rhave_c _ _ ms ps (r + 1) w3 (H1.out.ext HE3.out) (H2.out.ext HE3.out)).mono ?_
        rintro e w4 ⟨rfl, rfl⟩
        rw [← HX2.out]
        go_wp2_with fail
        go_ret
        exact ⟨rfl, HE3.out⟩
end Go.Proofs.Ytgnkhpcnlffjnaa
