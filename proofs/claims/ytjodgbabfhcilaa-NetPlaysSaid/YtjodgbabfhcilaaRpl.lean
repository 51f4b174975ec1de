/- What the document's Put lays, in plain words: just what msg.Put lays. -/
import Derived.Test.YtjodgbabfhcilaaRform
import Derived.Test.YtjodgbabfhcilaaRnums
set_option linter.unusedSimpArgs false
set_option linter.unusedVariables false
namespace Go.Proofs.Ytjodgbabfhcilaa
open Go Go.RowKit

/-- The document's bytes behind the kind. -/
def refB (M : Msg) : List Int :=
  numsB [M.src, M.dst, M.term] ++
  (if M.kind = 1 then numsB [M.index, M.logTerm]
   else if M.kind = 2 then [if M.yes then 1 else 0]
   else if M.kind = 3 then numsB [M.index, M.logTerm, M.commit, M.stamp, (M.entries.length : Int)] ++ M.entries.flatMap rawE
   else if M.kind = 4 then [if M.yes then 1 else 0] ++ numsB [M.index, M.stamp]
   else numsB [M.index, M.logTerm, M.stamp, (M.members.length : Int)] ++ numsB M.members ++ (numB M.image.length ++ M.image))
def rwrM (M : Msg) : Option (List Int) := if rformM M then some (M.kind % 256 :: refB M) else none
theorem rform_facts (M : Msg) (h : rformM M = true) : (1 ≤ M.kind ∧ M.kind ≤ 5 ∧ 1 ≤ M.src ∧ M.src ≤ 7 ∧ 1 ≤ M.dst ∧ M.dst ≤ 7 ∧ 1 ≤ M.term ∧ M.term ≤ 4611686018427387904) ∧ bareM M = M ∧ (M.index ≤ 4611686018427387904 ∧ M.logTerm ≤ 4611686018427387904 ∧ M.commit ≤ 4611686018427387904 ∧ M.entries.length ≤ 4 ∧ M.image.length ≤ 16384) ∧ M.entries.all formedB = true ∧ (M.kind = 5 → membersB M.members = true) := by
  simp only [rformM, Bool.and_eq_true, Bool.or_eq_true, decide_eq_true_eq] at h
  obtain ⟨⟨⟨⟨h1, h2⟩, h3⟩, h4⟩, h5⟩ := h
  exact ⟨h1, h2.symm, h3, h4, fun hk => h5.resolve_left (fun hn => hn hk)⟩
theorem wNum_of {lo hi n : Int} (h0 : lo ≤ n) (h1 : n ≤ hi) : wNum lo hi n = some (numB n.toNat) := by rw [wNum, if_pos ⟨h0, h1⟩]
theorem rform_body (M : Msg) (hok : MsgOk M) (h : rformM M = true) : wBody M = some (refB M) := by
  obtain ⟨⟨k1, k5, s1, s7, d1, d7, t1, tT⟩, hb, ⟨iT, lT, cT, e4, im⟩, hall, hmm⟩ := rform_facts M h
  obtain ⟨_, ⟨s0, s1'⟩, ⟨d0, d1'⟩, ⟨t0, t1'⟩, ⟨i0, i1⟩, ⟨l0, l1⟩, ⟨c0, c1⟩, ⟨p0, p1⟩, _, _, _⟩ := hok
  have w1 := wNum_of (lo := 1) (hi := 7) s1 s7
  have w2 := wNum_of (lo := 1) (hi := 7) d1 d7
  have w3 := wNum_of (lo := 1) (hi := 4611686018427387904) t1 tT
  have w4 := wNum_of (lo := 0) (hi := 4611686018427387904) i0 iT
  have w5 := wNum_of (lo := 0) (hi := 4611686018427387904) l0 lT
  have w6 := wNum_of (lo := 0) (hi := 4611686018427387904) c0 cT
  have w7 := wNum_of (lo := 0) (hi := 18446744073709551615) p0 p1
  have w9 : wEnts M.entries = some (numB M.entries.length ++ M.entries.flatMap rawE) := by rw [wEnts, if_pos ⟨e4, hall⟩]
  have w11 : wImg M.image = some (numB M.image.length ++ M.image) := by rw [wImg, if_pos im]
  have : M.kind = 1 ∨ M.kind = 2 ∨ M.kind = 3 ∨ M.kind = 4 ∨ M.kind = 5 := by omega
  rcases this with k | k | k | k | k
  · simp [wBody, wRest, k, w1, w2, w3, w4, w5, seqO, refB, numsB]
  · simp [wBody, wRest, k, w1, w2, w3, wYes, seqO, refB, numsB]
  · simp [wBody, wRest, k, w1, w2, w3, w4, w5, w6, w7, w9, seqO, refB, numsB]
  · simp [wBody, wRest, k, w1, w2, w3, w4, w7, wYes, seqO, refB, numsB]
  · have w10 : wMems M.members = some (numB M.members.length ++ M.members.flatMap (fun m => numB m.toNat)) := by rw [wMems, if_pos (hmm k)]
    simp [wBody, wRest, k, w1, w2, w3, w4, w5, w7, w10, w11, seqO, refB, numsB]
theorem wNum_in {lo hi n : Int} {ys : List Int} (h : wNum lo hi n = some ys) : lo ≤ n ∧ n ≤ hi := by
  simp only [wNum] at h
  split at h
  · assumption
  · cases h
theorem body_rform (M : Msg) {ys : List Int} (h : wBody M = some ys) (hb : bareM M = M) : rformM M = true := by
  obtain ⟨k1, k5⟩ := kind_of_body h
  obtain ⟨y1, z1, h1, hz1, rfl⟩ := seqO_cons h
  obtain ⟨y2, z2, h2, hz2, rfl⟩ := seqO_cons hz1
  obtain ⟨y3, z3, h3, hz3, rfl⟩ := seqO_cons hz2
  obtain ⟨a1, a2⟩ := wNum_in h1
  obtain ⟨b1, b2⟩ := wNum_in h2
  obtain ⟨c1, c2⟩ := wNum_in h3
  have key : (M.index ≤ 4611686018427387904 ∧ M.logTerm ≤ 4611686018427387904 ∧ M.commit ≤ 4611686018427387904 ∧ M.entries.length ≤ 4 ∧ M.image.length ≤ 16384) ∧ M.entries.all formedB = true ∧ (M.kind = 5 → membersB M.members = true) := by
    have : M.kind = 1 ∨ M.kind = 2 ∨ M.kind = 3 ∨ M.kind = 4 ∨ M.kind = 5 := by omega
    obtain ⟨k, f, t, m, i, l, c, s, y, xs, ms, d⟩ := M
    simp only at this k1 k5 hz3 hb ⊢
    rcases this with rfl | rfl | rfl | rfl | rfl
    all_goals simp [bareM] at hb
    all_goals simp [wRest] at hz3
    · obtain ⟨rfl, rfl, rfl, rfl, rfl, rfl⟩ := hb
      obtain ⟨y4, z4, h4, hz4, rfl⟩ := seqO_cons hz3
      obtain ⟨y5, z5, h5, hz5, rfl⟩ := seqO_cons hz4
      have := wNum_in h4; have := wNum_in h5
      simp; omega
    · obtain ⟨rfl, rfl, rfl, rfl, rfl, rfl, rfl⟩ := hb
      simp
    · obtain ⟨rfl, rfl, rfl⟩ := hb
      obtain ⟨y4, z4, h4, hz4, rfl⟩ := seqO_cons hz3
      obtain ⟨y5, z5, h5, hz5, rfl⟩ := seqO_cons hz4
      obtain ⟨y6, z6, h6, hz6, rfl⟩ := seqO_cons hz5
      obtain ⟨y7, z7, h7, hz7, rfl⟩ := seqO_cons hz6
      obtain ⟨y8, z8, h8, hz8, rfl⟩ := seqO_cons hz7
      have := wNum_in h4; have := wNum_in h5; have := wNum_in h6
      have h9 : xs.length ≤ 4 ∧ xs.all formedB = true := by
        simp only [wEnts] at h8
        split at h8
        · assumption
        · cases h8
      exact ⟨⟨by omega, by omega, by omega, h9.1, by simp⟩, h9.2, by simp⟩
    · obtain ⟨rfl, rfl, rfl, rfl, rfl⟩ := hb
      obtain ⟨y4, z4, h4, hz4, rfl⟩ := seqO_cons hz3
      obtain ⟨y5, z5, h5, hz5, rfl⟩ := seqO_cons hz4
      have := wNum_in h5
      simp; omega
    · obtain ⟨rfl, rfl, rfl⟩ := hb
      obtain ⟨y4, z4, h4, hz4, rfl⟩ := seqO_cons hz3
      obtain ⟨y5, z5, h5, hz5, rfl⟩ := seqO_cons hz4
      obtain ⟨y6, z6, h6, hz6, rfl⟩ := seqO_cons hz5
      obtain ⟨y7, z7, h7, hz7, rfl⟩ := seqO_cons hz6
      obtain ⟨y8, z8, h8, hz8, rfl⟩ := seqO_cons hz7
      have := wNum_in h4; have := wNum_in h5
      have h9 : membersB ms = true := by
        simp only [wMems] at h7
        split at h7
        · assumption
        · cases h7
      have h10 : d.length ≤ 16384 := by
        simp only [wImg] at h8
        split at h8
        · assumption
        · cases h8
      exact ⟨⟨by omega, by omega, by omega, by simp, h10⟩, by simp, fun _ => h9⟩
  simp only [rformM, Bool.and_eq_true, Bool.or_eq_true, decide_eq_true_eq]
  exact ⟨⟨⟨⟨⟨k1, k5, a1, a2, b1, b2, c1, c2⟩, hb.symm⟩, key.1⟩, key.2.1⟩, by by_cases h5 : M.kind = 5; exact .inr (key.2.2 h5); exact .inl h5⟩
theorem rwrM_eq (M : Msg) (hok : MsgOk M) : rwrM M = wrM M := by
  rw [wrM_eq M hok]
  unfold rwrM
  cases hf : rformM M with
  | true =>
    rw [rform_body M hok hf]
    simp [(rform_facts M hf).2.1]
  | false =>
    cases hw : wBody M with
    | none => rfl
    | some ys =>
      by_cases hb : bareM M = M
      · have := body_rform M hw hb; rw [hf] at this; cases this
      · simp [hb]
end Go.Proofs.Ytjodgbabfhcilaa
