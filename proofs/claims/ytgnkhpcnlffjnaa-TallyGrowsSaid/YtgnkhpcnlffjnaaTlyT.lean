/- Tally: the log's terms, Advance. -/
import Derived.Test.YtgnkhpcnlffjnaaTlyW
namespace Go.Proofs.Ytgnkhpcnlffjnaa
open Go Go.RowKit

/-- v is a log: its Base, its BaseTerm, its entries' terms. -/
def LogV (w : World) (v : Value) (base bt : Int) (ts : List Int) : Prop :=
  ∃ a c, v = .agg #[.int .u64 base, .int .u64 bt, .slice a ts.length c] ∧ ts.length ≤ c ∧ c ≤ maxLen ∧ (ts = [] ∨ ∃ b o, a = some ⟨b, o, none⟩ ∧ ∀ j t, ts[j]? = some t → w.cell? ⟨b, o + j * 6, none⟩ = some (.int .u64 t))
theorem LogV.ext {w w' : World} {v : Value} {base bt : Int} {ts : List Int} (h : LogV w v base bt ts) (hE : Ext w w') : LogV w' v base bt ts := by
  obtain ⟨a, c, hv, h1, h2, h3⟩ := h
  refine ⟨a, c, hv, h1, h2, h3.imp id ?_⟩
  rintro ⟨b, o, ha, hc⟩
  exact ⟨b, o, ha, fun j t hj => hE.cell (hc j t hj)⟩
def termB (base bt : Int) (ts : List Int) (idx : Int) : Int × Bool :=
  if idx = base then (bt, true) else if base < idx ∧ idx ≤ base + ts.length then (ts.getD (idx - base - 1).toNat 0, true) else (0, false)
def TermP (x : Int × Bool) (w : World) (en : Ending) (w' : World) : Prop := en = .returned (.tuple #[.int .u64 x.1, .bool x.2]) ∧ Ext w w'

theorem cells3_new (w : World) (c0 c1 c2 : Value) (e : TypeId) : (w.alloc (.cells #[c0, c1, c2] e)).cell? ⟨w.heap.size, 0, none⟩ = some c0 ∧ (w.alloc (.cells #[c0, c1, c2] e)).cell? ⟨w.heap.size, 1, none⟩ = some c1 ∧ (w.alloc (.cells #[c0, c1, c2] e)).cell? ⟨w.heap.size, 2, none⟩ = some c2 := by
  refine ⟨?_, ?_, ?_⟩ <;> simp [World.cell?_alloc_new]

set_option maxHeartbeats 1000000 in
theorem term_c (v : Value) (base bt : Int) (ts : List Int) (idx : Int) (w : World) (h : LogV w v base bt ts) (hb : U64 base) (hi : U64 idx) (hl : base + ts.length ≤ 9000000000000000000) :
    Calls Try.prog 20 #[v, .int .u64 idx] w (TermP (termB base bt ts idx) w) := by
  obtain ⟨a, c, rfl, h1, h2, h3⟩ := h
  unfold maxLen at h2
  obtain ⟨b0, b1⟩ := hb
  obtain ⟨i0, i1⟩ := hi
  have HE := Ext.alloc w (.cells #[.int .u64 base, .int .u64 bt, .slice a ts.length c] 30)
  by_cases hib : idx = base
  · subst hib
    have e1 : termB idx bt ts idx = (bt, true) := by unfold termB; rw [if_pos rfl]
    rw [e1]
    have hw : IntKind.u64.wrap (idx - idx) = 0 := by rw [Int.sub_self]; rfl
    clear e1 h3
    go_enter Try.func20, Try.ntmps20
    go_wp2
    go_ret2
    exact ⟨rfl, HE⟩
  · by_cases hin : base < idx ∧ idx ≤ base + ts.length
    · obtain ⟨k, hk⟩ := Int.eq_ofNat_of_zero_le (show 0 ≤ idx - base - 1 by omega)
      have hkl : k < ts.length := by omega
      have e1 : termB base bt ts idx = (ts.getD k 0, true) := by unfold termB; rw [if_neg hib, if_pos hin, hk]; rfl
      rw [e1]
      obtain ⟨t, ht⟩ : ∃ t, t = ts.getD k 0 := ⟨_, rfl⟩
      rw [← ht]
      have hw : IntKind.u64.wrap (idx - base) = (k : Int) + 1 := by rw [IntKind.wrap_u64]; omega
      have hne : ((k : Int) + 1 == 0) = false := by rw [beq_eq_false_iff_ne]; omega
      have hlt : base < idx := hin.1
      have hne2 : ts ≠ [] := by intro e; rw [e] at hkl; simp at hkl
      obtain ⟨b, o, rfl, hc⟩ := h3.resolve_left hne2
      have ct := HE.cell (hc k t (by rw [ht]; simp [List.getD, List.getElem?_eq_getElem hkl]))
      have hwl : IntKind.u64.wrap (ts.length : Int) = (ts.length : Int) := by rw [IntKind.wrap_u64]; omega
      clear e1 hk hib hin hne2 ht hc h3
      go_enter Try.func20, Try.ntmps20
      go_wp2
      go_ret2
      exact ⟨rfl, HE⟩
    · have e1 : termB base bt ts idx = (0, false) := by unfold termB; rw [if_neg hib, if_neg hin]
      rw [e1]
      obtain ⟨d, hd⟩ : ∃ d, d = IntKind.u64.wrap (idx - base) := ⟨_, rfl⟩
      have hd2 : (ts.length : Int) < d := by rw [hd, IntKind.wrap_u64]; omega
      have hw := hd.symm
      have hne : (d == 0) = false := by rw [beq_eq_false_iff_ne]; omega
      have hwl : IntKind.u64.wrap (ts.length : Int) = (ts.length : Int) := by rw [IntKind.wrap_u64]; omega
      clear e1 hd hib hin h3
      go_enter Try.func20, Try.ntmps20
      go_wp2
      go_ret2
      exact ⟨rfl, HE⟩

set_option maxHeartbeats 1000000 in
theorem rlast_c (v : Value) (base bt : Int) (ts : List Int) (w : World) (h : LogV w v base bt ts) (hb : U64 base) (hl : base + ts.length ≤ 9000000000000000000) :
    Calls Try.prog 25 #[v] w fun en w' => en = .returned (.int .u64 (base + ts.length)) ∧ Ext w w' := by
  obtain ⟨a, c, rfl, h1, h2, h3⟩ := h
  unfold maxLen at h2
  obtain ⟨b0, b1⟩ := hb
  have HE := Ext.alloc w (.cells #[.int .u64 base, .int .u64 bt, .slice a ts.length c] 30)
  have hwl : IntKind.u64.wrap (ts.length : Int) = (ts.length : Int) := by rw [IntKind.wrap_u64]; omega
  have hwl2 : IntKind.u64.wrap (base + (ts.length : Int)) = base + (ts.length : Int) := by rw [IntKind.wrap_u64]; omega
  clear h3
  go_enter Try.func25, Try.ntmps25
  go_wp2
  go_ret
  exact ⟨rfl, HE⟩

set_option maxHeartbeats 2000000 in
theorem rterm_c (v : Value) (base bt : Int) (ts : List Int) (idx : Int) (w : World) (h : LogV w v base bt ts) (hb : U64 base) (hi : U64 idx) (hl : base + ts.length ≤ 9000000000000000000) :
    Calls Try.prog 21 #[v, .int .u64 idx] w (TermP (termB base bt ts idx) w) := by
  have H := Lib.hid h
  have HB := Lib.hid hb
  obtain ⟨a, c, rfl, h1, h2, h3⟩ := h
  unfold maxLen at h2
  obtain ⟨b0, b1⟩ := hb
  obtain ⟨i0, i1⟩ := hi
  have HE := Lib.hid (Ext.alloc w (.cells #[.int .u64 base, .int .u64 bt, .slice a ts.length c] 30))
  have HBL : Hid (Blk (w.alloc (.cells #[.int .u64 base, .int .u64 bt, .slice a ts.length c] 30)) w.heap.size #[.int .u64 base, .int .u64 bt, .slice a ts.length c] 30) := Lib.hid (Blk.new _ _ _)
  by_cases hib : idx = base
  · subst hib
    have e1 : termB idx bt ts idx = (bt, true) := by unfold termB; rw [if_pos rfl]
    rw [e1]
    clear e1 h3
    go_enter Try.func21, Try.ntmps21
    go_wp2
    go_ret2
    exact ⟨rfl, HE.out⟩
  · have hne : (idx == base) = false := by rw [beq_eq_false_iff_ne]; exact hib
    by_cases hin : base < idx ∧ idx ≤ base + ts.length
    · obtain ⟨k, hk⟩ := Int.eq_ofNat_of_zero_le (show 0 ≤ idx - base - 1 by omega)
      have hkl : k < ts.length := by omega
      have e1 : termB base bt ts idx = (ts.getD k 0, true) := by unfold termB; rw [if_neg hib, if_pos hin, hk]; rfl
      rw [e1]
      obtain ⟨t, ht⟩ : ∃ t, t = ts.getD k 0 := ⟨_, rfl⟩
      rw [← ht]
      have HW : Hid (IntKind.u64.wrap (idx - base) = (k : Int) + 1) := Lib.hid (by rw [IntKind.wrap_u64]; omega)
      have hlt : base < idx := hin.1
      have hle : idx ≤ base + (ts.length : Int) := hin.2
      have hne2 : ts ≠ [] := by intro e; rw [e] at hkl; simp at hkl
      obtain ⟨b, o, rfl, hc⟩ := h3.resolve_left hne2
      have HT := Lib.hid (hc k t (by rw [ht]; simp [List.getD, List.getElem?_eq_getElem hkl]))
      clear e1 hk hib hin hne2 ht hc h3
      go_enter Try.func21, Try.ntmps21
      go_wp2_with fail
      refine (rlast_c _ base bt ts _ (H.out.ext HE.out) HB.out hl).mono ?_
      rintro e w2 ⟨rfl, hE2⟩
      have c0 := (HBL.out.ext hE2).cell 0 rfl
      have c2 := (HBL.out.ext hE2).cell 2 rfl
      have ct := hE2.cell (HE.out.cell HT.out)
      have HE2 := Lib.hid (HE.out.trans hE2)
      have hw := HW.out
      clear hE2
      go_wp2_with fail
      go_ret2
      exact ⟨rfl, HE2.out⟩
    · have e1 : termB base bt ts idx = (0, false) := by unfold termB; rw [if_neg hib, if_neg hin]
      rw [e1]
      by_cases hlo : idx < base
      · clear e1 hib hin h3
        go_enter Try.func21, Try.ntmps21
        go_wp2_with fail
        go_ret2
        exact ⟨rfl, HE.out⟩
      · have hgt : base + (ts.length : Int) < idx := by omega
        clear e1 hib hin h3
        go_enter Try.func21, Try.ntmps21
        go_wp2_with fail
        refine (rlast_c _ base bt ts _ (H.out.ext HE.out) HB.out hl).mono ?_
        rintro e w2 ⟨rfl, hE2⟩
        have HE2 := Lib.hid (HE.out.trans hE2)
        clear hE2
        go_wp2_with fail
        go_ret2
        exact ⟨rfl, HE2.out⟩

/-- what Advance answers -/
def advB (base bt : Int) (ts : List Int) (term commit agreed : Int) : Int :=
  if (termB base bt ts agreed).2 = true ∧ (termB base bt ts agreed).1 = term then max commit agreed else commit
theorem advB_ge (base bt : Int) (ts : List Int) (term commit agreed : Int) : commit ≤ advB base bt ts term commit agreed := by
  unfold advB; split <;> omega
def AdvP (r : Int) (w : World) (en : Ending) (w' : World) : Prop := en = .returned (.int .u64 r) ∧ Ext w w'

set_option maxHeartbeats 1000000 in
theorem adv_c (v : Value) (base bt : Int) (ts : List Int) (term commit agreed : Int) (w : World) (h : LogV w v base bt ts) (hb : U64 base) (hi : U64 agreed) (hl : base + ts.length ≤ 9000000000000000000) :
    Calls Try.prog 12 #[v, .int .u64 term, .int .u64 commit, .int .u64 agreed] w (AdvP (advB base bt ts term commit agreed) w) := by
  obtain ⟨R, hR⟩ : ∃ R, R = advB base bt ts term commit agreed := ⟨_, rfl⟩
  rw [← hR]
  obtain ⟨⟨t, ok⟩, hx⟩ : ∃ x, x = termB base bt ts agreed := ⟨_, rfl⟩
  unfold advB at hR
  rw [← hx] at hR
  have H := Lib.hid h; have HB := Lib.hid hb; have HI := Lib.hid hi; have HR := Lib.hid hR; have HX := Lib.hid hx
  obtain ⟨a, c, rfl, h1, h2, _⟩ := h
  have HE := Lib.hid (Ext.alloc w (.cells #[.int .u64 base, .int .u64 bt, .slice a ts.length c] 30))
  clear hb hi hR hx
  go_enter Try.func12, Try.ntmps12
  go_wp2_with fail
  refine (term_c _ base bt ts agreed _ (H.out.ext HE.out) HB.out HI.out hl).mono ?_
  rintro e w2 ⟨rfl, hE2⟩
  rw [← HX.out]
  have HE2 := Lib.hid (HE.out.trans hE2)
  clear hE2
  cases ok with
  | false =>
    have hr : R = commit := by rw [HR.out]; simp
    have HRR := Lib.hid hr
    clear hr
    go_wp2_with fail
    go_ret
    exact ⟨ret_eq (congrArg (Value.int .u64) HRR.out.symm), HE2.out⟩
  | true =>
    by_cases ht : t = term
    · have hr : R = max commit agreed := by rw [HR.out]; simp [ht]
      have htb : (t == term) = true := by rw [beq_iff_eq]; exact ht
      have HRR := Lib.hid hr
      clear hr ht
      go_wp2_with fail
      all_goals
        go_ret
        exact ⟨ret_eq (congrArg (Value.int .u64) (by have := HRR.out; omega)), HE2.out⟩
    · have hr : R = commit := by rw [HR.out]; simp [ht]
      have htb : (t == term) = false := by rw [beq_eq_false_iff_ne]; exact ht
      have HRR := Lib.hid hr
      clear hr ht
      go_wp2_with fail
      go_ret
      exact ⟨ret_eq (congrArg (Value.int .u64) HRR.out.symm), HE2.out⟩

set_option maxHeartbeats 1000000 in
theorem radv_c (v : Value) (base bt : Int) (ts : List Int) (term commit agreed : Int) (w : World) (h : LogV w v base bt ts) (hb : U64 base) (hi : U64 agreed) (hl : base + ts.length ≤ 9000000000000000000) :
    Calls Try.prog 13 #[v, .int .u64 term, .int .u64 commit, .int .u64 agreed] w (AdvP (advB base bt ts term commit agreed) w) := by
  obtain ⟨R, hR⟩ : ∃ R, R = advB base bt ts term commit agreed := ⟨_, rfl⟩
  rw [← hR]
  obtain ⟨⟨t, ok⟩, hx⟩ : ∃ x, x = termB base bt ts agreed := ⟨_, rfl⟩
  unfold advB at hR
  rw [← hx] at hR
  have H := Lib.hid h; have HB := Lib.hid hb; have HI := Lib.hid hi; have HR := Lib.hid hR; have HX := Lib.hid hx
  obtain ⟨a, c, rfl, h1, h2, _⟩ := h
  have HE := Lib.hid (Ext.alloc w (.cells #[.int .u64 base, .int .u64 bt, .slice a ts.length c] 30))
  clear hb hi hR hx
  go_enter Try.func13, Try.ntmps13
  go_wp2_with fail
  refine (rterm_c _ base bt ts agreed _ (H.out.ext HE.out) HB.out HI.out hl).mono ?_
  rintro e w2 ⟨rfl, hE2⟩
  rw [← HX.out]
  have HE2 := Lib.hid (HE.out.trans hE2)
  clear hE2
  by_cases hgt : commit < agreed
  · cases ok with
    | false =>
      have hr : R = commit := by rw [HR.out]; simp
      have HRR := Lib.hid hr
      clear hr
      go_wp2_with fail
      go_ret
      exact ⟨ret_eq (congrArg (Value.int .u64) HRR.out.symm), HE2.out⟩
    | true =>
      by_cases ht : t = term
      · have hr : R = agreed := by rw [HR.out]; simp [ht]; omega
        have htb : (t == term) = true := by rw [beq_iff_eq]; exact ht
        have HRR := Lib.hid hr
        clear hr ht
        go_wp2_with fail
        go_ret
        exact ⟨ret_eq (congrArg (Value.int .u64) HRR.out.symm), HE2.out⟩
      · have hr : R = commit := by rw [HR.out]; simp [ht]
        have htb : (t == term) = false := by rw [beq_eq_false_iff_ne]; exact ht
        have HRR := Lib.hid hr
        clear hr ht
        go_wp2_with fail
        go_ret
        exact ⟨ret_eq (congrArg (Value.int .u64) HRR.out.symm), HE2.out⟩
  · have hr : R = commit := by rw [HR.out]; split <;> omega
    have HRR := Lib.hid hr
    clear hr
    go_wp2_with fail
    go_ret
    exact ⟨ret_eq (congrArg (Value.int .u64) HRR.out.symm), HE2.out⟩
end Go.Proofs.Ytgnkhpcnlffjnaa
