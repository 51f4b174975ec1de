/- Both nets side by side: what each call leaves. -/
import Derived.Test.YtjodgbabfhcilaaNetd
import Derived.Test.YtjodgbabfhcilaaNete
import Derived.Test.YtjodgbabfhcilaaNetf
import Derived.Test.YtjodgbabfhcilaaNsame
import Derived.Test.YtjodgbabfhcilaaNet9
set_option linter.unusedSimpArgs false
set_option linter.unusedVariables false
namespace Go.Proofs.Ytjodgbabfhcilaa
open Go Go.RowKit Go.Maps

/-- The net p and the document's net r in memory; what may change is in A. -/
structure MSt (w1 : World) (p m r : Nat) (wc : World) (lv : Value) (l : List Item) (k : Nat) (W : WL) (ls wv : Value) (S : List MQ) (ws : List (Int × Int)) (A : List Nat) : Prop where
  net : NetS w1 wc p m lv l k W
  ref : RefN wc r ls wv S ws A
  mu : ∀ t ∈ NMut p m lv, t ∈ A
  lt : ∀ t ∈ A, t < wc.heap.size
  newr : w1.heap.size ≤ r
  off : ∀ q ∈ l, ∀ bs, wrM q.2 = some bs → OffL q.1 (u8s bs) [r]
/-- Blocks that belong to neither net. -/
structure Loc (T : List Nat) (p m r : Nat) (lv : Value) (l : List Item) (A : List Nat) : Prop where
  sub : ∀ t ∈ T, t ∈ A
  mu : ∀ t ∈ T, t ∉ NMut p m lv
  off : ∀ q ∈ l, ∀ bs, wrM q.2 = some bs → OffL q.1 (u8s bs) T
section
variable {w1 wc w2 : World} {p m r k k' : Nat} {lv lv' ls wv ls' wv' : Value} {l l' : List Item} {W W' : WL} {S S' : List MQ} {ws ws' : List (Int × Int)} {A T T' : List Nat}
theorem OffL.sub {v : Value} {cs : List Value} {S T : List Nat} (h : OffL v cs S) (hT : ∀ t ∈ T, t ∈ S) : OffL v cs T := fun a n c e hne hm => h a n c e hne (hT _ hm)
theorem Loc.of (h : Loc T p m r lv l A) (hT : ∀ t ∈ T', t ∈ T) : Loc T' p m r lv l A := ⟨fun t ht => h.sub t (hT t ht), fun t ht => h.mu t (hT t ht), fun q hq bs hb => (h.off q hq bs hb).sub hT⟩
theorem MSt.ext (h : MSt w1 p m r wc lv l k W ls wv S ws A) (hE : Ext wc w2) : MSt w1 p m r w2 lv l k W ls wv S ws A :=
  ⟨h.net.ext hE, h.ref.ext hE, h.mu, fun t ht => Nat.lt_of_lt_of_le (h.lt t ht) hE.size, h.newr, h.off⟩
theorem MSt.grow (h : MSt w1 p m r wc lv l k W ls wv S ws A) (hE : Ext wc w2) (hT : ∀ t ∈ T, wc.heap.size ≤ t ∧ t < w2.heap.size) :
    MSt w1 p m r w2 lv l k W ls wv S ws (T ++ A) ∧ Loc T p m r lv l (T ++ A) := by
  refine ⟨⟨h.net.ext hE, (h.ref.more (A' := T ++ A) fun t ht => ?_).ext hE, fun t ht => List.mem_append_right _ (h.mu t ht), fun t ht => ?_, h.newr, h.off⟩, fun t ht => List.mem_append_left _ ht, fun t ht hm => ?_, h.net.offNew fun t ht => (hT t ht).1⟩
  · rcases List.mem_append.1 ht with h1 | h1
    · exact .inr (hT t h1).1
    · exact .inl h1
  · rcases List.mem_append.1 ht with h1 | h1
    · exact (hT t h1).2
    · exact Nat.lt_of_lt_of_le (h.lt t h1) hE.size
  · have := (h.net.mut_lt t hm).1; have := (hT t ht).1; omega
theorem Loc.grow (h : Loc T p m r lv l A) : Loc T p m r lv l (T' ++ A) := ⟨fun t ht => List.mem_append_right _ (h.sub t ht), h.mu, h.off⟩
theorem MSt.store (h : MSt w1 p m r wc lv l k W ls wv S ws A) (hL : Loc T p m r lv l A) (hw : ∀ t ∈ T, w1.heap.size ≤ t) (hC : Chg T wc w2) : MSt w1 p m r w2 lv l k W ls wv S ws A :=
  ⟨h.net.aside hC (fun t ht => ⟨hL.mu t ht, hw t ht⟩) hL.off, h.ref.chg hC hL.sub, h.mu, fun t ht => Nat.lt_of_lt_of_le (h.lt t ht) hC.size, h.newr, h.off⟩
theorem MSt.rlt (h : MSt w1 p m r wc lv l k W ls wv S ws A) : r < wc.heap.size := h.ref.rw.rb.lt
theorem MSt.rmut (h : MSt w1 p m r wc lv l k W ls wv S ws A) : r ∉ NMut p m lv := fun hm => h.ref.rw.rA (h.mu _ hm)
theorem MSt.netStep (h : MSt w1 p m r wc lv l k W ls wv S ws A) (hN : NetS w1 w2 p m lv' l' k' W') (hC : Chg (NMut p m lv) wc w2) (hb : ∀ t ∈ lv'.ownBlock.toList, t ∈ lv.ownBlock.toList ∨ wc.heap.size ≤ t)
    (hl : ∀ q ∈ l', q ∈ l ∨ From wc.heap.size q.1) : MSt w1 p m r w2 lv' l' k' W' ls wv S ws (NMut p m lv' ++ A) := by
  refine ⟨hN, (h.ref.more (A' := NMut p m lv' ++ A) fun t ht => ?_).chg hC (fun t ht => List.mem_append_right _ (h.mu t ht)), fun t ht => List.mem_append_left _ ht, fun t ht => ?_, h.newr, fun q hq bs hb2 => ?_⟩
  · rcases List.mem_append.1 ht with h1 | h1
    · exact (nmut_more hb t h1).imp (h.mu t) id
    · exact .inl h1
  · rcases List.mem_append.1 ht with h1 | h1
    · exact (hN.mut_lt t h1).1
    · exact Nat.lt_of_lt_of_le (h.lt t h1) hC.size
  · rcases hl q hq with h1 | h1
    · exact h.off q h1 bs hb2
    · exact h1.off (fun t ht => by simp at ht; subst ht; exact h.rlt)
theorem Loc.netStep (h : Loc T p m r lv l A) (hM : MSt w1 p m r wc lv l k W ls wv S ws A) (hb : ∀ t ∈ lv'.ownBlock.toList, t ∈ lv.ownBlock.toList ∨ wc.heap.size ≤ t)
    (hl : ∀ q ∈ l', q ∈ l ∨ From wc.heap.size q.1) : Loc T p m r lv' l' (NMut p m lv' ++ A) := by
  refine ⟨fun t ht => List.mem_append_right _ (h.sub t ht), fun t ht hm => ?_, fun q hq bs hb2 => ?_⟩
  · rcases nmut_more hb t hm with h1 | h1
    · exact h.mu t ht h1
    · have := hM.lt t (h.sub t ht); omega
  · rcases hl q hq with h1 | h1
    · exact h.off q h1 bs hb2
    · exact h1.off (fun t ht => hM.lt t (h.sub t ht))
theorem MSt.refStep (h : MSt w1 p m r wc lv l k W ls wv S ws A) (hR : RefN w2 r ls' wv' S' ws' A) (hC : Chg [r] wc w2) : MSt w1 p m r w2 lv l k W ls' wv' S' ws' A :=
  ⟨h.net.aside hC (fun t ht => by simp at ht; subst ht; exact ⟨h.rmut, h.newr⟩) h.off, hR, h.mu, fun t ht => Nat.lt_of_lt_of_le (h.lt t ht) hC.size, h.newr, h.off⟩
theorem Loc.ne (h : Loc T p m r lv l A) (hM : MSt w1 p m r wc lv l k W ls wv S ws A) : ∀ t ∈ T, t ≠ r := fun t ht e => hM.ref.rw.rA (e ▸ h.sub t ht)
end
/-- The two nets hold the same. -/
structure PSt (w1 : World) (p m r n : Nat) (wc : World) (lv : Value) (l : List Item) (k : Nat) (W : WL) (ls wv : Value) (S : List MQ) (ws : List (Int × Int)) (A : List Nat) : Prop where
  st : MSt w1 p m r wc lv l k W ls wv S ws A
  same : SameW W ws
  eq : l.map (·.2) = S.map (·.1)
  len : l.length ≤ 256
  kn : k ≤ n
  wn : ws.length ≤ n
section
variable {w1 wc w2 : World} {p m r n k : Nat} {lv ls wv : Value} {l : List Item} {W : WL} {S : List MQ} {ws : List (Int × Int)} {A A' : List Nat}
theorem PSt.ext (h : PSt w1 p m r n wc lv l k W ls wv S ws A) (hE : Ext wc w2) : PSt w1 p m r n w2 lv l k W ls wv S ws A := ⟨h.st.ext hE, h.same, h.eq, h.len, h.kn, h.wn⟩
theorem PSt.slen (h : PSt w1 p m r n wc lv l k W ls wv S ws A) : S.length = l.length := by have := congrArg List.length h.eq; simpa using this.symm
theorem PSt.send (h : PSt w1 p m r n wc lv l k W ls wv S ws A) {M : Msg} (hok : MsgOk M) : sendE (wrM M) (wall W M.src M.dst) l.length = rsendE M ws S.length := by
  rw [h.slen, h.same M.src M.dst hok.src hok.dst]
  unfold sendE rsendE
  rw [rform_isSome M hok]
  cases wrM M with
  | none => simp
  | some bs => by_cases hw : (M.src, M.dst) ∈ ws <;> simp [hw]
theorem PSt.atN (h : PSt w1 p m r n wc lv l k W ls wv S ws A) (i : Int) : (¬ (0 ≤ i ∧ i < (S.length : Int)) ∧ atN (l.map (·.2)) i = (Msg.zero, 9)) ∨ ∃ q, 0 ≤ i ∧ i < (S.length : Int) ∧ S[i.toNat]? = some q ∧ atN (l.map (·.2)) i = (q.1, 0) := by
  unfold Proofs.Ytjodgbabfhcilaa.atN
  by_cases hi : 0 ≤ i ∧ i < (S.length : Int)
  · right
    obtain ⟨q, hq⟩ : ∃ q, S[i.toNat]? = some q := ⟨_, List.getElem?_eq_getElem (by omega)⟩
    refine ⟨q, hi.1, hi.2, hq, ?_⟩
    rw [h.eq, List.length_map, if_pos hi, List.getElem?_map, hq]; rfl
  · left
    refine ⟨hi, ?_⟩
    rw [h.eq, List.length_map, if_neg hi]
theorem PSt.twice (h : PSt w1 p m r n wc lv l k W ls wv S ws A) (i : Int) : twiceN l.length i = rtwiceE S.length i := by
  rw [h.slen]
  unfold twiceN rtwiceE
  by_cases hi : 0 ≤ i ∧ i < (l.length : Int)
  · rw [if_pos hi, if_neg (show ¬ ¬ (0 ≤ i ∧ i < (l.length : Int)) from fun hn => hn hi)]
  · rw [if_neg hi, if_pos hi]
end
/-- A net's ways, turned by Block. -/
theorem RefN.block {w w' : World} {r : Nat} {ls wv wv' : Value} {S : List MQ} {ws ws' : List (Int × Int)} {A : List Nat} (h : RefN w r ls wv S ws A) (hR : RefW w' r ls wv' ws' A) (hC : Chg [r] w w') : RefN w' r ls wv' S ws' A :=
  ⟨hR, h.list.chg hC (fun a n c e _ hm => by simp at hm; exact (h.la a n c e).2.1 hm), fun a n c e => ⟨(h.la a n c e).1, (h.la a n c e).2.1, Nat.lt_of_lt_of_le (h.la a n c e).2.2 hC.size⟩,
    fun q hq => ⟨(h.ms q hq).1.chg hC (fun t ht hr => by simp at ht; subst ht; exact hr (by simp)), (h.ms q hq).2⟩⟩
/-- A message's lists may still be written. -/
theorem MsgU.chgR {R : Nat → Prop} {S : List Nat} {w w' : World} {v : Value} {M : Msg} (h : MsgU w v) (hR : MsgR R w v M) (hg : Chg S w w') (hS : ∀ t ∈ S, ¬ R t) : MsgU w' v := by
  obtain ⟨m, ev, mv, iv, e, u1, u2, u3⟩ := h
  obtain ⟨ev', mv', iv', e', ⟨l, hl, hq, ⟨a, c, hv, hc1, hc2, hrow⟩, hb⟩, k2, k3⟩ := hR
  rw [e] at e'
  have e3 : ev = ev' ∧ mv = mv' ∧ iv = iv' := by simp [mCells] at e'; exact ⟨e'.2.2.2.2.2.2.2.2.2.1, e'.2.2.2.2.2.2.2.2.2.2.1, e'.2.2.2.2.2.2.2.2.2.2.2⟩
  obtain ⟨rfl, rfl, rfl⟩ := e3
  have key : ∀ {v : Value} {cs : List Value}, RdR R w v cs → UnA w v → UnA w' v := fun hr hu => hu.chg hg fun a n c e hn hm => hS _ hm (hr.2 a n c e fun e2 => hn (by rw [hr.1.n e, e2]; rfl))
  refine ⟨m, _, _, _, e, ⟨u1.1.chg hg fun a' n c' e2 hn hm => hS _ hm (hb a' n c' e2 fun e3 => hn ?_), fun b f n c' e2 j hj x hx => ?_⟩, key k2 u2, key k3 u3⟩
  · rw [hv] at e2; cases e2
    rw [List.length_map]
    rw [← hl] at e3
    rw [List.map_eq_nil_iff.1 e3]; rfl
  · rw [hv] at e2
    cases e2
    rw [List.length_map] at hj
    rcases hrow with hn | ⟨b', o', ha, hc⟩
    · rw [List.map_eq_nil_iff.1 hn] at hj; simp at hj
    · cases ha
      have hi : j / 6 < l.length := by omega
      have hr6 : j % 6 < 6 := Nat.mod_lt _ (by decide)
      obtain ⟨q, hqi⟩ : ∃ q, l[j / 6]? = some q := ⟨_, List.getElem?_eq_getElem hi⟩
      have hu : (eC q)[j % 6]? = some ((eC q)[j % 6]'(by simpa [eC, eCells] using hr6)) := List.getElem?_eq_getElem _
      have h1 := hc (j / 6) (eC q) (by rw [List.getElem?_map, hqi]; rfl) (j % 6) _ hu
      rw [show f + j / 6 * 6 + j % 6 = f + j by omega] at h1
      have hbl : b ∉ S := fun hm => hS _ hm (hb ⟨b, f, none⟩ _ _ hv fun e3 => by rw [← hl] at e3; rw [List.map_eq_nil_iff.1 e3] at hi; simp at hi)
      have h2 := cell_chg hg h1 hbl
      rw [h2] at hx
      have hux := u1.2 b f _ _ hv j (by rw [List.length_map]; exact hj) _ h1
      have hx2 : x ∈ eC q := by cases hx; exact List.getElem_mem _
      have hxe : (eC q)[j % 6]'(by simpa [eC, eCells] using hr6) = x := Option.some.inj hx
      rw [hxe] at hux
      obtain ⟨r1, r2⟩ := hq q (List.mem_of_getElem? hqi)
      simp [eC, eCells] at hx2
      rcases hx2 with rfl | rfl | rfl | rfl | rfl | rfl
      · exact UnA.not _ (by intro a n c e; cases e)
      · exact UnA.not _ (by intro a n c e; cases e)
      · exact UnA.not _ (by intro a n c e; cases e)
      · exact UnA.not _ (by intro a n c e; cases e)
      · exact key r1 hux
      · exact key r2 hux
end Go.Proofs.Ytjodgbabfhcilaa
