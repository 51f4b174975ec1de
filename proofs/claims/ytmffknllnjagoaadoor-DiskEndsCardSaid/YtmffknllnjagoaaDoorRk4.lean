/- tabellionref08: a disk of the reference in memory; New, burn. -/
import Derived.Test.YtmffknllnjagoaaDoorRk3
import Derived.Test.YtmffknllnjagoaaDoorDsk10
set_option linter.unusedSimpArgs false
set_option linter.unusedVariables false
namespace Go.Proofs.YtmffknllnjagoaaDoor
open Go Go.RowKit Go.Maps
open Go.Proofs (encStr)

/-- A deed with the reference's kind. -/
def reD (o : Dd) : Dd := { o with kind := kR o.kind }
def KOk (o : Dd) : Prop := o.kind = 119 ∨ o.kind = 99 ∨ o.kind = 114 ∨ o.kind = 110
theorem rC_eq (o : Dd) (bv : Value) : rC o bv = ddC (reD o) bv := rfl
theorem RFv.step {w w' : World} {O O' F : List Nat} {v : Value} {L : FL} (h : RFv w (O ++ F) v L) (hg : Chg O w w') (hO : ∀ t ∈ O', t ∈ O ∨ w.heap.size ≤ t) : RFv w' (O' ++ F) v L :=
  ((h.off (A' := (O ++ F) ++ O') (fun t ht => by
    rcases List.mem_append.1 ht with ht | ht
    · exact .inl ht
    · rcases hO t ht with h | h
      · exact .inl (List.mem_append_left _ h)
      · exact .inr h)).chg hg (fun t ht => .inl (List.mem_append_left _ (List.mem_append_left _ ht)))).off fun t ht => by
    rcases List.mem_append.1 ht with ht | ht
    · exact .inl (List.mem_append_right _ ht)
    · exact .inl (List.mem_append_left _ (List.mem_append_right _ ht))
theorem DDs.step {w w' : World} {O O' F : List Nat} {xs : List Dd} {cs : List Value} (h : DDs w (O ++ F) xs cs) (hg : Chg O w w') (hO : ∀ t ∈ O', t ∈ O ∨ w.heap.size ≤ t) : DDs w' (O' ++ F) xs cs :=
  ((h.off (A' := (O ++ F) ++ O') (fun t ht => by
    rcases List.mem_append.1 ht with ht | ht
    · exact .inl ht
    · rcases hO t ht with h | h
      · exact .inl (List.mem_append_left _ h)
      · exact .inr h)).chg hg (fun t ht => .inr (.inl (List.mem_append_left _ (List.mem_append_left _ ht))))).off fun t ht => by
    rcases List.mem_append.1 ht with ht | ht
    · exact .inl (List.mem_append_right _ ht)
    · exact .inl (List.mem_append_left _ (List.mem_append_right _ ht))
theorem RFv.shape {w : World} {A : List Nat} {v : Value} {L : FL} (h : RFv w A v L) : ∃ a c, v = .slice a L.length c := by
  obtain ⟨E, ⟨a, c, hv, _⟩, _, rfl⟩ := h
  exact ⟨a, c, by rw [hv]; simp [mapG]⟩
abbrev rB (fv sv ov : Value) (S : Dk) : Array Value := #[fv, sv, ov, .int .i64 S.room, .int .i64 S.fuse, .bool S.off]
/-- r is a disk S of the reference; O: the blocks that it writes (no byte lies there); F: foreign ones. -/
structure RkS (w : World) (r n M : Nat) (O F : List Nat) (S : Dk) : Prop where
  body : ∃ fv sv ov cs, Blk w r (rB fv sv ov S) 71 ∧ RFv w (O ++ F) fv S.now ∧ RFv w (O ++ F) sv S.sure ∧ w.ownsRow 0 83 5 ov S.waits.length cs ∧ DDs w (O ++ F) (S.waits.map reD) cs ∧ (∀ t ∈ ov.ownBlock.toList, t ∈ O ∧ t ≠ r)
  rO : r ∈ O
  noB : ∀ t ∈ O, NoB w t
  sep : ∀ t ∈ O, t ∉ F
  now : LenLe M S.now
  sure : LenLe M S.sure
  rnow : RisG S.now
  rsure : RisG S.sure
  lnow : S.now.length ≤ n
  lsure : S.sure.length ≤ n
  ok : ∀ o ∈ S.waits, DdOk M o ∧ KOk o
  lowO : ∀ t ∈ O, t < w.heap.size
  lowF : ∀ t ∈ F, t < w.heap.size
  fuse0 : -1 ≤ S.fuse
  fuse1 : S.fuse ≤ 9223372036854775807
  room0 : -9223372036854775808 ≤ S.room
  room1 : S.room ≤ 9223372036854775807
section
variable {w w' : World} {r n n' M : Nat} {O F T F' : List Nat} {S S' : Dk}
/-- Foreign blocks turn. -/
theorem RkS.chg (h : RkS w r n M O F S) (hg : Chg T w w') (hT : ∀ t ∈ T, t ∈ F ∨ w.heap.size ≤ t) (hF : ∀ t ∈ F', t ∈ F ∨ w.heap.size ≤ t) (hl : ∀ t ∈ F', t < w'.heap.size) : RkS w' r n M O F' S := by
  obtain ⟨⟨fv, sv, ov, cs, h1, h2, h3, h4, h5, h6⟩, k1, k2, k3, k4, k5, k6, k7, k8, k9, k10, k11, k12, k13, k14, k15, k16⟩ := h
  have hO : ∀ t ∈ O, t ∉ T := fun t ht hm => by
    rcases hT t hm with h | h
    · exact k3 t ht h
    · have := k11 t ht; omega
  have hx : ∀ t ∈ (O ++ F) ++ F', t ∈ O ++ F ∨ w.heap.size ≤ t := fun t ht => by
    rcases List.mem_append.1 ht with ht | ht
    · exact .inl ht
    · rcases hF t ht with h | h
      · exact .inl (List.mem_append_right _ h)
      · exact .inr h
  have hy : ∀ t ∈ T, t ∈ (O ++ F) ++ F' ∨ w.heap.size ≤ t := fun t ht => (hT t ht).imp (fun h => List.mem_append_left _ (List.mem_append_right _ h)) id
  have hz : ∀ t ∈ O ++ F', t ∈ (O ++ F) ++ F' ∨ w'.heap.size ≤ t := fun t ht => by
    rcases List.mem_append.1 ht with ht | ht
    · exact .inl (List.mem_append_left _ (List.mem_append_left _ ht))
    · exact .inl (List.mem_append_right _ ht)
  refine ⟨⟨fv, sv, ov, cs, h1.chg hg (hO r k1), ((h2.off hx).chg hg hy).off hz, ((h3.off hx).chg hg hy).off hz, own_chgL h4 hg (fun t ht => hO t (h6 t ht).1), ((h5.off hx).chg hg fun t ht => .inr (hy t ht)).off hz, h6⟩, k1, fun t ht => (k2 t ht).heap (hg.block t (k11 t ht) (hO t ht)), fun t ht hm => ?_, k4, k5, k6, k7, k8, k9, k10, fun t ht => Nat.lt_of_lt_of_le (k11 t ht) hg.size, hl, k13, k14, k15, k16⟩
  rcases hF t hm with h | h
  · exact k3 t ht h
  · have := k11 t ht; omega
theorem RkS.ext (h : RkS w r n M O F S) (hE : Ext w w') : RkS w' r n M O F S :=
  h.chg (T := []) (Chg.ext hE) (by simp) (fun _ ht => .inl ht) fun t ht => Nat.lt_of_lt_of_le (h.lowF t ht) hE.size
theorem RkS.more (h : RkS w r n M O F S) (hn : n ≤ n') : RkS w r n' M O F S :=
  ⟨h.body, h.rO, h.noB, h.sep, h.now, h.sure, h.rnow, h.rsure, Nat.le_trans h.lnow hn, Nat.le_trans h.lsure hn, h.ok, h.lowO, h.lowF, h.fuse0, h.fuse1, h.room0, h.room1⟩
theorem rB_noB {fv sv ov : Value} {L1 L2 : FL} {A : List Nat} {w0 : World} {m : Nat} {cs : List Value} (h : Blk w r (rB fv sv ov S) 71) (h1 : RFv w0 A fv L1) (h2 : RFv w0 A sv L2) (h3 : w0.ownsRow 0 83 5 ov m cs) : NoB w r := by
  obtain ⟨a1, c1, rfl⟩ := h1.shape
  obtain ⟨a2, c2, rfl⟩ := h2.shape
  obtain ⟨a3, c3, rfl⟩ := own_shapeL h3
  refine NoB.blk h ?_
  intro c hc y e
  simp [rB] at hc
  subst e
  simp at hc
/-- The disk turns. -/
theorem RkS.step (h : RkS w r n M O F S) (hg : Chg O w w') {fv sv ov : Value} {cs : List Value} {O' : List Nat} (hB : Blk w' r (rB fv sv ov S') 71) (hO' : O' = r :: ov.ownBlock.toList)
    (h1 : RFv w' (O' ++ F) fv S'.now) (h2 : RFv w' (O' ++ F) sv S'.sure) (h3 : w'.ownsRow 0 83 5 ov S'.waits.length cs) (h4 : DDs w' (O' ++ F) (S'.waits.map reD) cs)
    (hov : ∀ t ∈ ov.ownBlock.toList, t ≠ r ∧ (t ∈ O ∨ w.heap.size ≤ t) ∧ NoB w' t)
    (p1 : LenLe M S'.now) (p2 : LenLe M S'.sure) (p3 : RisG S'.now) (p4 : RisG S'.sure) (p5 : S'.now.length ≤ n') (p6 : S'.sure.length ≤ n') (p7 : ∀ o ∈ S'.waits, DdOk M o ∧ KOk o)
    (p8 : -1 ≤ S'.fuse) (p9 : S'.fuse ≤ 9223372036854775807) (p10 : S'.room = S.room) : RkS w' r n' M O' F S' ∧ DkTo O w w' O' := by
  subst hO'
  have hnew : ∀ t ∈ r :: ov.ownBlock.toList, t ∈ O ∨ w.heap.size ≤ t := fun t ht => by
    rcases List.mem_cons.1 ht with rfl | ht
    · exact .inl h.rO
    · exact (hov t ht).2.1
  refine ⟨⟨⟨fv, sv, ov, cs, hB, h1, h2, h3, h4, fun t ht => ⟨List.mem_cons_of_mem _ ht, (hov t ht).1⟩⟩, by simp, fun t ht => ?_, fun t ht hm => ?_, p1, p2, p3, p4, p5, p6, p7, fun t ht => ?_, fun t ht => Nat.lt_of_lt_of_le (h.lowF t ht) hg.size, p8, p9, by rw [p10]; exact h.room0, by rw [p10]; exact h.room1⟩, hg, hnew, h.lowO⟩
  · rcases List.mem_cons.1 ht with rfl | ht
    · exact rB_noB hB h1 h2 h3
    · exact (hov t ht).2.2
  · rcases hnew t ht with h0 | h0
    · exact h.sep t h0 hm
    · have := h.lowF t hm; omega
  · rcases List.mem_cons.1 ht with rfl | ht
    · exact Nat.lt_of_lt_of_le (h.lowO _ h.rO) hg.size
    · exact own_lt h3 t ht
/-- The three last cells turn. -/
theorem RkS.turn (h : RkS w r n M O F S) : ∃ fv sv ov, (∃ a l c, fv = .slice a l c ∧ l = S.now.length) ∧ (∃ a l c, ov = .slice a l c ∧ l = S.waits.length) ∧ RFv w (O ++ F) fv S.now ∧ Blk w r (rB fv sv ov S) 71 ∧
    ∀ w' rr f o, Chg [r] w w' → Blk w' r (rB fv sv ov { S with room := rr, fuse := f, off := o }) 71 → -1 ≤ f → f ≤ 9223372036854775807 → -9223372036854775808 ≤ rr → rr ≤ 9223372036854775807 →
      RkS w' r n M O F { S with room := rr, fuse := f, off := o } ∧ DkTo O w w' O := by
  obtain ⟨⟨fv, sv, ov, cs, h1, h2, h3, h4, h5, h6⟩, k1, k2, k3, k4, k5, k6, k7, k8, k9, k10, k11, k12, k13, k14, k15, k16⟩ := h
  refine ⟨fv, sv, ov, ?_, ?_, h2, h1, fun w' rr f o hg hb f0 f1 r0 r1 => ?_⟩
  · obtain ⟨a, c, e⟩ := h2.shape; exact ⟨a, _, c, e, rfl⟩
  · obtain ⟨a, c, e⟩ := own_shapeL h4; exact ⟨a, _, c, e, rfl⟩
  have hgO : Chg O w w' := hg.mono fun t ht => by simp at ht; subst ht; exact .inl k1
  have hS : ∀ t ∈ O, t ∈ O ∨ w.heap.size ≤ t := fun t ht => .inl ht
  have h2' := h2.step hgO hS
  have h3' := h3.step hgO hS
  have h4' := own_chgL h4 hg (fun t ht => by simp; exact (h6 t ht).2)
  refine ⟨⟨⟨fv, sv, ov, cs, hb, h2', h3', h4', h5.step hgO hS, h6⟩, k1, fun t ht => ?_, k3, k4, k5, k6, k7, k8, k9, k10, fun t ht => Nat.lt_of_lt_of_le (k11 t ht) hg.size, fun t ht => Nat.lt_of_lt_of_le (k12 t ht) hg.size, f0, f1, r0, r1⟩, hgO, hS, k11⟩
  by_cases e : t = r
  · subst e; exact rB_noB hb h2' h3' h4'
  · exact (k2 t ht).heap (hg.block t (k11 t ht) (by simpa using e))
end
theorem Blk.rsix {w : World} {r : Nat} {fv sv ov : Value} {S : Dk} (h : Blk w r (rB fv sv ov S) 71) : w.cell? ⟨r, 0, none⟩ = some fv ∧ w.cell? ⟨r, 1, none⟩ = some sv ∧ w.cell? ⟨r, 2, none⟩ = some ov ∧ w.cell? ⟨r, 3, none⟩ = some (.int .i64 S.room) ∧ w.cell? ⟨r, 4, none⟩ = some (.int .i64 S.fuse) ∧ w.cell? ⟨r, 5, none⟩ = some (.bool S.off) :=
  ⟨h.cell 0 rfl, h.cell 1 rfl, h.cell 2 rfl, h.cell 3 rfl, h.cell 4 rfl, h.cell 5 rfl⟩
theorem rnew_c (M : Nat) (room : Int) (F : List Nat) (w : World) (hr0 : -9223372036854775808 ≤ room) (hr1 : room ≤ 9223372036854775807) (hF : ∀ t ∈ F, t < w.heap.size) :
    Calls Tryd.prog 20 #[.int .i64 room] w fun e w' => e = .returned (dptr w.heap.size) ∧ RkS w' w.heap.size 0 M [w.heap.size] F (dkNew room) ∧ Ext w w' := by
  go_enter Tryd.func20, Tryd.ntmps20
  go_wp2_with fail
  go_ret
  have hB : Blk (w.alloc (.cells #[.slice none 0 0, .slice none 0 0, .slice none 0 0, .int .i64 room, .int .i64 (-1), .bool false] 71)) w.heap.size (rB (.slice none 0 0) (.slice none 0 0) (.slice none 0 0) (dkNew room)) 71 := Blk.new _ _ _
  refine ⟨rfl, ⟨⟨_, _, _, [], hB, RFv.nil _ _, RFv.nil _ _, World.ownsRow_nil _ _ _ _, rfl, by simp [Value.ownBlock]⟩, by simp, fun t ht => ?_, fun t ht hm => ?_, by intro p hp; simp [dkNew] at hp, by intro p hp; simp [dkNew] at hp, RisG.nil, RisG.nil, Nat.le_refl _, Nat.le_refl _, by intro p hp; simp [dkNew] at hp, ?_, ?_, by simp [dkNew], by simp [dkNew], hr0, hr1⟩, Ext.alloc _ _⟩
  · simp at ht; subst ht
    exact rB_noB hB (RFv.nil w []) (RFv.nil w []) (World.ownsRow_nil w _ _ _)
  · simp at ht; subst ht; have := hF _ hm; omega
  · intro t ht; simp at ht ⊢; omega
  · intro t ht; have := hF t ht; simp; omega
set_option maxHeartbeats 800000 in
theorem rburn_c (r n M : Nat) (O F : List Nat) (S : Dk) (w : World) (h : RkS w r n M O F S) :
    Calls Tryd.prog 52 #[dptr r] w fun e w' => e = .returned (.int .i64 (if S.fuse = 0 then 6 else 0)) ∧ RkS w' r n M O F (burnS S) ∧ DkTo O w w' O := by
  have f0 := h.room0; have f1 := h.room1; have f2 := h.fuse0; have f3 := h.fuse1
  obtain ⟨fv, sv, ov, _, _, _, hB, ht⟩ := h.turn
  obtain ⟨c0, c1, c2, c3, c4, c5⟩ := hB.rsix
  have q4 := hB.free 4; have q5 := hB.free 5
  unfold burnS
  by_cases hz : S.fuse = 0
  · rw [if_pos hz, if_pos hz]
    have R := ht (w.setCell ⟨r, 5, none⟩ (.bool true)) S.room S.fuse true (Chg.set _ _ _ (by simp)) (by simpa [rB] using hB.set 5 (.bool true)) f2 f3 f0 f1
    have HR := Lib.hid R
    rw [hz] at c4
    clear h hB ht f0 f1 f2 f3 R hz
    go_enter Tryd.func52, Tryd.ntmps52
    go_wp2_with fail
    go_ret
    exact ⟨rfl, HR.out⟩
  · rw [if_neg hz, if_neg hz]
    have hz' : (S.fuse == 0) = false := by simpa using hz
    by_cases hp : 0 < S.fuse
    · rw [if_pos hp]
      have R := ht (w.setCell ⟨r, 4, none⟩ (.int .i64 (S.fuse - 1))) S.room (S.fuse - 1) S.off (Chg.set _ _ _ (by simp)) (by simpa [rB] using hB.set 4 (.int .i64 (S.fuse - 1))) (by omega) (by omega) f0 f1
      have HR := Lib.hid R
      clear h hB ht f0 f1 f2 R hz
      go_enter Tryd.func52, Tryd.ntmps52
      go_wp2_with fail
      go_ret
      exact ⟨rfl, HR.out⟩
    · rw [if_neg hp]
      have hp' : S.fuse ≤ 0 := by omega
      have HR := Lib.hid (And.intro h (DkTo.refl (w := w) h.lowO))
      clear h hB ht f0 f1 f2 f3 hz hp
      go_enter Tryd.func52, Tryd.ntmps52
      go_wp2_with fail
      go_ret
      exact ⟨rfl, HR.out⟩
end Go.Proofs.YtmffknllnjagoaaDoor
