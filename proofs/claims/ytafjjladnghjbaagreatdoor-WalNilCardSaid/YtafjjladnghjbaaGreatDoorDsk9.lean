/- disk: Sync. -/
import Derived.Test.YtafjjladnghjbaaGreatDoorDsk8
namespace Go.Proofs.YtafjjladnghjbaaGreatDoor
open Go Go.RowKit Go.Maps

def syncS (S : Dk) : Int × Dk :=
  if S.off then (6, S) else if S.fuse = 0 then (6, { S with off := true }) else (0, { burnS S with sure := S.now, waits := [] })
theorem DkS.openSync {w : World} {d n M : Nat} {O F : List Nat} {S : Dk} (h : DkS w d n M O F S) : ∃ bn bs wv, Blk w d #[.map (some bn), .map (some bs), wv, .int .i64 S.room, .int .i64 S.fuse, .bool S.off] 75 ∧
    Files w bn n (wv.ownBlock.toList ++ F) S.now ∧ Files w bs n (wv.ownBlock.toList ++ F) S.sure ∧ (∀ t ∈ wv.ownBlock.toList ++ F, t < w.heap.size) ∧ bn ≠ d ∧ bs ≠ d ∧
    (∀ w1 w2, Ext w w1 → w.heap.size < w1.heap.size → Files w1 w.heap.size n (wv.ownBlock.toList ++ F) S.now → Chg [d] w1 w2 → Blk w2 d #[.map (some bn), .map (some w.heap.size), .slice none 0 0, .int .i64 S.room, .int .i64 S.fuse, .bool S.off] 75 →
      DkS w2 d n M (O ++ [w.heap.size]) F { S with sure := S.now, waits := [] } ∧ DkTo O w w2 (O ++ [w.heap.size])) ∧
    (∀ w1 w2, Ext w w1 → w.heap.size < w1.heap.size → Files w1 w.heap.size n (wv.ownBlock.toList ++ F) S.sure → Chg [d] w1 w2 → Blk w2 d #[.map (some w.heap.size), .map (some bs), .slice none 0 0, .int .i64 S.room, .int .i64 (-1), .bool false] 75 →
      DkS w2 d n M (O ++ [w.heap.size]) F { S with now := S.sure, waits := [], fuse := -1, off := false } ∧ DkTo O w w2 (O ++ [w.heap.size])) := by
  obtain ⟨⟨bn, bs, wv, cs, h1, h2, h3, h4, h5, h6, h7, h8, h9, h10, h11, h12⟩, k1, k2, k3, k4, k5, k6, k7, k8, kF⟩ := h
  have hdN := dk_nob h1 h4
  have hdl := k4 _ h7; have hnl := k4 _ h8; have hsl := k4 _ h9
  have low : ∀ (w1 w2 : World), Ext w w1 → w.heap.size < w1.heap.size → Chg [d] w1 w2 → ∀ t ∈ O ++ [w.heap.size], t < w2.heap.size := fun w1 w2 hE hl hg t ht => by
    have := hg.size; have := hE.size
    rcases List.mem_append.1 ht with ht | ht
    · have := k4 t ht; omega
    · simp at ht; omega
  have lowF : ∀ (w1 w2 : World), Ext w w1 → Chg [d] w1 w2 → ∀ t ∈ F, t < w2.heap.size := fun w1 w2 hE hg t ht => by
    have := hg.size; have := hE.size; have := kF t ht; omega
  have hto : ∀ (w1 w2 : World), Ext w w1 → Chg [d] w1 w2 → DkTo O w w2 (O ++ [w.heap.size]) := fun w1 w2 hE hg =>
    ⟨(Chg.ext hE).trans' hg fun t ht => by simp at ht; subst ht; exact .inl h7, fun t ht => by
      rcases List.mem_append.1 ht with ht | ht
      · exact .inl ht
      · simp at ht; exact .inr (by omega), k4⟩
  have nob1 : ∀ w1, Ext w w1 → ∀ t ∈ [d], NoB w1 t ∨ t ∈ wv.ownBlock.toList ++ F ∨ w1.heap.size ≤ t := fun w1 hE t ht => by
    simp at ht; subst ht; exact .inl (hdN.heap (hE.block _ hdl))
  have hno : ∀ {w' : World}, ∀ t ∈ (Value.slice none 0 0).ownBlock.toList ++ F, t ∈ wv.ownBlock.toList ++ F ∨ w'.heap.size ≤ t := fun t ht => .inl (by simp [Value.ownBlock] at ht ⊢; exact .inr ht)
  refine ⟨bn, bs, wv, h1, h2, h3, fun t ht => (List.mem_append.1 ht).elim (fun ht => (h10 t ht).2.2.2.2) (kF t), fun e => h11 e.symm, fun e => h12 e.symm, fun w1 w2 hE hl hf hg hB => ⟨⟨⟨bn, w.heap.size, .slice none 0 0, [], hB, ?_, ?_, World.ownsRow_nil _ _ _ _, rfl, by omega, by simp [h7], by simp [h8], by simp, by simp [Value.ownBlock], h11, by omega⟩, k1, k1, by simp, low w1 w2 hE hl hg, k5, k6, k7, k8, lowF w1 w2 hE hg⟩, hto w1 w2 hE hg⟩, fun w1 w2 hE hl hf hg hB => ⟨⟨⟨w.heap.size, bs, .slice none 0 0, [], hB, ?_, ?_, World.ownsRow_nil _ _ _ _, rfl, by omega, by simp [h7], by simp, by simp [h9], by simp [Value.ownBlock], by omega, h12⟩, k2, k2, by simp, low w1 w2 hE hl hg, by simp, by simp, k7, k8, lowF w1 w2 hE hg⟩, hto w1 w2 hE hg⟩⟩
  · exact ((h2.ext hE).chg hg (by simp; exact fun e => h11 e.symm) (nob1 w1 hE)).off hno
  · exact (hf.chg hg (by simp; omega) (nob1 w1 hE)).off hno
  · exact (hf.chg hg (by simp; omega) (nob1 w1 hE)).off hno
  · exact ((h3.ext hE).chg hg (by simp; exact fun e => h12 e.symm) (nob1 w1 hE)).off hno
theorem sync_nil (w : World) : Calls Tryz.prog 47 #[.pointer none] w fun e w' => e = .returned (.int .i64 6) ∧ w' = w := by
  go_enter Tryz.func47, Tryz.ntmps47
  go_wp2_with fail
  refine (lost_nil w).mono ?_
  rintro e w1 ⟨rfl, rfl⟩
  go_wp2_with fail
  go_ret
  exact ⟨rfl, rfl⟩
set_option maxRecDepth 100000 in
set_option maxHeartbeats 1000000 in
theorem sync_c (d n M : Nat) (O F : List Nat) (S : Dk) (w : World) (h : DkS w d n M O F S) :
    Calls Tryz.prog 47 #[dptr d] w fun e w' => e = .returned (.int .i64 (syncS S).1) ∧ ∃ O', DkS w' d n M O' F (syncS S).2 ∧ DkTo O w w' O' := by
  obtain ⟨X, hX⟩ : ∃ X, X = syncS S := ⟨_, rfl⟩
  rw [← hX]
  have HX := Lib.hid hX; have HD := Lib.hid h
  clear hX h
  go_enter Tryz.func47, Tryz.ntmps47
  go_wp2_with fail
  refine (lost_c d n M O F S w HD.out).mono ?_
  rintro e w0 ⟨rfl, rfl⟩
  cases hoff : S.off with
  | true =>
    have HX2 : Hid (X = (6, S)) := Lib.hid (by rw [HX.out]; simp only [syncS, hoff, if_true])
    clear HX hoff
    go_wp2_with fail
    go_ret
    rw [HX2.out]
    exact ⟨rfl, O, HD.out, DkTo.refl HD.out.low⟩
  | false =>
    have HX2 : Hid (X = if S.fuse = 0 then (6, { S with off := true }) else (0, { burnS S with sure := S.now, waits := [] })) := Lib.hid (by rw [HX.out]; simp only [syncS, hoff, Bool.false_eq_true, if_false])
    clear HX hoff
    go_wp2_with fail
    refine (burn_c d n M O F S w0 HD.out).mono ?_
    rintro e w1 ⟨rfl, hd1, ht1⟩
    have HT1 := Lib.hid ht1
    clear ht1
    by_cases hz : S.fuse = 0
    · rw [decide_eq_false (by simpa using hz)]
      have HX3 : Hid (X = (6, { S with off := true })) := Lib.hid (by rw [HX2.out, if_pos hz])
      have HDz : Hid (DkS w1 d n M O F { S with off := true }) := Lib.hid (by have := hd1; unfold burnS at this; rwa [if_pos hz] at this)
      clear hz HX2 hd1
      go_wp2_with fail
      go_ret
      rw [HX3.out]
      exact ⟨rfl, O, HDz.out, HT1.out⟩
    · rw [decide_eq_true (by simpa using hz)]
      obtain ⟨S1, hS1⟩ : ∃ S1, S1 = burnS S := ⟨_, rfl⟩
      have hS1w : S1.now = S.now := by
        rw [hS1]; unfold burnS
        split
        · rfl
        · split <;> rfl
      have HX3 : Hid (X = (0, { S1 with sure := S1.now, waits := [] })) := Lib.hid (by rw [HX2.out, if_neg hz, ← hS1, hS1w])
      rw [← hS1] at hd1
      clear hz HX2 hS1 hS1w
      obtain ⟨bn, bs, wv, hBd, hF, -, hAl, -, -, hnext, -⟩ := hd1.openSync
      obtain ⟨c0, c1, c2, c3, c4, c5⟩ := hBd.six
      have HBD := Lib.hid hBd; have HF := Lib.hid hF; have HAL := Lib.hid hAl; have HNX := Lib.hid hnext
      clear hBd hF hAl hnext hd1
      go_wp2_with fail
      refine (mclone_c bn n (wv.ownBlock.toList ++ F) S1.now w1 HF.out HAL.out).mono ?_
      rintro e w2 ⟨rfl, hf2, hE2⟩
      have hB2 := HBD.out.ext hE2
      have hlt := hf2.lt
      have q1 := hB2.free 1; have q2 := hB2.free 2
      have k1 : w2.cell? ⟨d, 1, none⟩ = some (.map (some bs)) := hB2.cell 1 rfl
      have k2 : w2.cell? ⟨d, 2, none⟩ = some wv := hB2.cell 2 rfl
      have R := HNX.out w2 ((w2.setCell ⟨d, 1, none⟩ (.map (some w1.heap.size))).setCell ⟨d, 2, none⟩ (.slice none 0 0)) hE2 hlt hf2 ((Chg.set d 1 _ (by simp)).trans (Chg.set d 2 _ (by simp))) (by have := (hB2.set 1 (.map (some w1.heap.size))).set 2 (.slice none 0 0); simpa using this)
      have HR := Lib.hid R
      clear R hB2 hf2 hE2 hlt c0 c1 c2 c3 c4 c5
      go_wp2_with fail
      go_ret
      rw [HX3.out]
      exact ⟨rfl, _, HR.out.1, HT1.out.trans HR.out.2⟩
end Go.Proofs.YtafjjladnghjbaaGreatDoor
