/- disk: wait. -/
import Derived.Test.YtafjjladnghjbaaGreatDoorDsk5
import Derived.Maps.AppendAt
namespace Go.Proofs.YtafjjladnghjbaaGreatDoor
open Go Go.RowKit Go.Maps

theorem own_lt {w : World} {base : Nat} {e : TypeId} {size : Nat} {v : Value} {n : Nat} {xs : List Value} (h : w.ownsRow base e size v n xs) : ∀ t ∈ v.ownBlock.toList, t < w.heap.size := by
  intro t ht
  rcases h.2 with ⟨rfl, _⟩ | ⟨g, cap, cur, rfl, _, hh, _⟩
  · simp [Value.ownBlock] at ht
  · simp [Value.ownBlock] at ht; subst ht; exact (Array.getElem?_eq_some_iff.1 hh).1
theorem own_chgL {S : List Nat} {w w' : World} {base : Nat} {e : TypeId} {size : Nat} {v : Value} {n : Nat} {xs : List Value} (h : w.ownsRow base e size v n xs) (hg : Chg S w w') (hS : ∀ t ∈ v.ownBlock.toList, t ∉ S) : w'.ownsRow base e size v n xs := by
  obtain ⟨e1, e2⟩ := h
  refine ⟨e1, ?_⟩
  rcases e2 with e2 | ⟨g, cap, cur, rfl, hg', hh, r⟩
  · exact .inl e2
  · have hl := (Array.getElem?_eq_some_iff.1 hh).1
    exact .inr ⟨g, cap, cur, rfl, hg', (hg.block g hl (hS g (by simp [Value.ownBlock]))).trans hh, r⟩
theorem own_shapeL {w : World} {base : Nat} {e : TypeId} {size : Nat} {v : Value} {n : Nat} {xs : List Value} (h : w.ownsRow base e size v n xs) : ∃ a c, v = .slice a n c := by
  rcases h.2 with ⟨h1, h0⟩ | ⟨g, cap, cur, hv, _⟩
  · exact ⟨_, _, by rw [h1, h0]⟩
  · exact ⟨_, _, hv⟩
/-- The files as they are, opened. -/
theorem DkS.openNow {w : World} {d n M : Nat} {O F : List Nat} {S : Dk} (h : DkS w d n M O F S) : ∃ bn bs wv, Blk w d #[.map (some bn), .map (some bs), wv, .int .i64 S.room, .int .i64 S.fuse, .bool S.off] 75 ∧
    Files w bn n (wv.ownBlock.toList ++ F) S.now ∧ (∀ t ∈ wv.ownBlock.toList ++ F, t < w.heap.size) ∧
    ∀ w' n' L', n ≤ n' → Files w' bn n' (wv.ownBlock.toList ++ F) L' → Chg [bn] w w' → LenLe M L' → DkS w' d n' M O F { S with now := L' } ∧ DkTo O w w' O := by
  obtain ⟨⟨bn, bs, wv, cs, h1, h2, h3, h4, h5, h6, h7, h8, h9, h10, h11, h12⟩, k1, k2, k3, k4, k5, k6, k7, k8, k9⟩ := h
  refine ⟨bn, bs, wv, h1, h2, fun t ht => (List.mem_append.1 ht).elim (fun ht => (h10 t ht).2.2.2.2) (k9 t), fun w' n' L' hn hf hg hL => ⟨⟨⟨bn, bs, wv, cs, h1.chg hg (by simp; exact h11), hf, (h3.mono hn).chg hg (by simp; exact fun e => h6 e.symm) ?_, own_chgL h4 hg (fun t ht => by simp; exact (h10 t ht).2.2.1), h5.chg hg ?_, h6, h7, h8, h9, fun t ht => ?_, h11, h12⟩, hL, k2, k3, fun t ht => Nat.lt_of_lt_of_le (k4 t ht) hg.size, k5, k6, k7, k8, fun t ht => Nat.lt_of_lt_of_le (k9 t ht) hg.size⟩, hg.mono (fun t ht => by simp at ht; subst ht; exact .inl h8), fun t ht => .inl ht, k4⟩⟩
  · intro t ht; simp at ht; subst ht; exact .inl h2.noB
  · intro t ht; simp at ht; subst ht; exact .inl h2.noB
  · obtain ⟨q1, q2, q3, q4, q5⟩ := h10 t ht; exact ⟨q1, q2, q3, q4, Nat.lt_of_lt_of_le q5 hg.size⟩
/-- The waits, opened: one more. -/
theorem DkS.openWaits {w : World} {d n M : Nat} {O F : List Nat} {S : Dk} (h : DkS w d n M O F S) : ∃ bn bs wv cs, Blk w d #[.map (some bn), .map (some bs), wv, .int .i64 S.room, .int .i64 S.fuse, .bool S.off] 75 ∧
    w.ownsRow 0 92 5 wv S.waits.length cs ∧ (∀ t ∈ wv.ownBlock.toList, t ∈ O ∧ t ≠ d ∧ t < w.heap.size) ∧
    ∀ o bv w9 v9 w10, DdOk M o → Rd w bv (u8s o.b) → OffL bv (u8s o.b) (O ++ F) → Chg wv.ownBlock.toList w w9 → w9.ownsRow 0 92 5 v9 (S.waits.length + 1) (cs ++ ddC o bv) → (v9.ownBlock = wv.ownBlock ∨ ∃ q, v9.ownBlock = some q ∧ w.heap.size ≤ q) →
      Chg [d] w9 w10 → Blk w10 d #[.map (some bn), .map (some bs), v9, .int .i64 S.room, .int .i64 S.fuse, .bool S.off] 75 →
      DkS w10 d n M (O ++ v9.ownBlock.toList) F { S with waits := S.waits ++ [o] } ∧ DkTo O w w10 (O ++ v9.ownBlock.toList) := by
  obtain ⟨⟨bn, bs, wv, cs, h1, h2, h3, h4, h5, h6, h7, h8, h9, h10, h11, h12⟩, k1, k2, k3, k4, k5, k6, k7, k8, kF⟩ := h
  refine ⟨bn, bs, wv, cs, h1, h4, fun t ht => ⟨(h10 t ht).1, (h10 t ht).2.1, (h10 t ht).2.2.2.2⟩, fun o bv w9 v9 w10 hok hrd hof hg hw hq hg2 hB => ?_⟩
  have hC : Chg (wv.ownBlock.toList ++ [d]) w w10 := (hg.mono (fun t ht => .inl (by simp at ht ⊢; exact .inl ht))).trans (hg2.mono (fun t ht => .inl (by simp at ht ⊢; exact .inr ht)))
  have hdN := dk_nob h1 h4
  have hT : ∀ t ∈ wv.ownBlock.toList ++ [d], NoB w t ∨ t ∈ wv.ownBlock.toList ∨ w.heap.size ≤ t := fun t ht => by
    rcases List.mem_append.1 ht with ht | ht
    · exact .inr (.inl ht)
    · simp at ht; subst ht; exact .inl hdN
  have hA : ∀ t ∈ v9.ownBlock.toList, t ∈ wv.ownBlock.toList ∨ w.heap.size ≤ t := fun t ht => by
    rcases hq with hq | ⟨q, hq, hl⟩
    · rw [hq] at ht; exact .inl ht
    · rw [hq] at ht; simp at ht; subst ht; exact .inr hl
  have hA2 : ∀ t ∈ (wv.ownBlock.toList ++ F) ++ v9.ownBlock.toList, t ∈ wv.ownBlock.toList ++ F ∨ w.heap.size ≤ t := fun t ht => by
    rcases List.mem_append.1 ht with h | h
    · exact .inl h
    · exact (hA t h).imp (List.mem_append_left _) id
  have hT2 : ∀ t ∈ wv.ownBlock.toList ++ [d], NoB w t ∨ t ∈ (wv.ownBlock.toList ++ F) ++ v9.ownBlock.toList ∨ w.heap.size ≤ t := fun t ht => by
    rcases hT t ht with h | h | h
    · exact .inl h
    · exact .inr (.inl (List.mem_append_left _ (List.mem_append_left _ h)))
    · exact .inr (.inr h)
  have hT3 : ∀ t ∈ wv.ownBlock.toList ++ [d], NoB w t ∨ t ∈ (O ++ F) ++ v9.ownBlock.toList ∨ w.heap.size ≤ t := fun t ht => by
    rcases hT t ht with h | h | h
    · exact .inl h
    · exact .inr (.inl (List.mem_append_left _ (List.mem_append_left _ (h10 t h).1)))
    · exact .inr (.inr h)
  have hA3 : ∀ {w' : World}, ∀ t ∈ v9.ownBlock.toList ++ F, t ∈ (wv.ownBlock.toList ++ F) ++ v9.ownBlock.toList ∨ w'.heap.size ≤ t := fun t ht => .inl (by
    rcases List.mem_append.1 ht with h | h
    · exact List.mem_append_right _ h
    · exact List.mem_append_left _ (List.mem_append_right _ h))
  have hlt := own_lt hw
  have hne : ∀ t ∈ v9.ownBlock.toList, t ≠ d ∧ t ≠ bn ∧ t ≠ bs := fun t ht => by
    have a1 := k4 _ h7; have a2 := k4 _ h8; have a3 := k4 _ h9
    rcases hA t ht with h | h
    · exact ⟨(h10 t h).2.1, (h10 t h).2.2.1, (h10 t h).2.2.2.1⟩
    · omega
  have hbn : bn ∉ wv.ownBlock.toList ++ [d] := fun hm => by
    rcases List.mem_append.1 hm with hm | hm
    · exact (h10 _ hm).2.2.1 rfl
    · simp at hm; exact h11 hm.symm
  have hbs : bs ∉ wv.ownBlock.toList ++ [d] := fun hm => by
    rcases List.mem_append.1 hm with hm | hm
    · exact (h10 _ hm).2.2.2.1 rfl
    · simp at hm; exact h12 hm.symm
  have hO9 : ∀ t ∈ v9.ownBlock.toList, t ∈ O ++ F ∨ w.heap.size ≤ t := fun t ht => (hA t ht).imp (fun h => List.mem_append_left _ (h10 t h).1) id
  refine ⟨⟨⟨bn, bs, v9, cs ++ ddC o bv, hB, ((h2.off hA2).chg hC hbn hT2).off hA3, ((h3.off hA2).chg hC hbs hT2).off hA3, ?_, ?_, h6, by simp [h7], by simp [h8], by simp [h9], fun t ht => ⟨by simp at ht ⊢; exact .inr ht, (hne t ht).1, (hne t ht).2.1, (hne t ht).2.2, Nat.lt_of_lt_of_le (hlt t ht) hg2.size⟩, h11, h12⟩, k1, k2, ?_, ?_, k5, k6, k7, k8, fun t ht => Nat.lt_of_lt_of_le (kF t ht) hC.size⟩, ?_, ?_, k4⟩
  · simpa using own_chgL hw hg2 fun t ht => by simp; exact (hne t ht).1
  · exact DDs.push (((h5.off hA2).chg hC hT2).off hA3) ((hrd.chgA (A := (O ++ F) ++ v9.ownBlock.toList) (hof.more hrd (fun t ht => by rcases List.mem_append.1 ht with h | h; exact .inl h; exact hO9 t h)) hC) hT3) (hof.more hrd fun t ht => by rcases List.mem_append.1 ht with h | h; exact hO9 t h; exact .inl (List.mem_append_right _ h))
  · intro o' ho'
    rcases List.mem_append.1 ho' with h | h
    · exact k3 o' h
    · simp at h; subst h; exact hok
  · intro t ht
    rcases List.mem_append.1 ht with ht | ht
    · exact Nat.lt_of_lt_of_le (k4 t ht) hC.size
    · exact Nat.lt_of_lt_of_le (hlt t ht) hg2.size
  · exact hC.mono fun t ht => by
      rcases List.mem_append.1 ht with ht | ht
      · exact .inl (h10 t ht).1
      · simp at ht; subst ht; exact .inl h7
  · intro t ht
    rcases List.mem_append.1 ht with ht | ht
    · exact .inl ht
    · rcases hA t ht with h | h
      · exact .inl (h10 t h).1
      · exact .inr h

def waitS (S : Dk) (o : Dd) : Int × Dk :=
  if S.fuse = 0 then (6, { S with off := true })
  else (0, { burnS S with now := doF o S.now, waits := S.waits ++ [o] })
theorem infoDd : (Tryz.prog.info? 92).map (fun i => (i.zero, i.size, i.bytes)) = some (some (.agg #[.int .i64 0, .string ⟨#[]⟩, .string ⟨#[]⟩, .int .i64 0, .slice none 0 0]), 5, 72) := by kernel_rfl
/-- The new deed's cells. -/
def NewD (B : Nat) (cs : Array Value) (v : Value) (w : World) : Prop := ∃ g, v = .slice (some ⟨g, 0, none⟩) 1 1 ∧ B ≤ g ∧ Blk w g cs 92
theorem newD_chg {S : List Nat} {B : Nat} {cs : Array Value} {v : Value} {w w' : World} (h : NewD B cs v w) (hg : Chg S w w') (hS : ∀ t ∈ S, t < B) : NewD B cs v w' := by
  obtain ⟨g, hv, hb, hB⟩ := h
  exact ⟨g, hv, hb, hB.chg hg fun hm => by have := hS _ hm; omega⟩
def OwnD (w0 : Nat) (o : Option Nat) (n : Nat) (cs : List Value) (v : Value) (w : World) : Prop := w.ownsRow 0 92 5 v n cs ∧ (v.ownBlock = o ∨ ∃ q, v.ownBlock = some q ∧ w0 ≤ q)

set_option maxRecDepth 100000 in
set_option maxHeartbeats 4000000 in
theorem wait_c (d n M : Nat) (O F : List Nat) (S : Dk) (o : Dd) (bv : Value) (w : World) (h : DkS w d n M O F S) (hn : n < 1000000000) (hwl : S.waits.length < 1000000000) (ok : DdOk M o) (hbv : Rd w bv (u8s o.b)) (hof : OffL bv (u8s o.b) (O ++ F)) (hM : M ≤ 70368744177664) :
    Calls Tryz.prog 86 #[dptr d, ddV o bv] w fun e w' => e = .returned (.int .i64 (waitS S o).1) ∧ ∃ O', DkS w' d (n + 1) M O' F (waitS S o).2 ∧ DkTo O w w' O' := by
  obtain ⟨X, hX⟩ : ∃ X, X = waitS S o := ⟨_, rfl⟩
  rw [← hX]
  have hlow := h.low
  obtain ⟨W, hW⟩ : ∃ W, W = w.alloc (.cells (ddC o bv).toArray 92) := ⟨_, rfl⟩
  have hE : Ext w W := by rw [hW]; exact Ext.alloc _ _
  have hB : Blk W w.heap.size (ddC o bv).toArray 92 := by rw [hW]; exact Blk.new _ _ _
  have hD : DkS W d n M O F S := h.ext hE
  have HX := Lib.hid hX; have HE := Lib.hid hE; have HB := Lib.hid hB; have HD := Lib.hid hD; have HOK := Lib.hid ok; have HBV := Lib.hid hbv; have HOF := Lib.hid hof; have HLOW := Lib.hid hlow
  clear hX hE hB hD ok hbv hof hlow h
  unfold ddV
  go_enter Tryz.func86, Tryz.ntmps86
  go_upto_region 1 with fail
  have hW' : w.alloc (.cells #[.int .i64 o.kind, .string o.name, .string o.to, .int .i64 o.n, bv] 92) = W := hW.symm
  rw [hW']
  clear hW hW'
  go_wp2_with fail
  refine (burn_c d n M O F S W HD.out).mono ?_
  rintro e w1 ⟨rfl, hd1, ht1⟩
  have hpO : w.heap.size ∉ O := fun hm => by have := HLOW.out _ hm; omega
  have HB1 := Lib.hid (HB.out.chg ht1.1 hpO)
  have hto1 : DkTo O w w1 O := (DkTo.ext HE.out HLOW.out).trans ht1
  have HD1 := Lib.hid hd1; have HT1 := Lib.hid hto1
  have HBV1 := Lib.hid (HBV.out.chg hto1.1 (fun a n c hv hne hm => HOF.out a n c hv hne (List.mem_append_left _ hm)))
  clear hd1 ht1 hto1
  by_cases hz : S.fuse = 0
  · rw [decide_eq_false (by simpa using hz)]
    have HX2 : Hid (X = (6, { S with off := true })) := Lib.hid (by rw [HX.out]; simp only [waitS, if_pos hz])
    have HDz : Hid (DkS w1 d n M O F { S with off := true }) := Lib.hid (by have := HD1.out; unfold burnS at this; rwa [if_pos hz] at this)
    clear hz HX HD1
    go_wp2_with fail
    go_ret
    rw [HX2.out]
    exact ⟨rfl, O, HDz.out.more (Nat.le_succ n), HT1.out⟩
  · rw [decide_eq_true (by simpa using hz)]
    have HX2 : Hid (X = (0, { burnS S with now := doF o S.now, waits := S.waits ++ [o] })) := Lib.hid (by rw [HX.out]; simp only [waitS, if_neg hz])
    clear hz HX
    obtain ⟨S1, hS1⟩ : ∃ S1, S1 = burnS S := ⟨_, rfl⟩
    have hS1w : S1.waits = S.waits ∧ S1.now = S.now := by
      rw [hS1]; unfold burnS
      split
      · exact ⟨rfl, rfl⟩
      · split <;> exact ⟨rfl, rfl⟩
    rw [← hS1] at HX2 HD1
    have HX3 : Hid (X = (0, { S1 with now := doF o S1.now, waits := S1.waits ++ [o] })) := Lib.hid (by rw [HX2.out, hS1w.1, hS1w.2])
    rw [← hS1w.1] at hwl
    clear hS1w hS1 HX2
    obtain ⟨bn, bs, wv, hBd, hF, hAl, hnext⟩ := HD1.out.openNow
    obtain ⟨c0, c1, c2, c3, c4, c5⟩ := hBd.six
    obtain ⟨e0, e1, e2, e3, e4⟩ : w1.cell? ⟨w.heap.size, 0, none⟩ = some (.int .i64 o.kind) ∧ w1.cell? ⟨w.heap.size, 1, none⟩ = some (.string o.name) ∧ w1.cell? ⟨w.heap.size, 2, none⟩ = some (.string o.to) ∧ w1.cell? ⟨w.heap.size, 3, none⟩ = some (.int .i64 o.n) ∧ w1.cell? ⟨w.heap.size, 4, none⟩ = some bv := ⟨HB1.out.cell 0 rfl, HB1.out.cell 1 rfl, HB1.out.cell 2 rfl, HB1.out.cell 3 rfl, HB1.out.cell 4 rfl⟩
    have HBD := Lib.hid hBd; have HF := Lib.hid hF; have HAL := Lib.hid hAl; have HNX := Lib.hid hnext
    clear hBd hF hAl hnext c1 c2 c3 c4 c5
    go_upto_region 3 with fail
    apply Mono.region1 5 Ext [.is _, .is _, .is _, .is _, .is _] (by kernel_rfl) Ext.refl (fun _ _ _ => Ext.trans) (by kernel_rfl) rfl rfl trivial
    focus
      iterate 5 (apply Mono.step_is; (· refine Mono.obl_mk fun w3 hE3 _ K hK => ?_; (replace c0 := hE3.cell (show w1.drew.cell? _ = _ from c0)); (replace e0 := hE3.cell (show w1.drew.cell? _ = _ from e0)); (replace e1 := hE3.cell (show w1.drew.cell? _ = _ from e1)); (replace e2 := hE3.cell (show w1.drew.cell? _ = _ from e2)); (replace e3 := hE3.cell (show w1.drew.cell? _ = _ from e3)); (replace e4 := hE3.cell (show w1.drew.cell? _ = _ from e4)); clear hE3; go_wp2_with fail; simp only [Act.put, List.setIfInBounds_toArray, List.set_cons_succ, List.set_cons_zero] at hK; exact hK _ _ (Ext.refl _) (Mono.is_rfl _ _)); simp only [Act.put, List.setIfInBounds_toArray, List.set_cons_succ, List.set_cons_zero])
      refine Mono.step_end fun w3 hE3 hkn => ?_
      simp only [List.drop_succ_cons, List.drop_zero]
      clear hkn
      have hE3' : Ext w1 w3 := (Ext.drew _).trans hE3
      have HE3 := Lib.hid hE3'
      clear hE3 hE3' c0 e0 e1 e2 e3 e4
      go_wp2_with fail
      refine (do_c bn n M (wv.ownBlock.toList ++ F) S1.now o bv w3 (fun t ht => Nat.lt_of_lt_of_le (HAL.out t ht) HE3.out.size) (HF.out.ext HE3.out) hn HOK.out (HBV1.out.ext HE3.out) HD1.out.now hM).mono ?_
      rintro en w4 ⟨rfl, hf4, hc4⟩
      have hC4 : Chg [bn] w1 w4 := (Chg.ext HE3.out).trans hc4
      obtain ⟨hd4, ht4⟩ := HNX.out w4 (n + 1) _ (Nat.le_succ n) hf4 hC4 (HD1.out.now.do HOK.out)
      have hto4 := HT1.out.trans ht4
      have hB4 := HB1.out.chg hC4 (by simp; intro e; have := HF.out.lt; have h1 := HF.out.noB; exact absurd (HB1.out.cell 4 rfl) (by rw [e]; simp [World.cell?]; obtain ⟨E, ⟨es, clock, hb, _⟩, _⟩ := HF.out; rw [hb]; simp))
      have HB4 := Lib.hid hB4; have HT4 := Lib.hid hto4
      have HBV4 := Lib.hid (HBV.out.chg hto4.1 (fun a n c hv hne hm => HOF.out a n c hv hne (List.mem_append_left _ hm)))
      clear hf4 hc4 hC4 ht4 hto4 hB4 HBD HF HAL HNX
      obtain ⟨S2, hS2⟩ : ∃ S2, S2 = { S1 with now := doF o S1.now } := ⟨_, rfl⟩
      have hd4' : DkS w4 d (n + 1) M O F S2 := by rw [hS2]; exact hd4
      clear hd4
      have HX4 : Hid (X = (0, { S2 with waits := S2.waits ++ [o] })) := Lib.hid (by rw [HX3.out, hS2])
      have hwl2 : S2.waits.length < 1000000000 := by rw [hS2]; exact hwl
      clear hS2 HX3 hwl HD1
      obtain ⟨bn, bs, wv, cells, hBd, hown, hwl3, hnext⟩ := hd4'.openWaits
      obtain ⟨wa, wc, rfl⟩ := own_shapeL hown
      obtain ⟨rowb, hrowb⟩ : ∃ r, r = (Value.slice wa S2.waits.length wc).ownBlock := ⟨_, rfl⟩
      rw [← hrowb] at hnext hwl3
      have hrd : d ∉ rowb.toList := fun hm => (hwl3 _ hm).2.1 rfl
      have hrp : w.heap.size ∉ rowb.toList := fun hm => HT1.out.2.2 _ (hwl3 _ hm).1 |> fun h => absurd h (by omega)
      have hrl : ∀ t ∈ rowb.toList, t < w4.heap.size := fun t ht => (hwl3 t ht).2.2
      obtain ⟨i, hi, hiz, his, hib⟩ := info_parts infoDd
      have HBD := Lib.hid hBd; have HOWN := Lib.hid hown; have HNX := Lib.hid hnext; have HROW := Lib.hid hrowb
      clear hBd hown hwl3 hnext hrowb hd4'
      go_upto_region 4 with fail
      apply Mono.region2 10 7 Ext (Chg rowb.toList) [.is _, .is _, .is _, .is _, .is _, .is _, .rel (NewD w4.heap.size (ddC o bv).toArray), .rel (OwnD w4.heap.size rowb (S2.waits.length + 1) (cells ++ ddC o bv)), .is _, .is _] (by kernel_rfl) ⟨fun _ _ h => Chg.ext h, fun _ _ _ => Ext.trans, fun _ _ _ => Chg.trans⟩ (Ext.refl _) (by kernel_rfl) rfl rfl ⟨fun v wa wb hv hE => newD_chg hv hE hrl, fun v wa wb hv hE => ⟨own_ext hv.1 hE, hv.2⟩, trivial⟩
      focus
        iterate 6 (apply Mono.step_is; (· refine Mono.obl_quiet (by decide) fun w9 hE9 _ K hK => ?_; (have cm : w9.cell? ⟨d, 2, none⟩ = some (.slice wa S2.waits.length wc) := (HBD.out.drew.chg hE9 hrd).cell 2 rfl); (have hdd := HB4.out.drew.chg hE9 hrp); (have e0 : w9.cell? ⟨w.heap.size, 0, none⟩ = some (.int .i64 o.kind) := hdd.cell 0 rfl); (have e1 : w9.cell? ⟨w.heap.size, 1, none⟩ = some (.string o.name) := hdd.cell 1 rfl); (have e2 : w9.cell? ⟨w.heap.size, 2, none⟩ = some (.string o.to) := hdd.cell 2 rfl); (have e3 : w9.cell? ⟨w.heap.size, 3, none⟩ = some (.int .i64 o.n) := hdd.cell 3 rfl); (have e4 : w9.cell? ⟨w.heap.size, 4, none⟩ = some bv := hdd.cell 4 rfl); clear hdd hE9; go_wp2_with fail; simp only [Act.put, List.setIfInBounds_toArray, List.set_cons_succ, List.set_cons_zero] at hK; exact hK _ _ (Ext.refl _) (Mono.is_rfl _ _)); simp only [Act.put, List.setIfInBounds_toArray, List.set_cons_succ, List.set_cons_zero])
        refine Mono.step_rel (Mono.obl_quiet (by decide) fun w9 hE9 _ K hK => ?_) fun v20 => ?_
        · go_wp2_with fail
          simp only [Act.put, List.setIfInBounds_toArray, List.set_cons_succ, List.set_cons_zero] at hK
          exact hK _ _ (Ext.alloc _ _) (Mono.rel_mk ⟨_, rfl, hE9.size, Blk.new _ _ _⟩)
        simp only [Act.put, List.setIfInBounds_toArray, List.set_cons_succ, List.set_cons_zero]
        refine Mono.step_rel (Mono.obl_loud fun w9 hE9 hkn K hK => ?_) fun v21 => ?_
        · obtain ⟨g5, rfl, hg5, hb5⟩ := hkn.1 (by kernel_rfl)
          refine wpList_append_own_at w9 rfl (.tmp 18) (.tmp 20) _ rfl 0 92 i _ 5 72 Tryz.underlying73 hi hiz his hib rfl (by decide) (.slice wa S2.waits.length wc) S2.waits.length cells rfl (own_ext HOWN.out.drew hE9) ⟨g5, 0, none⟩ 1 1 (ddC o bv) rfl rfl (fun i u hi => by rw [Addr.add_lit, Nat.zero_add]; exact hb5.cell i (by simpa [ddC] using hi)) (by obtain ⟨x1, x2, x3, hbs⟩ := HBV.out.shape; intro u hu; simp [ddC] at hu; rcases hu with rfl | rfl | rfl | rfl | rfl <;> first | rfl | (rw [hbs]; rfl)) (by unfold maxLen; omega) (by omega) (Nat.zero_le _) fun v' w' g1 g2 _ g4 => ?_
          simp only [Act.put, List.setIfInBounds_toArray, List.set_cons_succ, List.set_cons_zero] at hK
          rw [← HROW.out] at g2 g4
          exact hK _ _ (Chg.grown g2) (Mono.rel_mk ⟨g1, g4.imp id fun h => ⟨_, h, hE9.size⟩⟩)
        simp only [Act.put, List.setIfInBounds_toArray, List.set_cons_succ, List.set_cons_zero]
        iterate 2 (apply Mono.step_is; (· refine Mono.obl_quiet (by decide) fun w9 hE9 _ K hK => ?_; (have cm : w9.cell? ⟨d, 2, none⟩ = some (.slice wa S2.waits.length wc) := (HBD.out.drew.chg hE9 hrd).cell 2 rfl); (have hdd := HB4.out.drew.chg hE9 hrp); (have e0 : w9.cell? ⟨w.heap.size, 0, none⟩ = some (.int .i64 o.kind) := hdd.cell 0 rfl); (have e1 : w9.cell? ⟨w.heap.size, 1, none⟩ = some (.string o.name) := hdd.cell 1 rfl); (have e2 : w9.cell? ⟨w.heap.size, 2, none⟩ = some (.string o.to) := hdd.cell 2 rfl); (have e3 : w9.cell? ⟨w.heap.size, 3, none⟩ = some (.int .i64 o.n) := hdd.cell 3 rfl); (have e4 : w9.cell? ⟨w.heap.size, 4, none⟩ = some bv := hdd.cell 4 rfl); clear hdd hE9; go_wp2_with fail; simp only [Act.put, List.setIfInBounds_toArray, List.set_cons_succ, List.set_cons_zero] at hK; exact hK _ _ (Ext.refl _) (Mono.is_rfl _ _)); simp only [Act.put, List.setIfInBounds_toArray, List.set_cons_succ, List.set_cons_zero])
        refine Mono.step_end fun w9 hE9 hkn => ?_
        obtain ⟨_, ⟨ho9, hq9⟩, _⟩ := hkn
        simp only [List.drop_succ_cons, List.drop_zero]
        replace hE9 : Chg rowb.toList w4 w9 := Chg.drew.trans hE9
        obtain ⟨va, vc, hv21⟩ := own_shapeL ho9
        have hBd9 := HBD.out.chg hE9 hrd
        have fm := hBd9.free 2
        have cm : w9.cell? ⟨d, 2, none⟩ = some (.slice wa S2.waits.length wc) := hBd9.cell 2 rfl
        have R := HNX.out o bv w9 v21 (w9.setCell ⟨d, 2, none⟩ v21) HOK.out HBV4.out HOF.out hE9 ho9 hq9 (Chg.set _ _ _ (by simp)) (by simpa using hBd9.set 2 v21)
        rw [hv21] at R
        have HR := Lib.hid R
        clear R hE9 ho9 hq9 hBd9
        subst hv21
        go_wp2_with fail
        go_ret
        rw [HX4.out]
        exact ⟨rfl, _, HR.out.1, HT4.out.trans HR.out.2⟩
end Go.Proofs.YtafjjladnghjbaaGreatDoor
