/- tabellionref12.Read. -/
import Derived.Test.YtiaiicgpiiabnaaRfi
import Derived.Test.YtiaiicgpiiabnaaGetS
namespace Go.Proofs.Ytiaiicgpiiabnaa
open Go Go.RowKit

abbrev zeros : Array Value := #[.int .u64 0, .int .i64 0, .int .u64 0, .int .u64 0, .slice none 0 0, .slice none 0 0]
/-- The state of a reading call: the reader b is older; the result's block, the local's block. -/
structure RS (w W : World) (b : Nat) (v : Value) (full : List Int) (a : Nat) (e : Int) (cs : Array Value) : Prop where
  g : w.grownBy W (some b)
  hb : b < w.heap.size
  res : Blk W w.heap.size #[.int .u64 0, .int .i64 0, .int .u64 0, .int .u64 0, .slice none 0 0, .slice none 0 0] 26
  x : Blk W (w.heap.size + 1) cs 26
  r : RR W b v full a e
  ov : ∀ p n c, v = .slice (some p) n c → full ≠ [] → p.block < w.heap.size
section
variable {w W W' : World} {b : Nat} {v : Value} {full : List Int} {a a' : Nat} {e e' : Int} {cs : Array Value}
theorem RS.read (h : RS w W b v full a e cs) (hg : W.grownBy W' (some b)) (hr : RR W' b v full a' e') : RS w W' b v full a' e' cs :=
  ⟨grown_trans1 h.g hg, h.hb, h.res.grown hg (by have := h.hb; intro e; cases e; omega), h.x.grown hg (by have := h.hb; intro e; cases e; omega), hr, h.ov⟩
theorem RS.set (h : RS w W b v full a e cs) (j : Nat) (u : Value) : RS w (W.setCell ⟨w.heap.size + 1, j, none⟩ u) b v full a e (cs.setIfInBounds j u) where
  g := grown_trans h.g (grown_set W _ j u) (.inr fun i hi => by cases hi; omega)
  hb := h.hb
  res := h.res.other _ _ (by simp)
  x := h.x.set j u
  r := h.r.grownR (grown_set W _ j u) (by have := h.hb; intro e; cases e; omega) (fun p n c hv hne e => by have := h.ov p n c hv (by simpa [u8s] using hne); have := Option.some.inj e; omega)
  ov := h.ov
end

set_option maxHeartbeats 1000000 in
theorem read_ret (c0 c1 c2 c3 c4 c5 : Value) (t k cl sq no : Int) (a4 a5 : Option Addr) (n4 m4 n5 m5 : Nat) (w W : World) (tmps : Array Value) (R : Ending → World → Prop) (hr : Blk W w.heap.size #[c0, c1, c2, c3, c4, c5] 26)
    (hz : tmps[2]? = some (.pointer (some ⟨w.heap.size, 0, none⟩))) (he : tmps[3]? = some (.int .i64 no))
    (hR : ∀ F, F = (((((W.setCell ⟨w.heap.size, 0, none⟩ (.int .u64 t)).setCell ⟨w.heap.size, 1, none⟩ (.int .i64 k)).setCell ⟨w.heap.size, 2, none⟩ (.int .u64 cl)).setCell ⟨w.heap.size, 3, none⟩ (.int .u64 sq)).setCell ⟨w.heap.size, 4, none⟩ (.slice a4 n4 m4)).setCell ⟨w.heap.size, 5, none⟩ (.slice a5 n5 m5) → R (.returned (.tuple #[.agg #[.int .u64 t, .int .i64 k, .int .u64 cl, .int .u64 sq, .slice a4 n4 m4, .slice a5 n5 m5], .int .i64 no])) F) :
    bodyPost Try.prog Try.f39 R .ret { tmps := tmps, defers := [] }
      ((((((W.setCell ⟨w.heap.size, 0, none⟩ (.int .u64 t)).setCell ⟨w.heap.size, 1, none⟩ (.int .i64 k)).setCell ⟨w.heap.size, 2, none⟩ (.int .u64 cl)).setCell ⟨w.heap.size, 3, none⟩ (.int .u64 sq)).setCell ⟨w.heap.size, 4, none⟩ (.slice a4 n4 m4)).setCell ⟨w.heap.size, 5, none⟩ (.slice a5 n5 m5)) := by
  have hx' := (((((hr.set 0 (.int .u64 t)).set 1 (.int .i64 k)).set 2 (.int .u64 cl)).set 3 (.int .u64 sq)).set 4 (.slice a4 n4 m4)).set 5 (.slice a5 n5 m5)
  have h := hR _ rfl
  generalize ((((((W.setCell ⟨w.heap.size, 0, none⟩ (.int .u64 t)).setCell ⟨w.heap.size, 1, none⟩ (.int .i64 k)).setCell ⟨w.heap.size, 2, none⟩ (.int .u64 cl)).setCell ⟨w.heap.size, 3, none⟩ (.int .u64 sq)).setCell ⟨w.heap.size, 4, none⟩ (.slice a4 n4 m4)).setCell ⟨w.heap.size, 5, none⟩ (.slice a5 n5 m5)) = F at *
  simp only [List.setIfInBounds_toArray, List.set_cons_succ, List.set_cons_zero] at hx'
  obtain ⟨x0, x1, x2, x3, x4, x5⟩ := hx'.six
  refine bodyPost_ret ?_ rfl h
  simp [results, Try.results39, go_sem, hz, he, x0, x1, x2, x3, x4, x5]

theorem grown_six {w W : World} {b : Nat} (h : w.grownBy W (some b)) (u0 u1 u2 u3 u4 u5 : Value) :
    w.grownBy ((((((W.setCell ⟨w.heap.size, 0, none⟩ u0).setCell ⟨w.heap.size, 1, none⟩ u1).setCell ⟨w.heap.size, 2, none⟩ u2).setCell ⟨w.heap.size, 3, none⟩ u3).setCell ⟨w.heap.size, 4, none⟩ u4).setCell ⟨w.heap.size, 5, none⟩ u5) (some b) := by
  have g : ∀ {W' : World} (j : Nat) (u : Value), w.grownBy W' (some b) → w.grownBy (W'.setCell ⟨w.heap.size, j, none⟩ u) (some b) := fun j u h => grown_trans h (grown_set _ _ j u) (.inr fun i hi => by cases hi; exact Nat.le_refl _)
  exact g _ _ (g _ _ (g _ _ (g _ _ (g _ _ (g _ _ h)))))
theorem read_err (no : Int) (w W : World) (tmps : Array Value) (b : Nat) (v : Value) (full : List Int) (X : Except Int (Ent × List Int)) (V : Ent → Value → World → Prop) {c0 c1 c2 c3 c4 c5 : Value} (hr : Blk W w.heap.size #[c0, c1, c2, c3, c4, c5] 26) (hg : w.grownBy W (some b)) (hX : X = .error no)
    (hz : tmps[2]? = some (.pointer (some ⟨w.heap.size, 0, none⟩))) (he : tmps[3]? = some (.int .i64 no)) :
    bodyPost Try.prog Try.f39 (ROut' b v full V (fun z w' => EntV w' z ⟨0, 0, 0, 0, [], []⟩) X w) .ret { tmps := tmps, defers := [] }
      ((((((W.setCell ⟨w.heap.size, 0, none⟩ (.int .u64 0)).setCell ⟨w.heap.size, 1, none⟩ (.int .i64 0)).setCell ⟨w.heap.size, 2, none⟩ (.int .u64 0)).setCell ⟨w.heap.size, 3, none⟩ (.int .u64 0)).setCell ⟨w.heap.size, 4, none⟩ (.slice none 0 0)).setCell ⟨w.heap.size, 5, none⟩ (.slice none 0 0)) := by
  subst hX
  refine read_ret _ _ _ _ _ _ 0 0 0 0 no none none 0 0 0 0 w W tmps _ hr hz he fun F hF => ?_
  subst hF
  exact ⟨grown_six hg _ _ _ _ _ _, _, rfl, _, _, rfl, Rd.nil _, Rd.nil _⟩
structure RSD (w W : World) (b : Nat) (cs : Array Value) : Prop where
  g : w.grownBy W (some b)
  res : Blk W w.heap.size #[.int .u64 0, .int .i64 0, .int .u64 0, .int .u64 0, .slice none 0 0, .slice none 0 0] 26
  x : Blk W (w.heap.size + 1) cs 26
theorem RS.readD {w W W' : World} {b : Nat} {v : Value} {full : List Int} {a : Nat} {e : Int} {cs : Array Value} (h : RS w W b v full a e cs) (hg : W.grownBy W' (some b)) : RSD w W' b cs :=
  ⟨grown_trans1 h.g hg, h.res.grown hg (by have := h.hb; intro e; cases e; omega), h.x.grown hg (by have := h.hb; intro e; cases e; omega)⟩
theorem RSD.setx {w W : World} {b : Nat} {cs : Array Value} (h : RSD w W b cs) (j : Nat) (u : Value) : RSD w (W.setCell ⟨w.heap.size + 1, j, none⟩ u) b (cs.setIfInBounds j u) :=
  ⟨grown_trans h.g (grown_set W _ j u) (.inr fun i hi => by cases hi; omega), h.res.other _ _ (by simp), h.x.set j u⟩
theorem rdByte_err' {bs : List Int} {e : Int} (h : rdByte bs = .error e) : e ≠ 0 := by
  cases bs with
  | nil => simp [rdByte] at h; omega
  | cons k r => simp [rdByte] at h
theorem rdRaw_err' {most : Int} {bs : List Int} {e : Int} (h : rdRaw most bs = .error e) : e ≠ 0 := by
  simp only [rdRaw] at h
  split at h
  · rename_i heq; cases h; exact rdNum_err' heq
  · split at h
    · cases h; decide
    · split at h
      · cases h; decide
      · cases h
theorem rdIds_err' : ∀ (n : Nat) (acc bs : List Int) (e : Int), rdIds n acc bs = .error e → e ≠ 0
  | 0, _, _, _, h => by simp [rdIds] at h
  | n + 1, acc, bs, e, h => by
    simp only [rdIds] at h
    split at h
    · rename_i heq; cases h; exact rdNum_err' heq
    · split at h
      · exact rdIds_err' n _ _ _ h
      · cases h; decide
theorem idsB_err' {bs : List Int} {e : Int} (h : idsB bs = .error e) : e ≠ 0 := by
  simp only [idsB] at h
  split at h
  · rename_i heq; cases h; exact rdNum_err' heq
  · split at h
    · cases h; decide
    · exact rdIds_err' _ _ _ _ h
theorem read_ok (t k cl sq : Int) (a4 a5 : Option Addr) (n4 m4 n5 m5 : Nat) (d ms : List Int) (w W : World) (tmps : Array Value) (b : Nat) (v : Value) (full : List Int) (a2 : Nat) (X : Except Int (Ent × List Int)) (hX : X = .ok (⟨t, k, cl, sq, d, ms⟩, full.drop a2)) {cs : Array Value} (h : RS w W b v full a2 0 cs)
    (h4 : NewV w W (.slice a4 n4 m4) (u8s d)) (h5 : NewV w W (.slice a5 n5 m5) (u64s ms))
    (hz : tmps[2]? = some (.pointer (some ⟨w.heap.size, 0, none⟩))) (he : tmps[3]? = some (.int .i64 0)) :
    bodyPost Try.prog Try.f39 (ROut' b v full (fun x y w' => EntV w' y x ∧ EntNew w y) (fun z w' => EntV w' z ⟨0, 0, 0, 0, [], []⟩) X w) .ret { tmps := tmps, defers := [] }
      ((((((W.setCell ⟨w.heap.size, 0, none⟩ (.int .u64 t)).setCell ⟨w.heap.size, 1, none⟩ (.int .i64 k)).setCell ⟨w.heap.size, 2, none⟩ (.int .u64 cl)).setCell ⟨w.heap.size, 3, none⟩ (.int .u64 sq)).setCell ⟨w.heap.size, 4, none⟩ (.slice a4 n4 m4)).setCell ⟨w.heap.size, 5, none⟩ (.slice a5 n5 m5)) := by
  subst hX
  refine read_ret _ _ _ _ _ _ t k cl sq 0 a4 a5 n4 m4 n5 m5 w W tmps _ h.res hz he fun F hF => ?_
  subst hF
  have hb := h.hb
  have g : ∀ {W' : World} (j : Nat) (u : Value), RR W' b v full a2 0 → RR (W'.setCell ⟨w.heap.size, j, none⟩ u) b v full a2 0 := fun j u hr => hr.grownR (grown_set _ _ j u) (by intro e; have := Option.some.inj e; omega) (fun p n c hv hne e => by have := h.ov p n c hv (by simpa [u8s] using hne); have := Option.some.inj e; omega)
  have q : ∀ {W' : World} {y : Value} {cs : List Value} (j : Nat) (u : Value), NewV w W' y cs → NewV w (W'.setCell ⟨w.heap.size, j, none⟩ u) y cs := fun j u hn => hn.set (by omega) j u
  exact ⟨grown_six h.g _ _ _ _ _ _, _, a2, rfl, ⟨⟨_, _, rfl, (q _ _ (q _ _ (q _ _ (q _ _ (q _ _ (q _ _ h4)))))).1, (q _ _ (q _ _ (q _ _ (q _ _ (q _ _ (q _ _ h5)))))).1⟩, ⟨_, _, _, _, _, _, rfl, (fun a n c h => Nat.le_trans (Nat.le_add_right _ _) (h4.2 a n c h)), (fun a n c h => Nat.le_trans (Nat.le_add_right _ _) (h5.2 a n c h))⟩⟩, g _ _ (g _ _ (g _ _ (g _ _ (g _ _ (g _ _ h.r))))), rfl⟩
theorem rdEnt_k3 {bs r1 r2 : List Int} {t : Int} (h1 : rdNum bs = .ok (t, r1)) (ht : ¬ (t < 1 ∨ 4611686018427387904 < t)) (h2 : rdByte r1 = .ok (3, r2)) :
    rdEnt bs = match idsB r2 with | .error e => .error e | .ok (ms, r) => .ok (⟨t, 3, 0, 0, [], ms⟩, r) := by
  simp only [rdEnt, h1, if_neg ht, h2, idsB]
  simp only [show ¬ ((3 : Int) = 1) by decide, show ¬ ((3 : Int) = 2) by decide, if_false, if_true]
  cases h3 : rdNum r2 with
  | error e => rfl
  | ok y =>
    obtain ⟨n, r⟩ := y
    simp only []
    split
    · rfl
    · rfl
end Go.Proofs.Ytiaiicgpiiabnaa
