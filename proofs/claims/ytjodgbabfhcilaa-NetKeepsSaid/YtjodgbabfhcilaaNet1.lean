/- slices.Delete of one element, at [][]byte. -/
import Derived.Test.YtjodgbabfhcilaaNet0
import Derived.Deep.RegionLaw
import Derived.Deep.Upon
import Derived.Lib.SliceRun
set_option linter.unusedSimpArgs false
set_option linter.unusedVariables false
namespace Go.Proofs.Ytjodgbabfhcilaa
open Go Go.RowKit Go.Maps

theorem elS : ElT Try.prog 58 32 (.slice none 0 0) 24 := ElT.mk' Try.underlying58 (by kernel_rfl) rfl
theorem Blk.setCells {b : Nat} {e : TypeId} : ∀ (vs : List Value) (o : Nat) {w : World} {cs : List Value}, Blk w b cs.toArray e → o + vs.length ≤ cs.length → Blk (w.setCells b o vs) b (cs.take o ++ vs ++ cs.drop (o + vs.length)).toArray e
  | [], o, w, cs, h, _ => by simpa [World.setCells] using h
  | v :: r, o, w, cs, h, hl => by
    simp only [List.length_cons] at hl
    have h1 : Blk (w.setCell ⟨b, o, none⟩ v) b (cs.set o v).toArray e := by simpa using h.set o v
    have h2 := Blk.setCells r (o + 1) h1 (by rw [List.length_set]; omega)
    have ho : o < cs.length := by omega
    have a1 : (cs.set o v).take (o + 1) = cs.take o ++ [v] := by
      rw [List.take_add_one, List.getElem?_set_self ho, List.take_set_of_le (Nat.le_refl _)]; rfl
    have a2 : (cs.set o v).drop (o + 1 + r.length) = cs.drop (o + 1 + r.length) := List.drop_set_of_lt (by omega)
    have e1 : (cs.set o v).take (o + 1) ++ r ++ (cs.set o v).drop (o + 1 + r.length) = cs.take o ++ (v :: r) ++ cs.drop (o + (v :: r).length) := by
      rw [a1, a2, List.length_cons, show o + 1 + r.length = o + (r.length + 1) by omega]; simp
    rw [e1] at h2
    exact h2
theorem chg_setCells (b : Nat) : ∀ (vs : List Value) (o : Nat) (w : World), Chg [b] w (w.setCells b o vs)
  | [], _, w => Chg.refl _ w
  | v :: r, o, w => (Chg.set b o v (by simp)).trans (chg_setCells b r (o + 1) _)

theorem Blk.isSome {w : World} {b j : Nat} {e : TypeId} {cl : List Value} (h : Blk w b cl.toArray e) (hj : j < cl.length) : (w.cell? ⟨b, j, none⟩).isSome = true := by
  rw [h.cell j (show cl.toArray[j]? = some cl[j] by simp [hj])]; rfl
set_option maxRecDepth 1000000 in
set_option maxHeartbeats 4000000 in
theorem ndel_c (B g n cap k j : Nat) (xs : List Value) (w : World) (hown : w.ownsRow B 32 1 (.slice (some ⟨g, 0, none⟩) n cap) n xs) (hk : k < n) (hj : j = k + 1) (hn : n ≤ 1000) (h1 : ∀ u ∈ xs, u.oneCell' = true) :
    Calls Try.prog 28 #[.slice (some ⟨g, 0, none⟩) n cap, .int .i64 (k : Int), .int .i64 (j : Int)] w fun e w' => e = .returned (.slice (some ⟨g, 0, none⟩) (n - 1) cap) ∧ w'.ownsRow B 32 1 (.slice (some ⟨g, 0, none⟩) (n - 1) cap) (n - 1) (xs.eraseIdx k) ∧ Chg [g] w w' := by
  obtain ⟨hxl, ⟨hv, _⟩ | ⟨g', cap', cur, hv, hBg, hh, hnc, hcm, hcs, htk⟩⟩ := hown
  · cases hv
  simp only [Value.slice.injEq, Option.some.injEq, Addr.mk.injEq, and_true, true_and] at hv
  obtain ⟨rfl, rfl⟩ := hv
  simp only [Nat.mul_one] at hxl hcs htk
  obtain ⟨cl, rfl⟩ : ∃ cl : List Value, cur = cl.toArray := ⟨cur.toList, by simp⟩
  rw [List.size_toArray] at hcs
  simp only [List.toList_toArray] at htk
  have hb : Blk w g cl.toArray 32 := hh
  have hxg : ∀ t, t < n → xs[t]? = cl[t]? := fun t ht => by rw [← htk, List.getElem?_take, if_pos ht]
  obtain ⟨news, hnews⟩ : ∃ news, news = xs.drop j := ⟨_, rfl⟩
  have hlen : news.length = n - j := by rw [hnews, List.length_drop, hxl]
  have hbd : Blk w.drew g cl.toArray 32 := hb
  obtain ⟨A, hA, hsrc⟩ : ∃ A : Addr, (if cap = j then (⟨g, 0, none⟩ : Addr) else ⟨g, j, none⟩) = A ∧ Hid (∀ t u, news[t]? = some u → w.drew.cell? (A.add t) = some u) := by
    by_cases h : cap = j
    · refine ⟨_, by rw [if_pos h], fun t u hu => ?_⟩
      have h0 : news.length = 0 := by rw [hlen]; omega
      rw [List.length_eq_zero_iff.1 h0] at hu
      simp at hu
    · refine ⟨_, by rw [if_neg h], fun t u hu => ?_⟩
      have ht : t < n - j := by
        have := (List.getElem?_eq_some_iff.1 hu).1
        rwa [hlen] at this
      rw [hnews, List.getElem?_drop, hxg _ (by omega)] at hu
      rw [Addr.add_lit]
      exact hbd.cell (j + t) (by simpa using hu)
  have s1 : Hid (news.length = (n - j) * 1) := by rw [Nat.mul_one]; exact hlen
  have s2 : Hid (∀ u ∈ news, u.oneCell' = true) := fun u hu => h1 u (by rw [hnews] at hu; exact List.mem_of_mem_drop hu)
  have s3 : Hid (∀ t, t < news.length → (w.drew.cell? ⟨g, 0 + k * 1 + t, none⟩).isSome = true ∧ w.drew.frozen? ⟨g, 0 + k * 1 + t, none⟩ = false) := by
    intro t ht
    rw [hlen] at ht
    refine ⟨?_, hbd.free _⟩
    rw [Nat.mul_one, Nat.zero_add]
    exact hbd.isSome (by omega)
  obtain ⟨W1, hW1⟩ : ∃ W1, W1 = w.drew.setCells g (0 + k * 1) news := ⟨_, rfl⟩
  have hb1 : Blk W1 g (cl.take k ++ news ++ cl.drop (k + news.length)).toArray 32 := by
    rw [hW1, show 0 + k * 1 = k by omega]
    exact hbd.setCells news k (by omega)
  have hL1 : (cl.take k ++ news ++ cl.drop (k + news.length)).length = cap := by
    simp only [List.length_append, List.length_take, List.length_drop]
    omega
  obtain ⟨c1, hc1⟩ : ∃ c1, c1 = cl.take k ++ news ++ cl.drop (k + news.length) := ⟨_, rfl⟩
  rw [← hc1] at hb1 hL1
  have hcl : ∀ ty, (Builtin.clear_ #[58] ty #[.slice (some ⟨g, n - 1, none⟩) 1 (cap - (n - 1))]).run Try.prog W1 = .ok (.tuple #[]) (W1.setCells g (n - 1) [Value.slice none 0 0]) := fun ty =>
    Lib.run_clear_slice W1 58 32 ty (.slice none 0 0) Try.underlying58 (fun w => by kernel_rfl) rfl rfl g (n - 1) 1 _ (by omega) (fun t ht => hb1.isSome (by omega)) (fun t _ => hb1.free _)
  obtain ⟨W2, hW2⟩ : ∃ W2, W2 = W1.setCells g (n - 1) [Value.slice none 0 0] := ⟨_, rfl⟩
  rw [← hW2] at hcl
  have hF : Hid (W2.ownsRow B 32 1 (.slice (some ⟨g, 0, none⟩) (n - 1) cap) (n - 1) (xs.eraseIdx k) ∧ Chg [g] w W2) := by
    have hb2 : Blk W2 g (c1.take (n - 1) ++ [Value.slice none 0 0] ++ c1.drop (n - 1 + 1)).toArray 32 := by
      rw [hW2]; exact hb1.setCells [Value.slice none 0 0] (n - 1) (by simp; omega)
    refine ⟨⟨by rw [List.length_eraseIdx, if_pos (by omega)]; omega, .inr ⟨g, cap, _, rfl, hBg, hb2, by omega, hcm, ?_, ?_⟩⟩, ?_⟩
    · simp; omega
    · simp only [Nat.mul_one]
      rw [List.append_assoc, List.take_append_of_le_length (by rw [List.length_take]; omega), List.take_of_length_le (by rw [List.length_take]; omega), hc1]
      rw [List.take_append_of_le_length (by simp [hlen]; omega), List.take_of_length_le (by simp [hlen]; omega), List.eraseIdx_eq_take_drop_succ, hnews, hj]
      congr 1
      rw [← htk, List.take_take, Nat.min_eq_left (by omega)]
    · rw [hW2, hW1]
      exact (Chg.drew.trans (chg_setCells g _ _ _)).trans (chg_setCells g _ _ _)
  have hW : Hid (W1 = w.drew.setCells g (0 + k * 1) news) := hW1
  have hkc : k ≤ cap := by omega
  have hjc : j ≤ cap := by omega
  have hjn : j ≤ n := by omega
  have hkj : k ≤ j := by omega
  have hne : k ≠ j := by omega
  have hA' : (if cap = j then some (⟨g, 0, none⟩ : Addr) else some ⟨g, j, none⟩) = some A := by rw [← hA]; split <;> rfl
  have e1 : k + (n - j) = n - 1 := by omega
  have HE1 := Lib.hid e1
  have hnc1 : ¬ (cap = n - 1) := by omega
  have hn1 : n - (n - 1) = 1 := by omega
  obtain ⟨i0, hi0, _, hz1, _⟩ := elS.info
  have mixed : Try.prog.follows Departure.mixedOrders = true := by kernel_rfl
  clear hW1 hW2 hb1 hb hbd hh hxg hnews hlen hL1 hc1 hcs htk hj hA e1
  go_enter Try.func28, Try.ntmps28
  go_wp2_with fail
  go_region_law_o (refine step_append_room rfl (.tmp 22) (.tmp 25) 58 rfl 32 i0 1 Try.underlying58 hi0 hz1 g 0 k cap (by simp [Act.eval, Act.put]) A (n - j) (cap - j) news (by simp [Act.eval, Act.put]) s1.out hsrc.out s2.out (by omega) s3.out ?_; rw [← hW.out, HE1.out])
  go_wp2_with fail
  go_ret
  exact ⟨rfl, hF.out⟩
end Go.Proofs.Ytjodgbabfhcilaa
