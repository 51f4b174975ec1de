/- disk: List. -/
import Derived.Test.YtafjjladnghjbaaGreatDoorDsk10
import Derived.Test.YtafjjladnghjbaaGreatDoorIter
namespace Go.Proofs.YtafjjladnghjbaaGreatDoor
open Go Go.RowKit Go.Maps Go.Sort Go.Shelf
open Go.Proofs (encStr)

theorem sortsF (m : Nat) : AnyZ.SortsIn Tryz.prog Tryz.sorted101_ren Fence.wide m :=
  ⟨fun blk off cap ss W hH hblk hsz => callsIn_wide.2 (AnyM.slices_Sort_string Tryz.sort120 blk off cap ss W hH hblk hsz),
   fun p cap W => callsIn_wide.2 (AnyM.slices_Sort_string_none Tryz.sort120 p cap W)⟩
theorem keysF (mb : Option Nat) (W : World) : CallsIn Fence.wide 5 Tryz.prog 102 #[.map mb] W fun e w' => e = .returned (.func (.func 121) #[] #[.pointer (some ⟨W.heap.size, 0, none⟩)]) ∧ w' = W.alloc (.cells #[.map mb] 72) :=
  AnyZ.keys_in Tryz.keys102 Fence.wide 5 trivial rfl mb W
set_option maxHeartbeats 1000000 in
theorem sortedF {H : Type} (b nn : Nat) (D0 : DataW H) (R : Value → Option (DataW H × List MemPlace)) (w : World) (hown : w.ownsMap Tryz.prog 9 R b nn D0) (hmax : Maps.size D0 ≤ maxLen) (hbytes : Maps.size D0 * 16 ≤ 140737488355328) :
    CallsIn Fence.wide 5 Tryz.prog 101 #[.func (.func 121) #[] #[.pointer (some ⟨w.heap.size, 0, none⟩)]] (w.alloc (.cells #[.map (some b)] 72)) fun e w' => ∃ (v : Value) (ss : List (List UInt8)), e = .returned v ∧ ss.Perm (strKeys D0) ∧
      w'.ownsRow (w.alloc (.cells #[.map (some b)] 72)).heap.size 9 1 v ss.length ((ss.mergeSort (fun x y => decide (x ≤ y))).map encStr) ∧ (v = .slice none 0 0 ↔ ss = []) ∧ Below (w.alloc (.cells #[.map (some b)] 72)).heap.size (w.alloc (.cells #[.map (some b)] 72)) w' := by
  have hbl := hown.lt
  have hseq : SeqGives Fence.wide 2 Tryz.prog 121 #[.pointer (some ⟨w.heap.size, 0, none⟩)] encStr (fun ss => ss.Perm (strKeys D0)) (Maps.size D0) (w.alloc (.cells #[.map (some b)] 72)) :=
    AnyZ.keys_gives (ρ := Tryz.keys102_ren) { Tryz.keys102 with } Fence.wide _ trivial rfl (by omega) w.heap.size b nn D0 _ (by simp) (by simp) (by
      obtain ⟨es, clock, hb, Ft, hs, hD⟩ := hown
      exact ⟨es, clock, (Below.heap_alloc _ _ b hbl).trans hb, Ft, hs, hD⟩)
  exact AnyZ.sorted_in Tryz.sorted101 Fence.wide 5 trivial trivial trivial trivial rfl (by omega) (sortsF _) (enters_of Tryz.func120 (by kernel_rfl) rfl) 121 #[.pointer (some ⟨w.heap.size, 0, none⟩)] trivial (enters_of Tryz.func121 (by kernel_rfl) rfl) _ _ hmax hbytes _ hseq
theorem before_lt : ∀ (a b : List UInt8), bytesBefore a b = true → a < b
  | [], [], h => by simp [bytesBefore] at h
  | [], _ :: _, _ => by simp
  | _ :: _, [], h => by simp [bytesBefore] at h
  | a :: r, b :: s, h => by
    simp only [bytesBefore, Bool.or_eq_true, decide_eq_true_eq, Bool.and_eq_true, beq_iff_eq] at h
    rw [List.cons_lt_cons_iff]
    rcases h with h | ⟨h1, h2⟩
    · exact .inl h
    · exact .inr ⟨h1, before_lt r s h2⟩
theorem before_le {a b : List UInt8} (h : bytesBefore a b = true) : leB a b = true := by
  simp only [leB, decide_eq_true_eq]
  exact List.le_of_lt (before_lt a b h)
theorem Files.rising {w : World} {b n : Nat} {A : List Nat} {L : FL} (h : Files w b n A L) : RisG L := by
  obtain ⟨E, ho, _, rfl⟩ := h
  obtain ⟨es, h1, h2, _⟩ := ho.canon kS
  unfold toD at h1
  injection h1 with h1
  rw [← h1, List.pairwise_map] at h2
  unfold RisG mapG
  rw [List.pairwise_map]
  exact h2
set_option maxRecDepth 100000 in
set_option maxHeartbeats 1000000 in
/-- All files' names, in order. -/
theorem list_c (d n M : Nat) (O F : List Nat) (S : Dk) (w : World) (h : DkS w d n M O F S) (hn : n < 1000000000) :
    Calls Tryz.prog 73 #[dptr d] w fun e w' => ∃ v, e = .returned v ∧ w'.ownsRow w.heap.size 9 1 v S.now.length (S.now.map fun p => encStr p.1) ∧ Ext w w' := by
  obtain ⟨bn, bs, wv, hBd, hF, -, -⟩ := h.openNow
  have hlen := hF.len
  have hris := hF.rising
  obtain ⟨E, ho, -, hL⟩ := hF
  have hsz : Maps.size (toD (fun p : Value × List Int => p.1) E) ≤ n := ho.size_le
  have hk : strKeys (toD (fun p : Value × List Int => p.1) E) = S.now.map (·.1) := by rw [toD_keys, hL]; simp [mapG]
  have hms : (S.now.map (·.1)).mergeSort leB = S.now.map (·.1) := by
    apply List.mergeSort_of_pairwise
    rw [List.pairwise_map]
    exact hris.imp before_le
  obtain ⟨c0, c1, c2, c3, c4, c5⟩ := hBd.six
  have hmax : Maps.size (toD (fun p : Value × List Int => p.1) E) ≤ maxLen := by unfold maxLen; omega
  have hby : Maps.size (toD (fun p : Value × List Int => p.1) E) * 16 ≤ 140737488355328 := by omega
  refine (callsIn_wide (n := 6)).1 ?_
  have hfK : Fence.wide.fn 102 := trivial
  have hfS : Fence.wide.fn 101 := trivial
  have HK := Lib.hid hk; have HMS := Lib.hid hms; have HO := Lib.hid ho
  clear hBd hlen hris hL hk hms ho h hsz
  refine callsIn_of_wp Tryz.func73 rfl trivial ?_ rfl
  simp only [Tryz.ntmps73, List.size_toArray, List.length_cons, List.length_nil, Nat.reduceAdd, Nat.reduceSub, Array.replicate_succ, Array.replicate_zero, List.push_toArray, List.append_toArray, List.nil_append, List.cons_append]
  gi_wp2_with (first
    | (gi_at_call 102; refine (keysF _ _).mono ?_; rintro e w' ⟨rfl, rfl⟩)
    | (gi_at_call 101; refine (sortedF bn n _ hR w HO.out hmax hby).mono ?_; rintro e w' ⟨v, ss, rfl, hS, hrow, hnil, hb⟩))
  go_ret
  have hs : ss.mergeSort (fun x y => decide (x ≤ y)) = S.now.map (·.1) := by
    have := mergeSort_of_perm hS
    rw [HK.out, HMS.out] at this
    exact this
  rw [hs] at hrow
  have hl : ss.length = S.now.length := by
    have := hS.length_eq
    rw [HK.out] at this; simpa using this
  rw [hl] at hrow
  refine ⟨v, rfl, ?_, ((Below.refl _ w).alloc (Nat.le_refl _) _).trans (hb.mono (by simp))⟩
  have := ownsRow_base_a hrow (show w.heap.size ≤ _ by simp)
  simpa [Function.comp_def] using this
end Go.Proofs.YtafjjladnghjbaaGreatDoor
