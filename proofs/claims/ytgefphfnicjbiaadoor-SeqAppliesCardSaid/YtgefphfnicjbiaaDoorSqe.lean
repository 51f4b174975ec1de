/- Layer 25 (seq): slices.SortFunc at slots. -/
import Derived.Test.YtgefphfnicjbiaaDoorSqj
import Derived.Test.YtgefphfnicjbiaaDoorSortf
import Derived.Test.YtgefphfnicjbiaaDoorShelf
set_option linter.unusedSimpArgs false
set_option linter.unusedVariables false
namespace Go.Proofs.YtgefphfnicjbiaaDoor
open Go Go.RowKit Go.Sort

set_option maxHeartbeats 2000000 in
theorem slotcmp_c (x y : Int × Int) (W : World) : Calls Tryd.prog 21 #[.agg #[.int .u64 x.1, .int .u64 x.2], .agg #[.int .u64 y.1, .int .u64 y.2]] W fun e w' => e = .returned (.int .i64 (cmpI x.1 y.1)) ∧ ∃ q os', w' = grow (W.drewN q) os' := by
  have hcon := fun W' => cmp_c x.1 y.1 W'
  generalize cmpI x.1 y.1 = r at hcon ⊢
  go_enter Tryd.func21, Tryd.ntmps21
  go_wp2_with fail
  refine (hcon _).mono ?_
  rintro e w' ⟨rfl, rfl⟩
  go_wp2_with fail
  go_ret
  exact ⟨rfl, 0, _, by rw [alloc_eq_grow, alloc_eq_grow, grow_grow]; rfl⟩
theorem slot_lays (blk off size : Nat) (w : World) : CmpLays Tryd.prog 21 #[] slR 2 (fun x y => cmpI x.1 y.1) blk off size w :=
  fun _ _ _ _ x y => slotcmp_c x y _
theorem slot_swo : SWO (ltOf fun x y : Int × Int => cmpI x.1 y.1) := by
  have e : ∀ x y : Int × Int, ltOf (fun x y : Int × Int => cmpI x.1 y.1) x y = decide (x.1 < y.1) := fun x y => by
    unfold ltOf cmpI
    by_cases h : x.1 < y.1
    · simp [h]
    · by_cases h2 : y.1 < x.1
      · simp [h, h2]
      · simp [h, h2]
  refine ⟨fun x => by rw [e]; simp, fun x y z => ?_, fun x y z => ?_⟩ <;> simp only [e] <;> simp <;> omega
theorem slot_lt (x y : Int × Int) : ltOf (fun x y : Int × Int => cmpI x.1 y.1) x y = decide (x.1 < y.1) := by
  unfold ltOf cmpI
  by_cases h : x.1 < y.1
  · simp [h]
  · by_cases h2 : y.1 < x.1
    · simp [h, h2]
    · simp [h, h2]
theorem slot_flat : ∀ (l : List (Int × Int)) (i : Nat), i < l.length * 2 → (l.map slR).flatten[i]? = some ((slR l[i / 2]!)[i % 2]!)
  | [], i, h => by simp at h
  | a :: r, i, h => by
    match i with
    | 0 => rfl
    | 1 => rfl
    | i + 2 =>
      have ih := slot_flat r i (by simp at h; omega)
      rw [List.map_cons, List.flatten_cons, List.getElem?_append_right (by simp [slR])]
      rw [show i + 2 - (slR a).length = i from rfl, ih, show (i + 2) / 2 = i / 2 + 1 by omega, show (i + 2) % 2 = i % 2 by omega]
      rfl
theorem flatK_slots (l : List (Int × Int)) : (flatK slR 2 l.toArray).toList = (l.map slR).flatten := by
  apply List.ext_getElem?
  intro i
  by_cases hi : i < l.length * 2
  · rw [slot_flat l i hi]
    unfold flatK
    simp [hi]
  · rw [List.getElem?_eq_none (by rw [Array.length_toList, size_flatK]; simpa using hi), List.getElem?_eq_none]
    rw [List.length_flatten]
    have : (l.map slR).map List.length = List.replicate l.length 2 := by
      rw [List.map_map]
      exact List.eq_replicate_iff.2 ⟨by simp, fun b hb => by obtain ⟨c, _, rfl⟩ := List.mem_map.1 hb; rfl⟩
    rw [this]; simp; omega
theorem putCells_take (F : Array Value) (cur : Array Value) (h : F.size ≤ cur.size) : (putCells id 0 F cur).toList.take F.size = F.toList := by
  apply List.ext_getElem?
  intro i
  rw [List.getElem?_take]
  by_cases hi : i < F.size
  · rw [if_pos hi]
    unfold putCells
    rw [Array.getElem?_toList, Array.getElem?_mapIdx, Array.getElem?_eq_getElem (by omega)]
    simp [hi]
  · rw [if_neg hi, List.getElem?_eq_none (by rw [Array.length_toList]; omega)]
theorem put_block (w : World) (g m : Nat) (cur F : Array Value) (e : TypeId) (os : Array Obj) (h : Blk w g cur e) : Blk (grow (putRow id (Sort.ahead w m) g 0 F) os) g (putCells id 0 F cur) e := by
  have hl := Blk.lt h
  unfold Blk at *
  unfold grow putRow mapBlock
  dsimp only
  rw [Array.getElem?_append_left (by simpa [Sort.ahead] using hl), Array.getElem?_modify, if_pos rfl]
  show (w.heap[g]?).map _ = _
  rw [h]
  rfl
theorem put_chg (w : World) (g m : Nat) (F : Array Value) (os : Array Obj) : Chg [g] w (grow (putRow id (Sort.ahead w m) g 0 F) os) := by
  refine ⟨rfl, rfl, rfl, by simp [grow, putRow, mapBlock, Sort.ahead], fun k hk hn => ?_⟩
  unfold grow putRow mapBlock
  dsimp only
  rw [Array.getElem?_append_left (by simpa [Sort.ahead] using hk), Array.getElem?_modify, if_neg (by intro h; exact hn (by simp [h]))]
  rfl
/-- What the sort leaves. -/
def SortOut (B : Nat) (w : World) (sv : Value) (l : List (Int × Int)) (e : Ending) (w' : World) : Prop := e = .returned (.tuple #[]) ∧ ∃ l' : List (Int × Int), l'.Perm l ∧ l'.Pairwise (fun a b => a.1 ≤ b.1) ∧
  w'.ownsRow B 49 2 sv l.length (l'.map slR).flatten ∧ Chg sv.ownBlock.toList w w'
theorem sort_c (B : Nat) (w : World) (g n cap : Nat) (l : List (Int × Int)) (h : w.ownsRow B 49 2 (.slice (some ⟨g, 0, none⟩) n cap) n (l.map slR).flatten) (hn : n = l.length) (h12 : l.length ≤ 12) :
    Calls Tryd.prog 20 #[.slice (some ⟨g, 0, none⟩) n cap, .func (.func 21) #[] #[]] w (SortOut B w (.slice (some ⟨g, 0, none⟩) n cap) l) := by
  subst hn
  have hH : HoldsK slR 2 w g 0 l.toArray := by
    intro j hj
    rw [size_flatK] at hj
    have hj' : j < l.length * 2 := by simpa using hj
    have := slot_flat l j hj'
    refine ⟨?_, by rw [Nat.zero_add]; exact own_free h j⟩
    rw [Nat.zero_add]
    have hc := own_cell h j this
    rw [hc]
    unfold flatK
    simp [hj']
  have hlt : g < w.heap.size := (h.lt g rfl).2
  have eg : ∀ args w, (callFunc 21 args).run Tryd.prog w = .ok (.enter 21 args) w := enters_of Tryd.func21 (by kernel_rfl) rfl
  have hcon := AnyQ.slices_SortFunc_small_sorted Tryd.sortSl 2 Tryd.isAgg49 Tryd.sizeOf49 slR (fun _ => rfl) (fun x v hv => by simp [slR] at hv; rcases hv with rfl | rfl <;> rfl) (fun x y => cmpI x.1 y.1) 21 #[] slot_swo g 0 cap l.toArray w eg (slot_lays g 0 _ w) hH hlt (by simpa using h12) (fun n W hn => (Tryd.bits_Len n W (by omega) (by omega)).mono fun e w' h => ⟨⟨_, h.1⟩, h.2⟩)
  refine hcon.mono ?_
  rintro e w' ⟨rfl, d', m, os, hp, hs, rfl⟩
  obtain ⟨l', rfl⟩ : ∃ l' : List (Int × Int), d' = l'.toArray := ⟨d'.toList, by simp⟩
  have hsz : l'.length = l.length := by have := hp.1; simpa using this
  refine ⟨rfl, l', ?_, ?_, ?_, put_chg _ _ _ _ _⟩
  · have := hp.2.2
    rw [show l.toArray.size = l.length from rfl] at this
    rw [Array.extract_eq_self_of_le (by simp; omega), Array.extract_eq_self_of_le (by simp)] at this
    simpa using this
  · rw [List.pairwise_iff_getElem]
    intro i j hi hj hij
    have h1 := hs i j (Nat.zero_le _) hij (by simp; omega)
    rw [slot_lt] at h1
    simp at h1
    rw [List.getElem?_eq_getElem hi, List.getElem?_eq_getElem hj] at h1
    simpa using h1
  · obtain ⟨hl, ⟨h2, _⟩ | ⟨g', cap', cur, hv, hg, hh, k1, k2, k3, k4⟩⟩ := h
    · cases h2
    cases hv
    have hF : (flatK slR 2 l'.toArray).size = l.length * 2 := by rw [size_flatK]; simp [hsz]
    refine ⟨?_, .inr ⟨g, cap, _, rfl, hg, put_block w g m cur _ _ os hh, k1, k2, ?_, ?_⟩⟩
    · rw [← flatK_slots, Array.length_toList, hF]
    · unfold putCells; simpa using k3
    · rw [← hF, putCells_take _ _ (by rw [hF, k3]; exact Nat.mul_le_mul_right 2 k1), flatK_slots]
end Go.Proofs.YtgefphfnicjbiaaDoor
