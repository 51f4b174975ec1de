/- Parts of the proof, in plain words at the head of each: Sh4, Sh5. -/
import Derived.Test.YtgefphfnicjbiaaDoorSh3
import Derived.Test.YtgefphfnicjbiaaDoorBun3
set_option linter.unusedSimpArgs false
set_option linter.unusedVariables false
/- Layer 3 (sha): a text taken in, plainly: what State.Write makes. -/
namespace Go.Proofs.YtgefphfnicjbiaaDoor
open Go Go.RowKit

/-- The words behind k whole blocks of a text. -/
def absO (T : List Int) : Nat → List Wd
  | 0 => List.replicate 8 0
  | k + 1 => mixO (absO T k) (T.drop (64 * k))
/-- What is not yet mixed in, filled up with zeros. -/
def absR (T : List Int) : List Int := T.drop (64 * (T.length / 64)) ++ List.replicate (64 - T.length % 64) 0
/-- The state's cells behind the text T. -/
def absC (T : List Int) : Array Value := stC (absO T (T.length / 64)) (absR T) (T.length : Int)
theorem schW_congr {m m' : Nat → Wd} (h : ∀ t, t < 16 → m t = m' t) : ∀ t, schW m t = schW m' t := by
  intro t
  induction t using Nat.strongRecOn with
  | _ t ih =>
    by_cases ht : t < 16
    · rw [schW_lo m ht, schW_lo m' ht, h t ht]
    · obtain ⟨u, rfl⟩ : ∃ u, t = u + 16 := ⟨t - 16, by omega⟩
      rw [schW_hi, schW_hi, ih _ (by omega), ih _ (by omega), ih _ (by omega), ih _ (by omega)]
theorem rndsW_congr {K m m' : Nat → Wd} (h : ∀ t, t < 16 → m t = m' t) (s : H8) : ∀ t, rndsW K m s t = rndsW K m' s t
  | 0 => rfl
  | t + 1 => by rw [rndsW, rndsW, rndsW_congr h s t, schW_congr h t]
/-- A block's first 64 bytes alone count. -/
theorem mixO_congr {o : List Wd} {bs bs' : List Int} (h : ∀ j, j < 64 → bs.getD j 0 = bs'.getD j 0) : mixO o bs = mixO o bs' := by
  unfold mixO
  rw [rndsW_congr (m' := fun t => wdAt bs' (4 * t)) (fun t ht => by unfold wdAt; rw [h _ (by omega), h _ (by omega), h _ (by omega), h _ (by omega)])]
theorem absO_append (T B : List Int) : ∀ k, 64 * k ≤ T.length → absO (T ++ B) k = absO T k
  | 0, _ => rfl
  | k + 1, h => by
    rw [absO, absO, absO_append T B k (by omega)]
    refine mixO_congr fun j hj => ?_
    rw [List.drop_append_of_le_length (by omega), List.getD_eq_getElem?_getD, List.getD_eq_getElem?_getD, List.getElem?_append_left (by rw [List.length_drop]; omega)]
end Go.Proofs.YtgefphfnicjbiaaDoor

/- Layer 3 (sha): what a text that is written does to a state's cells, plainly. -/
namespace Go.Proofs.YtgefphfnicjbiaaDoor
open Go Go.RowKit

theorem absR_len (T : List Int) : (absR T).length = 64 := by
  unfold absR; rw [List.length_append, List.length_drop, List.length_replicate]; omega
theorem mixO_len {o : List Wd} (h : o.length = 8) (bs : List Int) : (mixO o bs).length = 8 := by
  unfold mixO; simp [List.length_zipWith, h]
theorem absO_len (T : List Int) : ∀ k, (absO T k).length = 8
  | 0 => by simp [absO]
  | k + 1 => mixO_len (absO_len T k) _
theorem stC_size {o : List Wd} {r : List Int} {n : Int} (ho : o.length = 8) (hr : r.length = 64) : (stC o r n).size = 73 := by
  unfold stC; simp [u8s, ho, hr]
theorem stC_n {o : List Wd} {r : List Int} {n : Int} (ho : o.length = 8) (hr : r.length = 64) : (stC o r n)[72]? = some (Value.int .u64 n) := by
  unfold stC
  rw [List.getElem?_toArray, List.getElem?_append_right (by simp [u8s, ho, hr])]
  simp [u8s, ho, hr]
theorem stC_rest {o : List Wd} {r : List Int} {n : Int} (ho : o.length = 8) {j : Nat} {x : Int} (hj : r[j]? = some x) : (stC o r n)[8 + j]? = some (Value.int .u8 x) := by
  have hl := (List.getElem?_eq_some_iff.1 hj).1
  unfold stC
  rw [List.getElem?_toArray, List.append_assoc, List.getElem?_append_right (by simp [ho]), List.getElem?_append_left (by simp [u8s, ho]; omega)]
  simp [u8s, ho, hj]
theorem stC_set_n {o : List Wd} {r : List Int} {n m : Int} (ho : o.length = 8) (hr : r.length = 64) : (stC o r n).setIfInBounds 72 (Value.int .u64 m) = stC o r m := by
  unfold stC
  rw [List.setIfInBounds_toArray, List.set_append_right _ _ (by simp [u8s, ho, hr])]
  simp [u8s, ho, hr]
theorem stC_set_rest {o : List Wd} {r : List Int} {n : Int} (ho : o.length = 8) {j : Nat} (hj : j < r.length) (x : Int) : (stC o r n).setIfInBounds (8 + j) (Value.int .u8 x) = stC o (r.set j x) n := by
  unfold stC
  rw [List.setIfInBounds_toArray, List.append_assoc, List.set_append_right _ _ (by simp [ho]), List.set_append_left _ _ (by simp [u8s, ho]; omega), ← List.append_assoc]
  simp [u8s, ho, List.map_set]
/-- Bytes laid over a part of what is not yet mixed in. -/
theorem stC_put {o : List Wd} {r C : List Int} {n : Int} {a : Nat} (ho : o.length = 8) (hr : r.length = 64) (h : a + C.length ≤ 64) :
    ((stC o r n).toList.take (8 + a) ++ u8s C ++ (stC o r n).toList.drop (8 + a + (u8s C).length)).toArray = stC o (r.take a ++ C ++ r.drop (a + C.length)) n := by
  have hl : (u8s C).length = C.length := by simp [u8s]
  rw [hl]
  unfold stC
  congr 1
  show List.take (8 + a) (o.map wC ++ u8s r ++ [Value.int .u64 n]) ++ u8s C ++ List.drop (8 + a + C.length) (o.map wC ++ u8s r ++ [Value.int .u64 n]) = _
  rw [List.append_assoc (o.map wC)]
  rw [List.take_append, List.drop_append, List.length_map, ho, List.take_of_length_le (by simp [ho]), List.drop_eq_nil_of_le (by simp [ho]; omega)]
  rw [show 8 + a - 8 = a by omega, show 8 + a + C.length - 8 = a + C.length by omega]
  rw [List.take_append_of_le_length (by simp [u8s, hr]; omega), List.drop_append_of_le_length (by simp [u8s, hr]; omega)]
  simp only [u8s, List.map_append, List.map_take, List.map_drop, List.append_assoc, List.nil_append]
/-- What is left of a text behind k whole blocks, over zeros. -/
theorem absR_eq (X : List Int) : absR X = X.drop (64 * (X.length / 64)) ++ List.replicate (64 - X.length % 64) 0 := rfl
theorem absR_take (T : List Int) : (absR T).take (T.length % 64) = T.drop (64 * (T.length / 64)) := by
  unfold absR; exact List.take_left' (by rw [List.length_drop]; omega)
theorem absR_drop (T : List Int) (b : Nat) : (absR T).drop (T.length % 64 + b) = List.replicate (64 - T.length % 64 - b) 0 := by
  unfold absR
  rw [← List.drop_drop, List.drop_left' (by rw [List.length_drop]; omega), List.drop_replicate]
theorem absR_more (T B : List Int) (h : T.length % 64 + B.length < 64) : (absR T).take (T.length % 64) ++ B ++ (absR T).drop (T.length % 64 + B.length) = absR (T ++ B) := by
  have hq : (T ++ B).length / 64 = T.length / 64 := by rw [List.length_append]; omega
  have hm : (T ++ B).length % 64 = T.length % 64 + B.length := by rw [List.length_append]; omega
  rw [absR_eq (T ++ B), hq, hm, List.drop_append_of_le_length (by omega), absR_take, absR_drop]
  congr 2
  omega
theorem absR_fill (T B : List Int) (h : 64 ≤ T.length % 64 + B.length) : (absR T).take (T.length % 64) ++ B.take (64 - T.length % 64) ++ (absR T).drop (T.length % 64 + (B.take (64 - T.length % 64)).length) = ((T ++ B).drop (64 * (T.length / 64))).take 64 := by
  have hd : (T.drop (64 * (T.length / 64))).length = T.length % 64 := by rw [List.length_drop]; omega
  have hb : (B.take (64 - T.length % 64)).length = 64 - T.length % 64 := by rw [List.length_take]; omega
  rw [hb, absR_take, (List.drop_eq_nil_of_le (by rw [absR_len]; omega) : (absR T).drop (T.length % 64 + (64 - T.length % 64)) = []), List.append_nil, List.drop_append_of_le_length (by omega), List.take_append, hd, List.take_of_length_le (l := T.drop (64 * (T.length / 64))) (by omega)]
theorem mixO_take (o : List Wd) (bs : List Int) : mixO o (bs.take 64) = mixO o bs := by
  refine mixO_congr fun j hj => ?_
  rw [List.getD_eq_getElem?_getD, List.getD_eq_getElem?_getD, List.getElem?_take_of_lt hj]
theorem absR_tail (X : List Int) : (List.replicate 64 (0 : Int)).take 0 ++ X.drop (64 * (X.length / 64)) ++ (List.replicate 64 (0 : Int)).drop (0 + (X.drop (64 * (X.length / 64))).length) = absR X := by
  have hd : (X.drop (64 * (X.length / 64))).length = X.length % 64 := by rw [List.length_drop]; omega
  rw [hd, List.take_zero, List.nil_append, List.drop_replicate, Nat.zero_add]
  rfl
theorem absR_even (X : List Int) (h : X.length % 64 = 0) : absR X = List.replicate 64 0 := by
  unfold absR
  rw [List.drop_eq_nil_of_le (by omega), h]; rfl
/-- A state's words of any kind are mixed with a block. -/
theorem mix_l (sb g oo n c : Nat) (o : List Wd) (ho : o.length = 8) (r : List Int) (nn : Int) (bs : List Int) (w : World) (hS : Blk w sb (stC o r nn) 82) (hn : 64 ≤ n) (hc : n ≤ c) (hc2 : c ≤ 9223372036854775807)
    (hb : ∀ j, j < 64 → w.cell? ⟨g, oo + j, none⟩ = some (.int .u8 (bs.getD j 0))) (hb8 : ∀ j, j < 64 → 0 ≤ bs.getD j 0 ∧ bs.getD j 0 ≤ 255) (hT : Tabs w) :
    Calls Tryd.prog 54 #[.pointer (some ⟨sb, 0, none⟩), .slice (some ⟨g, oo, none⟩) n c] w fun e w' => e = .returned (.tuple #[]) ∧ Chg [sb] w w' ∧ Blk w' sb (stC (mixO o bs) r nn) 82 := by
  match o, ho with
  | [o0, o1, o2, o3, o4, o5, o6, o7], _ => exact mix_c sb g oo n c o0 o1 o2 o3 o4 o5 o6 o7 r nn bs w hS hn hc hc2 hb hb8 hT
end Go.Proofs.YtgefphfnicjbiaaDoor
