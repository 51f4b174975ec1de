/- Layer 25 (seq): what Apply does, plainly; books of the call's own, turned step by step. -/
import Derived.Test.YtgefphfnicjbiaaDoorSqe
set_option linter.unusedSimpArgs false
set_option linter.unusedVariables false
namespace Go.Proofs.YtgefphfnicjbiaaDoor
open Go Go.RowKit

/-! ### slices.Insert of one client: all three ways -/
theorem ins_c (B : Nat) (w : World) (cv : Value) (n P vb : Nat) (xs : List Value) (ky : Int) (h : w.ownsRow B 47 2 cv n xs) (h1 : ∀ u ∈ xs, u.oneCell' = true) (hn : n ≤ 1000) (hP : P ≤ n) (hB : B ≤ w.heap.size)
    (hv : Blk w vb #[.int .u64 ky, .slice none 0 0] 47) (hvb : vb ∉ cv.ownBlock.toList) :
    Calls Tryd.prog 18 #[cv, .int .i64 (P : Int), .slice (some ⟨vb, 0, none⟩) 1 1] w (InsOut B w cv n (xs.take (P * 2) ++ [.int .u64 ky, .slice none 0 0] ++ xs.drop (P * 2))) := by
  by_cases hPn : P = n
  · subst hPn
    have hl := h.1
    rw [List.take_of_length_le (by omega), List.drop_of_length_le (by omega), List.append_nil]
    exact ins_end B w cv P vb xs ky h hn hv hB
  · obtain ⟨a, c, rfl, hc1, hc2, ha⟩ := own_slice h
    obtain ⟨g, rfl⟩ := ha (by omega)
    by_cases hr : n + 1 ≤ c
    · exact ins_shift B w g n c P vb xs ky h h1 hn (by omega) hr hv (fun e => hvb (by simp [Value.ownBlock, e]))
    · exact ins_new B w g n c P vb xs ky h h1 hn (by omega) (by omega) hB hv

/-! ### Plain -/
/-- A slot more, in its place. -/
def insL (l : List (Int × Int)) (s : Int × Int) : List (Int × Int) := l.take (posL (l.map (·.1)) s.1) ++ [s] ++ l.drop (posL (l.map (·.1)) s.1)
/-- The last four. -/
def lastF (l : List (Int × Int)) : List (Int × Int) := l.drop (l.length - 4)
/-- The clients, with cl among them. -/
def withC (b : Bk) (cl : Int) : List Cl := if hitAt (idsB b) cl (posL (idsB b) cl) then b.clients else b.clients.take (posL (idsB b) cl) ++ [⟨cl, []⟩] ++ b.clients.drop (posL (idsB b) cl)
/-- The book with one leaf more. -/
def addB (b : Bk) (cl sq : Int) (d : List Int) : Bk := ⟨b.leaves ++ [d], (withC b cl).set (posL (idsB b) cl) ⟨cl, lastF (insL (((withC b cl)[posL (idsB b) cl]?.map (·.slots)).getD []) (sq, (b.leaves.length : Int)))⟩⟩
/-- Apply. -/
def applyP (b : Bk) (k cl sq : Int) (d : List Int) : Bk × Int × Int :=
  if k = 2 then
    if (findP b cl sq).2 = 8 then
      if (hitAt (idsB b) cl (posL (idsB b) cl) = false ∧ 8 ≤ b.clients.length) ∨ 64 ≤ b.leaves.length ∨ 64 < d.length then (b, 0, 7)
      else (addB b cl sq d, (b.leaves.length : Int), 0)
    else (b, (findP b cl sq).1, (findP b cl sq).2)
  else (b, 0, 8)
theorem insL_perm (l : List (Int × Int)) (s : Int × Int) : (insL l s).Perm (l ++ [s]) := by
  unfold insL
  generalize posL (l.map (·.1)) s.1 = P
  have h : (l.take P ++ [s] ++ l.drop P).Perm (s :: (l.take P ++ l.drop P)) := by
    rw [List.append_assoc]; exact List.perm_middle
  rw [List.take_append_drop] at h
  exact h.trans (List.perm_append_comm (l₁ := [s]) (l₂ := l))
theorem insL_len (l : List (Int × Int)) (s : Int × Int) : (insL l s).length = l.length + 1 := by
  have := (insL_perm l s).length_eq; simpa using this
theorem insL_pw (l : List (Int × Int)) (s : Int × Int) (hl : (l.map (·.1)).Pairwise (· < ·)) (hn : s.1 ∉ l.map (·.1)) : (insL l s).Pairwise (fun a b => a.1 < b.1) := by
  have hc := posL_cut (l.map (·.1)) s.1 hl
  unfold insL
  generalize posL (l.map (·.1)) s.1 = P at *
  rw [List.pairwise_map] at hl
  have hlo : ∀ x ∈ l.take P, x.1 < s.1 := fun x hx => by
    obtain ⟨i, hi, rfl⟩ := List.getElem_of_mem hx
    rw [List.length_take] at hi
    exact hc.lo i _ (by omega) (by rw [List.getElem?_map, List.getElem_take, List.getElem?_eq_getElem (by omega)]; rfl)
  have hhi : ∀ x ∈ l.drop P, s.1 < x.1 := fun x hx => by
    obtain ⟨i, hi, rfl⟩ := List.getElem_of_mem hx
    rw [List.length_drop] at hi
    have h1 := hc.hi (P + i) (l.drop P)[i].1 (by omega) (by rw [List.getElem?_map, List.getElem_drop, List.getElem?_eq_getElem (by omega)]; rfl)
    have h2 : (l.drop P)[i].1 ≠ s.1 := fun e => hn (by rw [← e]; exact List.mem_map_of_mem (List.mem_of_mem_drop (List.getElem_mem _)))
    omega
  rw [List.append_assoc, List.pairwise_append]
  refine ⟨hl.sublist (List.take_sublist _ _), ?_, fun a ha c hc' => ?_⟩
  · rw [List.singleton_append, List.pairwise_cons]
    exact ⟨hhi, hl.sublist (List.drop_sublist _ _)⟩
  · rcases List.mem_cons.1 hc' with rfl | hc'
    · exact hlo a ha
    · have := hlo a ha; have := hhi c hc'; omega
/-- A sorted list of the same slots is that one. -/
theorem sort_eq (l l' : List (Int × Int)) (s : Int × Int) (hl : (l.map (·.1)).Pairwise (· < ·)) (hn : s.1 ∉ l.map (·.1)) (hp : l'.Perm (l ++ [s])) (hs : l'.Pairwise (fun a b => a.1 ≤ b.1)) : l' = insL l s := by
  have hi := insL_pw l s hl hn
  refine List.Perm.eq_of_pairwise (le := fun a b : Int × Int => a.1 ≤ b.1) (fun a b ha hb h1 h2 => ?_) hs (hi.imp fun h => by omega) (hp.trans (insL_perm l s).symm)
  have ha' : a ∈ insL l s := ((insL_perm l s).mem_iff).2 (hp.mem_iff.1 ha)
  obtain ⟨i, hi', rfl⟩ := List.getElem_of_mem ha'
  obtain ⟨j, hj', rfl⟩ := List.getElem_of_mem hb
  rw [List.pairwise_iff_getElem] at hi
  rcases Nat.lt_trichotomy i j with h | h | h
  · have := hi i j hi' hj' h; omega
  · subst h; rfl
  · have := hi j i hj' hi' h; omega

/-! ### Books of the call's own -/
section
variable {B : Nat} {w w1 w' : World} {lv cv : Value} {L : List LQ} {C : List CQ} {b : Bk}
theorem OwnBk.ext (h : OwnBk B w lv cv L C b) (hE : Ext w w') : OwnBk B w' lv cv L C b :=
  ⟨h.leaves, h.clients, own_ext h.lo hE, own_ext h.co hE, fun q hq => own_ext (h.ls q hq) hE, fun q hq => own_ext (h.cs q hq) hE, h.ap⟩
theorem own_lt {B n s : Nat} {e : TypeId} {v : Value} {xs : List Value} (h : w.ownsRow B e s v n xs) : ∀ t ∈ v.ownBlock.toList, t < w.heap.size := fun t ht => (own_type h t ht).2.1
/-- The clients' row is another; nothing else is turned. -/
theorem OwnBk.row (h : OwnBk B w lv cv L C b) (hC : Chg cv.ownBlock.toList w w') {cv' : Value} {C' : List CQ} {cs : List Cl} (hcs : C'.map (·.1) = cs) (ho : w'.ownsRow B 47 2 cv' C'.length (C'.map clR).flatten)
    (hs : ∀ q ∈ C', q ∈ C ∨ q.2 = .slice none 0 0 ∧ q.1.slots = []) (hap : C'.Pairwise (fun q q' => ∀ t ∈ q.2.ownBlock.toList, t ∉ q'.2.ownBlock.toList)) : OwnBk B w' lv cv' L C' ⟨b.leaves, cs⟩ :=
  ⟨h.leaves, hcs, own_off h.lo hC (own_apart h.lo h.co (by decide)), ho, fun q hq => own_off (h.ls q hq) hC (own_apart (h.ls q hq) h.co (by decide)), fun q hq => by
    rcases hs q hq with h1 | ⟨h1, h2⟩
    · exact own_off (h.cs q h1) hC (own_apart (h.cs q h1) h.co (by decide))
    · rw [h1, h2]; exact World.ownsRow_nil _ _ _ _, hap⟩
theorem ap_ins (hap : C.Pairwise (fun q q' => ∀ t ∈ q.2.ownBlock.toList, t ∉ q'.2.ownBlock.toList)) (P : Nat) (c : Cl) : (C.take P ++ [(c, Value.slice none 0 0)] ++ C.drop P).Pairwise (fun q q' : CQ => ∀ t ∈ q.2.ownBlock.toList, t ∉ q'.2.ownBlock.toList) := by
  have h0 := hap
  rw [← List.take_append_drop P C, List.pairwise_append] at h0
  obtain ⟨h1, h2, h3⟩ := h0
  rw [List.append_assoc, List.pairwise_append]
  refine ⟨h1, ?_, fun a ha c hc => ?_⟩
  · rw [List.singleton_append, List.pairwise_cons]
    exact ⟨fun q _ t ht => by simp [Value.ownBlock] at ht, h2⟩
  · rcases List.mem_cons.1 hc with rfl | hc
    · intro t _ ht; simp [Value.ownBlock] at ht
    · exact h3 a ha c hc
theorem cl_ins (C : List CQ) (P : Nat) (c : Cl) (hP : P ≤ C.length) : ((C.take P ++ [(c, Value.slice none 0 0)] ++ C.drop P).map clR).flatten = (C.map clR).flatten.take (P * 2) ++ [.int .u64 c.id, .slice none 0 0] ++ (C.map clR).flatten.drop (P * 2) := by
  have ht : ∀ (C : List CQ) (P : Nat), P ≤ C.length → ((C.take P).map clR).flatten = (C.map clR).flatten.take (P * 2) ∧ ((C.drop P).map clR).flatten = (C.map clR).flatten.drop (P * 2) := by
    intro C
    induction C with
    | nil => intro P hP; simp at hP; subst hP; simp
    | cons q r ih =>
      intro P hP
      cases P with
      | zero => simp
      | succ P =>
        obtain ⟨h1, h2⟩ := ih P (by simpa using hP)
        have e : (P + 1) * 2 = (clR q).length + P * 2 := by simp [clR]; omega
        simp only [List.take_succ_cons, List.drop_succ_cons, List.map_cons, List.flatten_cons, h1, h2, e, List.take_length_add_append, List.drop_length_add_append]
        refine ⟨?_, ?_⟩ <;> first | rfl | trivial
  obtain ⟨h1, h2⟩ := ht C P hP
  rw [List.map_append, List.map_append, List.flatten_append, List.flatten_append, h1, h2]
  rfl
/-- One client more. -/
theorem OwnBk.ins (h : OwnBk B w lv cv L C b) {cv' : Value} {P : Nat} {x : Int} (hP : P ≤ C.length) (hC : Chg cv.ownBlock.toList w w') (ho : w'.ownsRow B 47 2 cv' (C.length + 1) ((C.map clR).flatten.take (P * 2) ++ [.int .u64 x, .slice none 0 0] ++ (C.map clR).flatten.drop (P * 2))) :
    OwnBk B w' lv cv' L (C.take P ++ [(⟨x, []⟩, .slice none 0 0)] ++ C.drop P) ⟨b.leaves, b.clients.take P ++ [⟨x, []⟩] ++ b.clients.drop P⟩ := by
  refine h.row hC (by rw [← h.clients]; simp [List.map_take, List.map_drop]) ?_ (fun q hq => ?_) (ap_ins h.ap P _)
  · rw [cl_ins C P _ hP]
    rw [show (C.take P ++ [((⟨x, []⟩ : Cl), Value.slice none 0 0)] ++ C.drop P).length = C.length + 1 by simp; omega]
    exact ho
  · rcases List.mem_append.1 hq with h1 | h1
    · rcases List.mem_append.1 h1 with h1 | h1
      · exact .inl (List.mem_of_mem_take h1)
      · rw [List.mem_singleton.1 h1]; exact .inr ⟨rfl, rfl⟩
    · exact .inl (List.mem_of_mem_drop h1)
/-- One leaf more. -/
theorem OwnBk.leaf (h : OwnBk B w lv cv L C b) {lv' dv : Value} {d : List Int} (hC : Chg lv.ownBlock.toList w w') (ho : w'.ownsRow B 27 1 lv' (L.length + 1) (L.map (·.2) ++ [dv])) (hd : w'.ownsRow B 5 1 dv d.length (u8s d)) :
    OwnBk B w' lv' cv (L ++ [(d, dv)]) C ⟨b.leaves ++ [d], b.clients⟩ :=
  ⟨by simp [h.leaves], h.clients, by simpa using ho, own_off h.co hC (own_apart h.co h.lo (by decide)), fun q hq => by
    rcases List.mem_append.1 hq with h1 | h1
    · exact own_off (h.ls q h1) hC (own_apart (h.ls q h1) h.lo (by decide))
    · rw [List.mem_singleton.1 h1]; exact hd, fun q hq => own_off (h.cs q hq) hC (own_apart (h.cs q hq) h.lo (by decide)), h.ap⟩
/-- The slots of one client are turned. -/
theorem OwnBk.turn (h : OwnBk B w lv cv L C b) {P : Nat} {c : Cl} {sv sv' : Value} {l : List (Int × Int)} {S : List Nat} (hq : C[P]? = some (c, sv)) (hC : Chg S w w') (hS : ∀ t ∈ S, t ∈ sv.ownBlock.toList ∨ t ∈ cv.ownBlock.toList) (ho : w'.ownsRow B 49 2 sv' l.length (l.map slR).flatten)
    (hb : sv'.ownBlock = sv.ownBlock ∨ ∃ q, sv'.ownBlock = some q ∧ w.heap.size ≤ q) (hco : w'.ownsRow B 47 2 cv C.length ((C.set P (⟨c.id, l⟩, sv')).map clR).flatten) :
    OwnBk B w' lv cv L (C.set P (⟨c.id, l⟩, sv')) ⟨b.leaves, b.clients.set P ⟨c.id, l⟩⟩ := by
  have hmem := List.mem_of_getElem? hq
  have hown := h.cs _ hmem
  have hdis : ∀ (i j : Nat) (q q' : CQ), C[i]? = some q → C[j]? = some q' → i ≠ j → ∀ t ∈ q.2.ownBlock.toList, t ∉ q'.2.ownBlock.toList := fun i j q q' hi hj hij t ht ht' => by
    have hp := List.pairwise_iff_getElem.1 h.ap
    obtain ⟨hi', rfl⟩ := List.getElem?_eq_some_iff.1 hi
    obtain ⟨hj', rfl⟩ := List.getElem?_eq_some_iff.1 hj
    rcases Nat.lt_or_gt_of_ne hij with h1 | h1
    · exact hp i j hi' hj' h1 t ht ht'
    · exact hp j i hj' hi' h1 t ht' ht
  have hnew : ∀ (j : Nat) (q' : CQ), C[j]? = some q' → P ≠ j → ∀ t ∈ sv'.ownBlock.toList, t ∉ q'.2.ownBlock.toList := fun j q' hj hPj t ht ht' => by
    rcases hb with h1 | ⟨g, h1, h2⟩
    · rw [h1] at ht; exact hdis P j _ _ hq hj hPj t ht ht'
    · rw [h1] at ht; simp at ht; subst ht
      have := own_lt (h.cs q' (List.mem_of_getElem? hj)) _ ht'; omega
  refine ⟨h.leaves, by rw [List.map_set, h.clients], own_off h.lo hC (fun t ht hm => (hS t hm).elim (own_apart h.lo hown (by decide) t ht) (own_apart h.lo h.co (by decide) t ht)), by rw [List.length_set]; exact hco, fun q hq' => own_off (h.ls q hq') hC (fun t ht hm => (hS t hm).elim (own_apart (h.ls q hq') hown (by decide) t ht) (own_apart (h.ls q hq') h.co (by decide) t ht)), fun q hq' => ?_, ?_⟩
  · obtain ⟨j, hj⟩ := List.getElem?_of_mem hq'
    by_cases hPj : P = j
    · subst hPj
      rw [List.getElem?_set_self (List.getElem?_eq_some_iff.1 hq).1] at hj
      cases hj
      exact ho
    · rw [List.getElem?_set_ne hPj] at hj
      exact own_off (h.cs q (List.mem_of_getElem? hj)) hC (fun t ht hm => (hS t hm).elim (hdis j P _ _ hj hq (Ne.symm hPj) t ht) (own_apart (h.cs q (List.mem_of_getElem? hj)) h.co (by decide) t ht))
  · rw [List.pairwise_iff_getElem]
    intro i j hi hj hij t ht ht'
    rw [List.length_set] at hi hj
    have hgi := List.getElem?_eq_getElem hi
    have hgj := List.getElem?_eq_getElem hj
    rw [List.getElem_set] at ht ht'
    split at ht
    · rename_i e; subst e
      rw [if_neg (by omega)] at ht'
      exact hnew j _ hgj (by omega) t ht ht'
    · split at ht'
      · rename_i e; subst e
        exact hnew i _ hgi (by omega) t ht' ht
      · exact hdis i j _ _ hgi hgj (by omega) t ht ht'
end

theorem cl_set2 (C : List CQ) (P : Nat) (q : CQ) (l : List (Int × Int)) (v : Value) (h : C[P]? = some q) : ((C.set P (⟨q.1.id, l⟩, v)).map clR).flatten = (C.map clR).flatten.set (P * 2 + 1) v := by
  rw [← cl_set C P q v h, List.map_set, List.map_set]; rfl
theorem set_same {xs : List Value} {j : Nat} {v : Value} (h : xs[j]? = some v) : xs.set j v = xs := by
  apply List.ext_getElem?
  intro i
  by_cases hi : j = i
  · subst hi; rw [List.getElem?_set_self (List.getElem?_eq_some_iff.1 h).1, h]
  · rw [List.getElem?_set_ne hi]
/-! ### Books that lie in blocks from B on -/
def SlB (B : Nat) (w : World) (e : TypeId) (v : Value) : Prop := ∀ a n c, v = .slice (some a) n c → B ≤ a.block ∧ ∃ cur, Blk w a.block cur e
theorem SlB.own {B n s : Nat} {w : World} {e : TypeId} {v : Value} {xs : List Value} (h : w.ownsRow B e s v n xs) : SlB B w e v := fun a m c hv => by
  subst hv
  obtain ⟨h1, h2, cur, h3⟩ := own_type h a.block (by simp [Value.ownBlock])
  exact ⟨h1, cur, h3⟩
theorem SlB.ext {B : Nat} {w w' : World} {e : TypeId} {v : Value} (h : SlB B w e v) (hE : Ext w w') : SlB B w' e v := fun a n c hv => by
  obtain ⟨h1, cur, h2⟩ := h a n c hv
  exact ⟨h1, cur, h2.ext hE⟩
def NewBk (B : Nat) (w : World) (v : Value) (b : Bk) : Prop := ∃ (lv cv : Value) (L : List LQ) (C : List CQ), v = .agg #[lv, cv] ∧ L.map (·.1) = b.leaves ∧ C.map (·.1) = b.clients ∧
  RowV w 1 lv (L.map lfR) ∧ RowV w 2 cv (C.map clR) ∧ (∀ q ∈ L, Rd w q.2 (u8s q.1)) ∧ (∀ q ∈ C, ClV w q) ∧
  SlB B w 27 lv ∧ SlB B w 47 cv ∧ (∀ q ∈ L, SlB B w 5 q.2) ∧ ∀ q ∈ C, SlB B w 49 q.2
theorem NewBk.book {B : Nat} {w : World} {v : Value} {b : Bk} (h : NewBk B w v b) : BookV w v b := by
  obtain ⟨lv, cv, L, C, e, h1, h2, h3, h4, h5, h6, -⟩ := h
  exact ⟨lv, cv, L, C, e, h1, h2, h3, h4, h5, h6⟩
theorem NewBk.ext {B : Nat} {w w' : World} {v : Value} {b : Bk} (h : NewBk B w v b) (hE : Ext w w') : NewBk B w' v b := by
  obtain ⟨lv, cv, L, C, e, h1, h2, h3, h4, h5, h6, g1, g2, g3, g4⟩ := h
  exact ⟨lv, cv, L, C, e, h1, h2, h3.ext hE, h4.ext hE, fun q hq => (h5 q hq).ext hE, fun q hq => (h6 q hq).ext hE, g1.ext hE, g2.ext hE, fun q hq => (g3 q hq).ext hE, fun q hq => (g4 q hq).ext hE⟩
theorem OwnBk.toNew {B : Nat} {w : World} {lv cv : Value} {L : List LQ} {C : List CQ} {b : Bk} (h : OwnBk B w lv cv L C b) : NewBk B w (.agg #[lv, cv]) b := by
  obtain ⟨lv', cv', L', C', e, h1, h2, h3, h4, h5, h6⟩ := h.book
  cases e
  exact ⟨lv, cv, L, C, rfl, h.leaves, h.clients, RowV.of_own (by rw [List.length_map, lf_flat]; exact h.lo) (lf_lens L), RowV.of_own (by rw [List.length_map]; exact h.co) (cl_lens C),
    fun q hq => Rd.of_own (by have := h.ls q hq; rwa [show q.1.length = (u8s q.1).length from (u8s_len _).symm] at this), fun q hq => RowV.of_own (by rw [List.length_map]; exact h.cs q hq) (sl_lens _),
    SlB.own h.lo, SlB.own h.co, fun q hq => SlB.own (h.ls q hq), fun q hq => SlB.own (h.cs q hq)⟩
/-- A row's end. -/
theorem RowV.drop {w : World} {s b o n c k : Nat} {rows : List (List Value)} (h : RowV w s (.slice (some ⟨b, o, none⟩) n c) rows) (hk : k ≤ n) : RowV w s (.slice (some ⟨b, o + k * s, none⟩) (n - k) (c - k)) (rows.drop k) := by
  obtain ⟨a', c', hv, h1, h2, h3⟩ := h
  cases hv
  refine ⟨_, c - k, by rw [List.length_drop], by rw [List.length_drop]; omega, by omega, ?_⟩
  rcases h3 with h3 | ⟨b', o', e, hc⟩
  · left; rw [h3]; simp
  · cases e
    refine .inr ⟨b, o + k * s, rfl, fun i r hi j u hj => ?_⟩
    rw [List.getElem?_drop] at hi
    have := hc (k + i) r hi j u hj
    rwa [show o + (k + i) * s + j = o + k * s + i * s + j by rw [Nat.add_mul]; omega] at this
/-- The slots of one client are cut to their end. -/
theorem OwnBk.cut {B : Nat} {w : World} {lv : Value} {L : List LQ} {C : List CQ} {b : Bk} {g nc cap : Nat} (h : OwnBk B w lv (.slice (some ⟨g, 0, none⟩) nc cap) L C b) {P sb n c k : Nat} {x : Int} {l : List (Int × Int)} (hq : C[P]? = some (⟨x, l⟩, .slice (some ⟨sb, 0, none⟩) n c)) (hn : n = l.length) (hk : k ≤ n) :
    NewBk B (w.setCell ⟨g, P * 2 + 1, none⟩ (.slice (some ⟨sb, k * 2, none⟩) (n - k) (c - k))) (.agg #[lv, .slice (some ⟨g, 0, none⟩) nc cap]) ⟨b.leaves, b.clients.set P ⟨x, l.drop k⟩⟩ := by
  have hPl := (List.getElem?_eq_some_iff.1 hq).1
  have hnc : nc = C.length := by
    rcases h.co.2 with ⟨hv, _⟩ | ⟨_, _, _, hv, _⟩
    · cases hv
    · cases hv; rfl
  subst hnc
  have hCh : Chg [g] w (w.setCell ⟨g, P * 2 + 1, none⟩ (.slice (some ⟨sb, k * 2, none⟩) (n - k) (c - k))) := Chg.set g _ _ (by simp)
  have hfl : (C.map clR).flatten.length = C.length * 2 := h.co.1
  have hset := own_set h.co (P * 2 + 1) (by rw [hfl]; omega) (.slice (some ⟨sb, k * 2, none⟩) (n - k) (c - k))
  rw [← cl_set C P (⟨x, l⟩, .slice (some ⟨sb, 0, none⟩) n c) _ hq] at hset
  have hown := h.cs _ (List.mem_of_getElem? hq)
  have hoff : ∀ {e : TypeId} {s n : Nat} {v : Value} {xs : List Value}, w.ownsRow B e s v n xs → e ≠ 47 → (w.setCell ⟨g, P * 2 + 1, none⟩ (.slice (some ⟨sb, k * 2, none⟩) (n - k) (c - k))).ownsRow B e s v n xs := by
    intro e s n' v xs ho he
    exact own_off ho (Chg.set g _ _ (by simp) : Chg [g] w _) (fun t ht hm => by simp at hm; subst hm; exact own_apart ho h.co he _ ht (by simp [Value.ownBlock]))
  have hoff' : ∀ {e : TypeId} {s n' : Nat} {v : Value} {xs : List Value}, w.ownsRow B e s v n' xs → e ≠ 47 → (w.setCell ⟨g, P * 2 + 1, none⟩ (.slice (some ⟨sb, k * 2, none⟩) (n - k) (c - k))).ownsRow B e s v n' xs := by
    intro e s n' v xs ho he
    exact own_off ho hCh (fun t ht hm => by simp at hm; subst hm; exact own_apart ho h.co he _ ht (by simp [Value.ownBlock]))
  have hcut := RowV.drop (rows := l.map slR) (RowV.of_own (by rw [List.length_map]; exact hoff' hown (by decide)) (sl_lens _)) hk
  rw [Nat.zero_add] at hcut
  refine ⟨_, _, L, C.set P (⟨x, l.drop k⟩, .slice (some ⟨sb, k * 2, none⟩) (n - k) (c - k)), rfl, h.leaves, by rw [List.map_set, h.clients], RowV.of_own (by rw [List.length_map, lf_flat]; exact hoff' h.lo (by decide)) (lf_lens L), ?_, ?_, ?_, SlB.own (hoff' h.lo (by decide)), SlB.own hset, fun q hq => SlB.own (hoff' (h.ls q hq) (by decide)), ?_⟩
  · refine RowV.of_own (base := B) (e := 47) ?_ (cl_lens _)
    rw [List.length_map, List.length_set]
    have e : ((C.set P (⟨x, l.drop k⟩, Value.slice (some ⟨sb, k * 2, none⟩) (n - k) (c - k))).map clR) = ((C.set P (⟨x, l⟩, Value.slice (some ⟨sb, k * 2, none⟩) (n - k) (c - k))).map clR) := by
      rw [List.map_set, List.map_set]; rfl
    rw [e]; exact hset
  · exact fun q hq => Rd.of_own (by have := hoff' (h.ls q hq) (by decide); rwa [show q.1.length = (u8s q.1).length from (u8s_len _).symm] at this)
  · intro q hq'
    obtain ⟨j, hj⟩ := List.getElem?_of_mem hq'
    by_cases hPj : P = j
    · subst hPj
      rw [List.getElem?_set_self hPl] at hj
      cases hj
      unfold ClV
      dsimp only
      rw [List.map_drop]
      exact hcut
    · rw [List.getElem?_set_ne hPj] at hj
      exact RowV.of_own (by rw [List.length_map]; exact hoff' (h.cs q (List.mem_of_getElem? hj)) (by decide)) (sl_lens _)
  · intro q hq'
    obtain ⟨j, hj⟩ := List.getElem?_of_mem hq'
    by_cases hPj : P = j
    · subst hPj
      rw [List.getElem?_set_self hPl] at hj
      cases hj
      intro a n' c' hv
      cases hv
      exact SlB.own (hoff' hown (by decide)) ⟨sb, 0, none⟩ n c rfl
    · rw [List.getElem?_set_ne hPj] at hj
      exact SlB.own (hoff' (h.cs q (List.mem_of_getElem? hj)) (by decide))
end Go.Proofs.YtgefphfnicjbiaaDoor
