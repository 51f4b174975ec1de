/- From a walk to a law's row: messages opened. -/
import Derived.Test.YtjodgbabfhcilaaRow
import Derived.Test.YtjodgbabfhcilaaBun4
import Derived.Test.YtjodgbabfhcilaaBun8
import Derived.Deep.Slices
set_option linter.unusedSimpArgs false
set_option linter.unusedVariables false
namespace Go.Proofs.Ytjodgbabfhcilaa
open Go Go.RowKit Go.ChangeShapes Go.WideShapes Go.ChangeAt Go.Deep

theorem cellsMsg : Try.prog.cellsOf 34 = 12 := by kernel_rfl
theorem cellsEs : Try.prog.cellsOf 30 = 1 := by kernel_rfl
theorem cellsB : Try.prog.cellsOf 4 = 1 := by kernel_rfl
theorem bytesE : Try.prog.bytesOf 67 = 80 := by kernel_rfl
theorem list12 {α : Type} {l : List α} (h : l.length = 12) : ∃ a b c d e f g i j k m n, l = [a, b, c, d, e, f, g, i, j, k, m, n] := by
  match l, h with
  | [a, b, c, d, e, f, g, i, j, k, m, n], _ => exact ⟨a, b, c, d, e, f, g, i, j, k, m, n, rfl⟩
/-- An entry with its two lists' values. -/
abbrev EVs := Ent × Value × Value
def eC (q : EVs) : List Value := eCells q.1 q.2.1 q.2.2
theorem ecs_mk {W : World} : ∀ (l : List EVs), (∀ q ∈ l, Rd W q.2.1 (u8s q.1.data) ∧ Rd W q.2.2 (u64s q.1.members)) → ECs W 0 none (l.map (·.1)) (l.flatMap eC)
  | [], _ => rfl
  | q :: r, h => by
    obtain ⟨h1, h2⟩ := h q (by simp)
    exact ⟨q.2.1, q.2.2, r.flatMap eC, by simp [eC], ⟨h1, fun _ _ _ _ => Nat.zero_le _, fun _ _ _ _ _ hm => by simp at hm⟩, ⟨h2, fun _ _ _ _ => Nat.zero_le _, fun _ _ _ _ _ hm => by simp at hm⟩, ecs_mk r fun p hp => h p (by simp [hp])⟩
theorem flat6 : ∀ (l : List EVs) (j : Nat) (u : Value), (l.flatMap eC)[j]? = some u → ∃ i q k, l[i]? = some q ∧ (eC q)[k]? = some u ∧ j = i * 6 + k
  | [], j, u, h => by simp at h
  | q :: r, j, u, h => by
    rw [List.flatMap_cons] at h
    by_cases hj : j < 6
    · rw [List.getElem?_append_left (by simpa [eC, eCells] using hj)] at h
      exact ⟨0, q, j, rfl, h, by omega⟩
    · rw [List.getElem?_append_right (by simp [eC, eCells]; omega)] at h
      obtain ⟨i, p, k, h1, h2, h3⟩ := flat6 r _ u h
      refine ⟨i + 1, p, k, by simpa using h1, h2, ?_⟩
      have : (eC q).length = 6 := rfl
      omega
theorem weightsAll_mem {H : Type} {P : Program} {t : TypeId} {d : DataW H} {n : Nat} : ∀ (ds : List (DataW H)), d ∈ ds → n ∈ d.weights P t → n ∈ DataW.weightsAll P t ds
  | [], h, _ => by cases h
  | x :: r, h, hn => by
    simp only [DataW.weightsAll, List.mem_append]
    rcases List.mem_cons.1 h with rfl | h
    · exact .inl hn
    · exact .inr (weightsAll_mem r h hn)
/-- Bounds of what came in. -/
structure EntBd (x : Ent) : Prop where
  data : x.data.length ≤ 140737488355328
  members : x.members.length ≤ 17592186044416

set_option maxRecDepth 100000 in
theorem ents_of_trod {H : Type} {enc : TypeId × Value → H} {W : World} {base fuel : Nat} {sp : Nat → Bool} {held : Bool} {cs : List Value} {x : DataW H × List MemPlace}
    (h : DataW.trod enc Try.prog W base sp held fuel 30 cs = some x) (hz : ∀ n ∈ x.1.weights Try.prog 30, n ≤ reachBytes) :
    ∃ (v : Value) (xs : List Ent), cs = [v] ∧ EntsV W 0 v xs ∧ (∀ e ∈ xs, EntOk e ∧ EntBd e) ∧ xs.length ≤ 1759218604441 := by
  rcases open_slice Try.underlying30 h with ⟨rfl, _⟩ | ⟨a, len, cap, m, n, D, Pl, rfl, _, hl, hm, hmm, rfl, hi⟩
  · exact ⟨_, [], rfl, EntsV.nil _ _, (fun e he => by cases he), by simp⟩
  · have hlm : len ≤ m := by rw [hmm]; split <;> omega
    have hlen : len ≤ 1759218604441 := by
      have := hz _ (by simp [DataW.weights, Try.underlying30]; exact .inl rfl)
      rw [bytesE] at this
      unfold reachBytes at this
      have h2 : len * 80 ≤ 140737488351232 := Nat.le_trans (Nat.mul_le_mul_right _ (by simp)) this
      omega
    have hzi : ∀ i, i < len → ∀ n ∈ (D i).weights Try.prog 67, n ≤ reachBytes := fun i hil n hn => hz n (by
      simp [DataW.weights, Try.underlying30]
      exact .inr (.inl (weightsAll_mem _ (List.mem_map.2 ⟨i, List.mem_range.2 hil, rfl⟩) hn)))
    rw [cells26] at hi
    have key : ∀ i, ∃ q : EVs, i < len → (∀ j u, (eC q)[j]? = some u → W.cell? (a.add (i * 6 + j)) = some u) ∧ (Rd W q.2.1 (u8s q.1.data) ∧ Rd W q.2.2 (u64s q.1.members)) ∧ EntOk q.1 ∧ EntBd q.1 := fun i => by
      by_cases hil : i < len
      · obtain ⟨cs', hc, ht⟩ := hi i (by omega)
        obtain ⟨e, ⟨dv, mv, hv, h1, h2⟩, hok, hd, hmm2⟩ := ent_of_trod ht (hzi i hil)
        obtain ⟨_, hcl, hat⟩ := World.cells?_some hc
        unfold reachBytes at hd hmm2
        refine ⟨⟨e, dv, mv⟩, fun _ => ⟨fun j u hu => ?_, ⟨h1, h2⟩, hok, show EntBd e from ⟨by omega, by omega⟩⟩⟩
        have hcs : cs' = eC ⟨e, dv, mv⟩ := by
          have := congrArg Value.cells hv
          simpa [Value.cells, eC, eCells] using this
        have hj : j < 6 := by have := (List.getElem?_eq_some_iff.1 hu).1; simpa [eC, eCells] using this
        rw [← Go.Deep.add_add, hat j hj, hcs]; exact hu
      · exact ⟨⟨⟨0, 0, 0, 0, [], []⟩, undef, undef⟩, fun h => absurd h hil⟩
    obtain ⟨f, hf⟩ := Classical.skolem.1 key
    refine ⟨_, ((List.range len).map f).map (·.1), rfl, ⟨fun _ _ _ _ => Nat.zero_le _, ((List.range len).map f).flatMap eC, none, some a, cap, by simp, by simpa using hl, hm, ecs_mk _ ?_, ?_⟩, ?_, by simpa using hlen⟩
    · intro q hq
      obtain ⟨i, hi2, rfl⟩ := List.mem_map.1 hq
      exact (hf i (List.mem_range.1 hi2)).2.1
    · by_cases h0 : len = 0
      · left; subst h0; simp
      · right
        obtain ⟨b, o, s⟩ := a
        have hc0 := (hf 0 (by omega)).1 0 _ rfl
        have hs : s = none := by
          cases s with
          | none => rfl
          | some q =>
            exfalso
            have : (⟨b, o, some q⟩ : Addr).add (0 * 6 + 0) = ⟨b, o, some q⟩ := by simp [Addr.add]
            rw [this] at hc0
            unfold World.cell? at hc0
            split at hc0 <;> simp at hc0
        subst hs
        refine ⟨b, o, rfl, fun j u hu => ?_⟩
        obtain ⟨i, q, k, h1, h2, rfl⟩ := flat6 _ _ _ hu
        have hil : i < len := by have := (List.getElem?_eq_some_iff.1 h1).1; simpa using this
        have hq : q = f i := by simpa [hil] using h1.symm
        subst hq
        have := (hf i hil).1 k u h2
        rwa [Addr.add_lit] at this
    · intro e he
      obtain ⟨q, hq, rfl⟩ := List.mem_map.1 he
      obtain ⟨i, hi2, rfl⟩ := List.mem_map.1 hq
      exact (hf i (List.mem_range.1 hi2)).2.2
/-- Bounds of a message that came in. -/
structure MsgBd (x : Msg) : Prop where
  entries : x.entries.length ≤ 1759218604441
  each : ∀ e ∈ x.entries, EntBd e
  members : x.members.length ≤ 17592186044416
  image : x.image.length ≤ 140737488351232

set_option maxRecDepth 100000 in
theorem Msg_open {H : Type} {enc : TypeId × Value → H} {W : World} {base : Nat} {sp : Nat → Bool} {held : Bool} {v : Value} {d : DataW H} {ps : List MemPlace} {r : Reach} {b0 : Nat}
    (hv : Value.okWide Try.prog W r b0 34 v) (h : DataW.Trod enc Try.prog W base sp held 34 v d ps) (hz : ∀ n ∈ d.weights Try.prog 34, n ≤ reachBytes) :
    ∃ x : Msg, MsgV W 0 v x ∧ MsgOk x ∧ MsgBd x := by
  obtain ⟨cs, rfl, hsz⟩ := okWide_struct Try.underlying34 hv
  obtain ⟨fuel, hf⟩ := h
  obtain ⟨xs, n, _, hx, hl, hxl, hg⟩ := DataW.trod_struct Try.underlying34 hf
  obtain ⟨cs⟩ := cs
  simp only [Value.cells] at hl hg hx
  rw [cellsMsg] at hl
  obtain ⟨c0, c1, c2, c3, c4, c5, c6, c7, c8, c9, c10, c11, rfl⟩ := list12 hl
  obtain ⟨y0, y1, y2, y3, y4, y5, y6, y7, y8, y9, y10, y11, rfl⟩ := list12 (show xs.length = 12 from hxl)
  have h0 := hg 0 _ rfl; have h1 := hg 1 _ rfl; have h2 := hg 2 _ rfl; have h3 := hg 3 _ rfl; have h4 := hg 4 _ rfl; have h5 := hg 5 _ rfl
  have h6 := hg 6 _ rfl; have h7 := hg 7 _ rfl; have h8 := hg 8 _ rfl; have h9 := hg 9 _ rfl; have h10 := hg 10 _ rfl; have h11 := hg 11 _ rfl
  simp [cells22, cells3, cells23, cells24, cellsB, cellsEs] at h0 h1 h2 h3 h4 h5 h6 h7 h8 h9 h10 h11
  obtain ⟨k, e0, _, w0⟩ := DataW.trod_int Try.underlying3 h0
  obtain ⟨f, e1, _, w1⟩ := DataW.trod_int Try.underlying29 h1
  obtain ⟨t, e2, _, w2⟩ := DataW.trod_int Try.underlying29 h2
  obtain ⟨m, e3, _, w3⟩ := DataW.trod_int Try.underlying29 h3
  obtain ⟨i, e4, _, w4⟩ := DataW.trod_int Try.underlying29 h4
  obtain ⟨l, e5, _, w5⟩ := DataW.trod_int Try.underlying29 h5
  obtain ⟨c, e6, _, w6⟩ := DataW.trod_int Try.underlying29 h6
  obtain ⟨s, e7, _, w7⟩ := DataW.trod_int Try.underlying29 h7
  obtain ⟨y, e8, _⟩ := DataW.trod_bool Try.underlying4 h8
  obtain ⟨rfl, rfl⟩ := Prod.mk.inj hx
  have hw : ∀ n, n ∈ y9.1.weights Try.prog 30 ∨ n ∈ y10.1.weights Try.prog 31 ∨ n ∈ y11.1.weights Try.prog 32 → n ≤ reachBytes := fun n hn => hz n (by
    simp [DataW.weights, Try.underlying34, DataW.weightsEach]
    first | exact hn | exact .inr hn | exact .inr (.inr hn) | (rcases hn with h | h | h <;> simp [h]))
  obtain ⟨ev, es, e9, r9, b9, n9⟩ := ents_of_trod h9 fun n hn => hw n (.inl hn)
  obtain ⟨mv, ms, e10, r10, q10, b10⟩ := rd_of_trod Try.underlying31 Try.underlying29 cells22 h10 fun n hn => hw n (.inr (.inl hn))
  obtain ⟨dv, ds, e11, r11, q11, b11⟩ := rd_of_trod Try.underlying32 Try.underlying5 cells5 h11 fun n hn => hw n (.inr (.inr hn))
  simp only [List.cons.injEq, and_true] at e0 e1 e2 e3 e4 e5 e6 e7 e8 e9 e10 e11
  subst e0 e1 e2 e3 e4 e5 e6 e7 e8 e9 e10 e11
  rw [bytes5, Nat.mul_one] at b11
  rw [bytes22] at b10
  unfold reachBytes at b10 b11
  exact ⟨⟨k, f, t, m, i, l, c, s, y, es, ms, ds⟩, ⟨_, _, _, rfl, r9, ⟨r10, fun _ _ _ _ => Nat.zero_le _⟩, r11, fun _ _ _ _ => Nat.zero_le _⟩,
    ⟨i64_wf w0, u64_wf w1, u64_wf w2, u64_wf w3, u64_wf w4, u64_wf w5, u64_wf w6, u64_wf w7, fun e he => (b9 e he).1, fun z hz => u64_wf (q10 z hz), fun z hz => u8_wf (q11 z hz)⟩,
    ⟨n9, fun e he => (b9 e he).2, show ms.length ≤ _ by omega, show ds.length ≤ _ by omega⟩⟩
end Go.Proofs.Ytjodgbabfhcilaa
