/- From a walk to a law's row: a book opened, with the bound on all that it holds (layer 25). -/
import Derived.Test.YtgefphfnicjbiaaRowS
import Derived.Test.YtgefphfnicjbiaaBun3
import Derived.Test.YtgefphfnicjbiaaBun7
import Derived.Test.YtgefphfnicjbiaaSkw
set_option linter.unusedSimpArgs false
set_option linter.unusedVariables false
namespace Go.Proofs.Ytgefphfnicjbiaa
open Go Go.RowKit Go.ChangeShapes Go.WideShapes Go.ChangeAt Go.Deep

theorem bulk_one {H : Type} (d : DataW H) : 1 ≤ Rows.uptoBulk d := by
  cases d with
  | lit l => cases l <;> simp [Rows.uptoBulk]
  | nil => simp [Rows.uptoBulk]
  | ptr d => simp [Rows.uptoBulk]
  | slice elems spare => simp [Rows.uptoBulk]
  | agg parts => simp [Rows.uptoBulk]
  | iface t d => simp [Rows.uptoBulk]
  | map entries => simp [Rows.uptoBulk]
  | held h => simp [Rows.uptoBulk]
theorem bulk_len {H : Type} (l : List (DataW H)) : l.length ≤ Rows.uptoBulkAll l := by
  induction l with
  | nil => simp [Rows.uptoBulkAll]
  | cons x r ih => have := bulk_one x; simp only [Rows.uptoBulkAll, List.length_cons]; omega
theorem bulk_part {H : Type} {d : DataW H} {l : List (DataW H)} (h : d ∈ l) : Rows.uptoBulk d ≤ Rows.uptoBulkAll l := by
  induction l with
  | nil => cases h
  | cons x r ih =>
    simp only [Rows.uptoBulkAll]
    cases List.mem_cons.1 h with
    | inl e => subst e; omega
    | inr e => have := ih e; omega
theorem bulk_sum {H α : Type} {ι : Type} (mu : α → Nat) (f : ι → α) (D : ι → DataW H) : ∀ (l : List ι), (∀ i ∈ l, mu (f i) ≤ Rows.uptoBulk (D i)) → ((l.map f).map mu).sum ≤ Rows.uptoBulkAll (l.map D)
  | [], _ => by simp
  | i :: r, h => by
    have h1 := h i (by simp)
    have h2 := bulk_sum mu f D r (fun j hj => h j (by simp [hj]))
    simp only [List.map_cons, List.sum_cons, Rows.uptoBulkAll]
    omega
/-- A slice's length and its bulk. -/
theorem len_bulk {H : Type} {enc : TypeId × Value → H} {P : Program} {W : World} {base fuel : Nat} {sp : Nat → Bool} {held : Bool} {cs : List Value} {x : DataW H × List MemPlace} {t e : TypeId}
    (ht : P.underlying t = some (.slice e)) (h : DataW.trod enc P W base sp held fuel t cs = some x) {a : Option Addr} {n c : Nat} (hc : cs = [.slice a n c]) : n + 1 ≤ Rows.uptoBulk x.1 := by
  rcases open_slice ht h with ⟨rfl, _⟩ | ⟨a, len, cap, m, n', D, Pl, rfl, _, hl, hm, hmm, rfl, hi⟩
  · cases hc; exact bulk_one _
  · cases hc
    have := bulk_len ((List.range n).map D)
    simp only [Rows.uptoBulk]
    rw [List.length_map, List.length_range] at this
    omega
/-- A slice of structs that came in: its rows, and what they weigh. -/
theorem rows_of_trodB {H : Type} {enc : TypeId × Value → H} {P : Program} {W : World} {base fuel : Nat} {sp : Nat → Bool} {held : Bool} {cs : List Value} {x : DataW H × List MemPlace} {t e : TypeId} {s : Nat} {α : Type} [Inhabited α]
    (ht : P.underlying t = some (.slice e)) (hs : P.cellsOf e = s) (hs0 : 0 < s) (C : α → List Value) (hC : ∀ q, (C q).length = s) (Ok : α → Prop) (mu : α → Nat)
    (hel : ∀ (cs : List Value) (x : DataW H × List MemPlace) (fuel : Nat), DataW.trod enc P W base sp held fuel e cs = some x → (∀ n ∈ x.1.weights P e, n ≤ reachBytes) → ∃ q, cs = C q ∧ Ok q ∧ mu q ≤ Rows.uptoBulk x.1)
    (h : DataW.trod enc P W base sp held fuel t cs = some x) (hz : ∀ n ∈ x.1.weights P t, n ≤ reachBytes) :
    ∃ (v : Value) (qs : List α), cs = [v] ∧ RowV W s v (qs.map C) ∧ (∀ q ∈ qs, Ok q) ∧ (qs.map mu).sum + 1 ≤ Rows.uptoBulk x.1 := by
  rcases open_slice ht h with ⟨rfl, _⟩ | ⟨a, len, cap, m, n, D, Pl, rfl, _, hl, hm, hmm, rfl, hi⟩
  · exact ⟨_, [], rfl, RowV.nil _ _, (fun e he => by cases he), by simpa using bulk_one _⟩
  · have hlm : len ≤ m := by rw [hmm]; split <;> omega
    have hzi : ∀ i, i < len → ∀ n ∈ (D i).weights P e, n ≤ reachBytes := fun i hil n hn => hz n (by
      simp [DataW.weights, ht]
      exact .inr (.inl (weights_all _ (List.mem_map.2 ⟨i, List.mem_range.2 hil, rfl⟩) hn)))
    rw [hs] at hi
    have key : ∀ i, ∃ q : α, i < len → (∀ j u, (C q)[j]? = some u → W.cell? (a.add (i * s + j)) = some u) ∧ Ok q ∧ mu q ≤ Rows.uptoBulk (D i) := fun i => by
      by_cases hil : i < len
      · obtain ⟨cs', hc, ht⟩ := hi i (by omega)
        obtain ⟨q, rfl, hok⟩ := hel _ _ _ ht (hzi i hil)
        obtain ⟨_, hcl, hat⟩ := World.cells?_some hc
        refine ⟨q, fun _ => ⟨fun j u hu => ?_, hok⟩⟩
        have hj : j < s := by have := (List.getElem?_eq_some_iff.1 hu).1; rwa [hC] at this
        rw [← Go.Deep.add_add, hat j hj]; exact hu
      · exact ⟨default, fun h => absurd h hil⟩
    obtain ⟨f, hf⟩ := Classical.skolem.1 key
    refine ⟨_, (List.range len).map f, rfl, ⟨some a, cap, by simp, by simpa using hl, hm, ?_⟩, fun q hq => ?_, ?_⟩
    · by_cases h0 : len = 0
      · left; subst h0; simp
      · right
        obtain ⟨b, o, sh⟩ := a
        have hc0 := (hf 0 (by omega)).1 0 _ (List.getElem?_eq_getElem (by rw [hC]; exact hs0))
        have hsh : sh = none := by
          cases sh with
          | none => rfl
          | some q =>
            exfalso
            have : (⟨b, o, some q⟩ : Addr).add (0 * s + 0) = ⟨b, o, some q⟩ := by simp [Addr.add]
            rw [this] at hc0
            unfold World.cell? at hc0
            split at hc0 <;> simp at hc0
        subst hsh
        refine ⟨b, o, rfl, fun i r hr j u hu => ?_⟩
        rw [List.getElem?_map, List.getElem?_map] at hr
        have hil : i < len := by
          by_cases hil : i < len
          · exact hil
          · rw [List.getElem?_eq_none (by simpa using hil)] at hr; cases hr
        rw [List.getElem?_range hil] at hr
        have hrq : r = C (f i) := (Option.some.inj hr).symm
        subst hrq
        have := (hf i hil).1 j u hu
        rw [Addr.add_lit] at this
        rw [Nat.add_assoc]; exact this
    · obtain ⟨i, hi2, rfl⟩ := List.mem_map.1 hq
      exact (hf i (List.mem_range.1 hi2)).2.1
    · have := bulk_sum mu f D (List.range len) (fun i hi => (hf i (List.mem_range.1 hi)).2.2)
      simp only [Rows.uptoBulk]
      omega
theorem list2' {α : Type} {l : List α} (h : l.length = 2) : ∃ a b, l = [a, b] := by
  match l, h with
  | [a, b], _ => exact ⟨a, b, rfl⟩
theorem sc53 : Try.prog.cellsOf 53 = 1 := by kernel_rfl
theorem sc59 : Try.prog.cellsOf 59 = 2 := by kernel_rfl
theorem sc55 : Try.prog.cellsOf 55 = 2 := by kernel_rfl
theorem sc27 : Try.prog.cellsOf 27 = 2 := by kernel_rfl
theorem sc24b : Try.prog.cellsOf 24 = 1 := by kernel_rfl
theorem sc25 : Try.prog.cellsOf 25 = 1 := by kernel_rfl
theorem slot_of_trod {H : Type} {enc : TypeId × Value → H} {W : World} {base fuel : Nat} {sp : Nat → Bool} {held : Bool} {cs : List Value} {x : DataW H × List MemPlace}
    (h : DataW.trod enc Try.prog W base sp held fuel 59 cs = some x) : ∃ s : Int × Int, cs = slR s ∧ (U64 s.1 ∧ U64 s.2) := by
  obtain ⟨xs, n, _, rfl, hl, hxl, hf⟩ := DataW.trod_struct Try.underlying59 h
  rw [sc59] at hl
  obtain ⟨c0, c1, rfl⟩ := list2' hl
  obtain ⟨y0, y1, rfl⟩ := list2' (show xs.length = 2 from hxl)
  have h0 := hf 0 _ rfl; have h1 := hf 1 _ rfl
  simp [sc22] at h0 h1
  obtain ⟨t, e0, rfl, w0⟩ := DataW.trod_int Try.underlying28 h0
  obtain ⟨k, e1, rfl, w1⟩ := DataW.trod_int Try.underlying28 h1
  simp only [List.cons.injEq, and_true] at e0 e1
  subst e0 e1
  exact ⟨(t, k), rfl, u64_wf w0, u64_wf w1⟩
instance : Inhabited CQ := ⟨⟨⟨0, []⟩, undef⟩⟩
instance : Inhabited LQ := ⟨⟨[], undef⟩⟩
theorem client_of_trod {H : Type} {enc : TypeId × Value → H} {W : World} {base fuel : Nat} {sp : Nat → Bool} {held : Bool} {cs : List Value} {x : DataW H × List MemPlace}
    (h : DataW.trod enc Try.prog W base sp held fuel 55 cs = some x) (hz : ∀ n ∈ x.1.weights Try.prog 55, n ≤ reachBytes) :
    ∃ q : CQ, cs = clR q ∧ (ClV W q ∧ U64 q.1.id ∧ ∀ s ∈ q.1.slots, U64 s.1 ∧ U64 s.2) ∧ q.1.slots.length + 1 ≤ Rows.uptoBulk x.1 := by
  obtain ⟨xs, n, _, rfl, hl, hxl, hf⟩ := DataW.trod_struct Try.underlying55 h
  rw [sc55] at hl
  obtain ⟨c0, c1, rfl⟩ := list2' hl
  obtain ⟨y0, y1, rfl⟩ := list2' (show xs.length = 2 from hxl)
  have h0 := hf 0 _ rfl; have h1 := hf 1 _ rfl
  simp [sc22, sc53] at h0 h1
  obtain ⟨t, e0, rfl, w0⟩ := DataW.trod_int Try.underlying28 h0
  have hw : ∀ n, n ∈ y1.1.weights Try.prog 53 → n ≤ reachBytes := fun n hn => hz n (by
    simp [DataW.weights, Try.underlying55, DataW.weightsEach]
    exact hn)
  obtain ⟨sv, ss, e1, r1, o1, -⟩ := rows_of_trod (α := Int × Int) Try.underlying53 sc59 (by omega) slR (fun q => rfl) (fun s => U64 s.1 ∧ U64 s.2) (fun cs x f h hz => slot_of_trod h) h1 hw
  obtain ⟨a, c, hsv, -⟩ := r1.shape
  have hb := len_bulk Try.underlying53 h1 (by rw [e1, hsv])
  rw [List.length_map] at hb
  simp only [List.cons.injEq, and_true] at e0 e1
  subst e0 e1
  refine ⟨(⟨t, ss⟩, _), rfl, ⟨r1, u64_wf w0, o1⟩, ?_⟩
  simp only [List.map_cons, List.map_nil, Rows.uptoBulk, Rows.uptoBulkAll]
  omega
theorem leaf_of_trod {H : Type} {enc : TypeId × Value → H} {W : World} {base fuel : Nat} {sp : Nat → Bool} {held : Bool} {cs : List Value} {x : DataW H × List MemPlace}
    (h : DataW.trod enc Try.prog W base sp held fuel 29 cs = some x) (hz : ∀ n ∈ x.1.weights Try.prog 29, n ≤ reachBytes) :
    ∃ q : LQ, cs = lfR q ∧ (Rd W q.2 (u8s q.1) ∧ B8 q.1) ∧ q.1.length + 1 ≤ Rows.uptoBulk x.1 := by
  obtain ⟨dv, ds, e4, r4, w4, b4⟩ := rd_of_trod Try.underlying29 Try.underlying5 sc5 h hz
  obtain ⟨a, c, hv, -⟩ := id r4
  have hb := len_bulk Try.underlying29 h (by rw [e4, hv])
  rw [List.length_map] at hb
  exact ⟨(ds, dv), e4, ⟨r4, fun z hz => u8_wf (w4 z hz)⟩, hb⟩
theorem sum_len {α : Type} (f : α → Nat) : ∀ l : List α, l.length ≤ (l.map (fun a => f a + 1)).sum ∧ (∀ a ∈ l, f a ≤ (l.map (fun a => f a + 1)).sum)
  | [] => by simp
  | a :: r => by
    obtain ⟨h1, h2⟩ := sum_len f r
    simp only [List.length_cons, List.map_cons, List.sum_cons]
    refine ⟨by omega, fun x hx => ?_⟩
    rcases List.mem_cons.1 hx with rfl | hx
    · omega
    · have := h2 x hx; omega
theorem flat_sum {α : Type} (f : α → List Int) (g : α → Nat) (k : Nat) : ∀ (l : List α), (∀ a ∈ l, (f a).length ≤ k * (g a + 1)) → (l.flatMap f).length ≤ k * (l.map (fun a => g a + 1)).sum
  | [], _ => by simp
  | a :: r, h => by
    have h1 := h a (by simp)
    have h2 := flat_sum f g k r (fun x hx => h x (by simp [hx]))
    simp only [List.flatMap_cons, List.length_append, List.map_cons, List.sum_cons, Nat.mul_add] at h1 h2 ⊢
    omega
set_option maxRecDepth 100000 in
theorem book_open {H : Type} {enc : TypeId × Value → H} {W : World} {base : Nat} {sp : Nat → Bool} {held : Bool} {v : Value} {d : DataW H} {ps : List MemPlace} {r : Reach} {b0 : Nat}
    (hv : Value.okWide Try.prog W r b0 27 v) (h : DataW.Trod enc Try.prog W base sp held 27 v d ps) (hz : ∀ n ∈ d.weights Try.prog 27, n ≤ reachBytes) (hB : Rows.uptoBulk d ≤ 1048576) :
    ∃ b : Bk, BookV W v b ∧ BkBe b ∧ OkK b ∧ (putK b).length ≤ 140737488355000 := by
  obtain ⟨cs, rfl, hsz⟩ := okWide_struct Try.underlying27 hv
  obtain ⟨fuel, hf⟩ := h
  obtain ⟨xs, n, _, hd, hl, hxl, hff⟩ := DataW.trod_struct Try.underlying27 hf
  rw [sc27] at hl hsz
  obtain ⟨c0, c1, hc⟩ : ∃ c0 c1, cs = #[c0, c1] := by
    obtain ⟨a, b, h⟩ := list2' (l := cs.toList) (by simpa using hsz)
    exact ⟨a, b, by rw [← Array.toArray_toList (xs := cs), h]⟩
  subst hc
  obtain ⟨y0, y1, rfl⟩ := list2' (show xs.length = 2 from hxl)
  have h0 := hff 0 _ rfl; have h1 := hff 1 _ rfl
  simp [Value.cells, sc24b, sc25] at h0 h1
  have hd' : d = .agg [y0.1, y1.1] := by simpa using congrArg Prod.fst hd
  subst hd'
  have hw : ∀ n, n ∈ y0.1.weights Try.prog 24 ∨ n ∈ y1.1.weights Try.prog 25 → n ≤ reachBytes := fun n hn => hz n (by
    simp [DataW.weights, Try.underlying27, DataW.weightsEach]
    exact hn)
  obtain ⟨lv, L, e0, r0, o0, m0⟩ := rows_of_trodB (α := LQ) Try.underlying24 sc23 (by omega) lfR (fun q => rfl) (fun q => Rd W q.2 (u8s q.1) ∧ B8 q.1) (fun q => q.1.length + 1) (fun cs x f h hz => leaf_of_trod h hz) h0 (fun n hn => hw n (.inl hn))
  obtain ⟨cv, C, e1, r1, o1, m1⟩ := rows_of_trodB (α := CQ) Try.underlying25 sc55 (by omega) clR (fun q => rfl) (fun q => ClV W q ∧ U64 q.1.id ∧ ∀ s ∈ q.1.slots, U64 s.1 ∧ U64 s.2) (fun q => q.1.slots.length + 1) (fun cs x f h hz => client_of_trod h hz) h1 (fun n hn => hw n (.inr hn))
  simp only [List.cons.injEq, and_true] at e0 e1
  subst e0 e1
  simp only [Rows.uptoBulk, Rows.uptoBulkAll] at hB
  obtain ⟨s1, s2⟩ := sum_len (fun q : LQ => q.1.length) L
  obtain ⟨t1, t2⟩ := sum_len (fun q : CQ => q.1.slots.length) C
  have eL : (L.map (·.1)).map (fun l => l.length + 1) = L.map (fun q : LQ => q.1.length + 1) := by rw [List.map_map]; rfl
  have eC : (C.map (·.1)).map (fun c => c.slots.length + 1) = C.map (fun q : CQ => q.1.slots.length + 1) := by rw [List.map_map]; rfl
  refine ⟨⟨L.map (·.1), C.map (·.1)⟩, ⟨_, _, L, C, rfl, rfl, rfl, r0, r1, fun q hq => (o0 q hq).1, fun q hq => (o1 q hq).1⟩, ⟨?_, ?_⟩, ⟨?_, ?_, ?_, ?_⟩, ?_⟩
  · dsimp only; rw [List.length_map]; omega
  · intro c hc
    obtain ⟨q, hq, rfl⟩ := List.mem_map.1 hc
    have := t2 q hq; omega
  · dsimp only; rw [List.length_map]; omega
  · intro l hl
    obtain ⟨q, hq, rfl⟩ := List.mem_map.1 hl
    have := s2 q hq
    exact ⟨by omega, (o0 q hq).2⟩
  · dsimp only; rw [List.length_map]; omega
  · intro c hc
    obtain ⟨q, hq, rfl⟩ := List.mem_map.1 hc
    have := t2 q hq
    exact ⟨(o1 q hq).2.1, by omega, (o1 q hq).2.2⟩
  · have f1 := flat_sum rawB (fun l => l.length) 10 (L.map (·.1)) (fun l hl => by have := numB_nine l.length; unfold rawB; rw [List.length_append]; omega)
    have f2 := flat_sum clB (fun c => c.slots.length) 18 (C.map (·.1)) (fun c hc => by
      have h1 := numB_nine c.id.toNat; have h2 := numB_nine c.slots.length
      have h3 := flat_le slotB 18 c.slots (fun s _ => by have := numB_nine s.1.toNat; have := numB_nine s.2.toNat; unfold slotB; rw [List.length_append]; omega)
      unfold clB
      rw [List.length_append, List.length_append]
      omega)
    rw [eL] at f1
    rw [eC] at f2
    have h1 := numB_nine (L.map (·.1)).length; have h2 := numB_nine (C.map (·.1)).length
    unfold putK
    rw [List.length_append, List.length_append, List.length_append]
    dsimp only at *
    omega
end Go.Proofs.Ytgefphfnicjbiaa
