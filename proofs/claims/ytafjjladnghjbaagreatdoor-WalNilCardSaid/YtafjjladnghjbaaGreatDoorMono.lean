/- A region that draws its order is served by one walk in the text's order, where each operation yields a value of a kind that is known ahead and that later operations of the region leave alone. Of any program. -/
import Derived.Orders
import Derived.RegionTactic
import Derived.WalkKit
namespace Go.Proofs.YtafjjladnghjbaaGreatDoor.Mono
open Go

/-- What is known of the value that an operation yields: it is x; or R holds of it, in the world behind it and in all later ones of the region. -/
inductive Spec where
  | is (x : Value)
  | rel (R : Value → World → Prop)

def Spec.holds : Spec → Value → World → Prop
  | .is x, v, _ => v = x
  | .rel R, v, w => R v w

def onlyK (K : Act → World → Prop) : Exit → Act → World → Prop
  | .normal, a, w => K a w
  | _, _, _ => False

/-- bit j of D: is what is known of operation j at hand? -/
def Know (D : Nat) : List (Nat × (World → Prop)) → World → Prop
  | [], _ => True
  | p :: r, w => (D.testBit p.1 = true → p.2 w) ∧ Know D r w

def KnowAll : List (Nat × (World → Prop)) → World → Prop
  | [], _ => True
  | p :: r, w => p.2 w ∧ KnowAll r w

section
variable (P : Program) (ops : Array Oper) (E1 E2 : World → World → Prop) (w0 : World) (m : Nat) (Z : Act → World → Prop)

/-- The obligation of one operation. -/
def Obl (k : Nat) (o : Oper) (S : Spec) (a : Act) (kn : World → Prop) : Prop :=
  ∀ w, (if k = m then E1 w0 w else E2 w0 w) → kn w → ∀ K : Act → World → Prop,
    (∀ v w', (if k = m then E2 w w' else E1 w w') → S.holds v w' → K (a.put o.dst v) w') → wpList P ops (onlyK K) [o] a w

/-- The walk in the text's order. -/
def wpMono : List (Nat × (World → Prop)) → Nat → List Oper → List Spec → Act → Prop
  | known, k, o :: rest, .is x :: Ss, a => Obl P ops E1 E2 w0 m k o (.is x) a (Know ((Region.before ops).getD k 0) known) ∧ wpMono known (k + 1) rest Ss (a.put o.dst x)
  | known, k, o :: rest, .rel R :: Ss, a => Obl P ops E1 E2 w0 m k o (.rel R) a (Know ((Region.before ops).getD k 0) known) ∧ ∀ v, wpMono (known ++ [(k, R v)]) (k + 1) rest Ss (a.put o.dst v)
  | known, _, _, _, a => ∀ w, E2 w0 w → KnowAll known w → Z a w
end

/-! ### 'Region.before' -/
def stepB (acc : Array Nat) (o : Oper) : Nat := o.after.foldl (fun s e => if Region.binds .any e then s ||| 2 ^ e.on ||| acc.getD e.on 0 else s) 0

theorem before_eq (ops : Array Oper) : Region.before ops = ops.foldl (init := #[]) fun acc o => acc.push (stepB acc o) := rfl

def befL : List Oper → Array Nat → Array Nat
  | [], acc => acc
  | o :: r, acc => befL r (acc.push (stepB acc o))

theorem before_list (ops : Array Oper) : Region.before ops = befL ops.toList #[] := by
  rw [before_eq, ← Array.foldl_toList]
  generalize (#[] : Array Nat) = acc
  generalize ops.toList = l
  induction l generalizing acc with
  | nil => rfl
  | cons o r ih => exact ih _

theorem befL_old : ∀ (l : List Oper) (acc : Array Nat) (j : Nat), j < acc.size → (befL l acc).getD j 0 = acc.getD j 0
  | [], _, _, _ => rfl
  | o :: r, acc, j, h => by
    show (befL r (acc.push (stepB acc o))).getD j 0 = _
    rw [befL_old r _ j (by simp; omega)]
    simp [Array.getElem?_push, h, show ¬ j = acc.size by omega]

theorem testBit_fold (l : List Edge) (j : Nat) (f : Nat → Nat) : ∀ s : Nat, (l.foldl (fun s e => if Region.binds .any e then s ||| 2 ^ e.on ||| f e.on else s) s).testBit j = true →
    s.testBit j = true ∨ ∃ e ∈ l, Region.binds .any e = true ∧ (e.on = j ∨ (f e.on).testBit j = true) := by
  induction l with
  | nil => intro s h; exact .inl h
  | cons e l ih =>
    intro s h
    rw [List.foldl_cons] at h
    rcases ih _ h with h1 | ⟨e', he', r⟩
    · by_cases hb : Region.binds .any e = true
      · rw [if_pos hb] at h1
        rw [Nat.testBit_or, Nat.testBit_or, Bool.or_eq_true, Bool.or_eq_true, Nat.testBit_two_pow] at h1
        rcases h1 with (h1 | h1) | h1
        · exact .inl h1
        · exact .inr ⟨e, by simp, hb, .inl (by simpa using h1)⟩
        · exact .inr ⟨e, by simp, hb, .inr h1⟩
      · rw [if_neg hb] at h1; exact .inl h1
    · exact .inr ⟨e', List.mem_cons_of_mem _ he', r⟩

theorem befL_get : ∀ (l : List Oper) (acc : Array Nat) (k : Nat) (o : Oper), l[k]? = some o → ∀ j, ((befL l acc).getD (acc.size + k) 0).testBit j = true →
    ∃ e ∈ o.after, Region.binds .any e = true ∧ (e.on = j ∨ ((befL l acc).getD e.on 0).testBit j = true)
  | [], _, _, _, h, _, _ => by simp at h
  | o :: r, acc, 0, o', h, j, hj => by
    simp at h; subst h
    have e0 : (befL (o :: r) acc).getD (acc.size + 0) 0 = stepB acc o := by
      show (befL r (acc.push (stepB acc o))).getD (acc.size + 0) 0 = _
      rw [befL_old r _ _ (by simp)]; simp
    rw [e0] at hj
    unfold stepB at hj
    rw [← Array.foldl_toList] at hj
    rcases testBit_fold o.after.toList j (fun x => acc.getD x 0) 0 hj with h0 | ⟨e, he, hb, h1⟩
    · simp at h0
    · refine ⟨e, by simpa using he, hb, h1.imp id fun h2 => ?_⟩
      have hlt : e.on < acc.size := by
        rcases Nat.lt_or_ge e.on acc.size with h' | h'
        · exact h'
        · simp [Array.getElem?_eq_none h'] at h2
      show ((befL r (acc.push (stepB acc o))).getD e.on 0).testBit j = true
      rw [befL_old r _ _ (by simp; omega)]
      have : (acc.push (stepB acc o)).getD e.on 0 = acc.getD e.on 0 := by simp [Array.getElem?_push, hlt, show ¬ e.on = acc.size by omega]
      rw [this]; exact h2
  | o :: r, acc, k + 1, o', h, j, hj => by
    have := befL_get r (acc.push (stepB acc o)) k o' (by simpa using h) j
    rw [show (acc.push (stepB acc o)).size + k = acc.size + (k + 1) by simp; omega] at this
    exact this hj

theorem before_get {ops : Array Oper} {k : Nat} {o : Oper} (h : ops[k]? = some o) {j : Nat} (hj : ((Region.before ops).getD k 0).testBit j = true) :
    ∃ e ∈ o.after, Region.binds .any e = true ∧ (e.on = j ∨ ((Region.before ops).getD e.on 0).testBit j = true) := by
  rw [before_list] at hj ⊢
  have := befL_get ops.toList #[] k o (by simpa using h) j
  simpa using this (by simpa using hj)

/-! ### The looks -/
def dep (ops : Array Oper) (k j : Nat) : Bool := ((Region.before ops).getD k 0).testBit j

/-- Each slot that an operation looks at and that another one writes: that one is ahead of it, in the text and in each order; or behind it in both. No two write one slot. -/
def looksOk (ops : Array Oper) (B : Array Nat) : Bool :=
  ops.toList.zipIdx.all fun (o, k) => ops.toList.zipIdx.all fun (o', j) =>
    k == j || (match o'.dst with
      | none => true
      | some d => o.dst != some d && (!(o.looksAt ops).contains d || (if j < k then (B.getD k 0).testBit j else (B.getD j 0).testBit k)))

theorem mem_zipIdx_of {l : List Oper} {k : Nat} {o : Oper} (h : l[k]? = some o) : (o, k) ∈ l.zipIdx := by
  rw [List.mem_zipIdx_iff_getElem?]; exact h

theorem looksOk_spec {ops : Array Oper} {B : Array Nat} (hB : looksOk ops B = true) {k j : Nat} {o o' : Oper} (hk : ops[k]? = some o) (hj : ops[j]? = some o') (hne : k ≠ j) {d : Tmp} (hd : o'.dst = some d) :
    o.dst ≠ some d ∧ (d ∈ o.looksAt ops → if j < k then (B.getD k 0).testBit j = true else (B.getD j 0).testBit k = true) := by
  unfold looksOk at hB
  rw [List.all_eq_true] at hB
  have h1 := hB (o, k) (mem_zipIdx_of (by simpa using hk))
  rw [List.all_eq_true] at h1
  have h2 := h1 (o', j) (mem_zipIdx_of (by simpa using hj))
  simp only [hd, Bool.or_eq_true, beq_iff_eq, hne, false_or, Bool.and_eq_true, bne_iff_ne, Bool.not_eq_true'] at h2
  refine ⟨h2.1, fun hm => ?_⟩
  rcases h2.2 with h3 | h3
  · rw [List.contains_iff_mem.2 hm] at h3; cases h3
  · split <;> rename_i hlt <;> simp only [hlt, if_true] at h3 <;> exact h3

/-! ### The frame: which slots hold what -/
/-- The frame b is a0, but that each operation of L has written its value. -/
structure Fr (ops : Array Oper) (a0 b : Act) (L : Nat → Prop) (v : Nat → Value) : Prop where
  size : b.tmps.size = a0.tmps.size
  defers : b.defers = a0.defers
  put : ∀ i o d, ops[i]? = some o → L i → o.dst = some d → d < a0.tmps.size → b.tmps[d]? = some (v i)
  old : ∀ t, (∀ i o, ops[i]? = some o → L i → o.dst ≠ some t) → b.tmps[t]? = a0.tmps[t]?

theorem Fr.start (ops : Array Oper) (a0 : Act) (v : Nat → Value) : Fr ops a0 a0 (fun _ => False) v := ⟨rfl, rfl, fun _ _ _ _ h => h.elim, fun _ _ => rfl⟩

theorem Act.size_put (a : Act) (d : Option Tmp) (v : Value) : (a.put d v).tmps.size = a.tmps.size := by cases d <;> simp [Act.put]
theorem Act.defers_put (a : Act) (d : Option Tmp) (v : Value) : (a.put d v).defers = a.defers := by cases d <;> rfl
theorem Act.get_put_ne (a : Act) {d : Option Tmp} {t : Tmp} (v : Value) (h : d ≠ some t) : (a.put d v).tmps[t]? = a.tmps[t]? := by
  cases d with
  | none => rfl
  | some d => simp only [Act.put]; rw [Array.getElem?_setIfInBounds_ne (fun e => h (by rw [e]))]
theorem Act.get_put_eq (a : Act) {t : Tmp} (v : Value) (h : t < a.tmps.size) : (a.put (some t) v).tmps[t]? = some v := by simp [Act.put, h]

/-- One operation more writes. -/
theorem Fr.step {ops : Array Oper} {B : Array Nat} (hB : looksOk ops B = true) {a0 b : Act} {L : Nat → Prop} {v v' : Nat → Value} (h : Fr ops a0 b L v) {i : Nat} {o : Oper} (hi : ops[i]? = some o) (hv : ∀ j, L j → v' j = v j) {L' : Nat → Prop} (hL : ∀ j, L' j ↔ (L j ∨ j = i)) (hni : ¬ L i) :
    Fr ops a0 (b.put o.dst (v' i)) L' v' := by
  refine ⟨by rw [Act.size_put, h.size], by rw [Act.defers_put, h.defers], fun j oj d hj hLj hd hsz => ?_, fun t ht => ?_⟩
  · by_cases hji : j = i
    · subst hji
      rw [hi] at hj; cases hj
      rw [hd]
      exact Act.get_put_eq b _ (by rw [h.size]; exact hsz)
    · have hLj' : L j := ((hL j).1 hLj).resolve_right hji
      rw [Act.get_put_ne b _ (looksOk_spec hB hi hj (Ne.symm hji) hd).1, h.put j oj d hj hLj' hd hsz, hv j hLj']
  · rw [Act.get_put_ne b _ (ht i o hi ((hL i).2 (.inr rfl))), h.old t fun j oj hj hLj => ht j oj hj ((hL j).2 (.inl hLj))]

/-- Two frames over one start agree where they agree on who has written. -/
theorem Fr.ext {ops : Array Oper} {a0 b c : Act} {L : Nat → Prop} {v : Nat → Value} (hb : Fr ops a0 b L v) (hc : Fr ops a0 c L v) : b = c := by
  obtain ⟨bt, bd⟩ := b
  obtain ⟨ct, cd⟩ := c
  have h1 : bd = cd := hb.defers.trans hc.defers.symm
  have h2 : bt = ct := by
    apply Array.ext_getElem?
    intro t
    by_cases hw : ∃ i o, ops[i]? = some o ∧ L i ∧ o.dst = some t
    · obtain ⟨i, o, hi, hL, hd⟩ := hw
      by_cases hsz : t < a0.tmps.size
      · exact (hb.put i o t hi hL hd hsz).trans (hc.put i o t hi hL hd hsz).symm
      · have s1 : bt.size = a0.tmps.size := hb.size
        have s2 : ct.size = a0.tmps.size := hc.size
        rw [Array.getElem?_eq_none (by omega), Array.getElem?_eq_none (by omega)]
    · have hn : ∀ i o, ops[i]? = some o → L i → o.dst ≠ some t := fun i o hi hL hd => hw ⟨i, o, hi, hL, hd⟩
      exact (hb.old t hn).trans (hc.old t hn).symm
  rw [h1, h2]

theorem getD_of_get {b c : Array Value} {t : Nat} (h : b[t]? = c[t]?) : b.getD t undef = c.getD t undef := by
  simp [h]

/-- What an operation looks at reads alike in any order and in the text's. -/
theorem Fr.looks {ops : Array Oper} {a0 b c : Act} {L L' : Nat → Prop} {v : Nat → Value} (hb : Fr ops a0 b L v) (hc : Fr ops a0 c L' v) {k : Nat} {o : Oper} (hk : ops[k]? = some o) (hB : looksOk ops (Region.before ops) = true)
    (hL : ∀ j, ((Region.before ops).getD k 0).testBit j = true → L j) (hL0 : ∀ j, ((Region.before ops).getD j 0).testBit k = true → ¬ L j) (hL' : ∀ j, L' j ↔ j < k) (hnk : ¬ L k) :
    ∀ t ∈ o.looksAt ops, b.tmps[t]? = c.tmps[t]? := by
  intro t ht
  by_cases hw : ∃ i oi, ops[i]? = some oi ∧ oi.dst = some t ∧ i ≠ k
  · obtain ⟨i, oi, hi, hd, hne⟩ := hw
    obtain ⟨_, h2⟩ := looksOk_spec hB hk hi (Ne.symm hne) hd
    have h3 := h2 ht
    split at h3 <;> rename_i hlt
    · have hLi := hL i h3
      by_cases hsz : t < a0.tmps.size
      · exact (hb.put i oi t hi hLi hd hsz).trans (hc.put i oi t hi ((hL' i).2 hlt) hd hsz).symm
      · rw [Array.getElem?_eq_none (by rw [hb.size]; exact Nat.le_of_not_lt hsz), Array.getElem?_eq_none (by rw [hc.size]; exact Nat.le_of_not_lt hsz)]
    · have hNi := hL0 i h3
      have u : ∀ j oj, ops[j]? = some oj → oj.dst = some t → j = i := fun j oj hj hdj => by
        by_cases hji : j = i
        · exact hji
        · exact absurd hd (looksOk_spec hB hi hj (Ne.symm hji) hdj).1
      rw [hb.old t fun j oj hj hLj hdj => hNi (u j oj hj hdj ▸ hLj), hc.old t fun j oj hj hLj hdj => by have h5 : j = i := u j oj hj hdj; have h6 : j < k := (hL' j).1 hLj; omega]
  · have hn : ∀ j oj, ops[j]? = some oj → oj.dst = some t → j = k := fun j oj hj hd => by
      by_cases hjk : j = k
      · exact hjk
      · exact absurd ⟨j, oj, hj, hd, hjk⟩ hw
    rw [hb.old t fun j oj hj hLj hdj => hnk (hn j oj hj hdj ▸ hLj), hc.old t fun j oj hj hLj hdj => by have h5 : j = k := hn j oj hj hdj; have h6 : j < k := (hL' j).1 hLj; omega]

theorem execOp_looks {ops : Array Oper} {b c : Act} (o : Oper) (hs : ∀ cs x, o.op ≠ .select cs x) (h : ∀ t ∈ o.looksAt ops, b.tmps[t]? = c.tmps[t]?) : execOp b.eval o = execOp c.eval o :=
  execOp_congr o hs fun x hx => by
    cases x with
    | tmp t => exact getD_of_get (h t (List.mem_append_left _ (List.mem_filterMap.2 ⟨.tmp t, by simpa using hx, rfl⟩)))
    | _ => rfl

theorem wanted_looks {ops : Array Oper} {b c : Act} (o : Oper) (h : ∀ t ∈ o.looksAt ops, b.tmps[t]? = c.tmps[t]?) : Region.wanted o (yielded ops b.tmps) = Region.wanted o (yielded ops c.tmps) := by
  unfold Region.wanted
  cases hg : o.guard with
  | none => rfl
  | some g =>
    obtain ⟨j, want⟩ := g
    simp only
    congr 1
    unfold yielded
    cases hd : (ops[j]?).bind (·.dst) with
    | none => rfl
    | some d =>
      simp only [Option.bind_some]
      rw [h d (List.mem_append_right _ (by simp [hg, hd]))]

/-! ### One operation, out of its obligation -/
section
variable {P : Program} {ops : Array Oper} {E1 E2 : World → World → Prop} {w0 : World} {m : Nat}

/-- What one operation is asked, in words of its value alone. -/
def Yl (P : Program) (E : World → World → Prop) (S : Spec) (w : World) : Result Next → Prop
  | .ok (.value u) w' => E w w' ∧ S.holds u w'
  | .ok .skip w' => E w w' ∧ S.holds undef w'
  | .ok (.enter f args) w' => Calls P f args w' fun e w'' => ∃ u, e = .returned u ∧ E w w'' ∧ S.holds u w''
  | .ok (.row r args) w' => Rows P r args w' fun u w'' => E w w'' ∧ S.holds u w''
  | _ => False

theorem put_inj {a : Act} {d : Tmp} (hd : d < a.tmps.size) {u v : Value} (h : a.put (some d) u = a.put (some d) v) : u = v := by
  have h1 := Act.get_put_eq a u hd
  have h2 := Act.get_put_eq a v hd
  rw [h, h2] at h1
  exact (Option.some.inj h1).symm

theorem yl_of_obl {k : Nat} {o : Oper} {S : Spec} {a : Act} {kn : World → Prop} (h : Obl P ops E1 E2 w0 m k o S a kn) (hd : ∃ d, o.dst = some d ∧ d < a.tmps.size) {w : World}
    (hw : if k = m then E1 w0 w else E2 w0 w) (hkn : kn w) :
    if Region.wanted o (yielded ops a.tmps) then Yl P (if k = m then E2 else E1) S w ((execOp a.eval o).run P w) else (if k = m then E2 else E1) w w ∧ S.holds undef w := by
  obtain ⟨d, hd, hsz⟩ := hd
  have h1 := h w hw hkn (fun a' w' => ∃ v, a' = a.put o.dst v ∧ (if k = m then E2 else E1) w w' ∧ S.holds v w') (fun v w' he hs => ⟨v, rfl, by split <;> simp_all, hs⟩)
  have back : ∀ u w', (∃ v, a.put o.dst u = a.put o.dst v ∧ (if k = m then E2 else E1) w w' ∧ S.holds v w') → (if k = m then E2 else E1) w w' ∧ S.holds u w' := by
    rintro u w' ⟨v, he, h2, h3⟩
    rw [hd] at he
    rw [put_inj hsz he]
    exact ⟨h2, h3⟩
  unfold wpList at h1
  split <;> rename_i hwant
  · rw [if_pos hwant] at h1
    rcases h1 with h1 | ⟨_, a', w', hf⟩
    case inr => exact hf.elim
    unfold Oper.wp at h1
    generalize (execOp a.eval o).run P w = r at h1 ⊢
    cases r with
    | ok n w' =>
      cases n <;> simp only [Oper.upon] at h1
      case value u => exact back u w' h1
      case skip => exact back undef w' h1
      case defer dd =>
        obtain ⟨v, he, _⟩ := h1
        have := congrArg Act.defers he
        rw [Act.defers_put, Act.defers_put] at this
        exact absurd this (by simp)
      case enter f args =>
        refine Calls.mono h1 fun e w'' he => ?_
        cases e with
        | returned u => exact ⟨u, rfl, back u w'' he⟩
        | panicked c => exact False.elim he
        | outgrown => obtain ⟨_, _, hf⟩ := he; exact hf.elim
      case row r args => exact Rows.mono h1 fun u w'' he => back u w'' he
    | halt x w' =>
      cases x <;> simp only [Oper.upon] at h1
      case panic u => exact False.elim h1
  · rw [if_neg hwant] at h1
    exact back undef w h1

/-- ... and back, in whatever frame that the operation sees alike. -/
theorem wpOp_of_yl {Q : Exit → Act → World → Prop} {i : Nat} {o : Oper} (hi : ops[i]? = some o) {a b : Act} {w : World} {E : World → World → Prop} {S : Spec} {Kb : Act → World → Prop}
    (he : execOp b.eval o = execOp a.eval o) (hwt : Region.wanted o (yielded ops b.tmps) = Region.wanted o (yielded ops a.tmps))
    (h : if Region.wanted o (yielded ops a.tmps) then Yl P E S w ((execOp a.eval o).run P w) else E w w ∧ S.holds undef w)
    (hK : ∀ u w', E w w' → S.holds u w' → Kb (b.put o.dst u) w') : wpOp P ops Q i Kb b w := by
  unfold wpOp
  simp only [hi]
  rw [hwt]
  split <;> rename_i hwant
  · rw [if_pos hwant] at h
    refine .inl ?_
    unfold Oper.wp
    rw [he]
    generalize (execOp a.eval o).run P w = r at h ⊢
    cases r with
    | ok n w' =>
      cases n <;> simp only [Yl] at h <;> simp only [Oper.upon]
      case value u => exact hK _ _ h.1 h.2
      case skip => exact hK _ _ h.1 h.2
      case enter f args => exact Calls.mono h fun e w'' ⟨u, he, h1, h2⟩ => by subst he; exact hK _ _ h1 h2
      case row r args => exact Rows.mono h fun u w'' hu => hK _ _ hu.1 hu.2
    | halt x w' => simp only [Yl] at h
  · rw [if_neg hwant] at h
    exact hK _ _ h.1 h.2

/-! ### The lexical walk gives each operation's obligation, at each choice of values -/
/-- The frame ahead of operation k, in the text's order. -/
def lex (a : Act) (v : Nat → Value) : Nat → Nat → List Oper → Act
  | _, 0, _ => a
  | _, _, [] => a
  | k, n + 1, o :: rest => lex (a.put o.dst (v k)) v (k + 1) n rest

/-- What is known, at each choice of values. -/
def knows (S : Nat → Spec) (v : Nat → Value) : Nat → Nat → List (Nat × (World → Prop))
  | _, 0 => []
  | k, n + 1 => (k, fun w => (S k).holds (v k) w) :: knows S v (k + 1) n

theorem know_iff (D : Nat) : ∀ (l : List (Nat × (World → Prop))) (w : World), Know D l w ↔ ∀ p ∈ l, D.testBit p.1 = true → p.2 w
  | [], w => by simp [Know]
  | p :: r, w => by simp [Know, know_iff D r w]

theorem knowAll_iff : ∀ (l : List (Nat × (World → Prop))) (w : World), KnowAll l w ↔ ∀ p ∈ l, p.2 w
  | [], w => by simp [KnowAll]
  | p :: r, w => by simp [KnowAll, knowAll_iff r w]

/-- Of a choice of values it is asked that it holds where the kind is 'it is x'. -/
def Fits (Ss : List Spec) (v : Nat → Value) : Prop := ∀ (j : Nat) (x : Value), Ss[j]? = some (.is x) → v j = x

theorem wpMono_gives {Z : Act → World → Prop} (v : Nat → Value) : ∀ (rest : List Oper) (Ss : List Spec) (known : List (Nat × (World → Prop))) (k : Nat) (a : Act), rest.length = Ss.length →
    (∀ p ∈ known, p.1 < k ∧ ∃ S : Spec, True) → wpMono P ops E1 E2 w0 m Z known k rest Ss a → (∀ (j : Nat) (x : Value), Ss[j]? = some (.is x) → v (k + j) = x) →
    (∀ (j : Nat) (o : Oper) (S : Spec), rest[j]? = some o → Ss[j]? = some S →
      ∀ kn : World → Prop, (∀ w, kn w → (∀ p ∈ known, ((Region.before ops).getD (k + j) 0).testBit p.1 = true → p.2 w) ∧ ∀ (i : Nat) (S' : Spec), i < j → Ss[i]? = some S' → ((Region.before ops).getD (k + j) 0).testBit (k + i) = true → S'.holds (v (k + i)) w) →
      Obl P ops E1 E2 w0 m (k + j) o S (lex a v k j rest) kn) ∧
    (∀ w, E2 w0 w → (∀ p ∈ known, p.2 w) → (∀ (i : Nat) (S' : Spec), Ss[i]? = some S' → S'.holds (v (k + i)) w) → Z (lex a v k rest.length rest) w)
  | [], [], known, k, a, _, _, h, _ => by
    refine ⟨fun j o S hj => by simp at hj, fun w hE hkn _ => ?_⟩
    unfold wpMono at h
    exact h w hE ((knowAll_iff known w).2 hkn)
  | [], _ :: _, _, _, _, hl, _, _, _ => by simp at hl
  | _ :: _, [], _, _, _, hl, _, _, _ => by simp at hl
  | o :: rest, .is x :: Ss, known, k, a, hl, hkn, h, hv => by
    unfold wpMono at h
    obtain ⟨h1, h2⟩ := h
    have hx : v k = x := hv 0 x rfl
    have ih := wpMono_gives v rest Ss known (k + 1) (a.put o.dst x) (by simpa using hl) (fun p hp => ⟨by have := (hkn p hp).1; omega, .is undef, trivial⟩) h2
      (fun j y hj => by have := hv (j + 1) y (by simpa using hj); rwa [show k + (j + 1) = k + 1 + j by omega] at this)
    refine ⟨fun j oj S hj hS kn hk => ?_, fun w hE h3 h4 => ?_⟩
    · cases j with
      | zero =>
        simp at hj hS; subst hj; subst hS
        intro w hw hkw
        exact h1 w hw ((know_iff _ known w).2 (hk w hkw).1)
      | succ j =>
        have := ih.1 j oj S (by simpa using hj) (by simpa using hS) kn (fun w hkw => by
          obtain ⟨q1, q2⟩ := hk w hkw
          refine ⟨by rwa [show k + 1 + j = k + (j + 1) by omega], fun i S' hij hS' hb => ?_⟩
          have := q2 (i + 1) S' (by omega) (by simpa using hS') (by rwa [show k + (j + 1) = k + 1 + j by omega, show k + (i + 1) = k + 1 + i by omega])
          rwa [show k + (i + 1) = k + 1 + i by omega] at this)
        rw [show k + (j + 1) = k + 1 + j by omega]
        show Obl P ops E1 E2 w0 m (k + 1 + j) oj S (lex (a.put o.dst (v k)) v (k + 1) j rest) kn
        rw [hx]; exact this
    · have := ih.2 w hE h3 (fun i S' hS' => by have := h4 (i + 1) S' (by simpa using hS'); rwa [show k + (i + 1) = k + 1 + i by omega] at this)
      show Z (lex (a.put o.dst (v k)) v (k + 1) rest.length rest) w
      rw [hx]; exact this
  | o :: rest, .rel R :: Ss, known, k, a, hl, hkn, h, hv => by
    unfold wpMono at h
    obtain ⟨h1, h2⟩ := h
    have ih := wpMono_gives v rest Ss (known ++ [(k, R (v k))]) (k + 1) (a.put o.dst (v k)) (by simpa using hl)
      (fun p hp => ⟨by rcases List.mem_append.1 hp with hp | hp; (have := (hkn p hp).1; omega); (simp at hp; subst hp; simp), .is undef, trivial⟩) (h2 (v k))
      (fun j y hj => by have := hv (j + 1) y (by simpa using hj); rwa [show k + (j + 1) = k + 1 + j by omega] at this)
    refine ⟨fun j oj S hj hS kn hk => ?_, fun w hE h3 h4 => ?_⟩
    · cases j with
      | zero =>
        simp at hj hS; subst hj; subst hS
        intro w hw hkw
        exact h1 w hw ((know_iff _ known w).2 (hk w hkw).1)
      | succ j =>
        have := ih.1 j oj S (by simpa using hj) (by simpa using hS) kn (fun w hkw => by
          obtain ⟨q1, q2⟩ := hk w hkw
          refine ⟨fun p hp hb => ?_, fun i S' hij hS' hb => ?_⟩
          · rcases List.mem_append.1 hp with hp | hp
            · exact q1 p hp (by rwa [show k + (j + 1) = k + 1 + j by omega])
            · simp at hp; subst hp
              exact q2 0 (.rel R) (by omega) (by simp) (by rw [show k + (j + 1) = k + 1 + j by omega]; exact hb)
          · have := q2 (i + 1) S' (by omega) (by simpa using hS') (by rwa [show k + (j + 1) = k + 1 + j by omega, show k + (i + 1) = k + 1 + i by omega])
            rwa [show k + (i + 1) = k + 1 + i by omega] at this)
        rw [show k + (j + 1) = k + 1 + j by omega]
        exact this
    · exact ih.2 w hE (fun p hp => by
        rcases List.mem_append.1 hp with hp | hp
        · exact h3 p hp
        · simp at hp; subst hp; exact h4 0 (.rel R) (by simp)) (fun i S' hS' => by have := h4 (i + 1) S' (by simpa using hS'); rwa [show k + (i + 1) = k + 1 + i by omega] at this)

/-- The text's order, as a frame. -/
theorem lex_fr (hB : looksOk ops (Region.before ops) = true) (a0 : Act) (v : Nat → Value) : ∀ (rest : List Oper) (k n : Nat) (a : Act), (∀ j, rest[j]? = ops[k + j]?) → n ≤ rest.length → Fr ops a0 a (fun j => j < k) v → Fr ops a0 (lex a v k n rest) (fun j => j < k + n) v
  | _, _, 0, _, _, _, h => by unfold lex; simpa using h
  | [], _, n + 1, _, _, hn, _ => by simp at hn
  | o :: rest, k, n + 1, a, hr, hn, h => by
    have h0 : ops[k]? = some o := by simpa using (hr 0).symm
    have h1 : Fr ops a0 (a.put o.dst (v k)) (fun j => j < k + 1) v := h.step hB h0 (fun _ _ => rfl) (fun j => by omega) (by omega)
    have := lex_fr hB a0 v rest (k + 1) n (a.put o.dst (v k)) (fun j => by have := hr (j + 1); simpa [Nat.add_assoc, Nat.add_comm 1 j] using this) (by simpa using hn) h1
    rw [show k + (n + 1) = k + 1 + n by omega]
    exact this

/-! ### Any order -/
structure Inv (ops : Array Oper) (E1 E2 : World → World → Prop) (w0 : World) (m : Nat) (Ss : List Spec) (a0 : Act) (listed : Array Bool) (b : Act) (w : World) (v : Nat → Value) : Prop where
  fr : Fr ops a0 b (fun j => listed.getD j false = true) v
  fits : ∀ j x, Ss[j]? = some (.is x) → v j = x
  holds : ∀ j S, listed.getD j false = true → Ss[j]? = some S → S.holds (v j) w
  e2 : E2 w0 w
  e1 : listed.getD m false = false → E1 w0 w
  closed : ∀ j, listed.getD j false = true → ∀ i, ((Region.before ops).getD j 0).testBit i = true → listed.getD i false = true

def upd (v : Nat → Value) (i : Nat) (u : Value) : Nat → Value := fun j => if j = i then u else v j
theorem upd_self (v : Nat → Value) (i : Nat) (u : Value) : upd v i u i = u := by simp [upd]
theorem upd_ne (v : Nat → Value) {i j : Nat} (u : Value) (h : j ≠ i) : upd v i u j = v j := by simp [upd, h]

/-- What the preorders are asked. -/
structure Pre (E1 E2 : World → World → Prop) : Prop where
  weak : ∀ a b, E1 a b → E2 a b
  trans1 : ∀ a b c, E1 a b → E1 b c → E1 a c
  trans2 : ∀ a b c, E2 a b → E2 b c → E2 a c

def unl (listed : Array Bool) (n : Nat) : Nat := (List.range n).countP fun j => !listed.getD j false

theorem unl_set {listed : Array Bool} {i : Nat} (hi : i < listed.size) (hu : listed.getD i false = false) : ∀ n, (i < n → unl listed n = unl (listed.setIfInBounds i true) n + 1) ∧ (n ≤ i → unl listed n = unl (listed.setIfInBounds i true) n)
  | 0 => ⟨fun h => by omega, fun _ => rfl⟩
  | n + 1 => by
    obtain ⟨h1, h2⟩ := unl_set hi hu n
    have hs : ∀ l : Array Bool, unl l (n + 1) = unl l n + if l.getD n false = false then 1 else 0 := fun l => by
      unfold unl; rw [List.range_succ, List.countP_append]; simp [List.countP_cons]
    rw [hs, hs]
    have hset : (listed.setIfInBounds i true).getD i false = true := by simp [hi]
    refine ⟨fun h => ?_, fun h => ?_⟩
    · by_cases hin : i = n
      · subst hin; rw [h2 (Nat.le_refl _), hset, hu]; simp
      · rw [h1 (by omega), getD_set_ne false hin]; omega
    · rw [h2 (by omega), getD_set_ne false (by omega)]

theorem unl_zero {listed : Array Bool} {n : Nat} (h : unl listed n = 0) : ∀ j, j < n → listed.getD j false = true := by
  intro j hj
  unfold unl at h
  rw [List.countP_eq_zero] at h
  have := h j (List.mem_range.2 hj)
  simpa using this

theorem unl_all (ops : Array Oper) : ∀ n, unl (Array.replicate ops.size false) n = n
  | 0 => rfl
  | n + 1 => by
    have := unl_all ops n
    unfold unl at *
    rw [List.range_succ, List.countP_append, this]
    simp [Array.getElem?_replicate]
    split <;> simp

/-- Edges lead back. -/
def backOk (ops : Array Oper) : Bool := ops.toList.zipIdx.all fun (o, k) => o.after.toList.all fun e => !Region.binds .any e || decide (e.on < k)
theorem backOk_spec {ops : Array Oper} (h : backOk ops = true) {k : Nat} {o : Oper} (hk : ops[k]? = some o) : ∀ e ∈ o.after, Region.binds .any e = true → e.on < k := by
  intro e he hb
  unfold backOk at h
  rw [List.all_eq_true] at h
  have h1 := h (o, k) (mem_zipIdx_of (by simpa using hk))
  rw [List.all_eq_true] at h1
  have h2 := h1 e (by simpa using he)
  simpa [hb] using h2

/-- From operation n on, each waits for all that are ahead of it. -/
def tailOk (ops : Array Oper) (B : Array Nat) (n : Nat) : Bool := (List.range ops.size).all fun k => decide (k < n) || (List.range k).all fun j => (B.getD k 0).testBit j
theorem tailOk_spec {ops : Array Oper} {B : Array Nat} {n : Nat} (h : tailOk ops B n = true) {k j : Nat} (hk : k < ops.size) (hn : n ≤ k) (hj : j < k) : (B.getD k 0).testBit j = true := by
  unfold tailOk at h
  rw [List.all_eq_true] at h
  have h1 := h k (List.mem_range.2 hk)
  rw [Bool.or_eq_true, List.all_eq_true] at h1
  rcases h1 with h1 | h1
  · simp at h1; omega
  · exact h1 j (List.mem_range.2 hj)

theorem exists_min {p : Nat → Prop} [DecidablePred p] : ∀ n, p n → ∃ k, p k ∧ k ≤ n ∧ ∀ j, j < k → ¬ p j
  | 0, h => ⟨0, h, Nat.le_refl _, fun j hj => by omega⟩
  | n + 1, h => by
    by_cases hx : ∃ k, k ≤ n ∧ p k
    · obtain ⟨k, hk, hp⟩ := hx
      obtain ⟨k', a, b, c⟩ := exists_min k hp
      exact ⟨k', a, by omega, c⟩
    · exact ⟨n + 1, h, Nat.le_refl _, fun j hj hp => hx ⟨j, by omega, hp⟩⟩

/-- The least that has not come up may come up. -/
theorem least_ready {listed : Array Bool} (hs : listed.size = ops.size) (hb : backOk ops = true) {j : Nat} (hj : j < ops.size) (hu : listed.getD j false = false) : ∃ k, k ∈ Region.ready .any ops listed ∧ k ≤ j ∧ ∀ i, i < k → listed.getD i false = true := by
  obtain ⟨k, h1, h2, h3⟩ := exists_min (p := fun k => listed.getD k false = false) j hu
  have hk : k < ops.size := by omega
  refine ⟨k, mem_ready.2 ⟨?_, ops[k], by simp [hk], fun e he hbe => ?_⟩, h2, fun i hi => by simpa using h3 i hi⟩
  · have hk' : k < listed.size := by omega
    simpa [hk'] using h1
  · have := backOk_spec hb (k := k) (o := ops[k]) (by simp [hk]) e he hbe
    simpa using h3 e.on this

theorem ready_unlisted {listed : Array Bool} (hs : listed.size = ops.size) {i : Nat} (hi : i ∈ Region.ready .any ops listed) : ∃ o, ops[i]? = some o ∧ i < ops.size ∧ listed.getD i false = false ∧ ∀ e ∈ o.after, Region.binds .any e = true → listed.getD e.on false = true := by
  obtain ⟨h1, o, ho, h2⟩ := mem_ready.1 hi
  have hlt : i < ops.size := (Array.getElem?_eq_some_iff.1 ho).1
  have hl : i < listed.size := by omega
  exact ⟨o, ho, hlt, by simpa [hl] using h1, h2⟩

/-- The tail: in the text's order alone. -/
theorem tail_any {Q : Exit → Act → World → Prop} {n : Nat} (hb : backOk ops = true) (ht : tailOk ops (Region.before ops) n = true) : ∀ (l : List Oper) (k : Nat) (listed : Array Bool) (a : Act) (w : World), n ≤ k → (∀ j, l[j]? = ops[k + j]?) → listed.size = ops.size → k + l.length = ops.size →
    (∀ j, j < k → listed.getD j false = true) → (∀ j, k ≤ j → j < ops.size → listed.getD j false = false) → wpList P ops Q l a w → wpAny P .any ops Q l.length listed a w
  | [], k, listed, a, w, _, hl, hs, hk, h1, h2, h => by
    refine ⟨?_, h⟩
    cases hr : Region.ready .any ops listed with
    | nil => rfl
    | cons i r =>
      obtain ⟨o, _, hi, hu, _⟩ := ready_unlisted hs (i := i) (by rw [hr]; simp)
      have := h1 i (by simp at hk; omega)
      rw [this] at hu; cases hu
  | o :: l, k, listed, a, w, hn, hl, hs, hk, h1, h2, h => by
    have h0 : ops[k]? = some o := by simpa using (hl 0).symm
    have hklt : k < ops.size := by simp at hk; omega
    refine ⟨fun hr => ?_, fun i hi => ?_⟩
    · obtain ⟨k', hk', _⟩ := least_ready hs hb hklt (h2 k (Nat.le_refl _) hklt)
      rw [hr] at hk'; cases hk'
    · obtain ⟨oi, hoi, hilt, hu, hed⟩ := ready_unlisted hs hi
      have hki : k ≤ i := Nat.le_of_not_lt fun hlt => by rw [h1 i hlt] at hu; cases hu
      have hik : i = k := by
        rcases Nat.lt_or_ge k i with hlt | hge
        · exfalso
          have hd := tailOk_spec ht hilt (by omega) hlt
          obtain ⟨e, he, hbe, hor⟩ := before_get hoi hd
          have hle := hed e he hbe
          rcases hor with rfl | hor
          · rw [h2 e.on (Nat.le_refl _) hklt] at hle; cases hle
          · have heb := backOk_spec hb hoi e he hbe
            rcases Nat.lt_or_ge e.on k with h6 | h6
            · obtain ⟨oe, hoe⟩ : ∃ oe, ops[e.on]? = some oe := ⟨ops[e.on], by simp [show e.on < ops.size by omega]⟩
              have bits : ∀ (x : Nat) (ox : Oper), ops[x]? = some ox → ∀ y, ((Region.before ops).getD x 0).testBit y = true → y < x := by
                intro x
                induction x using Nat.strongRecOn with
                | _ x ih =>
                  intro ox hox y hy
                  obtain ⟨e', he', hb', hor'⟩ := before_get hox hy
                  have hlt' := backOk_spec hb hox e' he' hb'
                  rcases hor' with rfl | hor'
                  · exact hlt'
                  · have hsz : e'.on < ops.size := by have := (Array.getElem?_eq_some_iff.1 hox).1; omega
                    have := ih e'.on hlt' ops[e'.on] (by simp [hsz]) y hor'
                    omega
              have := bits e.on oe hoe k hor
              omega
            · rw [h2 e.on h6 (by omega)] at hle; cases hle
        · omega
      subst hik
      unfold wpOp
      simp only [h0]
      unfold wpList at h
      have next : ∀ a' w', wpList P ops Q l a' w' → wpAny P .any ops Q l.length (listed.setIfInBounds i true) a' w' := fun a' w' h' =>
        tail_any hb ht l (i + 1) _ a' w' (by omega) (fun j => by have := hl (j + 1); simpa [Nat.add_assoc, Nat.add_comm 1 j] using this) (by simpa using hs) (by simp at hk; omega)
          (fun j hj => by
            by_cases hji : j = i
            · subst hji; simp [show j < listed.size by omega]
            · rw [getD_set_ne false (Ne.symm hji)]; exact h1 j (by omega))
          (fun j hj hjs => by rw [getD_set_ne false (by omega)]; exact h2 j (by omega) hjs) h'
      split <;> rename_i hwant
      · rw [if_pos hwant] at h; exact h.imp (Oper.wp_mono next) id
      · rw [if_neg hwant] at h; exact next _ _ h

theorem lex_take (v : Nat → Value) : ∀ (l : List Oper) (k n : Nat) (a : Act), lex a v k n l = lex a v k n (l.take n)
  | _, _, 0, _ => rfl
  | [], _, _ + 1, _ => rfl
  | o :: l, k, n + 1, a => by show lex _ v (k + 1) n l = lex _ v (k + 1) n (l.take n); exact lex_take v l (k + 1) n _

theorem any_of_mono {Q : Exit → Act → World → Prop} {a0 : Act} {Ss : List Spec} {pre tail : List Oper} (hops : ops = (pre ++ tail).toArray) (hp : Pre E1 E2) (hB : looksOk ops (Region.before ops) = true) (hb : backOk ops = true) (ht : tailOk ops (Region.before ops) pre.length = true)
    (hdst : ∀ (i : Nat) (o : Oper), pre[i]? = some o → ∃ d, o.dst = some d ∧ d < a0.tmps.size) (hsel : Region.noSelect ops = true) (hl : pre.length = Ss.length)
    (hst : ∀ (j : Nat) R v w w', Ss[j]? = some (Spec.rel R) → R v w → (if j = m then E1 w w' else E2 w w') → R v w')
    (h : wpMono P ops E1 E2 w0 m (wpList P ops Q tail) [] 0 pre Ss a0) :
    ∀ (fuel : Nat) (listed : Array Bool) (b : Act) (w : World) (v : Nat → Value), listed.size = ops.size → unl listed ops.size = fuel → (∀ j, pre.length ≤ j → listed.getD j false = false) → Inv ops E1 E2 w0 m Ss a0 listed b w v →
      wpAny P .any ops Q fuel listed b w := by
  have hsz : ops.size = pre.length + tail.length := by rw [hops]; simp
  have hpre : ∀ j, j < pre.length → ops[j]? = pre[j]? := fun j hj => by rw [hops]; simp [List.getElem?_append, hj]
  have htl : ∀ j, tail[j]? = ops[pre.length + j]? := fun j => by rw [hops]; simp [List.getElem?_append, show ¬ pre.length + j < pre.length by omega]
  have htk : ∀ j, (pre ++ tail)[j]? = ops[0 + j]? := fun j => by rw [hops]; simp
  -- all of the first part has come up: the frame is the text's, and the tail stands
  have fin : ∀ (listed : Array Bool) (b : Act) (w : World) (v : Nat → Value), (∀ j, pre.length ≤ j → listed.getD j false = false) → Inv ops E1 E2 w0 m Ss a0 listed b w v → (∀ j, j < pre.length → listed.getD j false = true) → wpList P ops Q tail b w := by
    intro listed b w v hun hI hall
    have g := (wpMono_gives v pre Ss [] 0 a0 hl (fun _ hp => by simp at hp) h (fun j x hj => by simpa using hI.fits j x hj)).2 w hI.e2 (fun _ hp => by simp at hp) (fun i S' hi => by
      have hlt : i < pre.length := by have := (List.getElem?_eq_some_iff.1 hi).1; omega
      simpa using hI.holds i S' (hall i hlt) hi)
    have hf := lex_fr hB a0 v (pre ++ tail) 0 pre.length a0 htk (by simp) ⟨rfl, rfl, fun _ _ _ _ hj => absurd hj (by omega), fun _ _ => rfl⟩
    rw [lex_take, List.take_left' rfl] at hf
    have e : b = lex a0 v 0 pre.length pre := by
      refine Fr.ext (L := fun j => j < 0 + pre.length) ?_ hf
      refine ⟨hI.fr.size, hI.fr.defers, fun i o d hi hLi hd hs => hI.fr.put i o d hi (hall i (by omega)) hd hs, fun t hn => hI.fr.old t fun i o hi hLi hd => hn i o hi ?_ hd⟩
      rcases Nat.lt_or_ge i pre.length with h' | h'
      · omega
      · have := hun i h'; rw [this] at hLi; cases hLi
    rw [e]; exact g
  intro fuel
  induction fuel with
  | zero =>
    intro listed b w v hs hu hun hI
    have hall := unl_zero hu
    have ht0 : tail = [] := by
      cases tail with
      | nil => rfl
      | cons o t =>
        have h1 := hall pre.length (by rw [hsz]; simp)
        rw [hun _ (Nat.le_refl _)] at h1; cases h1
    refine ⟨?_, ?_⟩
    · cases hr : Region.ready .any ops listed with
      | nil => rfl
      | cons i r =>
        obtain ⟨o, _, hi, hui, _⟩ := ready_unlisted hs (i := i) (by rw [hr]; simp)
        rw [hall i hi] at hui; cases hui
    · have := fin listed b w v hun hI (fun j hj => hall j (by omega))
      rw [ht0] at this
      exact this
  | succ fuel ih =>
    intro listed b w v hs hu hun hI
    refine ⟨fun hr => ?_, fun i hi => ?_⟩
    · exfalso
      have hex : ∃ j, j < ops.size ∧ listed.getD j false = false := by
        have : ∃ j ∈ List.range ops.size, (!listed.getD j false) = true := by
          have h0 : 0 < (List.range ops.size).countP fun j => !listed.getD j false := by unfold unl at hu; omega
          exact List.countP_pos_iff.1 h0
        obtain ⟨j, hj, hjj⟩ := this
        exact ⟨j, List.mem_range.1 hj, by simpa using hjj⟩
      obtain ⟨j, hj, huj⟩ := hex
      obtain ⟨k, hk, _⟩ := least_ready hs hb hj huj
      rw [hr] at hk; cases hk
    · obtain ⟨o, ho, hilt, hui, hed⟩ := ready_unlisted hs hi
      have hdeps : ∀ j, ((Region.before ops).getD i 0).testBit j = true → listed.getD j false = true := fun j hj => by
        obtain ⟨e, he, hbe, hor⟩ := before_get ho hj
        rcases hor with rfl | hor
        · exact hed e he hbe
        · exact hI.closed e.on (hed e he hbe) j hor
      rcases Nat.lt_or_ge i pre.length with hlt | hge
      · -- one of the first part
        have hoi : pre[i]? = some o := by rw [← hpre i hlt]; exact ho
        obtain ⟨S, hS⟩ : ∃ S, Ss[i]? = some S := ⟨Ss[i]'(by omega), by simp [show i < Ss.length by omega]⟩
        have g := (wpMono_gives v pre Ss [] 0 a0 hl (fun _ hp => by simp at hp) h (fun j x hj => by simpa using hI.fits j x hj)).1 i o S hoi hS
          (fun w' => w' = w) (fun w' hw' => ⟨fun _ hp => by simp at hp, fun j S' hji hS' hbit => by
            subst hw'
            have := hI.holds j S' (hdeps j (by simpa using hbit)) hS'
            simpa using this⟩)
        have hf := lex_fr hB a0 v (pre ++ tail) 0 i a0 htk (by simp; omega) ⟨rfl, rfl, fun _ _ _ _ hj => absurd hj (by omega), fun _ _ => rfl⟩
        have hlx : lex a0 v 0 i (pre ++ tail) = lex a0 v 0 i pre := by
          rw [lex_take, lex_take v pre, List.take_append_of_le_length (by omega)]
        rw [hlx] at hf
        simp only [Nat.zero_add] at g hf
        have hw : if i = m then E1 w0 w else E2 w0 w := by
          split
          · rename_i him; subst him; exact hI.e1 hui
          · exact hI.e2
        obtain ⟨d, hd, hdsz⟩ := hdst i o hoi
        have gy := yl_of_obl g ⟨d, hd, by rw [hf.size]; exact hdsz⟩ hw rfl
        have hlk := Fr.looks hI.fr hf ho hB hdeps (fun j hj hLj => by
          have := hI.closed j hLj i hj
          rw [hui] at this; cases this) (fun j => Iff.rfl) (by rw [hui]; simp)
        refine wpOp_of_yl ho (execOp_looks o (fun cs x => Region.noSelect_spec hsel i o cs x ho) hlk) (wanted_looks o hlk) gy fun u w' hE hSu => ?_
        have hset : (listed.setIfInBounds i true).getD i false = true := by simp [show i < listed.size by omega]
        refine ih (listed.setIfInBounds i true) (b.put o.dst u) w' (upd v i u) (by simpa using hs) (by have := (unl_set (by omega) hui ops.size).1 hilt; omega)
          (fun j hj => by rw [getD_set_ne false (by omega)]; exact hun j hj) ?_
        have hgrow : E2 w w' := by split at hE; exact hE; exact hp.weak _ _ hE
        refine ⟨?_, fun j x hj => ?_, fun j S' hj hS' => ?_, hp.trans2 _ _ _ hI.e2 hgrow, fun hm => ?_, fun j hj j' hb' => ?_⟩
        · have := hI.fr.step (v' := upd v i u) (L' := fun j => (listed.setIfInBounds i true).getD j false = true) hB ho (fun j hLj => upd_ne v u (fun e => by subst e; rw [hui] at hLj; cases hLj)) (fun j => by
            by_cases hji : j = i
            · subst hji; simp [hset]
            · simp only [getD_set_ne false (Ne.symm hji), hji, or_false]) (by rw [hui]; simp)
          rw [upd_self] at this
          exact this
        · by_cases hji : j = i
          · subst hji
            rw [hj] at hS; cases hS
            rw [upd_self]; exact hSu
          · rw [upd_ne v u hji]; exact hI.fits j x hj
        · by_cases hji : j = i
          · subst hji
            rw [hS'] at hS; cases hS
            rw [upd_self]; exact hSu
          · rw [getD_set_ne false (Ne.symm hji)] at hj
            rw [upd_ne v u hji]
            have h3 := hI.holds j S' hj hS'
            cases S' with
            | is x => exact h3
            | rel R =>
              refine hst j R _ _ _ hS' h3 ?_
              split
              · rename_i hjm; rwa [if_neg (fun e => hji (hjm.trans e.symm))] at hE
              · exact hgrow
        · have hne : ¬ i = m := fun e => by subst e; rw [hset] at hm; cases hm
          rw [if_neg hne] at hE
          exact hp.trans1 _ _ _ (hI.e1 (by rwa [getD_set_ne false hne] at hm)) hE
        · by_cases hji : j = i
          · subst hji
            exact getD_set_true (hdeps j' hb')
          · rw [getD_set_ne false (Ne.symm hji)] at hj
            exact getD_set_true (hI.closed j hj j' hb')
      · -- the tail begins
        have hall : ∀ j, j < i → listed.getD j false = true := fun j hj => hdeps j (tailOk_spec ht hilt hge hj)
        have hi0 : i = pre.length := by
          rcases Nat.lt_or_ge pre.length i with h' | h'
          · have := hall _ h'; rw [hun _ (Nat.le_refl _)] at this; cases this
          · omega
        have hw := fin listed b w v hun hI (fun j hj => hall j (by omega))
        have hcnt : fuel + 1 = tail.length := by
          have h1 : ∀ n, n ≤ tail.length → unl listed (pre.length + n) = n := by
            intro n hn
            unfold unl
            rw [List.range_eq_range', ← List.range'_append_1, List.countP_append, Nat.zero_add]
            have e1 : (List.range' 0 pre.length).countP (fun j => !listed.getD j false) = 0 := by
              rw [List.countP_eq_zero]; intro j hj; simp at hj; have := hall j (by omega); simp [this]
            have e2 : (List.range' pre.length n).countP (fun j => !listed.getD j false) = n := by
              have : (List.range' pre.length n).countP (fun j => !listed.getD j false) = (List.range' pre.length n).length := by
                rw [List.countP_eq_length]; intro j hj; simp at hj; have := hun j (by omega); simp [this]
              rw [this]; simp
            rw [e1, e2]; omega
          have := h1 tail.length (Nat.le_refl _)
          rw [← hsz, hu] at this; exact this
        have := tail_any hb ht tail pre.length listed b w (Nat.le_refl _) htl hs hsz.symm (fun j hj => hall j (by omega)) (fun j hj _ => hun j hj) hw
        rw [← hcnt] at this
        exact this.2 i hi

/-- **A REGION THAT DRAWS ITS ORDER, BY ONE WALK IN THE TEXT's ORDER.** 'pre': operations that yield values of the kinds 'Ss'; 'tail': operations that wait for all ahead of them. -/
theorem wp_region_mono {id : Nat} {Q : Exit → Act → World → Prop} {a : Act} {w : World} {l : List Oper} (n : Nat) (E1 E2 : World → World → Prop) (m : Nat) (Ss : List Spec) (hm : P.follows .mixedOrders = true) (hp : Pre E1 E2) (hr1 : E1 w.drew w.drew)
    (hchk : (looksOk l.toArray (Region.before l.toArray) && backOk l.toArray && tailOk l.toArray (Region.before l.toArray) (l.take n).length && Region.noSelect l.toArray) = true)
    (hdst : (l.take n).all (fun o => o.dst.any fun d => decide (d < a.tmps.size)) = true) (hl : (l.take n).length = Ss.length)
    (hst : ∀ (j : Nat) R v w w', Ss[j]? = some (Spec.rel R) → R v w → (if j = m then E1 w w' else E2 w w') → R v w')
    (h : wpMono P l.toArray E1 E2 w.drew m (wpList P l.toArray Q (l.drop n)) [] 0 (l.take n) Ss a) : (Code.region id l.toArray true).wp P Q a w := by
  simp only [Bool.and_eq_true] at hchk
  obtain ⟨⟨⟨h1, h2⟩, h3⟩, h4⟩ := hchk
  refine wp_region_any hm ?_
  refine any_of_mono (E1 := E1) (E2 := E2) (w0 := w.drew) (m := m) (Ss := Ss) (pre := l.take n) (tail := l.drop n) (by rw [List.take_append_drop]) hp h1 h2 h3 (fun i o hi => ?_) h4 hl hst h _ _ a w.drew
    (fun j => match Ss[j]? with | some (.is x) => x | _ => undef) (by simp) (unl_all _ _) (fun j _ => by simp [Array.getElem?_replicate]; split <;> simp) ?_
  · rw [List.all_eq_true] at hdst
    have := hdst o (List.mem_of_getElem? hi)
    cases hd : o.dst with
    | none => rw [hd] at this; simp at this
    | some d => rw [hd] at this; exact ⟨d, rfl, by simpa using this⟩
  · refine ⟨?_, fun j x hj => by simp [hj], fun j S hj _ => ?_, hp.weak _ _ hr1, fun _ => hr1, fun j hj => ?_⟩
    · refine ⟨rfl, rfl, fun i o d _ hL => ?_, fun _ _ => rfl⟩
      simp [Array.getElem?_replicate] at hL; split at hL <;> simp at hL
    · simp [Array.getElem?_replicate] at hj; split at hj <;> simp at hj
    · simp [Array.getElem?_replicate] at hj; split at hj <;> simp at hj
end

/-! ### The steps of the walk -/
section
variable {P : Program} {ops : Array Oper} {E1 E2 : World → World → Prop} {w0 : World} {m : Nat} {Z : Act → World → Prop} {known : List (Nat × (World → Prop))} {k : Nat} {o : Oper} {rest : List Oper} {Ss : List Spec} {a : Act}
theorem step_is {x : Value} (h1 : Obl P ops E1 E2 w0 m k o (.is x) a (Know ((Region.before ops).getD k 0) known)) (h2 : wpMono P ops E1 E2 w0 m Z known (k + 1) rest Ss (a.put o.dst x)) : wpMono P ops E1 E2 w0 m Z known k (o :: rest) (.is x :: Ss) a := ⟨h1, h2⟩
theorem step_rel {R : Value → World → Prop} (h1 : Obl P ops E1 E2 w0 m k o (.rel R) a (Know ((Region.before ops).getD k 0) known)) (h2 : ∀ v, wpMono P ops E1 E2 w0 m Z (known ++ [(k, R v)]) (k + 1) rest Ss (a.put o.dst v)) : wpMono P ops E1 E2 w0 m Z known k (o :: rest) (.rel R :: Ss) a := ⟨h1, h2⟩
theorem step_end (h : ∀ w, E2 w0 w → KnowAll known w → Z a w) : wpMono P ops E1 E2 w0 m Z known k [] [] a := by unfold wpMono; exact h
end

/-! ### As a walk uses it: one preorder -/
/-- What is known of a value stays known. -/
def Stab (E : World → World → Prop) : List Spec → Prop
  | [] => True
  | .is _ :: r => Stab E r
  | .rel R :: r => (∀ v w w', R v w → E w w' → R v w') ∧ Stab E r
theorem Stab.of {E : World → World → Prop} : ∀ {Ss : List Spec}, Stab E Ss → ∀ R v w w', Spec.rel R ∈ Ss → R v w → E w w' → R v w'
  | .is x :: r, h, R, v, w, w', hm, hr, he => Stab.of (Ss := r) h R v w w' (by simpa using hm) hr he
  | .rel R' :: r, h, R, v, w, w', hm, hr, he => by
    rcases List.mem_cons.1 hm with h1 | h1
    · cases h1; exact h.1 v w w' hr he
    · exact Stab.of (Ss := r) h.2 R v w w' h1 hr he

theorem is_rfl (x : Value) (w : World) : (Spec.is x).holds x w := rfl
theorem rel_mk {R : Value → World → Prop} {v : Value} {w : World} (h : R v w) : (Spec.rel R).holds v w := h
section
variable {P : Program} {ops : Array Oper} {E : World → World → Prop} {w0 : World} {m : Nat}
/-- The obligation, with one preorder. -/
theorem obl_mk {k : Nat} {o : Oper} {S : Spec} {a : Act} {kn : World → Prop} (h : ∀ w, E w0 w → kn w → ∀ K : Act → World → Prop, (∀ v w', E w w' → S.holds v w' → K (a.put o.dst v) w') → wpList P ops (onlyK K) [o] a w) : Obl P ops E E w0 m k o S a kn := by
  intro w hw hk K hK
  simp only [ite_self] at hw hK
  exact h w hw hk K hK

theorem region1 {id : Nat} {Q : Exit → Act → World → Prop} {a : Act} {w : World} {l : List Oper} (n : Nat) (E : World → World → Prop) (Ss : List Spec) (hm : P.follows .mixedOrders = true) (hr : ∀ w, E w w) (htr : ∀ a b c, E a b → E b c → E a c)
    (hchk : (looksOk l.toArray (Region.before l.toArray) && backOk l.toArray && tailOk l.toArray (Region.before l.toArray) (l.take n).length && Region.noSelect l.toArray) = true)
    (hdst : (l.take n).all (fun o => o.dst.any fun d => decide (d < a.tmps.size)) = true) (hl : (l.take n).length = Ss.length) (hst : Stab E Ss)
    (h : wpMono P l.toArray E E w.drew l.length (wpList P l.toArray Q (l.drop n)) [] 0 (l.take n) Ss a) : (Code.region id l.toArray true).wp P Q a w :=
  wp_region_mono n E E l.length Ss hm ⟨fun _ _ h => h, htr, htr⟩ (hr _) hchk hdst hl (fun j R v w w' hj hR hE => Stab.of hst R v w w' (List.mem_of_getElem? hj) hR (by simpa using hE)) h
end

/-! ### Two preorders: one operation (m) does what the others don't -/
def Stab2 (E1 E2 : World → World → Prop) (m : Nat) : Nat → List Spec → Prop
  | _, [] => True
  | k, .is _ :: r => Stab2 E1 E2 m (k + 1) r
  | k, .rel R :: r => (∀ v w w', R v w → (if k = m then E1 w w' else E2 w w') → R v w') ∧ Stab2 E1 E2 m (k + 1) r
theorem Stab2.of {E1 E2 : World → World → Prop} {m : Nat} : ∀ {Ss : List Spec} {k : Nat}, Stab2 E1 E2 m k Ss → ∀ (j : Nat) R v w w', Ss[j]? = some (Spec.rel R) → R v w → (if k + j = m then E1 w w' else E2 w w') → R v w'
  | .is x :: r, k, h, 0, R, v, w, w', hj, hr, he => by simp at hj
  | .is x :: r, k, h, j + 1, R, v, w, w', hj, hr, he => Stab2.of (Ss := r) (k := k + 1) h j R v w w' (by simpa using hj) hr (by rwa [show k + 1 + j = k + (j + 1) by omega])
  | .rel R' :: r, k, h, 0, R, v, w, w', hj, hr, he => by
    simp at hj; subst hj; exact h.1 v w w' hr (by simpa using he)
  | .rel R' :: r, k, h, j + 1, R, v, w, w', hj, hr, he => Stab2.of (Ss := r) (k := k + 1) h.2 j R v w w' (by simpa using hj) hr (by rwa [show k + 1 + j = k + (j + 1) by omega])
section
variable {P : Program} {ops : Array Oper} {E1 E2 : World → World → Prop} {w0 : World} {m : Nat}
theorem obl_quiet {k : Nat} {o : Oper} {S : Spec} {a : Act} {kn : World → Prop} (hk : k ≠ m) (h : ∀ w, E2 w0 w → kn w → ∀ K : Act → World → Prop, (∀ v w', E1 w w' → S.holds v w' → K (a.put o.dst v) w') → wpList P ops (onlyK K) [o] a w) : Obl P ops E1 E2 w0 m k o S a kn := by
  intro w hw hkn K hK
  rw [if_neg hk] at hw
  simp only [if_neg hk] at hK
  exact h w hw hkn K hK
theorem obl_loud {o : Oper} {S : Spec} {a : Act} {kn : World → Prop} (h : ∀ w, E1 w0 w → kn w → ∀ K : Act → World → Prop, (∀ v w', E2 w w' → S.holds v w' → K (a.put o.dst v) w') → wpList P ops (onlyK K) [o] a w) : Obl P ops E1 E2 w0 m m o S a kn := by
  intro w hw hkn K hK
  rw [if_pos rfl] at hw
  simp only [if_true] at hK
  exact h w hw hkn K hK
theorem region2 {id : Nat} {Q : Exit → Act → World → Prop} {a : Act} {w : World} {l : List Oper} (n m : Nat) (E1 E2 : World → World → Prop) (Ss : List Spec) (hm : P.follows .mixedOrders = true) (hp : Pre E1 E2) (hr : E1 w.drew w.drew)
    (hchk : (looksOk l.toArray (Region.before l.toArray) && backOk l.toArray && tailOk l.toArray (Region.before l.toArray) (l.take n).length && Region.noSelect l.toArray) = true)
    (hdst : (l.take n).all (fun o => o.dst.any fun d => decide (d < a.tmps.size)) = true) (hl : (l.take n).length = Ss.length) (hst : Stab2 E1 E2 m 0 Ss)
    (h : wpMono P l.toArray E1 E2 w.drew m (wpList P l.toArray Q (l.drop n)) [] 0 (l.take n) Ss a) : (Code.region id l.toArray true).wp P Q a w :=
  wp_region_mono n E1 E2 m Ss hm hp hr hchk hdst hl (fun j R v w w' hj hR hE => Stab2.of hst j R v w w' hj hR (by simpa using hE)) h
end

#print axioms region1
#print axioms region2
end Go.Proofs.YtafjjladnghjbaaGreatDoor.Mono
