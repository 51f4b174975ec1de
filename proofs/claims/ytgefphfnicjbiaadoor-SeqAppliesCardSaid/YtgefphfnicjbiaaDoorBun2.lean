/- A region that draws its order and holds several operations that change what others look at, one behind the other ('louds'): between them the world is in states St 0, St 1, ..; all other operations are quiet. Operations may panic. Off Mono4. Of any program. -/
import Derived.Test.YtgefphfnicjbiaaDoorMono4
set_option linter.unusedSimpArgs false
set_option linter.unusedVariables false
namespace Go.Proofs.YtgefphfnicjbiaaDoor.Mono4.Chain
open Go

structure Ch where
  Q : World → World → Prop
  A : Nat → World → World → Prop
  St : Nat → World → Prop
  louds : List Nat
/-- So many loud ones have run ahead of k, at least. -/
def lo (ops : Array Oper) (l : List Nat) (k : Nat) : Nat := (l.filter fun m => dep ops k m).length
/-- .. at most. -/
def hiC (ops : Array Oper) (l : List Nat) (k : Nat) : Nat := (l.filter fun m => !(k == m) && !dep ops m k).length
/-- So many have run behind k, at least. -/
def lo' (ops : Array Oper) (l : List Nat) (k : Nat) : Nat := (l.filter fun m => dep ops k m || k == m).length
def chainOk (ops : Array Oper) : List Nat → Bool
  | [] => true
  | a :: r => r.all (fun b => dep ops b a && !(a == b)) && chainOk ops r
def Step (ρ : Ch) (k c : Nat) (w w' : World) : Prop := if ρ.louds.contains k then ρ.A c w w' ∧ ρ.St (c + 1) w' else ρ.Q w w'
section
variable (Pn : List PanicEntry → World → Prop) (P : Program) (ops : Array Oper) (ρ : Ch) (Z : Act → World → Prop)
/-- The obligation of one operation. -/
def Obl (k : Nat) (o : Oper) (S : Spec) (a : Act) (kn : World → Prop) : Prop :=
  ∀ w c, lo ops ρ.louds k ≤ c → c ≤ hiC ops ρ.louds k → ρ.St c w → kn w → ∀ K : Act → World → Prop,
    (∀ v w', Step ρ k c w w' → S.holds v w' → K (a.put o.dst v) w') → wpList P ops (onlyK Pn K) [o] a w
/-- The walk in the text's order. -/
def wpChain : List (Nat × (World → Prop)) → Nat → List Oper → List Spec → Act → Prop
  | known, k, o :: rest, .is x :: Ss, a => Obl Pn P ops ρ k o (.is x) a (Know ((Region.before ops).getD k 0) known) ∧ wpChain known (k + 1) rest Ss (a.put o.dst x)
  | known, k, o :: rest, .rel R :: Ss, a => Obl Pn P ops ρ k o (.rel R) a (Know ((Region.before ops).getD k 0) known) ∧ ∀ v, wpChain (known ++ [(k, R v)]) (k + 1) rest Ss (a.put o.dst v)
  | known, _, _, _, a => ∀ w, ρ.St ρ.louds.length w → KnowAll known w → Z a w
end
theorem filter_le {p : Nat → Bool} : ∀ (l : List Nat) (c : Nat), (∀ (j m : Nat), l[j]? = some m → p m = true → j < c) → (l.filter p).length ≤ c
  | [], c, _ => by simp
  | a :: l, c, h => by
    cases c with
    | zero =>
      have ha : p a = false := by
        cases hp : p a with
        | false => rfl
        | true => have := h 0 a rfl hp; omega
      rw [List.filter_cons, ha]
      simp only [Bool.false_eq_true, if_false]
      exact filter_le l 0 fun j m hj hp => by have := h (j + 1) m (by simpa using hj) hp; omega
    | succ c =>
      have ih := filter_le (p := p) l c fun j m hj hp => by have := h (j + 1) m (by simpa using hj) hp; omega
      rw [List.filter_cons]
      split
      · simpa using ih
      · omega
theorem le_filter {p : Nat → Bool} : ∀ (l : List Nat) (c : Nat), c ≤ l.length → (∀ (j m : Nat), l[j]? = some m → j < c → p m = true) → c ≤ (l.filter p).length
  | [], c, hc, _ => by simpa using hc
  | a :: l, c, hc, h => by
    cases c with
    | zero => omega
    | succ c =>
      have ha := h 0 a rfl (by omega)
      rw [List.filter_cons, ha]
      simp only [if_true, List.length_cons]
      have := le_filter (p := p) l c (by simpa using hc) fun j m hj hl => h (j + 1) m (by simpa using hj) (by omega)
      omega
theorem chain_spec {ops : Array Oper} : ∀ {l : List Nat}, chainOk ops l = true → ∀ (i j a b : Nat), l[i]? = some a → l[j]? = some b → i < j → dep ops b a = true ∧ a ≠ b
  | [], _, i, j, a, b, h, _, _ => by simp at h
  | x :: l, hc, i, j, a, b, hi, hj, hij => by
    simp only [chainOk, Bool.and_eq_true] at hc
    cases j with
    | zero => omega
    | succ j =>
      have hj' : l[j]? = some b := by simpa using hj
      cases i with
      | zero =>
        simp at hi; subst hi
        have := List.all_eq_true.1 hc.1 b (List.mem_of_getElem? hj')
        simpa using this
      | succ i => exact chain_spec hc.2 i j a b (by simpa using hi) hj' (by omega)
section
variable {Pn : List PanicEntry → World → Prop} {P : Program} {ops : Array Oper} {ρ : Ch}
theorem yl_of_obl {k : Nat} {o : Oper} {S : Spec} {a : Act} {kn : World → Prop} (h : Obl Pn P ops ρ k o S a kn) (hd : (∃ d, o.dst = some d ∧ d < a.tmps.size) ∨ ∀ u w, S.holds u w) {w : World} {c : Nat}
    (hlo : lo ops ρ.louds k ≤ c) (hhi : c ≤ hiC ops ρ.louds k) (hst : ρ.St c w) (hkn : kn w) :
    if Region.wanted o (yielded ops a.tmps) then Yl Pn P (Step ρ k c) S w ((execOp a.eval o).run P w) else Step ρ k c w w ∧ S.holds undef w := by
  have h1 := h w c hlo hhi hst hkn (fun a' w' => ∃ v, a' = a.put o.dst v ∧ Step ρ k c w w' ∧ S.holds v w') (fun v w' he hs => ⟨v, rfl, he, hs⟩)
  have back : ∀ u w', (∃ v, a.put o.dst u = a.put o.dst v ∧ Step ρ k c w w' ∧ S.holds v w') → Step ρ k c w w' ∧ S.holds u w' := by
    rintro u w' ⟨v, he, h2, h3⟩
    rcases hd with ⟨d, hd, hsz⟩ | hd
    · rw [hd] at he
      rw [put_inj hsz he]
      exact ⟨h2, h3⟩
    · exact ⟨h2, hd u w'⟩
  unfold wpList at h1
  split <;> rename_i hwant
  · rw [if_pos hwant] at h1
    rcases h1 with h1 | ⟨_, a', w', hf⟩
    case inr => exact hf.elim
    unfold Oper.wp at h1
    generalize (execOp a.eval o).run P w = r at h1 ⊢
    cases r with
    | ok n w' =>
      cases n <;> simp only [Oper.upon] at h1
      case value u => exact back u w' h1
      case skip => exact back undef w' h1
      case defer dd =>
        obtain ⟨v, he, _⟩ := h1
        have := congrArg Act.defers he
        rw [Act.defers_put, Act.defers_put] at this
        exact absurd this (by simp)
      case enter f args =>
        refine Calls.mono h1 fun e w'' he => ?_
        cases e with
        | returned u => exact .inl ⟨u, rfl, back u w'' he⟩
        | panicked c => exact .inr ⟨c, rfl, he⟩
        | outgrown => obtain ⟨_, _, hf⟩ := he; exact hf.elim
      case row r args => exact Rows.mono h1 fun u w'' he => back u w'' he
    | halt x w' =>
      cases x <;> simp only [Oper.upon] at h1
      case panic u => exact h1
  · rw [if_neg hwant] at h1
    exact back undef w h1

theorem wpChain_gives {Z : Act → World → Prop} (v : Nat → Value) : ∀ (rest : List Oper) (Ss : List Spec) (known : List (Nat × (World → Prop))) (k : Nat) (a : Act), rest.length = Ss.length →
    (∀ p ∈ known, p.1 < k ∧ ∃ S : Spec, True) → wpChain Pn P ops ρ Z known k rest Ss a → (∀ (j : Nat) (x : Value), Ss[j]? = some (.is x) → v (k + j) = x) →
    (∀ (j : Nat) (o : Oper) (S : Spec), rest[j]? = some o → Ss[j]? = some S →
      ∀ kn : World → Prop, (∀ w, kn w → (∀ p ∈ known, ((Region.before ops).getD (k + j) 0).testBit p.1 = true → p.2 w) ∧ ∀ (i : Nat) (S' : Spec), i < j → Ss[i]? = some S' → ((Region.before ops).getD (k + j) 0).testBit (k + i) = true → S'.holds (v (k + i)) w) →
      Obl Pn P ops ρ (k + j) o S (lex a v k j rest) kn) ∧
    (∀ w, ρ.St ρ.louds.length w → (∀ p ∈ known, p.2 w) → (∀ (i : Nat) (S' : Spec), Ss[i]? = some S' → S'.holds (v (k + i)) w) → Z (lex a v k rest.length rest) w)
  | [], [], known, k, a, _, _, h, _ => by
    refine ⟨fun j o S hj => by simp at hj, fun w hE hkn _ => ?_⟩
    unfold wpChain at h
    exact h w hE ((knowAll_iff known w).2 hkn)
  | [], _ :: _, _, _, _, hl, _, _, _ => by simp at hl
  | _ :: _, [], _, _, _, hl, _, _, _ => by simp at hl
  | o :: rest, .is x :: Ss, known, k, a, hl, hkn, h, hv => by
    unfold wpChain at h
    obtain ⟨h1, h2⟩ := h
    have hx : v k = x := hv 0 x rfl
    have ih := wpChain_gives v rest Ss known (k + 1) (a.put o.dst x) (by simpa using hl) (fun p hp => ⟨by have := (hkn p hp).1; omega, .is undef, trivial⟩) h2
      (fun j y hj => by have := hv (j + 1) y (by simpa using hj); rwa [show k + (j + 1) = k + 1 + j by omega] at this)
    refine ⟨fun j oj S hj hS kn hk => ?_, fun w hE h3 h4 => ?_⟩
    · cases j with
      | zero =>
        simp at hj hS; subst hj; subst hS
        intro w c hlo hhi hw hkw
        exact h1 w c hlo hhi hw ((know_iff _ known w).2 (hk w hkw).1)
      | succ j =>
        have := ih.1 j oj S (by simpa using hj) (by simpa using hS) kn (fun w hkw => by
          obtain ⟨q1, q2⟩ := hk w hkw
          refine ⟨by rwa [show k + 1 + j = k + (j + 1) by omega], fun i S' hij hS' hb => ?_⟩
          have := q2 (i + 1) S' (by omega) (by simpa using hS') (by rwa [show k + (j + 1) = k + 1 + j by omega, show k + (i + 1) = k + 1 + i by omega])
          rwa [show k + (i + 1) = k + 1 + i by omega] at this)
        rw [show k + (j + 1) = k + 1 + j by omega]
        show Obl Pn P ops ρ (k + 1 + j) oj S (lex (a.put o.dst (v k)) v (k + 1) j rest) kn
        rw [hx]; exact this
    · have := ih.2 w hE h3 (fun i S' hS' => by have := h4 (i + 1) S' (by simpa using hS'); rwa [show k + (i + 1) = k + 1 + i by omega] at this)
      show Z (lex (a.put o.dst (v k)) v (k + 1) rest.length rest) w
      rw [hx]; exact this
  | o :: rest, .rel R :: Ss, known, k, a, hl, hkn, h, hv => by
    unfold wpChain at h
    obtain ⟨h1, h2⟩ := h
    have ih := wpChain_gives v rest Ss (known ++ [(k, R (v k))]) (k + 1) (a.put o.dst (v k)) (by simpa using hl)
      (fun p hp => ⟨by rcases List.mem_append.1 hp with hp | hp; (have := (hkn p hp).1; omega); (simp at hp; subst hp; simp), .is undef, trivial⟩) (h2 (v k))
      (fun j y hj => by have := hv (j + 1) y (by simpa using hj); rwa [show k + (j + 1) = k + 1 + j by omega] at this)
    refine ⟨fun j oj S hj hS kn hk => ?_, fun w hE h3 h4 => ?_⟩
    · cases j with
      | zero =>
        simp at hj hS; subst hj; subst hS
        intro w c hlo hhi hw hkw
        exact h1 w c hlo hhi hw ((know_iff _ known w).2 (hk w hkw).1)
      | succ j =>
        have := ih.1 j oj S (by simpa using hj) (by simpa using hS) kn (fun w hkw => by
          obtain ⟨q1, q2⟩ := hk w hkw
          refine ⟨fun p hp hb => ?_, fun i S' hij hS' hb => ?_⟩
          · rcases List.mem_append.1 hp with hp | hp
            · exact q1 p hp (by rwa [show k + (j + 1) = k + 1 + j by omega])
            · simp at hp; subst hp
              exact q2 0 (.rel R) (by omega) (by simp) (by rw [show k + (j + 1) = k + 1 + j by omega]; exact hb)
          · have := q2 (i + 1) S' (by omega) (by simpa using hS') (by rwa [show k + (j + 1) = k + 1 + j by omega, show k + (i + 1) = k + 1 + i by omega])
            rwa [show k + (i + 1) = k + 1 + i by omega] at this)
        rw [show k + (j + 1) = k + 1 + j by omega]
        exact this
    · exact ih.2 w hE (fun p hp => by
        rcases List.mem_append.1 hp with hp | hp
        · exact h3 p hp
        · simp at hp; subst hp; exact h4 0 (.rel R) (by simp)) (fun i S' hS' => by have := h4 (i + 1) S' (by simpa using hS'); rwa [show k + (i + 1) = k + 1 + i by omega] at this)


structure Inv (ops : Array Oper) (ρ : Ch) (Ss : List Spec) (a0 : Act) (listed : Array Bool) (b : Act) (w : World) (v : Nat → Value) (c : Nat) : Prop where
  fr : Fr ops a0 b (fun j => listed.getD j false = true) v
  fits : ∀ j x, Ss[j]? = some (.is x) → v j = x
  holds : ∀ j S, listed.getD j false = true → Ss[j]? = some S → S.holds (v j) w
  st : ρ.St c w
  upto : ∀ i m, ρ.louds[i]? = some m → (listed.getD m false = true ↔ i < c)
  le : c ≤ ρ.louds.length
  closed : ∀ j, listed.getD j false = true → ∀ i, ((Region.before ops).getD j 0).testBit i = true → listed.getD i false = true
theorem any_of_chain {Q : Exit → Act → World → Prop} {a0 : Act} {Ss : List Spec} {pre tail : List Oper} (hops : ops = (pre ++ tail).toArray) (hQ : ∀ c w w', ρ.St c w → ρ.Q w w' → ρ.St c w') (hch : chainOk ops ρ.louds = true) (hln : ∀ m ∈ ρ.louds, m < pre.length) (hB : looksOk ops (Region.before ops) = true) (hb : backOk ops = true) (ht : tailOk ops (Region.before ops) pre.length = true)
    (hdst : ∀ (i : Nat) (o : Oper), pre[i]? = some o → (∃ d, o.dst = some d ∧ d < a0.tmps.size) ∨ ∀ S, Ss[i]? = some S → ∀ u w, S.holds u w) (hsel : Region.noSelect ops = true) (hl : pre.length = Ss.length)
    (hst : ∀ (j : Nat) R v w w', Ss[j]? = some (Spec.rel R) → R v w → (ρ.Q w w' ∨ ∃ c, lo' ops ρ.louds j ≤ c ∧ c < ρ.louds.length ∧ ρ.A c w w') → R v w')
    (hPn : ∀ c b w', Pn c w' → b.defers = a0.defers → (∀ t, (∀ o ∈ pre, o.dst ≠ some t) → b.tmps[t]? = a0.tmps[t]?) → Q (.panic c) b w')
    (h : wpChain Pn P ops ρ (wpList P ops Q tail) [] 0 pre Ss a0) :
    ∀ (fuel : Nat) (listed : Array Bool) (b : Act) (w : World) (v : Nat → Value) (c : Nat), listed.size = ops.size → unl listed ops.size = fuel → (∀ j, pre.length ≤ j → listed.getD j false = false) → Inv ops ρ Ss a0 listed b w v c →
      wpAny P .any ops Q fuel listed b w := by
  have hsz : ops.size = pre.length + tail.length := by rw [hops]; simp
  have hpre : ∀ j, j < pre.length → ops[j]? = pre[j]? := fun j hj => by rw [hops]; simp [List.getElem?_append, hj]
  have htl : ∀ j, tail[j]? = ops[pre.length + j]? := fun j => by rw [hops]; simp [List.getElem?_append, show ¬ pre.length + j < pre.length by omega]
  have htk : ∀ j, (pre ++ tail)[j]? = ops[0 + j]? := fun j => by rw [hops]; simp
  -- all of the first part has come up: the frame is the text's, and the tail stands
  have fin : ∀ (listed : Array Bool) (b : Act) (w : World) (v : Nat → Value) (c : Nat), (∀ j, pre.length ≤ j → listed.getD j false = false) → Inv ops ρ Ss a0 listed b w v c → (∀ j, j < pre.length → listed.getD j false = true) → wpList P ops Q tail b w := by
    intro listed b w v c hun hI hall
    have hall' : c = ρ.louds.length := by
      rcases Nat.lt_or_ge c ρ.louds.length with h1 | h1
      · have h2 : ρ.louds[c]? = some ρ.louds[c] := List.getElem?_eq_getElem h1
        have := (hI.upto c _ h2).1 (hall _ (hln _ (List.getElem_mem h1)))
        omega
      · have := hI.le; omega
    have g := (wpChain_gives v pre Ss [] 0 a0 hl (fun _ hp => by simp at hp) h (fun j x hj => by simpa using hI.fits j x hj)).2 w (by rw [← hall']; exact hI.st) (fun _ hp => by simp at hp) (fun i S' hi => by
      have hlt : i < pre.length := by have := (List.getElem?_eq_some_iff.1 hi).1; omega
      simpa using hI.holds i S' (hall i hlt) hi)
    have hf := lex_fr hB a0 v (pre ++ tail) 0 pre.length a0 htk (by simp) ⟨rfl, rfl, fun _ _ _ _ hj => absurd hj (by omega), fun _ _ => rfl⟩
    rw [lex_take, List.take_left' rfl] at hf
    have e : b = lex a0 v 0 pre.length pre := by
      refine Fr.ext (L := fun j => j < 0 + pre.length) ?_ hf
      refine ⟨hI.fr.size, hI.fr.defers, fun i o d hi hLi hd hs => hI.fr.put i o d hi (hall i (by omega)) hd hs, fun t hn => hI.fr.old t fun i o hi hLi hd => hn i o hi ?_ hd⟩
      rcases Nat.lt_or_ge i pre.length with h' | h'
      · omega
      · have := hun i h'; rw [this] at hLi; cases hLi
    rw [e]; exact g
  intro fuel
  induction fuel with
  | zero =>
    intro listed b w v c hs hu hun hI
    have hall := unl_zero hu
    have ht0 : tail = [] := by
      cases tail with
      | nil => rfl
      | cons o t =>
        have h1 := hall pre.length (by rw [hsz]; simp)
        rw [hun _ (Nat.le_refl _)] at h1; cases h1
    refine ⟨?_, ?_⟩
    · cases hr : Region.ready .any ops listed with
      | nil => rfl
      | cons i r =>
        obtain ⟨o, _, hi, hui, _⟩ := ready_unlisted hs (i := i) (by rw [hr]; simp)
        rw [hall i hi] at hui; cases hui
    · have := fin listed b w v c hun hI (fun j hj => hall j (by omega))
      rw [ht0] at this
      exact this
  | succ fuel ih =>
    intro listed b w v c hs hu hun hI
    refine ⟨fun hr => ?_, fun i hi => ?_⟩
    · exfalso
      have hex : ∃ j, j < ops.size ∧ listed.getD j false = false := by
        have : ∃ j ∈ List.range ops.size, (!listed.getD j false) = true := by
          have h0 : 0 < (List.range ops.size).countP fun j => !listed.getD j false := by unfold unl at hu; omega
          exact List.countP_pos_iff.1 h0
        obtain ⟨j, hj, hjj⟩ := this
        exact ⟨j, List.mem_range.1 hj, by simpa using hjj⟩
      obtain ⟨j, hj, huj⟩ := hex
      obtain ⟨k, hk, _⟩ := least_ready hs hb hj huj
      rw [hr] at hk; cases hk
    · obtain ⟨o, ho, hilt, hui, hed⟩ := ready_unlisted hs hi
      have hdeps : ∀ j, ((Region.before ops).getD i 0).testBit j = true → listed.getD j false = true := fun j hj => by
        obtain ⟨e, he, hbe, hor⟩ := before_get ho hj
        rcases hor with rfl | hor
        · exact hed e he hbe
        · exact hI.closed e.on (hed e he hbe) j hor
      rcases Nat.lt_or_ge i pre.length with hlt | hge
      · -- one of the first part
        have hoi : pre[i]? = some o := by rw [← hpre i hlt]; exact ho
        obtain ⟨S, hS⟩ : ∃ S, Ss[i]? = some S := ⟨Ss[i]'(by omega), by simp [show i < Ss.length by omega]⟩
        have g := (wpChain_gives v pre Ss [] 0 a0 hl (fun _ hp => by simp at hp) h (fun j x hj => by simpa using hI.fits j x hj)).1 i o S hoi hS
          (fun w' => w' = w) (fun w' hw' => ⟨fun _ hp => by simp at hp, fun j S' hji hS' hbit => by
            subst hw'
            have := hI.holds j S' (hdeps j (by simpa using hbit)) hS'
            simpa using this⟩)
        have hf := lex_fr hB a0 v (pre ++ tail) 0 i a0 htk (by simp; omega) ⟨rfl, rfl, fun _ _ _ _ hj => absurd hj (by omega), fun _ _ => rfl⟩
        have hlx : lex a0 v 0 i (pre ++ tail) = lex a0 v 0 i pre := by
          rw [lex_take, lex_take v pre, List.take_append_of_le_length (by omega)]
        rw [hlx] at hf
        simp only [Nat.zero_add] at g hf
        have hlo : lo ops ρ.louds i ≤ c := filter_le _ _ fun j m hj hp => (hI.upto j m hj).1 (hdeps m hp)
        have hhi : c ≤ hiC ops ρ.louds i := le_filter _ _ hI.le fun j m hj hlt => by
          have hm := (hI.upto j m hj).2 hlt
          have h1 : i ≠ m := fun e => by subst e; rw [hui] at hm; cases hm
          have h2 : dep ops m i = false := by
            cases h3 : dep ops m i with
            | false => rfl
            | true => have := hI.closed m hm i h3; rw [hui] at this; cases this
          simp [h1, h2]
        have gy := yl_of_obl g ((hdst i o hoi).imp (fun ⟨d, hd, hdsz⟩ => ⟨d, hd, by rw [hf.size]; exact hdsz⟩) fun hd => hd S hS) hlo hhi hI.st rfl
        have hlk := Fr.looks hI.fr hf ho hB hdeps (fun j hj hLj => by
          have := hI.closed j hLj i hj
          rw [hui] at this; cases this) (fun j => Iff.rfl) (by rw [hui]; simp)
        refine wpOp_of_yl ho (execOp_looks o (fun cs x => Region.noSelect_spec hsel i o cs x ho) hlk) (wanted_looks o hlk) gy (fun c w' hc => hPn c b w' hc hI.fr.defers fun t ht => hI.fr.old t fun i o hi hLi hd => by
          rcases Nat.lt_or_ge i pre.length with h' | h'
          · exact ht o (List.mem_of_getElem? (i := i) (by rw [← hpre i h']; exact hi)) hd
          · have := hun i h'; rw [this] at hLi; cases hLi) fun u w' hE hSu => ?_
        have hset : (listed.setIfInBounds i true).getD i false = true := by simp [show i < listed.size by omega]
        have hframe : Fr ops a0 (b.put o.dst u) (fun j => (listed.setIfInBounds i true).getD j false = true) (upd v i u) := by
          have := hI.fr.step (v' := upd v i u) (L' := fun j => (listed.setIfInBounds i true).getD j false = true) hB ho (fun j hLj => upd_ne v u (fun e => by subst e; rw [hui] at hLj; cases hLj)) (fun j => by
            by_cases hji : j = i
            · subst hji; simp [hset]
            · simp only [getD_set_ne false (Ne.symm hji), hji, or_false]) (by rw [hui]; simp)
          rw [upd_self] at this
          exact this
        have hfit : ∀ j x, Ss[j]? = some (.is x) → upd v i u j = x := fun j x hj => by
          by_cases hji : j = i
          · subst hji
            rw [hj] at hS; cases hS
            rw [upd_self]; exact hSu
          · rw [upd_ne v u hji]; exact hI.fits j x hj
        have hclo : ∀ j, (listed.setIfInBounds i true).getD j false = true → ∀ i', ((Region.before ops).getD j 0).testBit i' = true → (listed.setIfInBounds i true).getD i' false = true := fun j hj j' hb' => by
          by_cases hji : j = i
          · subst hji
            exact getD_set_true (hdeps j' hb')
          · rw [getD_set_ne false (Ne.symm hji)] at hj
            exact getD_set_true (hI.closed j hj j' hb')
        have hho : (ρ.Q w w' ∨ ρ.A c w w' ∧ c < ρ.louds.length) → ∀ j S, (listed.setIfInBounds i true).getD j false = true → Ss[j]? = some S → S.holds (upd v i u j) w' := fun hstep j S' hj hS' => by
          by_cases hji : j = i
          · subst hji
            rw [hS'] at hS; cases hS
            rw [upd_self]; exact hSu
          · rw [getD_set_ne false (Ne.symm hji)] at hj
            rw [upd_ne v u hji]
            have h3 := hI.holds j S' hj hS'
            cases S' with
            | is x => exact h3
            | rel R =>
              refine hst j R _ _ _ hS' h3 (hstep.imp id fun h4 => ⟨c, ?_, h4.2, h4.1⟩)
              exact filter_le _ _ fun j' m hj' hp => (hI.upto j' m hj').1 (by
                simp only [Bool.or_eq_true, beq_iff_eq] at hp
                rcases hp with hp | hp
                · exact hI.closed j hj m hp
                · rw [← hp]; exact hj)
        have hun' : ∀ j, pre.length ≤ j → (listed.setIfInBounds i true).getD j false = false := fun j hj => by rw [getD_set_ne false (by omega)]; exact hun j hj
        have hunl : unl (listed.setIfInBounds i true) ops.size = fuel := by have := (unl_set (by omega) hui ops.size).1 hilt; omega
        unfold Step at hE
        split at hE
        · rename_i hlm
          obtain ⟨hA, hSt⟩ := hE
          obtain ⟨jc, hjc⟩ := List.getElem?_of_mem (List.contains_iff_mem.1 hlm)
          have hge : c ≤ jc := Nat.le_of_not_lt fun h1 => by have := (hI.upto jc i hjc).2 h1; rw [hui] at this; cases this
          have hjl := (List.getElem?_eq_some_iff.1 hjc).1
          have hcl : c < ρ.louds.length := by omega
          have hle : jc ≤ c := Nat.le_of_not_lt fun h1 => by
            have h2 : ρ.louds[c]? = some ρ.louds[c] := List.getElem?_eq_getElem hcl
            have h3 := (chain_spec hch c jc _ _ h2 hjc h1).1
            have := (hI.upto c _ h2).1 (hdeps _ h3)
            omega
          have hjc2 : jc = c := by omega
          subst hjc2
          refine ih (listed.setIfInBounds i true) (b.put o.dst u) w' (upd v i u) (jc + 1) (by simpa using hs) hunl hun' ⟨hframe, hfit, hho (.inr ⟨hA, hcl⟩), hSt, fun i' m hm => ?_, by omega, hclo⟩
          by_cases hmi : m = i
          · subst hmi
            rw [hset]
            refine ⟨fun _ => ?_, fun _ => rfl⟩
            rcases Nat.lt_trichotomy i' jc with h1 | h1 | h1
            · omega
            · omega
            · exact absurd rfl (chain_spec hch jc i' _ _ hjc hm h1).2
          · rw [getD_set_ne false (Ne.symm hmi), hI.upto i' m hm]
            have : i' ≠ jc := fun e => by subst e; rw [hjc] at hm; cases hm; exact hmi rfl
            omega
        · rename_i hlm
          refine ih (listed.setIfInBounds i true) (b.put o.dst u) w' (upd v i u) c (by simpa using hs) hunl hun' ⟨hframe, hfit, hho (.inl hE), hQ _ _ _ hI.st hE, fun i' m hm => ?_, hI.le, hclo⟩
          have hmi : m ≠ i := fun e => by
            subst e
            exact hlm (List.contains_iff_mem.2 (List.mem_of_getElem? hm))
          rw [getD_set_ne false (Ne.symm hmi)]
          exact hI.upto i' m hm
      · -- the tail begins
        have hall : ∀ j, j < i → listed.getD j false = true := fun j hj => hdeps j (tailOk_spec ht hilt hge hj)
        have hi0 : i = pre.length := by
          rcases Nat.lt_or_ge pre.length i with h' | h'
          · have := hall _ h'; rw [hun _ (Nat.le_refl _)] at this; cases this
          · omega
        have hw := fin listed b w v c hun hI (fun j hj => hall j (by omega))
        have hcnt : fuel + 1 = tail.length := by
          have h1 : ∀ n, n ≤ tail.length → unl listed (pre.length + n) = n := by
            intro n hn
            unfold unl
            rw [List.range_eq_range', ← List.range'_append_1, List.countP_append, Nat.zero_add]
            have e1 : (List.range' 0 pre.length).countP (fun j => !listed.getD j false) = 0 := by
              rw [List.countP_eq_zero]; intro j hj; simp at hj; have := hall j (by omega); simp [this]
            have e2 : (List.range' pre.length n).countP (fun j => !listed.getD j false) = n := by
              have : (List.range' pre.length n).countP (fun j => !listed.getD j false) = (List.range' pre.length n).length := by
                rw [List.countP_eq_length]; intro j hj; simp at hj; have := hun j (by omega); simp [this]
              rw [this]; simp
            rw [e1, e2]; omega
          have := h1 tail.length (Nat.le_refl _)
          rw [← hsz, hu] at this; exact this
        have := tail_any hb ht tail pre.length listed b w (Nat.le_refl _) htl hs hsz.symm (fun j hj => hall j (by omega)) (fun j hj _ => hun j hj) hw
        rw [← hcnt] at this
        exact this.2 i hi

/-- **A REGION THAT DRAWS ITS ORDER, BY ONE WALK IN THE TEXT's ORDER, THROUGH STATES.** -/
theorem regionN {id : Nat} {Q : Exit → Act → World → Prop} {a : Act} {w : World} {l : List Oper} (Pn : List PanicEntry → World → Prop) (n : Nat) (ρ : Ch) (Ss : List Spec) (hm : P.follows .mixedOrders = true)
    (hQ : ∀ c w w', ρ.St c w → ρ.Q w w' → ρ.St c w') (h0 : ρ.St 0 w.drew)
    (hchk : (looksOk l.toArray (Region.before l.toArray) && backOk l.toArray && tailOk l.toArray (Region.before l.toArray) (l.take n).length && Region.noSelect l.toArray && chainOk l.toArray ρ.louds && ρ.louds.all (fun m => decide (m < (l.take n).length))) = true)
    (hdst : (l.take n).all (fun o => o.dst.all fun d => decide (d < a.tmps.size)) = true) (htr : ∀ (i : Nat) (o : Oper), (l.take n)[i]? = some o → o.dst = none → ∀ S, Ss[i]? = some S → ∀ u w, S.holds u w) (hl : (l.take n).length = Ss.length)
    (hst : ∀ (j : Nat) R v w w', Ss[j]? = some (Spec.rel R) → R v w → (ρ.Q w w' ∨ ∃ c, lo' l.toArray ρ.louds j ≤ c ∧ c < ρ.louds.length ∧ ρ.A c w w') → R v w')
    (hPn : ∀ c b w', Pn c w' → b.defers = a.defers → (∀ t, (l.take n).all (fun o => o.dst != some t) = true → b.tmps[t]? = a.tmps[t]?) → Q (.panic c) b w')
    (h : wpChain Pn P l.toArray ρ (wpList P l.toArray Q (l.drop n)) [] 0 (l.take n) Ss a) : (Code.region id l.toArray true).wp P Q a w := by
  simp only [Bool.and_eq_true] at hchk
  obtain ⟨⟨⟨⟨⟨h1, h2⟩, h3⟩, h4⟩, h5⟩, h6⟩ := hchk
  refine wp_region_any hm ?_
  refine any_of_chain (ρ := ρ) (Ss := Ss) (pre := l.take n) (tail := l.drop n) (by rw [List.take_append_drop]) hQ h5 (fun m hm => by have := List.all_eq_true.1 h6 m hm; simpa using this) h1 h2 h3 (fun i o hi => ?_) h4 hl hst (fun c b w' hc hd hs => hPn c b w' hc hd fun t ht => hs t fun o ho => by have := List.all_eq_true.1 ht o ho; simpa using this) h _ _ a w.drew
    (fun j => match Ss[j]? with | some (.is x) => x | _ => undef) 0 (by simp) (unl_all _ _) (fun j _ => by simp [Array.getElem?_replicate]; split <;> simp) ?_
  · rw [List.all_eq_true] at hdst
    have := hdst o (List.mem_of_getElem? hi)
    cases hd : o.dst with
    | none => exact .inr (htr i o hi hd)
    | some d => rw [hd] at this; exact .inl ⟨d, rfl, by simpa using this⟩
  · refine ⟨?_, fun j x hj => by simp [hj], fun j S hj _ => ?_, h0, fun i m _ => ?_, Nat.zero_le _, fun j hj => ?_⟩
    · refine ⟨rfl, rfl, fun i o d _ hL => ?_, fun _ _ => rfl⟩
      simp [Array.getElem?_replicate] at hL; split at hL <;> simp at hL
    · simp [Array.getElem?_replicate] at hj; split at hj <;> simp at hj
    · constructor
      · intro hj; simp [Array.getElem?_replicate] at hj; split at hj <;> simp at hj
      · intro hj; omega
    · simp [Array.getElem?_replicate] at hj; split at hj <;> simp at hj
/-- **A REGION THAT DRAWS ITS ORDER, BY ONE WALK IN THE TEXT's ORDER, THROUGH STATES.** -/
theorem region {id : Nat} {Q : Exit → Act → World → Prop} {a : Act} {w : World} {l : List Oper} (Pn : List PanicEntry → World → Prop) (n : Nat) (ρ : Ch) (Ss : List Spec) (hm : P.follows .mixedOrders = true)
    (hQ : ∀ c w w', ρ.St c w → ρ.Q w w' → ρ.St c w') (h0 : ρ.St 0 w.drew)
    (hchk : (looksOk l.toArray (Region.before l.toArray) && backOk l.toArray && tailOk l.toArray (Region.before l.toArray) (l.take n).length && Region.noSelect l.toArray && chainOk l.toArray ρ.louds && ρ.louds.all (fun m => decide (m < (l.take n).length))) = true)
    (hdst : (l.take n).all (fun o => o.dst.any fun d => decide (d < a.tmps.size)) = true) (hl : (l.take n).length = Ss.length)
    (hst : ∀ (j : Nat) R v w w', Ss[j]? = some (Spec.rel R) → R v w → (ρ.Q w w' ∨ ∃ c, lo' l.toArray ρ.louds j ≤ c ∧ c < ρ.louds.length ∧ ρ.A c w w') → R v w')
    (hPn : ∀ c b w', Pn c w' → b.defers = a.defers → (∀ t, (l.take n).all (fun o => o.dst != some t) = true → b.tmps[t]? = a.tmps[t]?) → Q (.panic c) b w')
    (h : wpChain Pn P l.toArray ρ (wpList P l.toArray Q (l.drop n)) [] 0 (l.take n) Ss a) : (Code.region id l.toArray true).wp P Q a w :=
  regionN Pn n ρ Ss hm hQ h0 hchk (by
    rw [List.all_eq_true] at hdst ⊢
    intro o ho
    have := hdst o ho
    cases hd : o.dst with
    | none => rfl
    | some d => rw [hd] at this; simpa using this) (fun i o hi hd => by
    rw [List.all_eq_true] at hdst
    have := hdst o (List.mem_of_getElem? hi)
    rw [hd] at this; simp at this) hl hst hPn h
end
/-! ### The steps of the walk -/
section
variable {Pn : List PanicEntry → World → Prop} {P : Program} {ops : Array Oper} {ρ : Ch} {Z : Act → World → Prop} {known : List (Nat × (World → Prop))} {k : Nat} {o : Oper} {rest : List Oper} {Ss : List Spec} {a : Act}
theorem step_is {x : Value} (h1 : Obl Pn P ops ρ k o (.is x) a (Know ((Region.before ops).getD k 0) known)) (h2 : wpChain Pn P ops ρ Z known (k + 1) rest Ss (a.put o.dst x)) : wpChain Pn P ops ρ Z known k (o :: rest) (.is x :: Ss) a := ⟨h1, h2⟩
theorem step_rel {R : Value → World → Prop} (h1 : Obl Pn P ops ρ k o (.rel R) a (Know ((Region.before ops).getD k 0) known)) (h2 : ∀ v, wpChain Pn P ops ρ Z (known ++ [(k, R v)]) (k + 1) rest Ss (a.put o.dst v)) : wpChain Pn P ops ρ Z known k (o :: rest) (.rel R :: Ss) a := ⟨h1, h2⟩
theorem step_end (h : ∀ w, ρ.St ρ.louds.length w → KnowAll known w → Z a w) : wpChain Pn P ops ρ Z known k [] [] a := by unfold wpChain; exact h
variable {S : Spec} {kn : World → Prop}
/-- A quiet operation. -/
theorem obl_quiet (hk : ρ.louds.contains k = false) (h : ∀ w c, lo ops ρ.louds k ≤ c → c ≤ hiC ops ρ.louds k → ρ.St c w → kn w → ∀ K : Act → World → Prop, (∀ v w', ρ.Q w w' → S.holds v w' → K (a.put o.dst v) w') → wpList P ops (onlyK Pn K) [o] a w) : Obl Pn P ops ρ k o S a kn := by
  intro w c h1 h2 h3 h4 K hK
  refine h w c h1 h2 h3 h4 K fun v w' hq hs => hK v w' ?_ hs
  unfold Step; rw [hk]; exact hq
/-- A quiet operation that runs in one state alone. -/
theorem obl_at (c0 : Nat) (hk : ρ.louds.contains k = false) (h1 : lo ops ρ.louds k = c0) (h2 : hiC ops ρ.louds k = c0) (h : ∀ w, ρ.St c0 w → kn w → ∀ K : Act → World → Prop, (∀ v w', ρ.Q w w' → S.holds v w' → K (a.put o.dst v) w') → wpList P ops (onlyK Pn K) [o] a w) : Obl Pn P ops ρ k o S a kn :=
  obl_quiet hk fun w c a1 a2 a3 a4 K hK => by
    have : c = c0 := by omega
    subst this; exact h w a3 a4 K hK
/-- A loud one. -/
theorem obl_loud (c0 : Nat) (hk : ρ.louds.contains k = true) (h1 : lo ops ρ.louds k = c0) (h2 : hiC ops ρ.louds k = c0) (h : ∀ w, ρ.St c0 w → kn w → ∀ K : Act → World → Prop, (∀ v w', ρ.A c0 w w' → ρ.St (c0 + 1) w' → S.holds v w' → K (a.put o.dst v) w') → wpList P ops (onlyK Pn K) [o] a w) : Obl Pn P ops ρ k o S a kn := by
  intro w c a1 a2 a3 a4 K hK
  have : c = c0 := by omega
  subst this
  refine h w a3 a4 K fun v w' hA hSt hs => hK v w' ?_ hs
  unfold Step; rw [hk]; exact ⟨hA, hSt⟩
end
/-- The specifications' stability, one by one. -/
def Stab (Q : World → World → Prop) (A : Nat → World → World → Prop) (N : Nat) (f : Nat → Nat) : Nat → List Spec → Prop
  | _, [] => True
  | k, .is _ :: r => Stab Q A N f (k + 1) r
  | k, .rel R :: r => ((∀ v w w', R v w → Q w w' → R v w') ∧ ∀ c, f k ≤ c → c < N → ∀ v w w', R v w → A c w w' → R v w') ∧ Stab Q A N f (k + 1) r
theorem Stab.of {Q : World → World → Prop} {A : Nat → World → World → Prop} {N : Nat} {f : Nat → Nat} : ∀ {Ss : List Spec} {k : Nat}, Stab Q A N f k Ss → ∀ (j : Nat) R v w w', Ss[j]? = some (Spec.rel R) → R v w → (Q w w' ∨ ∃ c, f (k + j) ≤ c ∧ c < N ∧ A c w w') → R v w'
  | .is x :: r, k, h, 0, R, v, w, w', hj, hr, he => by simp at hj
  | .is x :: r, k, h, j + 1, R, v, w, w', hj, hr, he => Stab.of (Ss := r) (k := k + 1) h j R v w w' (by simpa using hj) hr (by rwa [show k + 1 + j = k + (j + 1) by omega])
  | .rel R' :: r, k, h, 0, R, v, w, w', hj, hr, he => by
    simp at hj; subst hj
    rcases he with he | ⟨c, h1, h2, h3⟩
    · exact h.1.1 v w w' hr he
    · exact h.1.2 c (by simpa using h1) h2 v w w' hr h3
  | .rel R' :: r, k, h, j + 1, R, v, w, w', hj, hr, he => Stab.of (Ss := r) (k := k + 1) h.2 j R v w w' (by simpa using hj) hr (by rwa [show k + 1 + j = k + (j + 1) by omega])
/-- As a walk uses it. -/
theorem walk {P : Program} {id : Nat} {Q : Exit → Act → World → Prop} {a : Act} {w : World} {l : List Oper} (Pn : List PanicEntry → World → Prop) (n : Nat) (ρ : Ch) (Ss : List Spec) (hm : P.follows .mixedOrders = true)
    (hQ : ∀ c w w', ρ.St c w → ρ.Q w w' → ρ.St c w') (h0 : ρ.St 0 w.drew)
    (hchk : (looksOk l.toArray (Region.before l.toArray) && backOk l.toArray && tailOk l.toArray (Region.before l.toArray) (l.take n).length && Region.noSelect l.toArray && chainOk l.toArray ρ.louds && ρ.louds.all (fun m => decide (m < (l.take n).length))) = true)
    (hdst : (l.take n).all (fun o => o.dst.any fun d => decide (d < a.tmps.size)) = true) (hl : (l.take n).length = Ss.length)
    (hst : Stab ρ.Q ρ.A ρ.louds.length (lo' l.toArray ρ.louds) 0 Ss)
    (hPn : ∀ c b w', Pn c w' → b.defers = a.defers → (∀ t, (l.take n).all (fun o => o.dst != some t) = true → b.tmps[t]? = a.tmps[t]?) → Q (.panic c) b w')
    (h : wpChain Pn P l.toArray ρ (wpList P l.toArray Q (l.drop n)) [] 0 (l.take n) Ss a) : (Code.region id l.toArray true).wp P Q a w :=
  region Pn n ρ Ss hm hQ h0 hchk hdst hl (fun j R v w w' hj hr he => Stab.of hst j R v w w' hj hr (by rw [Nat.zero_add]; exact he)) hPn h
/-- .. with stores: operations that write no slot ('nones'), of which nothing is known. -/
theorem walkN {P : Program} {id : Nat} {Q : Exit → Act → World → Prop} {a : Act} {w : World} {l : List Oper} (Pn : List PanicEntry → World → Prop) (n : Nat) (ρ : Ch) (Ss : List Spec) (hm : P.follows .mixedOrders = true)
    (hQ : ∀ c w w', ρ.St c w → ρ.Q w w' → ρ.St c w') (h0 : ρ.St 0 w.drew)
    (hchk : (looksOk l.toArray (Region.before l.toArray) && backOk l.toArray && tailOk l.toArray (Region.before l.toArray) (l.take n).length && Region.noSelect l.toArray && chainOk l.toArray ρ.louds && ρ.louds.all (fun m => decide (m < (l.take n).length))) = true)
    (nones : List Nat) (hdst : (l.take n).all (fun o => o.dst.all fun d => decide (d < a.tmps.size)) = true) (hno : (l.take n).zipIdx.all (fun (o, i) => o.dst.isSome || nones.contains i) = true) (htr : ∀ i ∈ nones, ∀ S, Ss[i]? = some S → ∀ u w, S.holds u w) (hl : (l.take n).length = Ss.length)
    (hst : Stab ρ.Q ρ.A ρ.louds.length (lo' l.toArray ρ.louds) 0 Ss)
    (hPn : ∀ c b w', Pn c w' → b.defers = a.defers → (∀ t, (l.take n).all (fun o => o.dst != some t) = true → b.tmps[t]? = a.tmps[t]?) → Q (.panic c) b w')
    (h : wpChain Pn P l.toArray ρ (wpList P l.toArray Q (l.drop n)) [] 0 (l.take n) Ss a) : (Code.region id l.toArray true).wp P Q a w :=
  regionN Pn n ρ Ss hm hQ h0 hchk hdst (fun i o hi hd => htr i (by have := List.all_eq_true.1 hno (o, i) (List.mem_zipIdx_iff_getElem?.2 hi); simpa [hd] using this)) hl (fun j R v w w' hj hr he => Stab.of hst j R v w w' hj hr (by rw [Nat.zero_add]; exact he)) hPn h
#print axioms walk
end Go.Proofs.YtgefphfnicjbiaaDoor.Mono4.Chain
