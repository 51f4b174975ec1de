/- Plain: what a majority has. -/
import Derived.Test.YtgnkhpcnlffjnaaNums
namespace Go.Proofs.Ytgnkhpcnlffjnaa
open Go

structure PeerC where
  id : Int
  next : Int
  mtch : Int
  cnt : Value
  f0 : Value
  f1 : Value
  f2 : Value
  f3 : Value

def matchB : List PeerC → Int → Int
  | [], _ => 0
  | p :: r, x => if p.id = x then p.mtch else matchB r x
/-- how many places of ms have x -/
def haveB (ms : List Int) (ps : List PeerC) (x : Int) : Nat := (ms.filter fun m => decide (x ≤ matchB ps m)).length
def majB (ms : List Int) : Nat := ms.length / 2 + 1
/-- r is what a majority agrees on -/
structure Agr (ms : List Int) (ps : List PeerC) (r : Int) : Prop where
  low : 0 ≤ r
  none : ms = [] → r = 0
  has : ms ≠ [] → majB ms ≤ haveB ms ps r
  most : ms ≠ [] → ∀ x, r < x → haveB ms ps x < majB ms

theorem haveB_mono (ms : List Int) (ps : List PeerC) (x y : Int) (h : x ≤ y) : haveB ms ps y ≤ haveB ms ps x := by
  unfold haveB
  induction ms with
  | nil => simp
  | cons m ms ih =>
    simp only [List.filter_cons]
    split <;> split <;> simp_all <;> omega
theorem Agr.unique {ms : List Int} {ps : List PeerC} {r s : Int} (h : Agr ms ps r) (k : Agr ms ps s) : r = s := by
  by_cases hm : ms = []
  · rw [h.none hm, k.none hm]
  · rcases Int.lt_trichotomy r s with hlt | heq | hgt
    · have := h.most hm s hlt; have := k.has hm; omega
    · exact heq
    · have := k.most hm r hgt; have := h.has hm; omega
theorem haveB_nil (ps : List PeerC) (x : Int) : haveB [] ps x = 0 := rfl

/-- the reference's search -/
def bestB (ms : List Int) (ps : List PeerC) : List PeerC → Int → Int
  | [], best => best
  | p :: r, best => bestB ms ps r (if best < p.mtch ∧ majB ms ≤ haveB ms ps p.mtch then p.mtch else best)
theorem bestB_spec (ms : List Int) (ps : List PeerC) : ∀ (qs : List PeerC) (best : Int), best ≤ bestB ms ps qs best ∧ (∀ p ∈ qs, majB ms ≤ haveB ms ps p.mtch → p.mtch ≤ bestB ms ps qs best) ∧ (bestB ms ps qs best = best ∨ ∃ p ∈ qs, bestB ms ps qs best = p.mtch ∧ majB ms ≤ haveB ms ps p.mtch)
  | [], best => by simp [bestB]
  | p :: r, best => by
    simp only [bestB]
    by_cases h : best < p.mtch ∧ majB ms ≤ haveB ms ps p.mtch
    · rw [if_pos h]
      obtain ⟨h1, h2, h3⟩ := bestB_spec ms ps r p.mtch
      refine ⟨by omega, fun q hq hm => ?_, ?_⟩
      · rcases List.mem_cons.1 hq with rfl | hq
        · exact h1
        · exact h2 q hq hm
      · right
        rcases h3 with h3 | ⟨q, hq, h3⟩
        · exact ⟨p, by simp, h3, h.2⟩
        · exact ⟨q, by simp [hq], h3⟩
    · rw [if_neg h]
      obtain ⟨h1, h2, h3⟩ := bestB_spec ms ps r best
      refine ⟨h1, fun q hq hm => ?_, ?_⟩
      · rcases List.mem_cons.1 hq with rfl | hq
        · have : ¬ best < q.mtch := fun hb => h ⟨hb, hm⟩
          omega
        · exact h2 q hq hm
      · rcases h3 with h3 | ⟨q, hq, h3⟩
        · exact .inl h3
        · exact .inr ⟨q, by simp [hq], h3⟩
theorem matchB_mem : ∀ (ps : List PeerC) (x : Int), matchB ps x = 0 ∨ ∃ p ∈ ps, matchB ps x = p.mtch
  | [], _ => .inl rfl
  | p :: r, x => by
    simp only [matchB]
    split
    · exact .inr ⟨p, by simp, rfl⟩
    · rcases matchB_mem r x with h | ⟨q, hq, h⟩
      · exact .inl h
      · exact .inr ⟨q, by simp [hq], h⟩
theorem haveB_step {ms : List Int} {ps : List PeerC} {r : Int} (h : haveB ms ps (r + 1) < haveB ms ps r) : ∃ m ∈ ms, matchB ps m = r := by
  induction ms with
  | nil => simp [haveB] at h
  | cons m ms ih =>
    by_cases hm : matchB ps m = r
    · exact ⟨m, by simp, hm⟩
    · have : haveB ms ps (r + 1) < haveB ms ps r := by
        unfold haveB at h ⊢
        simp only [List.filter_cons, decide_eq_true_eq] at h
        split at h <;> split at h <;> (try simp only [List.length_cons] at h) <;> omega
      obtain ⟨q, hq, e⟩ := ih this
      exact ⟨q, by simp [hq], e⟩
theorem agr_best {ms : List Int} {ps : List PeerC} {r : Int} (h : Agr ms ps r) (hp : ∀ p ∈ ps, 0 ≤ p.mtch) : bestB ms ps ps 0 = r := by
  obtain ⟨h1, h2, h3⟩ := bestB_spec ms ps ps 0
  by_cases hm : ms = []
  · rw [h.none hm]
    rcases h3 with h3 | ⟨p, hpm, _, h5⟩
    · exact h3
    · rw [hm] at h5; simp [majB, haveB] at h5
  · have hs := h.has hm
    have ht := h.most hm (r + 1) (by omega)
    have hle : bestB ms ps ps 0 ≤ r := by
      rcases h3 with h3 | ⟨p, hpm, h4, h5⟩
      · have := h.low; omega
      · rcases Int.lt_or_le r (bestB ms ps ps 0) with hlt | hle
        · have := h.most hm _ hlt; rw [h4] at this; omega
        · exact hle
    rcases Int.lt_or_le 0 r with h0 | h0
    · obtain ⟨m, hmm, hme⟩ := haveB_step (ms := ms) (ps := ps) (r := r) (by omega)
      rcases matchB_mem ps m with hz | ⟨p, hpm, hpe⟩
      · omega
      · have hpr : p.mtch = r := by rw [← hpe, hme]
        have := h2 p hpm (by rw [hpr]; exact hs)
        omega
    · have := h.low; omega

/-- a sorted row gives what is agreed on -/
theorem agr_row (ms : List Int) (ps : List PeerC) (R : List Int) (hP : R.Perm (ms.map (matchB ps))) (hS : ∀ i j, i < j → j < R.length → R.getD i 0 ≤ R.getD j 0) (hm : ms ≠ []) (h0 : ∀ p ∈ ps, 0 ≤ p.mtch) :
    Agr ms ps (R.getD (R.length - majB ms) 0) := by
  have hl : R.length = ms.length := by rw [hP.length_eq, List.length_map]
  have hl0 : 0 < ms.length := List.length_pos_iff.2 hm
  have hk : R.length - majB ms < R.length := by unfold majB; omega
  have hcnt : ∀ x, haveB ms ps x = (R.filter fun y => decide (x ≤ y)).length := fun x => by
    rw [(hP.filter _).length_eq, List.filter_map, List.length_map]; rfl
  have hge : ∀ (L : List Int) (x : Int), (∀ y ∈ L, x ≤ y) → (L.filter fun y => decide (x ≤ y)).length = L.length := fun L x h => by
    rw [List.filter_eq_self.2]; intro y hy; simpa using h y hy
  have hlt : ∀ (L : List Int) (x : Int), (∀ y ∈ L, y < x) → (L.filter fun y => decide (x ≤ y)).length = 0 := fun L x h => by
    rw [List.filter_eq_nil_iff.2]; rfl
    intro y hy; have := h y hy; simp; omega
  have hsplit : ∀ k x, (R.filter fun y => decide (x ≤ y)).length = ((R.take k).filter fun y => decide (x ≤ y)).length + ((R.drop k).filter fun y => decide (x ≤ y)).length := fun k x => by
    conv => lhs; rw [← List.take_append_drop k R]
    rw [List.filter_append, List.length_append]
  generalize hK : R.length - majB ms = k at *
  have hmk : R.length - k = majB ms := by unfold majB at *; omega
  refine ⟨?_, fun h => absurd h hm, fun _ => ?_, fun _ x hx => ?_⟩
  · have hmem : R.getD k 0 ∈ R := by simp [List.getD, List.getElem?_eq_getElem hk]
    have := hP.mem_iff.1 hmem
    obtain ⟨m, _, he⟩ := List.mem_map.1 this
    rw [← he]
    rcases matchB_mem ps m with hz | ⟨p, hp, hpe⟩
    · omega
    · rw [hpe]; exact h0 p hp
  · rw [hcnt, hsplit k]
    have : ((R.drop k).filter fun y => decide (R.getD k 0 ≤ y)).length = (R.drop k).length := hge _ _ fun y hy => by
      obtain ⟨i, hi, rfl⟩ := List.mem_iff_getElem.1 hy
      rw [List.length_drop] at hi
      rw [List.getElem_drop]
      by_cases h0 : i = 0
      · subst h0; simp [List.getD, List.getElem?_eq_getElem hk]
      · have := hS k (k + i) (by omega) (by omega)
        simpa [List.getD, List.getElem?_eq_getElem hk, List.getElem?_eq_getElem (show k + i < R.length by omega)] using this
    rw [this, List.length_drop]; omega
  · rw [hcnt, hsplit (k + 1)]
    have h1 : ((R.take (k + 1)).filter fun y => decide (x ≤ y)).length = 0 := hlt _ _ fun y hy => by
      obtain ⟨i, hi, rfl⟩ := List.mem_iff_getElem.1 hy
      rw [List.length_take] at hi
      rw [List.getElem_take]
      by_cases h0 : i = k
      · subst h0; simpa [List.getD, List.getElem?_eq_getElem hk] using hx
      · have := hS i k (by omega) hk
        have e1 : R.getD i 0 = R[i] := by simp [List.getD, List.getElem?_eq_getElem (show i < R.length by omega)]
        have e2 : R.getD k 0 = R[k] := by simp [List.getD, List.getElem?_eq_getElem hk]
        rw [e1, e2] at this
        rw [e2] at hx
        omega
    have h2 : ((R.drop (k + 1)).filter fun y => decide (x ≤ y)).length ≤ (R.drop (k + 1)).length := List.length_filter_le _ _
    rw [List.length_drop] at h2
    have : 1 ≤ majB ms := by unfold majB; omega
    omega
end Go.Proofs.Ytgnkhpcnlffjnaa
