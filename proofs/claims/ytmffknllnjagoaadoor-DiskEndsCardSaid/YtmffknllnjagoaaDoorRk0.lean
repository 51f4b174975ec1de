/- tabellionref08: lists of files in memory; find, Used. -/
import Derived.Test.YtmffknllnjagoaaDoorAppB
import Derived.Test.YtmffknllnjagoaaDoorDsk5
import Derived.Sort.EncStr
set_option linter.unusedSimpArgs false
set_option linter.unusedVariables false
namespace Go.Proofs.YtmffknllnjagoaaDoor
open Go Go.RowKit Go.Maps
open Go.Proofs (encStr)

abbrev EL := List (Nm × (Value × List Int))
/-- Each element's bytes; none lies in a block of A. -/
def EOk (w : World) (A : List Nat) (E : EL) : Prop := ∀ p ∈ E, Rd w p.2.1 (u8s p.2.2) ∧ B8 p.2.2 ∧ OffL p.2.1 (u8s p.2.2) A
/-- v is a list of files. -/
def RowE (w : World) (A : List Nat) (v : Value) (E : EL) : Prop :=
  ∃ a c, v = .slice a E.length c ∧ E.length ≤ c ∧ c ≤ maxLen ∧ (E = [] ∨ ∃ b, a = some ⟨b, 0, none⟩ ∧ b ∉ A ∧ ∀ (i : Nat) p, E[i]? = some p → w.cell? ⟨b, i * 2, none⟩ = some (encStr p.1) ∧ w.cell? ⟨b, i * 2 + 1, none⟩ = some p.2.1)
def RFv (w : World) (A : List Nat) (v : Value) (L : FL) : Prop := ∃ E, RowE w A v E ∧ EOk w A E ∧ L = mapG (·.2) E
section
variable {w w' : World} {A A' S : List Nat} {v : Value} {E : EL} {L : FL}
theorem EOk.chg (h : EOk w A E) (hg : Chg S w w') (hS : ∀ t ∈ S, t ∈ A ∨ w.heap.size ≤ t) : EOk w' A E := fun p hp =>
  ⟨(h p hp).1.chgA (h p hp).2.2 hg (fun t ht => .inr (hS t ht)), (h p hp).2⟩
theorem EOk.off (h : EOk w A E) (hA : ∀ t ∈ A', t ∈ A ∨ w.heap.size ≤ t) : EOk w A' E := fun p hp => ⟨(h p hp).1, (h p hp).2.1, (h p hp).2.2.more (h p hp).1 hA⟩
theorem RowE.chg (h : RowE w A v E) (hg : Chg S w w') (hS : ∀ t ∈ S, t ∈ A ∨ w.heap.size ≤ t) : RowE w' A v E := by
  obtain ⟨a, c, hv, h1, h2, h3⟩ := h
  refine ⟨a, c, hv, h1, h2, ?_⟩
  rcases h3 with h3 | ⟨b, ha, hb, hc⟩
  · exact .inl h3
  · refine .inr ⟨b, ha, hb, fun i p hp => ?_⟩
    have h4 := hc i p hp
    have hlt := World.block_lt_of_cell? w _ h4.1
    have hS' : b ∉ S := fun hm => by
      rcases hS b hm with h | h
      · exact hb h
      · simp at hlt; omega
    exact ⟨cell_chg hg h4.1 hS', cell_chg hg h4.2 hS'⟩
theorem RowE.off (h : RowE w A v E) (hA : ∀ t ∈ A', t ∈ A ∨ w.heap.size ≤ t) : RowE w A' v E := by
  obtain ⟨a, c, hv, h1, h2, h3⟩ := h
  refine ⟨a, c, hv, h1, h2, ?_⟩
  by_cases hn : E = []
  · exact .inl hn
  · rcases h3 with h3 | ⟨b, ha, hb, hc⟩
    · exact absurd h3 hn
    · refine .inr ⟨b, ha, fun hm => ?_, hc⟩
      rcases hA b hm with h | h
      · exact hb h
      · cases E with
        | nil => exact hn rfl
        | cons p r => have := World.block_lt_of_cell? w _ (hc 0 p rfl).1; simp at this; omega
theorem RFv.chg (h : RFv w A v L) (hg : Chg S w w') (hS : ∀ t ∈ S, t ∈ A ∨ w.heap.size ≤ t) : RFv w' A v L := by
  obtain ⟨E, h1, h2, h3⟩ := h; exact ⟨E, h1.chg hg hS, h2.chg hg hS, h3⟩
theorem RFv.off (h : RFv w A v L) (hA : ∀ t ∈ A', t ∈ A ∨ w.heap.size ≤ t) : RFv w A' v L := by
  obtain ⟨E, h1, h2, h3⟩ := h; exact ⟨E, h1.off hA, h2.off hA, h3⟩
theorem RFv.ext (h : RFv w A v L) (hE : Ext w w') : RFv w' A v L := h.chg (S := []) (Chg.ext hE) (by simp)
theorem RowE.nil (w : World) (A : List Nat) : RowE w A (.slice none 0 0) [] := ⟨none, 0, rfl, Nat.le_refl _, by simp [maxLen], .inl rfl⟩
theorem RFv.nil (w : World) (A : List Nat) : RFv w A (.slice none 0 0) [] := ⟨[], RowE.nil w A, (by intro p hp; cases hp), rfl⟩
end
theorem str_eq (x : Nm) (s : ByteArray) : (x == s.toList) = (x == nmOf s) := by
  rw [Lib.toList_data]
def posG {α : Type} (k : Nm) : List (Nm × α) → Option Nat
  | [] => none
  | p :: r => if p.1 == k then some 0 else (posG k r).map (· + 1)
def posI {α : Type} (k : Nm) (l : List (Nm × α)) : Int := match posG k l with | none => -1 | some i => i
theorem posG_hit {α : Type} {k : Nm} : ∀ {l : List (Nm × α)} {i : Nat} {p : Nm × α}, l[i]? = some p → (p.1 == k) = true → (∀ j q, j < i → l[j]? = some q → (q.1 == k) = false) → posG k l = some i
  | [], i, p, h, _, _ => by simp at h
  | y :: r, 0, p, h, hk, _ => by simp at h; subst h; simp [posG, hk]
  | y :: r, i + 1, p, h, hk, hn => by
    have h0 := hn 0 y (by omega) rfl
    have ih := posG_hit (l := r) (i := i) (by simpa using h) hk (fun j q hj hq => hn (j + 1) q (by omega) (by simpa using hq))
    simp [posG, h0, ih]
theorem posG_miss {α : Type} {k : Nm} : ∀ {l : List (Nm × α)}, (∀ (j : Nat) q, l[j]? = some q → (q.1 == k) = false) → posG k l = none
  | [], _ => rfl
  | y :: r, hn => by
    have h0 := hn 0 y rfl
    have ih := posG_miss (l := r) (fun j q hq => hn (j + 1) q (by simpa using hq))
    simp [posG, h0, ih]
theorem posG_mapG {α β : Type} (f : α → β) (k : Nm) : ∀ l : List (Nm × α), posG k (mapG f l) = posG k l
  | [] => rfl
  | y :: r => by
    have ih := posG_mapG f k r
    show posG k ((y.1, f y.2) :: mapG f r) = _
    simp only [posG, ih]
set_option maxRecDepth 100000 in
set_option maxHeartbeats 1000000 in
theorem rfind_c (A : List Nat) (v : Value) (L : FL) (name : ByteArray) (w : World) (h : RFv w A v L) (hl : L.length < 1000000000) :
    Calls Tryd.prog 43 #[v, .string name] w fun e w' => e = .returned (.int .i64 (posI (nmOf name) L)) ∧ w' = w := by
  obtain ⟨E, ⟨a, c, rfl, hc1, hc2, hc3⟩, -, rfl⟩ := h
  have hlen : (mapG (fun p : Value × List Int => p.2) E).length = E.length := by simp [mapG]
  obtain ⟨X, hX⟩ : ∃ X, X = posI (nmOf name) (mapG (fun p : Value × List Int => p.2) E) := ⟨_, rfl⟩
  rw [← hX]
  have hX2 : X = posI (nmOf name) E := by rw [hX]; unfold posI; rw [posG_mapG]
  obtain ⟨N, hN⟩ : ∃ N, N = E.length := ⟨_, rfl⟩
  rw [hlen, ← hN] at hl
  rw [← hN] at hc1 ⊢
  replace hc2 : c ≤ 9223372036854775807 := by unfold maxLen at hc2; omega
  have HX := Lib.hid hX2; have HN := Lib.hid hN; have HC := Lib.hid hc3
  clear hX hX2 hN hc3 hlen
  go_enter Tryd.func43, Tryd.ntmps43
  go_wp2_with fail
  go_loopg [5] N (fun g ix wr => ∃ (i : Nat), i + g = N ∧ ix = .int .i64 (i : Int) ∧ wr = w ∧ ∀ j q, j < i → E[j]? = some q → (q.1 == nmOf name) = false)
  case atStart => exact ⟨0, by omega, rfl, rfl, fun j q hj => by omega⟩
  case round =>
    obtain ⟨i, hiN, rfl, rfl, hno⟩ := hrel
    have HNO := Lib.hid hno
    clear hno
    by_cases hlt : i < N
    · obtain ⟨p, hp⟩ : ∃ p, E[i]? = some p := ⟨_, List.getElem?_eq_getElem (by rw [← HN.out]; exact hlt)⟩
      obtain ⟨b, rfl, hcell⟩ : ∃ b, a = some ⟨b, 0, none⟩ ∧ wr.cell? ⟨b, i * 2, none⟩ = some (encStr p.1) := by
        rcases HC.out with h0 | ⟨b, ha, _, hcc⟩
        · rw [h0] at hp; simp at hp
        · exact ⟨b, ha, (hcc i p hp).1⟩
      have hse := str_eq p.1 name
      have HP := Lib.hid hp
      clear hp
      cases hk : (p.1 == nmOf name) with
      | true =>
        rw [hk] at hse
        have HR : Hid (X = (i : Int)) := Lib.hid (by rw [HX.out]; unfold posI; rw [posG_hit HP.out hk HNO.out])
        clear hk
        go_wp2_with fail
        go_ret
        exact ⟨by rw [HR.out]; rfl, rfl⟩
      | false =>
        rw [hk] at hse
        have HK := Lib.hid hk
        clear hk
        go_wp2_with fail
        go_roundg (gk - 1)
        case measure => omega
        case rel => exact ⟨i + 1, by omega, by go_num, rfl, fun j q hj hq => by
          rcases Nat.lt_succ_iff_lt_or_eq.1 hj with h1 | h1
          · exact HNO.out j q h1 hq
          · subst h1; have e := HP.out.symm.trans hq; cases e; exact HK.out⟩
    · have hge : (N : Int) ≤ (i : Int) := by omega
      have HR : Hid (X = -1) := Lib.hid (by
        rw [HX.out]; unfold posI
        rw [posG_miss fun j q hq => HNO.out j q (by have := (List.getElem?_eq_some_iff.1 hq).1; rw [← HN.out] at this; omega) hq])
      clear hlt
      go_wp2_with fail
      go_ret
      exact ⟨by rw [HR.out]; rfl, rfl⟩
set_option maxRecDepth 100000 in
set_option maxHeartbeats 1000000 in
theorem rused_c (A : List Nat) (v : Value) (L : FL) (w : World) (h : RFv w A v L) (hl : L.length < 1000000000) (hu : usedF L ≤ 4611686018427387904) :
    Calls Tryd.prog 49 #[v] w fun e w' => e = .returned (.int .i64 (usedF L)) ∧ w' = w := by
  obtain ⟨E, ⟨a, c, rfl, hc1, hc2, hc3⟩, hok, rfl⟩ := h
  have hlen : (mapG (fun p : Value × List Int => p.2) E).length = E.length := by simp [mapG]
  obtain ⟨X, hX⟩ : ∃ X, X = usedF (mapG (fun p : Value × List Int => p.2) E) := ⟨_, rfl⟩
  rw [← hX] at hu ⊢
  have hX2 : X = (E.map fun p => p.2.2.length).sum := by rw [hX]; simp [usedF, mapG, Function.comp_def]
  obtain ⟨N, hN⟩ : ∃ N, N = E.length := ⟨_, rfl⟩
  rw [hlen, ← hN] at hl
  rw [← hN] at hc1 ⊢
  replace hc2 : c ≤ 9223372036854775807 := by unfold maxLen at hc2; omega
  have HX := Lib.hid hX2; have HN := Lib.hid hN; have HC := Lib.hid hc3; have HOK := Lib.hid hok
  clear hX hX2 hN hc3 hlen hok
  have hstep : ∀ (i : Nat) p, E[i]? = some p → ((E.take (i + 1)).map fun p => p.2.2.length).sum = ((E.take i).map fun p => p.2.2.length).sum + p.2.2.length := fun i p hp => by
    rw [List.take_add_one, hp]; simp
  have hle : ∀ (i : Nat), ((E.take i).map fun p => p.2.2.length).sum ≤ X := fun i => by
    rw [HX.out]
    conv => rhs; rw [← List.take_append_drop i E, List.map_append, List.sum_append]
    omega
  have HST := Lib.hid hstep; have HLE := Lib.hid hle
  clear hstep hle
  go_enter Tryd.func49, Tryd.ntmps49
  go_wp2_with fail
  go_loopg [3, 4] N (fun g s ix wr => ∃ (i acc : Nat), i + g = N ∧ ix = .int .i64 (i : Int) ∧ s = .int .i64 (acc : Int) ∧ acc = ((E.take i).map fun p => p.2.2.length).sum ∧ wr = w)
  case atStart => exact ⟨0, 0, by omega, rfl, rfl, by simp, rfl⟩
  case round =>
    obtain ⟨i, acc, hiN, rfl, rfl, hacc, rfl⟩ := hrel
    by_cases hlt : i < N
    · obtain ⟨p, hp⟩ : ∃ p, E[i]? = some p := ⟨_, List.getElem?_eq_getElem (by rw [← HN.out]; exact hlt)⟩
      obtain ⟨b, rfl, hcell⟩ : ∃ b, a = some ⟨b, 0, none⟩ ∧ wr.cell? ⟨b, i * 2 + 1, none⟩ = some p.2.1 := by
        rcases HC.out with h0 | ⟨b, ha, _, hcc⟩
        · rw [h0] at hp; simp at hp
        · exact ⟨b, ha, (hcc i p hp).2⟩
      obtain ⟨pa, pc, hpv, _, _, _⟩ := (HOK.out p (List.mem_of_getElem? hp)).1.open
      rw [hpv] at hcell
      have hsm := HST.out i p hp
      have hX1 := HLE.out (i + 1)
      obtain ⟨pl, hpl⟩ : ∃ pl, pl = p.2.2.length := ⟨_, rfl⟩
      rw [hsm, ← hacc, ← hpl] at hX1
      rw [← hacc, ← hpl] at hsm
      rw [← hpl] at hcell
      have HSM := Lib.hid hsm
      clear hsm hacc hpv hp hpl
      go_wp2_with fail
      go_roundg (gk - 1)
      case measure => omega
      case rel => exact ⟨i + 1, acc + pl, by omega, by go_num, by go_num, HSM.out.symm, rfl⟩
    · have hge : (N : Int) ≤ (i : Int) := by omega
      have hiN2 : i = N := by omega
      have HR : Hid (acc = X) := Lib.hid (by rw [hacc, HX.out, hiN2, HN.out, List.take_of_length_le (Nat.le_refl _)])
      clear hlt hacc hiN2
      go_wp2_with fail
      go_ret
      exact ⟨by rw [← HR.out]; rfl, rfl⟩
end Go.Proofs.YtmffknllnjagoaaDoor
