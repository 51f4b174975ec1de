/- tabellionref08: without. -/
import Derived.Test.YtmffknllnjagoaaDoorRk0
set_option linter.unusedSimpArgs false
set_option linter.unusedVariables false
namespace Go.Proofs.YtmffknllnjagoaaDoor
open Go Go.RowKit Go.Maps
open Go.Proofs (encStr)

def fC (p : Nm × (Value × List Int)) : List Value := [encStr p.1, p.2.1]
def FCs (E : EL) : List Value := E.flatMap fC
theorem FCs_app (E : EL) (p : Nm × (Value × List Int)) : FCs (E ++ [p]) = FCs E ++ fC p := by simp [FCs]
theorem FCs_len : ∀ E : EL, (FCs E).length = E.length * 2
  | [] => rfl
  | p :: r => by have := FCs_len r; simp only [FCs, List.flatMap_cons, List.length_append] at this ⊢; rw [this]; simp [fC]; omega
theorem FCs_get : ∀ {E : EL} {i : Nat} {p : Nm × (Value × List Int)}, E[i]? = some p → (FCs E)[i * 2]? = some (encStr p.1) ∧ (FCs E)[i * 2 + 1]? = some p.2.1
  | [], i, p, h => by simp at h
  | q :: r, 0, p, h => by simp at h; subst h; exact ⟨rfl, rfl⟩
  | q :: r, i + 1, p, h => by
    have ih := FCs_get (E := r) (i := i) (by simpa using h)
    have e : FCs (q :: r) = fC q ++ FCs r := rfl
    rw [e, show (i + 1) * 2 = i * 2 + 2 by omega, List.getElem?_append_right (show 2 ≤ i * 2 + 2 by omega), List.getElem?_append_right (show 2 ≤ i * 2 + 2 + 1 by omega)]
    simp only [fC, List.length_cons, List.length_nil]
    exact ⟨by rw [← ih.1]; first | done | congr 1, by rw [← ih.2]; first | done | congr 1⟩
theorem infoFi : (Tryd.prog.info? 75).map (fun i => (i.zero, i.size, i.bytes)) = some (some (.agg #[.string ⟨#[]⟩, .slice none 0 0]), 2, 40) := by kernel_rfl
/-- A list that the call has built. -/
theorem own_rowE {w : World} {B : Nat} {A : List Nat} {v : Value} {E : EL} (h : w.ownsRow B 75 2 v E.length (FCs E)) (hA : ∀ t ∈ A, t < B) : RowE w A v E := by
  rcases h.2 with ⟨hv, h0⟩ | ⟨g, cap, cur, hv, hg, hh, h1, h2, h3, h4⟩
  · have : E = [] := List.eq_nil_of_length_eq_zero h0
    subst this
    rw [hv]; exact RowE.nil w A
  · refine ⟨some ⟨g, 0, none⟩, cap, hv, h1, h2, .inr ⟨g, rfl, fun hm => by have := hA g hm; omega, fun i p hp => ?_⟩⟩
    have hc : ∀ j u, (FCs E)[j]? = some u → w.cell? ⟨g, j, none⟩ = some u := fun j u hj => by
      have := h.cells (g := g) (by rw [hv]; rfl) j u hj
      rwa [Addr.add_lit, Nat.zero_add] at this
    have := FCs_get hp
    exact ⟨hc _ _ this.1, hc _ _ this.2⟩
theorem delG_take {α : Type} (k : Nm) (E : List (Nm × α)) (i : Nat) {p : Nm × α} (hp : E[i]? = some p) : delG k (E.take (i + 1)) = delG k (E.take i) ++ (if p.1 == k then [] else [p]) := by
  unfold delG
  rw [List.take_add_one, hp, List.filter_append]
  simp only [Option.toList_some, List.filter_cons, List.filter_nil]
  cases (p.1 == k) <;> simp
theorem delG_len {α : Type} (k : Nm) (E : List (Nm × α)) : (delG k E).length ≤ E.length := List.length_filter_le _ _
theorem EOk.del {w : World} {A : List Nat} {E : EL} (h : EOk w A E) (k : Nm) : EOk w A (delG k E) := fun p hp => h p (mem_delG.1 hp).1
set_option maxRecDepth 100000 in
set_option maxHeartbeats 2000000 in
theorem rwithout_c (A : List Nat) (v : Value) (E : EL) (name : ByteArray) (w : World) (hrow : RowE w A v E) (hok : EOk w A E) (hA : ∀ t ∈ A, t < w.heap.size) (hl : E.length < 1000000000) :
    Calls Tryd.prog 64 #[v, .string name] w fun e w' => ∃ v', e = .returned v' ∧ w'.ownsRow w.heap.size 75 2 v' (delG (nmOf name) E).length (FCs (delG (nmOf name) E)) ∧ Ext w w' := by
  obtain ⟨a, c, rfl, hc1, hc2, hc3⟩ := hrow
  obtain ⟨N, hN⟩ : ∃ N, N = E.length := ⟨_, rfl⟩
  rw [← hN] at hl hc1 ⊢
  replace hc2 : c ≤ 9223372036854775807 := by unfold maxLen at hc2; omega
  obtain ⟨i0, hi, hiz, his, hib⟩ := info_parts infoFi
  have HN := Lib.hid hN; have HC := Lib.hid hc3; have HOK := Lib.hid hok
  clear hN hc3 hok
  go_enter Tryd.func64, Tryd.ntmps64
  go_wp2_with fail
  go_loopg [5, 6] N (fun g o ix wr => ∃ (i : Nat), i + g = N ∧ ix = .int .i64 (i : Int) ∧ wr.ownsRow w.heap.size 75 2 o (delG (nmOf name) (E.take i)).length (FCs (delG (nmOf name) (E.take i))) ∧ Ext w wr)
  case atStart => exact ⟨0, by omega, rfl, World.ownsRow_nil _ _ _ _, Ext.refl _⟩
  case round =>
    obtain ⟨i, hiN, rfl, ho, hE⟩ := hrel
    have HO := Lib.hid ho; have HE := Lib.hid hE
    clear ho hE
    by_cases hlt : i < N
    · obtain ⟨p, hp⟩ : ∃ p, E[i]? = some p := ⟨_, List.getElem?_eq_getElem (by rw [← HN.out]; exact hlt)⟩
      obtain ⟨b, rfl, hcell, hcell2⟩ : ∃ b, a = some ⟨b, 0, none⟩ ∧ wr.cell? ⟨b, i * 2, none⟩ = some (encStr p.1) ∧ wr.cell? ⟨b, i * 2 + 1, none⟩ = some p.2.1 := by
        rcases HC.out with h0 | ⟨b, ha, _, hcc⟩
        · rw [h0] at hp; simp at hp
        · exact ⟨b, ha, HE.out.cell (hcc i p hp).1, HE.out.cell (hcc i p hp).2⟩
      obtain ⟨pa, pc, hpv, _, _, _⟩ := (HOK.out p (List.mem_of_getElem? hp)).1.open
      have hse := str_eq p.1 name
      have HDT := Lib.hid (delG_take (nmOf name) E i hp)
      have HP := Lib.hid hp; have HPV := Lib.hid hpv
      rw [hpv] at hcell2
      clear hp hpv
      cases hk : (p.1 == nmOf name) with
      | true =>
        rw [hk] at hse
        have HD : Hid (delG (nmOf name) (E.take (i + 1)) = delG (nmOf name) (E.take i)) := Lib.hid (by rw [HDT.out, if_pos hk, List.append_nil])
        clear hk
        have hsn : (p.1 != name.toList) = false := by simp [bne, hse]
        go_wp2_with fail
        go_roundg (gk - 1)
        case measure => omega
        case rel => exact ⟨i + 1, by omega, by go_num, by rw [HD.out]; exact HO.out, HE.out⟩
      | false =>
        rw [hk] at hse
        have HD : Hid (delG (nmOf name) (E.take (i + 1)) = delG (nmOf name) (E.take i) ++ [p]) := Lib.hid (by rw [HDT.out, if_neg (by rw [hk]; simp)])
        have hsn : (p.1 != name.toList) = true := by simp [bne, hse]
        have hnl : (delG (nmOf name) (E.take i)).length < 1000000000 := by
          have := delG_len (nmOf name) (E.take i); rw [List.length_take, ← HN.out] at this; omega
        obtain ⟨M, hM⟩ : ∃ M, M = (delG (nmOf name) (E.take i)).length := ⟨_, rfl⟩
        obtain ⟨cs, hcs⟩ : ∃ cs, cs = FCs (delG (nmOf name) (E.take i)) := ⟨_, rfl⟩
        have hO2 := own_ext HO.out (Ext.alloc wr (.cells #[encStr p.1, .slice pa p.2.2.length pc] 75))
        rw [← hM, ← hcs] at hO2
        rw [← hM] at hnl
        have hone : ∀ u ∈ [encStr p.1, Value.slice pa p.2.2.length pc], u.oneCell' = true := by intro u hu; simp at hu; rcases hu with rfl | rfl <;> rfl
        have hnc : ∀ j u, [encStr p.1, Value.slice pa p.2.2.length pc][j]? = some u → (wr.alloc (.cells #[encStr p.1, .slice pa p.2.2.length pc] 75)).cell? (Addr.add ⟨wr.heap.size, 0, none⟩ j) = some u := fun j u hj => by
          rw [Addr.add_lit, Nat.zero_add]
          exact (Blk.new wr #[encStr p.1, .slice pa p.2.2.length pc] 75).cell j (by simpa using hj)
        have hws := HE.out.size
        have HMM := Lib.hid hM; have HCS := Lib.hid hcs; have HO2 := Lib.hid hO2; have HNC := Lib.hid hnc
        clear hk hM hcs hO2 hnc
        go_wp2_with (at_builtin; refine wpList_append_own_at _ rfl (.tmp 20) (.tmp 25) _ rfl w.heap.size 75 i0 _ 2 40 Tryd.underlying68 hi hiz his hib rfl (by decide) u5 M cs rfl HO2.out ⟨wr.heap.size, 0, none⟩ 1 1 [encStr p.1, Value.slice pa p.2.2.length pc] rfl rfl HNC.out hone (by unfold maxLen; omega) (by omega) (Nat.le_trans hws (by simp)) ?_; intro v5 w5 g1 g2 _ g4)
        have hfr : ∀ q, u5.ownBlock = some q → w.heap.size ≤ q := by
          intro q hq
          rcases HO.out.2 with ⟨h1, _⟩ | ⟨g', cap, cur, h1, h2, _⟩
          · rw [h1] at hq; cases hq
          · rw [h1] at hq; cases hq; exact h2
        have hE5 : Ext w w5 := Below.grown (HE.out.trans (Ext.alloc _ _)) g2 (Nat.le_trans hws (by simp)) hfr
        go_roundg (gk - 1)
        case measure => omega
        case rel => exact ⟨i + 1, by omega, by go_num, by rw [HD.out, FCs_app, List.length_append, ← HMM.out, ← HCS.out, show fC p = [encStr p.1, Value.slice pa p.2.2.length pc] by rw [fC, HPV.out]]; exact g1, hE5⟩
    · have hge : (N : Int) ≤ (i : Int) := by omega
      have HTK : Hid (E.take i = E) := Lib.hid (by rw [List.take_of_length_le (by rw [← HN.out]; omega)])
      clear hlt
      go_wp2_with fail
      go_ret
      exact ⟨_, rfl, by have := HO.out; rwa [HTK.out] at this, HE.out⟩
end Go.Proofs.YtmffknllnjagoaaDoor
