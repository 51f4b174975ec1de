/- Layer 25 (seq): what Find and Apply do, plainly; the law SeqOnce of plain books. -/
import Derived.Test.YtgefphfnicjbiaaDoorSqg
set_option linter.unusedSimpArgs false
set_option linter.unusedVariables false
namespace Go.Proofs.YtgefphfnicjbiaaDoor
open Go Go.RowKit

/-- An element of a list that rises stands at its place. -/
theorem rise_place {α : Type} (f : α → Int) (l : List α) (hl : (l.map f).Pairwise (· < ·)) {x : α} (h : x ∈ l) : l[posL (l.map f) (f x)]? = some x := by
  obtain ⟨i, hi, rfl⟩ := List.getElem_of_mem h
  have hc := posL_cut (l.map f) (f l[i]) hl
  have hgi : (l.map f)[i]? = some (f l[i]) := by rw [List.getElem?_map, List.getElem?_eq_getElem hi]; rfl
  generalize posL (l.map f) (f l[i]) = P at *
  have hPi : P = i := by
    have h1 : P ≤ i := Nat.le_of_not_lt fun hlt => by have := hc.lo i _ hlt hgi; omega
    rcases Nat.lt_or_ge P i with h2 | h2
    · have hPl : P < l.length := by omega
      have hgP : (l.map f)[P]? = some (f l[P]) := by rw [List.getElem?_map, List.getElem?_eq_getElem hPl]; rfl
      have h3 := hc.hi P _ (Nat.le_refl _) hgP
      rw [List.pairwise_map, List.pairwise_iff_getElem] at hl
      have := hl P i hPl hi h2
      omega
    · omega
  rw [hPi]; exact List.getElem?_eq_getElem hi
theorem rise_uniq {α : Type} (f : α → Int) (l : List α) (hl : (l.map f).Pairwise (· < ·)) {x y : α} (h : x ∈ l) (h' : y ∈ l) (e : f x = f y) : x = y := by
  have h1 := rise_place f l hl h
  have h2 := rise_place f l hl h'
  rw [e, h2] at h1
  exact (Option.some.inj h1).symm
theorem findP_at {b : Bk} (hb : Rise b) {c : Cl} (h : c ∈ b.clients) (sq : Int) : findP b c.id sq = match c.slots[posL (keysC c) sq]? with
      | some s => if s.1 = sq then (s.2, 0) else if posL (keysC c) sq = 0 ∧ 4 ≤ c.slots.length then (0, 13) else (0, 8)
      | none => if posL (keysC c) sq = 0 ∧ 4 ≤ c.slots.length then (0, 13) else (0, 8) := by
  unfold findP
  rw [show b.clients[posL (idsB b) c.id]? = some c from rise_place Cl.id b.clients hb.ids h]
  dsimp only
  rw [if_pos rfl]
  cases c.slots[posL (keysC c) sq]? <;> rfl
theorem findP_hit {b : Bk} (hb : Rise b) {c : Cl} (h : c ∈ b.clients) {s : Int × Int} (hs : s ∈ c.slots) : findP b c.id s.1 = (s.2, 0) := by
  rw [findP_at hb h, show c.slots[posL (keysC c) s.1]? = some s from rise_place (fun s : Int × Int => s.1) c.slots (hb.keys c h) hs]
  dsimp only
  rw [if_pos rfl]
theorem findP_old {b : Bk} (hb : Rise b) {c : Cl} (h : c ∈ b.clients) {sq : Int} (h4 : 4 ≤ c.slots.length) (hs : ∀ t ∈ c.slots, sq < t.1) : findP b c.id sq = (0, 13) := by
  have h0 : posL (keysC c) sq = 0 := by
    unfold posL
    rw [List.countP_eq_zero]
    intro y hy
    obtain ⟨t, ht, rfl⟩ := List.mem_map.1 hy
    have := hs t ht
    simp; omega
  rw [findP_at hb h, h0]
  obtain ⟨s, hs'⟩ : ∃ s, c.slots[0]? = some s := ⟨_, List.getElem?_eq_getElem (by omega)⟩
  rw [hs']
  dsimp only
  rw [if_neg (by have := hs s (List.mem_of_getElem? hs'); omega), if_pos ⟨rfl, h4⟩]
/-- What is found stands there. -/
theorem findP_ok {b : Bk} {cl sq : Int} (h : (findP b cl sq).2 = 0) : ∃ c ∈ b.clients, c.id = cl ∧ (sq, (findP b cl sq).1) ∈ c.slots := by
  unfold findP at h ⊢
  cases hc : b.clients[posL (idsB b) cl]? with
  | none => rw [hc] at h; simp at h
  | some c =>
    rw [hc] at h
    dsimp only at h ⊢
    by_cases hid : c.id = cl
    · rw [if_pos hid] at h
      simp only [if_pos hid]
      refine ⟨c, List.mem_of_getElem? hc, hid, ?_⟩
      cases hs : c.slots[posL (keysC c) sq]? with
      | none =>
        rw [hs] at h
        dsimp only at h
        split at h <;> simp at h
      | some s =>
        rw [hs] at h
        dsimp only at h ⊢
        by_cases e : s.1 = sq
        · rw [if_pos e]
          dsimp only
          rw [← e]; exact List.mem_of_getElem? hs
        · rw [if_neg e] at h
          split at h <;> simp at h
    · rw [if_neg hid] at h; simp at h
/-- What is neither found nor old: some slot of a full client is older. -/
theorem findP_new {b : Bk} (hb : Rise b) {c : Cl} (h : c ∈ b.clients) {sq : Int} (hf : (findP b c.id sq).2 = 8) (h4 : 4 ≤ c.slots.length) : ∃ t ∈ c.slots, t.1 < sq := by
  refine Classical.byContradiction fun hn => ?_
  have hn' : ∀ t ∈ c.slots, ¬ t.1 < sq := fun t ht hlt => hn ⟨t, ht, hlt⟩
  by_cases hm : ∃ t ∈ c.slots, t.1 = sq
  · obtain ⟨t, ht, rfl⟩ := hm
    rw [findP_hit hb h ht] at hf; simp at hf
  · have := findP_old hb h h4 (sq := sq) (fun t ht => by have h1 := hn' t ht; have h2 : t.1 ≠ sq := fun e => hm ⟨t, ht, e⟩; omega)
    rw [this] at hf; simp at hf
theorem findP_codes (b : Bk) (cl sq : Int) : (findP b cl sq).2 = 0 ∨ (findP b cl sq).2 = 8 ∨ (findP b cl sq).2 = 13 := by
  unfold findP
  split
  · simp
  · split
    · split
      · split
        · simp
        · split <;> simp
      · split <;> simp
    · simp
/-! ### Apply -/
structure BkOk (b : Bk) : Prop where
  rise : Rise b
  leaves : b.leaves.length ≤ 64
  each : ∀ l ∈ b.leaves, l.length ≤ 64
  clients : b.clients.length ≤ 8
  slots : ∀ c ∈ b.clients, c.slots.length ≤ 4
theorem BkOk.bd {b : Bk} (h : BkOk b) : BkBd b :=
  ⟨by have := h.leaves; omega, fun l hl => by have := h.each l hl; omega, by have := h.clients; omega, fun c hc => by have := h.slots c hc; omega⟩
theorem BkOk.nil : BkOk ⟨[], []⟩ := ⟨⟨by simp [idsB], by simp, by simp, by simp⟩, by simp, by simp, by simp, by simp⟩
/-- The slots that Apply leaves of a client that had l, and s besides. -/
theorem lastF_mem {l : List (Int × Int)} {s : Int × Int} (hl : (l.map (·.1)).Pairwise (· < ·)) (hn : s.1 ∉ l.map (·.1)) (h4 : l.length ≤ 4) (hs : l.length = 4 → ∃ t ∈ l, t.1 < s.1) :
    s ∈ lastF (insL l s) ∧ (∀ t ∈ lastF (insL l s), t ∈ l ∨ t = s) ∧ (∀ t ∈ l, t ∈ lastF (insL l s) ∨ (lastF (insL l s)).length = 4 ∧ ∀ u ∈ lastF (insL l s), t.1 < u.1) ∧ ((lastF (insL l s)).map (·.1)).Pairwise (· < ·) ∧ (lastF (insL l s)).length ≤ 4 ∧ (l.length = 4 → (lastF (insL l s)).length = 4) := by
  have hpw := insL_pw l s hl hn
  have hp := insL_perm l s
  have hlen := insL_len l s
  have hmem : ∀ t, t ∈ insL l s ↔ t ∈ l ∨ t = s := fun t => by rw [hp.mem_iff]; simp
  by_cases h : l.length = 4
  · obtain ⟨t0, ht0, hlt⟩ := hs h
    cases hi : insL l s with
    | nil => rw [hi] at hlen; simp at hlen
    | cons x r =>
      have hr : lastF (x :: r) = r := by unfold lastF; rw [hi] at hlen; simp only [List.length_cons] at hlen ⊢; rw [show r.length + 1 - 4 = 1 by omega]; rfl
      rw [hi] at hpw hmem hlen
      rw [hr]
      rw [List.pairwise_cons] at hpw
      have hrl : r.length = 4 := by simp at hlen; omega
      have hxs : x ≠ s := fun e => by
        subst e
        have h1 : t0 ∈ x :: r := (hmem t0).2 (.inl ht0)
        rcases List.mem_cons.1 h1 with rfl | h1
        · omega
        · have := hpw.1 t0 h1; omega
      refine ⟨?_, fun t ht => (hmem t).1 (List.mem_cons_of_mem _ ht), fun t ht => ?_, ?_, by omega, fun _ => hrl⟩
      · rcases List.mem_cons.1 ((hmem s).2 (.inr rfl)) with e | h1
        · exact absurd e.symm hxs
        · exact h1
      · rcases List.mem_cons.1 ((hmem t).2 (.inl ht)) with rfl | h1
        · exact .inr ⟨hrl, hpw.1⟩
        · exact .inl h1
      · rw [List.pairwise_map]; exact hpw.2
  · have hr : lastF (insL l s) = insL l s := by unfold lastF; rw [hlen, show l.length + 1 - 4 = 0 by omega]; rfl
    rw [hr]
    exact ⟨(hmem s).2 (.inr rfl), fun t ht => (hmem t).1 ht, fun t ht => .inl ((hmem t).2 (.inl ht)), by rw [List.pairwise_map]; exact hpw, by omega, fun e => absurd e h⟩
/-- The clients with cl among them. -/
theorem withC_spec {b : Bk} (hb : BkOk b) (cl : Int) (hk : hitAt (idsB b) cl (posL (idsB b) cl) = false → b.clients.length < 8) :
    ((withC b cl).map (·.id)).Pairwise (· < ·) ∧ (withC b cl).length ≤ 8 ∧ ∃ c, (withC b cl)[posL (idsB b) cl]? = some c ∧ c.id = cl ∧ (c ∈ b.clients ∨ c.slots = [] ∧ ∀ c' ∈ b.clients, c'.id ≠ cl) ∧
      (∀ c' ∈ withC b cl, c' = c ∨ c' ∈ b.clients) ∧ (∀ c' ∈ b.clients, c' ∈ withC b cl) := by
  have hc := posL_cut (idsB b) cl hb.rise.ids
  have hPl := hc.le
  have hlen : (idsB b).length = b.clients.length := by unfold idsB; simp
  unfold withC
  cases hh : hitAt (idsB b) cl (posL (idsB b) cl) with
  | true =>
    rw [if_pos rfl]
    have hid := hitAt_true hh
    unfold idsB at hid
    rw [List.getElem?_map] at hid
    rw [show b.clients.map (·.id) = idsB b from rfl] at hid
    obtain ⟨c, hcl⟩ : ∃ c, b.clients[posL (idsB b) cl]? = some c := by
      cases hcl : b.clients[posL (idsB b) cl]? with
      | none => rw [hcl] at hid; cases hid
      | some c => exact ⟨c, rfl⟩
    rw [hcl] at hid
    exact ⟨hb.rise.ids, hb.clients, c, hcl, Option.some.inj hid, .inl (List.mem_of_getElem? hcl), fun c' h => .inr h, fun c' h => h⟩
  | false =>
    rw [if_neg (by decide)]
    have hk := hk hh
    have hne := hitAt_false hh
    generalize posL (idsB b) cl = P at *
    have hids : b.clients.map (·.id) = idsB b := rfl
    have hpw := hb.rise.ids
    have hlo : ∀ x ∈ b.clients.take P, x.id < cl := fun x hx => by
      obtain ⟨i, hi, rfl⟩ := List.getElem_of_mem hx
      rw [List.length_take] at hi
      exact hc.lo i _ (by omega) (by unfold idsB; rw [List.getElem?_map, List.getElem_take, List.getElem?_eq_getElem (by omega)]; rfl)
    have hhi : ∀ x ∈ b.clients.drop P, cl < x.id := fun x hx => by
      obtain ⟨i, hi, rfl⟩ := List.getElem_of_mem hx
      rw [List.length_drop] at hi
      have hg : (idsB b)[P + i]? = some (b.clients.drop P)[i].id := by unfold idsB; rw [List.getElem?_map, List.getElem_drop, List.getElem?_eq_getElem (by omega)]; rfl
      have h1 := hc.hi (P + i) _ (by omega) hg
      have h2 : (b.clients.drop P)[i].id ≠ cl := by
        intro e
        rcases Nat.eq_zero_or_pos i with h0 | h0
        · subst h0
          exact hne _ hg e
        · have hgP : (idsB b)[P]? = some b.clients[P].id := by unfold idsB; rw [List.getElem?_map, List.getElem?_eq_getElem (by omega)]; rfl
          have h3 := hc.hi P _ (Nat.le_refl _) hgP
          have h4 := List.pairwise_iff_getElem.1 hpw P (P + i) (by omega) (by omega) (by omega)
          rw [(List.getElem?_eq_some_iff.1 hgP).2, (List.getElem?_eq_some_iff.1 hg).2] at h4
          omega
      omega
    have hpw' := hpw
    rw [← hids, List.pairwise_map] at hpw'
    refine ⟨?_, by simp; omega, ⟨cl, []⟩, ?_, rfl, .inr ⟨rfl, fun c' hc' e => ?_⟩, fun c' hc' => ?_, fun c' hc' => ?_⟩
    · rw [List.pairwise_map, List.append_assoc, List.pairwise_append]
      refine ⟨hpw'.sublist (List.take_sublist _ _), ?_, fun a ha c hc' => ?_⟩
      · rw [List.singleton_append, List.pairwise_cons]
        exact ⟨hhi, hpw'.sublist (List.drop_sublist _ _)⟩
      · rcases List.mem_cons.1 hc' with rfl | hc'
        · exact hlo a ha
        · have := hlo a ha; have := hhi c hc'; omega
    · rw [List.append_assoc, List.getElem?_append_right (by rw [List.length_take]; omega)]
      rw [List.length_take, Nat.min_eq_left (by omega), Nat.sub_self]
      rfl
    · rw [← List.take_append_drop P b.clients] at hc'
      rcases List.mem_append.1 hc' with h1 | h1
      · have := hlo c' h1; omega
      · have := hhi c' h1; omega
    · rcases List.mem_append.1 hc' with h1 | h1
      · rcases List.mem_append.1 h1 with h1 | h1
        · exact .inr (List.mem_of_mem_take h1)
        · exact .inl (List.mem_singleton.1 h1)
      · exact .inr (List.mem_of_mem_drop h1)
    · rw [← List.take_append_drop P b.clients] at hc'
      rcases List.mem_append.1 hc' with h1 | h1
      · exact List.mem_append_left _ (List.mem_append_left _ h1)
      · exact List.mem_append_right _ h1
/-- What Apply makes of a book where the entry is new. -/
theorem addB_spec {b : Bk} (hb : BkOk b) {cl sq : Int} {d : List Int} (hf : (findP b cl sq).2 = 8) (hk : hitAt (idsB b) cl (posL (idsB b) cl) = false → b.clients.length < 8) (hl : b.leaves.length < 64) (hd : d.length ≤ 64) :
    BkOk (addB b cl sq d) ∧ ∃ c0 : Cl, c0.id = cl ∧ (c0 ∈ b.clients ∨ c0.slots = [] ∧ ∀ c' ∈ b.clients, c'.id ≠ cl) ∧ c0.slots.length ≤ 4 ∧ (keysC c0).Pairwise (· < ·) ∧ sq ∉ keysC c0 ∧ (c0.slots.length = 4 → ∃ t ∈ c0.slots, t.1 < sq) ∧
      (∀ c' ∈ (addB b cl sq d).clients, c' = ⟨cl, lastF (insL c0.slots (sq, (b.leaves.length : Int)))⟩ ∨ c' ∈ b.clients ∧ c'.id ≠ cl) ∧ (⟨cl, lastF (insL c0.slots (sq, (b.leaves.length : Int)))⟩ : Cl) ∈ (addB b cl sq d).clients ∧ (∀ c' ∈ b.clients, c'.id ≠ cl → c' ∈ (addB b cl sq d).clients) := by
  obtain ⟨hpw, hlen, c0, hc0, hid, hmem, hsub, hsup⟩ := withC_spec hb cl hk
  have hfn := find_none b hb.rise cl sq hf c0 hc0
  have h4 : c0.slots.length ≤ 4 := by
    rcases hmem with h1 | ⟨h1, _⟩
    · exact hb.slots c0 h1
    · rw [h1]; simp
  have hold : c0.slots.length = 4 → ∃ t ∈ c0.slots, t.1 < sq := fun e => by
    rcases hmem with h1 | ⟨h1, _⟩
    · exact findP_new hb.rise h1 (by rw [hid]; exact hf) (by omega)
    · rw [h1] at e; simp at e
  have hlm := lastF_mem (l := c0.slots) (s := (sq, (b.leaves.length : Int))) hfn.1 hfn.2.1 h4 hold
  have hPl := (List.getElem?_eq_some_iff.1 hc0).1
  have hsl : ((withC b cl)[posL (idsB b) cl]?.map (·.slots)).getD [] = c0.slots := by rw [hc0]; rfl
  have hset : ∀ c' ∈ (addB b cl sq d).clients, c' = ⟨cl, lastF (insL c0.slots (sq, (b.leaves.length : Int)))⟩ ∨ c' ∈ b.clients ∧ c'.id ≠ cl := fun c' hc' => by
    unfold addB at hc'
    dsimp only at hc'
    rw [hsl] at hc'
    obtain ⟨i, hi⟩ := List.getElem?_of_mem hc'
    by_cases hPi : posL (idsB b) cl = i
    · rw [← hPi, List.getElem?_set_self hPl] at hi
      exact .inl (Option.some.inj hi).symm
    · rw [List.getElem?_set_ne hPi] at hi
      have hne : c'.id ≠ cl := fun e => by
        have h1 := List.mem_of_getElem? hi
        have h2 := rise_place Cl.id (withC b cl) hpw h1
        have h3 := rise_place Cl.id (withC b cl) hpw (List.mem_of_getElem? hc0)
        have hcc := rise_uniq Cl.id (withC b cl) hpw h1 (List.mem_of_getElem? hc0) (e.trans hid.symm)
        subst hcc
        have := List.pairwise_iff_getElem.1 hpw
        obtain ⟨hi', hi''⟩ := List.getElem?_eq_some_iff.1 hi
        obtain ⟨hj', hj''⟩ := List.getElem?_eq_some_iff.1 hc0
        rcases Nat.lt_or_gt_of_ne hPi with h5 | h5
        · have h6 := this _ _ (by rw [List.length_map]; exact hj') (by rw [List.length_map]; exact hi') h5
          rw [List.getElem_map, List.getElem_map, hi'', hj''] at h6; omega
        · have h6 := this _ _ (by rw [List.length_map]; exact hi') (by rw [List.length_map]; exact hj') h5
          rw [List.getElem_map, List.getElem_map, hi'', hj''] at h6; omega
      rcases hsub c' (List.mem_of_getElem? hi) with h1 | h1
      · exact absurd (h1 ▸ hid) hne
      · exact .inr ⟨h1, hne⟩
  have hin : (⟨cl, lastF (insL c0.slots (sq, (b.leaves.length : Int)))⟩ : Cl) ∈ (addB b cl sq d).clients := by
    unfold addB
    dsimp only
    rw [hsl]
    exact List.mem_of_getElem? (List.getElem?_set_self hPl)
  have hkeep : ∀ c' ∈ b.clients, c'.id ≠ cl → c' ∈ (addB b cl sq d).clients := fun c' hc' hne => by
    obtain ⟨i, hi⟩ := List.getElem?_of_mem (hsup c' hc')
    unfold addB
    dsimp only
    refine List.mem_of_getElem? (i := i) ?_
    rw [List.getElem?_set_ne, hi]
    intro e
    rw [← e, hc0] at hi
    exact hne (by rw [← Option.some.inj hi]; exact hid)
  refine ⟨⟨⟨?_, fun c' hc' => ?_, ?_, fun c' hc' => ?_⟩, ?_, fun l hl' => ?_, ?_, fun c' hc' => ?_⟩, c0, hid, hmem, h4, hfn.1, hfn.2.1, hold, hset, hin, hkeep⟩
  · unfold addB idsB
    dsimp only
    rw [List.map_set, show b.clients.map (·.id) = idsB b from rfl]
    have : ((withC b cl).map (·.id)).set (posL (idsB b) cl) cl = (withC b cl).map (·.id) := by
      apply List.ext_getElem?
      intro i
      by_cases hi : posL (idsB b) cl = i
      · subst hi
        rw [List.getElem?_set_self (by rw [List.length_map]; exact hPl), List.getElem?_map, hc0, Option.map_some, hid]
      · rw [List.getElem?_set_ne hi]
    rw [this]; exact hpw
  · rcases hset c' hc' with rfl | ⟨h1, _⟩
    · exact hlm.2.2.2.1
    · exact hb.rise.keys c' h1
  · unfold addB; simp; omega
  · rcases hset c' hc' with rfl | ⟨h1, _⟩
    · have := hlm.2.2.2.2.1; dsimp only; omega
    · exact hb.rise.lenS c' h1
  · unfold addB; simp; omega
  · unfold addB at hl'
    rcases List.mem_append.1 hl' with h1 | h1
    · exact hb.each l h1
    · rw [List.mem_singleton.1 h1]; exact hd
  · unfold addB; simp; exact hlen
  · rcases hset c' hc' with rfl | ⟨h1, _⟩
    · exact hlm.2.2.2.2.1
    · exact hb.slots c' h1
/-! ### SeqOnce -/
/-- A number of a client: what brought a leaf. -/
abbrev Key := Int × Int
structure Once (b : Bk) (ks : List Key) : Prop where
  ok : BkOk b
  len : ks.length = b.leaves.length
  slot : ∀ c ∈ b.clients, ∀ s ∈ c.slots, ∃ k : Nat, s.2 = (k : Int) ∧ ks[k]? = some (c.id, s.1)
  key : ∀ (k : Nat) (x : Key), ks[k]? = some x → ∃ c ∈ b.clients, c.id = x.1 ∧ ((x.2, (k : Int)) ∈ c.slots ∨ c.slots.length = 4 ∧ ∀ t ∈ c.slots, x.2 < t.1)
theorem Once.nil : Once ⟨[], []⟩ [] := ⟨BkOk.nil, rfl, by simp, by simp⟩
/-- What was done is found at its place, or old. -/
theorem Once.found {b : Bk} {ks : List Key} (h : Once b ks) (k : Nat) (x : Key) (hk : ks[k]? = some x) : findP b x.1 x.2 = ((k : Int), 0) ∨ (findP b x.1 x.2).2 = 13 := by
  obtain ⟨c, hc, hid, h1 | ⟨h1, h2⟩⟩ := h.key k x hk
  · left; rw [← hid]; exact findP_hit h.ok.rise hc h1
  · right; rw [← hid, findP_old h.ok.rise hc (by omega) h2]
/-- What is found was done. -/
theorem Once.done {b : Bk} {ks : List Key} (h : Once b ks) {cl sq : Int} (hf : (findP b cl sq).2 = 0) : ∃ k : Nat, (findP b cl sq).1 = (k : Int) ∧ ks[k]? = some (cl, sq) := by
  obtain ⟨c, hc, hid, hs⟩ := findP_ok hf
  obtain ⟨k, h1, h2⟩ := h.slot c hc _ hs
  exact ⟨k, h1, by rw [h2, hid]⟩
theorem Once.add {b : Bk} {ks : List Key} (h : Once b ks) {cl sq : Int} {d : List Int} (hf : (findP b cl sq).2 = 8) (hk : hitAt (idsB b) cl (posL (idsB b) cl) = false → b.clients.length < 8) (hl : b.leaves.length < 64) (hd : d.length ≤ 64) : Once (addB b cl sq d) (ks ++ [(cl, sq)]) := by
  obtain ⟨hok, c0, hid, hmem, h4, hpw, hn, hold, hset, hin, hkeep⟩ := addB_spec h.ok hf hk hl hd
  have hlm := lastF_mem (l := c0.slots) (s := (sq, (b.leaves.length : Int))) hpw hn h4 hold
  have hkl := h.len
  refine ⟨hok, by unfold addB; simp; exact hkl, fun c hc s hs => ?_, fun k x hx => ?_⟩
  · rcases hset c hc with rfl | ⟨h1, _⟩
    · rcases hlm.2.1 s hs with h2 | rfl
      · rcases hmem with h3 | ⟨h3, _⟩
        · obtain ⟨k, e1, e2⟩ := h.slot c0 h3 s h2
          exact ⟨k, e1, by rw [List.getElem?_append_left (List.getElem?_eq_some_iff.1 e2).1, e2, hid]⟩
        · rw [h3] at h2; cases h2
      · exact ⟨b.leaves.length, rfl, by rw [← hkl]; simp⟩
    · obtain ⟨k, e1, e2⟩ := h.slot c h1 s hs
      exact ⟨k, e1, by rw [List.getElem?_append_left (List.getElem?_eq_some_iff.1 e2).1, e2]⟩
  · by_cases hkn : k < ks.length
    · rw [List.getElem?_append_left hkn] at hx
      obtain ⟨c, hc, e1, e2⟩ := h.key k x hx
      by_cases hcl : c.id = cl
      · have hc0 : c = c0 := by
          rcases hmem with h3 | ⟨_, h3⟩
          · exact rise_uniq Cl.id b.clients h.ok.rise.ids hc h3 (hcl.trans hid.symm)
          · exact absurd hcl (h3 c hc)
        subst hc0
        refine ⟨_, hin, by rw [← e1, hcl], ?_⟩
        rcases e2 with e2 | ⟨e2, e3⟩
        · rcases hlm.2.2.1 _ e2 with e4 | ⟨e4, e5⟩
          · exact .inl e4
          · exact .inr ⟨e4, e5⟩
        · refine .inr ⟨hlm.2.2.2.2.2 e2, fun t ht => ?_⟩
          rcases hlm.2.1 t ht with h5 | rfl
          · exact e3 t h5
          · obtain ⟨u, hu, hlt⟩ := hold e2
            have := e3 u hu
            dsimp only; omega
      · exact ⟨c, hkeep c hc hcl, e1, e2⟩
    · have hk2 : k = ks.length := by
        have := (List.getElem?_eq_some_iff.1 hx).1
        simp at this; omega
      subst hk2
      simp at hx
      subst hx
      refine ⟨_, hin, rfl, .inl ?_⟩
      rw [hkl]; exact hlm.1
end Go.Proofs.YtgefphfnicjbiaaDoor
