/- Plain: entries read from bytes. No program. -/
import Derived.Test.YtiaiicgpiiabnaaRdL
import Derived.Test.YtiaiicgpiiabnaaEntL
namespace Go.Proofs.Ytiaiicgpiiabnaa

/-- so many members behind those that were read -/
def rdIds : Nat → List Int → List Int → Except Int (List Int × List Int)
  | 0, acc, bs => .ok (acc, bs)
  | n + 1, acc, bs => match rdNum bs with
    | .error e => .error e
    | .ok (m, r) => if membersB (acc ++ [m]) then rdIds n (acc ++ [m]) r else .error 3

/-- an entry, and what is left -/
def rdEnt (bs : List Int) : Except Int (Ent × List Int) :=
  match rdNum bs with
  | .error e => .error e
  | .ok (t, r) => if t < 1 ∨ 4611686018427387904 < t then .error 3 else match rdByte r with
    | .error e => .error e
    | .ok (k, r) =>
      if k = 1 then .ok (⟨t, 1, 0, 0, [], []⟩, r)
      else if k = 2 then match rdNum r with
        | .error e => .error e
        | .ok (c, r) => match rdNum r with
          | .error e => .error e
          | .ok (s, r) => match rdRaw 64 r with
            | .error e => .error e
            | .ok (d, r) => .ok (⟨t, 2, c, s, d, []⟩, r)
      else if k = 3 then match rdNum r with
        | .error e => .error e
        | .ok (n, r) => if n < 1 ∨ 7 < n then .error 3 else match rdIds n.toNat [] r with
          | .error e => .error e
          | .ok (ms, r) => .ok (⟨t, 3, 0, 0, [], ms⟩, r)
      else .error 3
def getB (bs : List Int) : Except Int Ent :=
  match rdEnt bs with
  | .error e => .error e
  | .ok (x, r) => if r = [] then .ok x else .error 5

/-- the numbers of a formed entry are such that 64 bits hold them -/
structure EntFit (x : Ent) : Prop where
  client : 0 ≤ x.client ∧ x.client.toNat < 2 ^ 64
  seq : 0 ≤ x.seq ∧ x.seq.toNat < 2 ^ 64

theorem memGo_split : ∀ (a b : List Int) (last : Int), 0 ≤ last → memGo last (a ++ b) = true → b ≠ [] → (a = [] ∨ memGo last a = true)
  | [], b, last, _, _, _ => .inl rfl
  | x :: a, b, last, h0, h, hb => by
    right
    simp only [List.cons_append, memGo, Bool.and_eq_true, Bool.not_eq_true', Bool.or_eq_false_iff, decide_eq_false_iff_not] at h ⊢
    refine ⟨h.1, ?_⟩
    rcases memGo_split a b x (by omega) h.2 hb with h1 | h1
    · subst h1; simp [memGo]; omega
    · exact h1
theorem memGo_mem : ∀ (a : List Int) (last : Int), 0 ≤ last → memGo last a = true → ∀ x ∈ a, 1 ≤ x ∧ x ≤ 7
  | x :: a, last, h0, h, y, hy => by
    simp only [memGo, Bool.and_eq_true, Bool.not_eq_true', Bool.or_eq_false_iff, decide_eq_false_iff_not] at h
    rcases List.mem_cons.1 hy with rfl | hy
    · omega
    · exact memGo_mem a x (by omega) h.2 y hy

theorem rdIds_put : ∀ (ms acc r : List Int), membersB (acc ++ ms) = true → rdIds ms.length acc (ms.flatMap (fun m => numB m.toNat) ++ r) = .ok (acc ++ ms, r)
  | [], acc, r, _ => by simp [rdIds]
  | m :: ms, acc, r, h => by
    have hm := memGo_mem (acc ++ m :: ms) 0 (by omega) h m (by simp)
    simp only [List.length_cons, rdIds, List.flatMap_cons, List.append_assoc]
    rw [rdNum_numB _ (by omega)]
    have e : ((m.toNat : Nat) : Int) = m := by omega
    simp only [e]
    have h1 : membersB (acc ++ [m]) = true := by
      cases hms : ms with
      | nil => rw [hms] at h; exact h
      | cons y ys =>
        have := memGo_split (acc ++ [m]) ms 0 (by omega) (by simpa [membersB] using h) (by rw [hms]; simp)
        rcases this with h2 | h2
        · simp at h2
        · exact h2
    rw [if_pos h1]
    have := rdIds_put ms (acc ++ [m]) r (by simpa using h)
    simpa using this

/-- what was laid is read -/
theorem rdEnt_put (x : Ent) (hf : formedB x = true) (hx : EntFit x) (r : List Int) : rdEnt (putB x ++ r) = .ok (x, r) := by
  obtain ⟨⟨t1, t2⟩, hc⟩ := formed_cases x hf
  obtain ⟨t, k, c, s, d, ms⟩ := x
  simp only at t1 t2 hc
  have ht : t.toNat < 2 ^ 64 := by omega
  have et : ((t.toNat : Nat) : Int) = t := by omega
  unfold putB rdEnt
  simp only [List.append_assoc]
  rw [rdNum_numB _ ht]
  simp only [et]
  rw [if_neg (by omega)]
  simp only [List.cons_append, List.nil_append, rdByte]
  rcases hc with ⟨rfl, rfl, rfl, rfl, rfl⟩ | ⟨rfl, hd, rfl⟩ | ⟨rfl, rfl, rfl, rfl, hm⟩
  · simp
  · obtain ⟨⟨c0, c1⟩, s0, s1⟩ := hx
    simp only at c0 c1 s0 s1
    have ec : ((c.toNat : Nat) : Int) = c := by omega
    have es : ((s.toNat : Nat) : Int) = s := by omega
    simp only [show ((2 : Int) % 256 = 1) = False by simp, show ((2 : Int) % 256 = 2) = True by simp, if_true, if_false, List.append_assoc]
    rw [rdNum_numB _ c1]
    simp only [ec]
    rw [rdNum_numB _ s1]
    simp only [es]
    rw [← List.append_assoc, rdRaw_put d r 64 (by omega) (by omega)]
  · simp only [show ((3 : Int) % 256 = 1) = False by simp, show ((3 : Int) % 256 = 2) = False by simp, show ((3 : Int) % 256 = 3) = True by simp, if_true, if_false]
    simp only [show ((3 : Int) = 2) = False by simp, if_false]
    rcases memGo_len ms 0 (by omega) hm with h | h
    · have hne : 1 ≤ ms.length := by
        cases ms with
        | nil => simp [membersB, memGo] at hm
        | cons y ys => simp
      rw [List.append_assoc, rdNum_numB _ (by omega)]
      simp only []
      rw [if_neg (by omega), Int.toNat_natCast, rdIds_put ms [] r (by simpa using hm)]
      simp
    · subst h; simp [membersB, memGo] at hm
theorem getB_put (x : Ent) (hf : formedB x = true) (hx : EntFit x) : getB (putB x) = .ok x := by
  have := rdEnt_put x hf hx []
  rw [List.append_nil] at this
  simp [getB, this]
theorem putB_inj (x y : Ent) (hf : formedB x = true) (hg : formedB y = true) (hx : EntFit x) (hy : EntFit y) (h : putB x = putB y) : x = y := by
  have a := getB_put x hf hx
  rw [h, getB_put y hg hy] at a
  exact (Except.ok.inj a).symm
/-- with a byte more there is a tail -/
theorem getB_tail (x : Ent) (hf : formedB x = true) (hx : EntFit x) (m : Int) : getB (putB x ++ [m]) = .error 5 := by
  simp [getB, rdEnt_put x hf hx [m]]

theorem rdIds_inv : ∀ (n : Nat) (acc bs ms r : List Int), (∀ x ∈ bs, 0 ≤ x ∧ x ≤ 255) → rdIds n acc bs = .ok (ms, r) → ∃ ns, ms = acc ++ ns ∧ ns.length = n ∧ bs = ns.flatMap (fun m => numB m.toNat) ++ r ∧ (n ≠ 0 → membersB ms = true)
  | 0, acc, bs, ms, r, _, h => by
    simp [rdIds] at h
    exact ⟨[], by simp [h.1], rfl, by simp [h.2], by simp⟩
  | n + 1, acc, bs, ms, r, hb, h => by
    simp only [rdIds] at h
    cases hn : rdNum bs with
    | error e => rw [hn] at h; cases h
    | ok p =>
      obtain ⟨m, r'⟩ := p
      rw [hn] at h
      simp only at h
      by_cases hm : membersB (acc ++ [m]) = true
      · rw [if_pos hm] at h
        obtain ⟨h1, h2, h3⟩ := rdNum_inv bs r' m hb hn
        obtain ⟨ns, g1, g2, g3, g4⟩ := rdIds_inv n (acc ++ [m]) r' ms r (fun x hx => hb x (by rw [h1]; simp [hx])) h
        refine ⟨m :: ns, by simp [g1], by simp [g2], by simp [h1, g3], fun _ => ?_⟩
        cases n with
        | zero =>
          have : ns = [] := List.eq_nil_of_length_eq_zero g2
          rw [g1, this]; simpa using hm
        | succ n => exact g4 (by omega)
      · rw [if_neg hm] at h; cases h

/-- what is read is formed, and the bytes are its own -/
theorem rdEnt_inv (bs r : List Int) (x : Ent) (hb : ∀ y ∈ bs, 0 ≤ y ∧ y ≤ 255) (h : rdEnt bs = .ok (x, r)) : bs = putB x ++ r ∧ formedB x = true ∧ EntFit x := by
  unfold rdEnt at h
  cases h1 : rdNum bs with
  | error e => rw [h1] at h; cases h
  | ok p =>
    obtain ⟨t, r1⟩ := p
    rw [h1] at h
    simp only at h
    obtain ⟨e1, t0, t1⟩ := rdNum_inv bs r1 t hb h1
    have hb1 : ∀ y ∈ r1, 0 ≤ y ∧ y ≤ 255 := fun y hy => hb y (by rw [e1]; simp [hy])
    by_cases ht : t < 1 ∨ 4611686018427387904 < t
    · rw [if_pos ht] at h; cases h
    · rw [if_neg ht] at h
      cases r1 with
      | nil => simp [rdByte] at h
      | cons k r2 =>
        have hb2 : ∀ y ∈ r2, 0 ≤ y ∧ y ≤ 255 := fun y hy => hb1 y (by simp [hy])
        simp only [rdByte] at h
        have htt : decide (1 ≤ t ∧ t ≤ 4611686018427387904) = true := by simp; omega
        by_cases k1 : k = 1
        · subst k1
          simp only [if_true, Except.ok.injEq, Prod.mk.injEq] at h
          obtain ⟨rfl, rfl⟩ := h
          refine ⟨by rw [e1]; simp [putB], by simp only [formedB, htt]; simp, ⟨by simp, by simp⟩⟩
        · rw [if_neg k1] at h
          by_cases k2 : k = 2
          · subst k2
            simp only [if_true] at h
            cases h3 : rdNum r2 with
            | error e => rw [h3] at h; cases h
            | ok p =>
              obtain ⟨c, r3⟩ := p
              rw [h3] at h
              simp only at h
              obtain ⟨e3, c0, c1⟩ := rdNum_inv r2 r3 c hb2 h3
              have hb3 : ∀ y ∈ r3, 0 ≤ y ∧ y ≤ 255 := fun y hy => hb2 y (by rw [e3]; simp [hy])
              cases h4 : rdNum r3 with
              | error e => rw [h4] at h; cases h
              | ok p =>
                obtain ⟨s, r4⟩ := p
                rw [h4] at h
                simp only at h
                obtain ⟨e4, s0, s1⟩ := rdNum_inv r3 r4 s hb3 h4
                have hb4 : ∀ y ∈ r4, 0 ≤ y ∧ y ≤ 255 := fun y hy => hb3 y (by rw [e4]; simp [hy])
                cases h5 : rdRaw 64 r4 with
                | error e => rw [h5] at h; cases h
                | ok p =>
                  obtain ⟨d, r5⟩ := p
                  rw [h5] at h
                  simp only [Except.ok.injEq, Prod.mk.injEq] at h
                  obtain ⟨rfl, rfl⟩ := h
                  unfold rdRaw at h5
                  cases h6 : rdNum r4 with
                  | error e => rw [h6] at h5; cases h5
                  | ok p =>
                    obtain ⟨n, r6⟩ := p
                    rw [h6] at h5
                    simp only at h5
                    obtain ⟨e6, n0, n1⟩ := rdNum_inv r4 r6 n hb4 h6
                    by_cases hn : max 64 0 < n
                    · rw [if_pos hn] at h5; cases h5
                    · rw [if_neg hn] at h5
                      by_cases hl : (r6.length : Int) < n
                      · rw [if_pos hl] at h5; cases h5
                      · rw [if_neg hl] at h5
                        simp only [Except.ok.injEq, Prod.mk.injEq] at h5
                        obtain ⟨rfl, rfl⟩ := h5
                        have hlen : (r6.take n.toNat).length = n.toNat := by simp; omega
                        refine ⟨?_, ?_, ⟨⟨c0, c1⟩, s0, s1⟩⟩
                        · rw [e1, e3, e4, e6]
                          simp only [putB, if_true, hlen]
                          simp
                        · simp only [formedB, htt, Bool.true_and, if_true, hlen]
                          simp; omega
          · rw [if_neg k2] at h
            by_cases k3 : k = 3
            · subst k3
              simp only [if_true] at h
              cases h3 : rdNum r2 with
              | error e => rw [h3] at h; cases h
              | ok p =>
                obtain ⟨n, r3⟩ := p
                rw [h3] at h
                simp only at h
                obtain ⟨e3, n0, n1⟩ := rdNum_inv r2 r3 n hb2 h3
                have hb3 : ∀ y ∈ r3, 0 ≤ y ∧ y ≤ 255 := fun y hy => hb2 y (by rw [e3]; simp [hy])
                by_cases hn : n < 1 ∨ 7 < n
                · rw [if_pos hn] at h; cases h
                · rw [if_neg hn] at h
                  cases h4 : rdIds n.toNat [] r3 with
                  | error e => rw [h4] at h; cases h
                  | ok p =>
                    obtain ⟨ms, r4⟩ := p
                    rw [h4] at h
                    simp only [Except.ok.injEq, Prod.mk.injEq] at h
                    obtain ⟨rfl, rfl⟩ := h
                    obtain ⟨ns, g1, g2, g3, g4⟩ := rdIds_inv n.toNat [] r3 ms r4 hb3 h4
                    rw [List.nil_append] at g1
                    subst g1
                    refine ⟨?_, ?_, ⟨by simp, by simp⟩⟩
                    · rw [e1, e3, g3]
                      simp only [putB, g2]
                      simp
                    · simp only [formedB, htt]
                      simp [g4 (by omega)]
            · rw [if_neg k3] at h; cases h
theorem getB_inv (bs : List Int) (x : Ent) (hb : ∀ y ∈ bs, 0 ≤ y ∧ y ≤ 255) (h : getB bs = .ok x) : putB x = bs ∧ formedB x = true ∧ EntFit x := by
  unfold getB at h
  cases h1 : rdEnt bs with
  | error e => rw [h1] at h; cases h
  | ok p =>
    obtain ⟨y, r⟩ := p
    rw [h1] at h
    simp only at h
    by_cases hr : r = []
    · rw [if_pos hr] at h
      cases h
      obtain ⟨e, f, g⟩ := rdEnt_inv bs r x hb h1
      exact ⟨by rw [e, hr, List.append_nil], f, g⟩
    · rw [if_neg hr] at h; cases h
end Go.Proofs.Ytiaiicgpiiabnaa
