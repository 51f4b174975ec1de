/- Cells on a disk: what sets and crashes leave, plain. Of any program. -/
import Derived.Test.YtafjjladnghjbaaGreatDoorCelL
import Derived.Test.YtafjjladnghjbaaGreatDoorDsk10
namespace Go.Proofs.YtafjjladnghjbaaGreatDoor
open Go Go.RowKit Go.Maps

/-- A cell's file. -/
def cfile (name : ByteArray) (k : Nat) : ByteArray := ⟨name.data ++ #[46, if k % 2 = 0 then 48 else 49]⟩
theorem cfile_par (name : ByteArray) {k j : Nat} (h : k % 2 = j % 2) : cfile name k = cfile name j := by unfold cfile; rw [h]
theorem cfile_ne (name : ByteArray) {k j : Nat} (h : k % 2 ≠ j % 2) : nmOf (cfile name k) ≠ nmOf (cfile name j) := by
  intro e
  have e' : name.data.toList ++ [46, if k % 2 = 0 then (48 : UInt8) else 49] = name.data.toList ++ [46, if j % 2 = 0 then (48 : UInt8) else 49] := by simpa [nmOf, cfile] using e
  have := List.append_cancel_left e'
  simp only [List.cons.injEq, and_true, true_and] at this
  split at this <;> split at this <;> first | omega | exact absurd this (by decide)
/-- What a cell's file holds. -/
def fil (name : ByteArray) (L : FL) (k : Nat) : List Int := (getG (nmOf (cfile name k)) L).getD []
theorem fil_par (name : ByteArray) (L : FL) {k j : Nat} (h : k % 2 = j % 2) : fil name L k = fil name L j := by unfold fil; rw [cfile_par name h]
def wDd (name : ByteArray) (k : Nat) (b : List Int) : Dd := ⟨119, cfile name k, ⟨#[]⟩, 0, b⟩
theorem over_nil (old : List Int) : over old 0 [] = old := by
  unfold over splice
  simp
theorem fil_same (name : ByteArray) (k : Nat) (b : List Int) (L : FL) : fil name (doF (wDd name k b) L) k = over (fil name L k) 0 b := by
  unfold doF wDd fil
  rw [if_pos rfl]
  by_cases hb : b = []
  · rw [if_pos hb, getG_putG_same, hb, over_nil]; rfl
  · rw [if_neg hb, getG_putG_same]; rfl
theorem fil_other (name : ByteArray) {k j : Nat} (h : j % 2 ≠ k % 2) (b : List Int) (L : FL) : fil name (doF (wDd name k b) L) j = fil name L j := by
  unfold doF wDd fil
  rw [if_pos rfl]
  have hn := cfile_ne name h
  by_cases hb : b = []
  · rw [if_pos hb, getG_putG_other hn]
  · rw [if_neg hb, getG_putG_other hn]
/-- A set: what it answers, and the disk behind it. -/
def setS (name : ByteArray) (S : Dk) (c t v : Nat) : Int × Dk :=
  if (writeS S (cfile name (c + 1)) 0 (layC (c + 1) t v)).1 = 0 then syncS (writeS S (cfile name (c + 1)) 0 (layC (c + 1) t v)).2 else writeS S (cfile name (c + 1)) 0 (layC (c + 1) t v)
/-- The cell on a quiet disk: a count, a term, a vote. -/
structure CInv (name : ByteArray) (S : Dk) (c : Nat × Nat × Nat) : Prop where
  waits : S.waits = []
  sure : S.sure = S.now
  off : S.off = false
  room : S.room = 1073741824
  zero : c.1 = 0 → c = (0, 0, 0) ∧ readC (fil name S.now 0) = none
  cur : c.1 ≠ 0 → readC (fil name S.now c.1) = some c
  oth : ∀ w, readC (fil name S.now (c.1 + 1)) = some w → w.1 < c.1
def Turn (b : List Int) : Prop := b.length = 48 ∧ b.drop 24 = turn8 (b.take 24)
def CForm (name : ByteArray) (L : FL) : Prop := ∀ k, (fil name L k).length < 48 ∨ Turn (fil name L k)
theorem turn_lay (c t v : Nat) : Turn (layC c t v) := by
  refine ⟨layC_len _ _ _, ?_⟩
  unfold layC
  rw [List.drop_append, List.drop_of_length_le (by rw [lay24_len]; omega), lay24_len, List.take_append_of_le_length (by rw [lay24_len]; omega), List.take_of_length_le (by rw [lay24_len]; omega)]
  rfl
def stepC (a : Nat × Nat × Nat) (b : List Int) : Nat × Nat × Nat := match readC b with | some w => if a.1 < w.1 then w else a | none => a
/-- What an opened cell has. -/
def pickC (name : ByteArray) (L : FL) : Nat × Nat × Nat := stepC (stepC (0, 0, 0) (fil name L 0)) (fil name L 1)
theorem CInv.pick {name : ByteArray} {S : Dk} {c : Nat × Nat × Nat} (h : CInv name S c) : pickC name S.now = c := by
  unfold pickC
  by_cases h0 : c.1 = 0
  · obtain ⟨hc, h1⟩ := h.zero h0
    have h2 : readC (fil name S.now 1) = none := by
      cases hr : readC (fil name S.now 1) with
      | none => rfl
      | some w => have := h.oth w (by rw [h0]; exact hr); omega
    unfold stepC
    rw [h1, h2, hc]
  · have hcur := h.cur h0
    rcases Nat.mod_two_eq_zero_or_one c.1 with hp | hp
    · rw [fil_par name S.now (show c.1 % 2 = 0 % 2 by omega)] at hcur
      have ho := h.oth
      rw [fil_par name S.now (show (c.1 + 1) % 2 = 1 % 2 by omega)] at ho
      have e1 : stepC (0, 0, 0) (fil name S.now 0) = c := by unfold stepC; rw [hcur]; exact if_pos (by show 0 < c.1; omega)
      rw [e1]
      unfold stepC
      cases hr : readC (fil name S.now 1) with
      | none => rfl
      | some w => have := ho w hr; exact if_neg (by omega)
    · rw [fil_par name S.now (show c.1 % 2 = 1 % 2 by omega)] at hcur
      have ho := h.oth
      rw [fil_par name S.now (show (c.1 + 1) % 2 = 0 % 2 by omega)] at ho
      have e1 : (stepC (0, 0, 0) (fil name S.now 0)).1 < c.1 := by
        unfold stepC
        cases hr : readC (fil name S.now 0) with
        | none => show 0 < c.1; omega
        | some w =>
          have := ho w hr
          show (if (0 : Nat) < w.1 then w else (0, 0, 0)).1 < c.1
          split
          · exact this
          · show 0 < c.1; omega
      generalize stepC (0, 0, 0) (fil name S.now 0) = a at e1
      unfold stepC; rw [hcur]; exact if_pos e1
theorem burn_ok (T : Dk) (h : T.fuse ≠ 0) : ∃ f, burnS T = { T with fuse := f } ∧ (T.fuse = -1 → f = -1) ∧ (2 ≤ T.fuse → f ≠ 0) := by
  unfold burnS
  rw [if_neg h]
  by_cases hp : 0 < T.fuse
  · rw [if_pos hp]; exact ⟨_, rfl, fun h1 => by omega, fun h2 => by omega⟩
  · rw [if_neg hp]; exact ⟨T.fuse, rfl, fun h1 => h1, fun h2 => by omega⟩
section
variable {name : ByteArray} {S : Dk} {c : Nat × Nat × Nat} {t v : Nat}
theorem CInv.write (h : CInv name S c) (hn : ∀ k, namedB (cfile name k) = true) (hu : usedF S.now ≤ 1000000) (hf : S.fuse ≠ 0) :
    writeS S (cfile name (c.1 + 1)) 0 (layC (c.1 + 1) t v) = (0, { burnS S with now := doF (wDd name (c.1 + 1) (layC (c.1 + 1) t v)) S.now, waits := [wDd name (c.1 + 1) (layC (c.1 + 1) t v)] }) := by
  unfold writeS
  have hg : growsB S.now (cfile name (c.1 + 1)) 0 (layC (c.1 + 1) t v) ≤ 48 := by
    unfold growsB; rw [layC_len]; split <;> omega
  rw [if_neg (by rw [h.off]; simp), if_neg (by rw [hn]; simp), if_neg (by omega), if_neg (by rw [h.room]; omega)]
  unfold waitS
  rw [if_neg hf, h.waits]; rfl
theorem CInv.set_ok (h : CInv name S c) (hn : ∀ k, namedB (cfile name k) = true) (hu : usedF S.now ≤ 1000000) (hL : LenLe 48 S.now) (hf : S.fuse = -1 ∨ 2 ≤ S.fuse) (hc : c.1 + 1 < 18446744073709551616) (ht : t < 18446744073709551616) (hv : v < 18446744073709551616) :
    ∃ S', setS name S c.1 t v = (0, S') ∧ CInv name S' (c.1 + 1, t, v) ∧ (CForm name S.now → CForm name S'.now) ∧ (S.fuse = -1 → S'.fuse = -1) := by
  unfold setS
  rw [h.write hn hu (by omega), if_pos rfl]
  have hlen : (fil name S.now (c.1 + 1)).length ≤ 48 := hL.get _
  have e1 : fil name (doF (wDd name (c.1 + 1) (layC (c.1 + 1) t v)) S.now) (c.1 + 1) = layC (c.1 + 1) t v := by
    rw [fil_same]; exact over_all (by rw [layC_len]; exact hlen)
  have e2 : ∀ j, j % 2 ≠ (c.1 + 1) % 2 → fil name (doF (wDd name (c.1 + 1) (layC (c.1 + 1) t v)) S.now) j = fil name S.now j := fun j hj => fil_other name hj _ _
  generalize doF (wDd name (c.1 + 1) (layC (c.1 + 1) t v)) S.now = L at e1 e2
  obtain ⟨f, hb, hf1, hf2⟩ := burn_ok S (by omega)
  have hf0 : f ≠ 0 := by
    rcases hf with h1 | h1
    · have := hf1 h1; omega
    · exact hf2 h1
  rw [hb]
  obtain ⟨g, hb2, hg1, _⟩ := burn_ok { S with fuse := f, now := L, waits := [wDd name (c.1 + 1) (layC (c.1 + 1) t v)] } hf0
  unfold syncS
  rw [if_neg (show ¬ (S.off = true) by rw [h.off]; simp), if_neg (show ¬ f = 0 from hf0)]
  have e0 : burnS (0, ({ S with fuse := f, now := L, waits := [wDd name (c.1 + 1) (layC (c.1 + 1) t v)] } : Dk)).2 = { S with fuse := g, now := L, waits := [wDd name (c.1 + 1) (layC (c.1 + 1) t v)] } := hb2
  refine ⟨{ S with fuse := g, now := L, sure := L, waits := [] }, ?_, ⟨rfl, rfl, h.off, h.room, fun h0 => ?_, fun _ => ?_, fun w hw => ?_⟩, fun hF k => ?_, fun h1 => hg1 (hf1 h1)⟩
  · show (0, ({ burnS { S with fuse := f, now := L, waits := [wDd name (c.1 + 1) (layC (c.1 + 1) t v)] } with sure := L, waits := [] } : Dk)) = _
    rw [hb2]
  · simp at h0
  · show readC (fil name L (c.1 + 1)) = some (c.1 + 1, t, v)
    rw [e1]; exact readC_lay _ _ _ hc ht hv
  · have hw' : readC (fil name L (c.1 + 1 + 1)) = some w := hw
    rw [e2 _ (by omega), fil_par name S.now (show (c.1 + 1 + 1) % 2 = c.1 % 2 by omega)] at hw'
    show w.1 < c.1 + 1
    by_cases h0 : c.1 = 0
    · rw [h0, (h.zero h0).2] at hw'; cases hw'
    · rw [h.cur h0] at hw'; cases hw'; omega
  · show (fil name L k).length < 48 ∨ Turn (fil name L k)
    by_cases hk : k % 2 = (c.1 + 1) % 2
    · rw [fil_par name L hk, e1]; exact .inr (turn_lay _ _ _)
    · rw [e2 k hk]; exact hF k
theorem CInv.set_lost0 (h : CInv name S c) (hn : ∀ k, namedB (cfile name k) = true) (hu : usedF S.now ≤ 1000000) (hf : S.fuse = 0) : setS name S c.1 t v = (6, { S with off := true }) := by
  have hw : writeS S (cfile name (c.1 + 1)) 0 (layC (c.1 + 1) t v) = (6, { S with off := true }) := by
    unfold writeS
    have hg : growsB S.now (cfile name (c.1 + 1)) 0 (layC (c.1 + 1) t v) ≤ 48 := by
      unfold growsB; rw [layC_len]; split <;> omega
    rw [if_neg (by rw [h.off]; simp), if_neg (by rw [hn]; simp), if_neg (by omega), if_neg (by rw [h.room]; omega)]
    unfold waitS
    rw [if_pos hf]
  unfold setS
  rw [hw, if_neg (show ¬ ((6 : Int) = 0) by decide)]
theorem CInv.set_lost1 (h : CInv name S c) (hn : ∀ k, namedB (cfile name k) = true) (hu : usedF S.now ≤ 1000000) (hf : S.fuse = 1) :
    setS name S c.1 t v = (6, { S with fuse := 0, now := doF (wDd name (c.1 + 1) (layC (c.1 + 1) t v)) S.now, waits := [wDd name (c.1 + 1) (layC (c.1 + 1) t v)], off := true }) := by
  unfold setS
  rw [h.write hn hu (by omega), if_pos rfl]
  have hb : burnS S = { S with fuse := 0 } := by unfold burnS; rw [if_neg (by omega), if_pos (by omega), hf]; rfl
  rw [hb]
  unfold syncS
  rw [if_neg (show ¬ (S.off = true) by rw [h.off]; simp), if_pos rfl]
/-- A crash where nothing waits. -/
theorem crash_quiet (hw : S.waits = []) (keep : List Bool) (torn : Int) : crashS S keep torn = { S with now := S.sure, sure := S.sure, waits := [], off := false, fuse := -1 } := by
  have e : doAll (tornD torn (keptD S.waits keep)) S.sure = S.sure := by
    rw [hw]
    have : keptD [] keep = [] := by unfold keptD; cases keep <;> rfl
    rw [this]; rfl
  unfold crashS; rw [e]
theorem CInv.crash (h : CInv name S c) (keep : List Bool) (torn : Int) : CInv name (crashS S keep torn) c ∧ (crashS S keep torn).fuse = -1 ∧ (crashS S keep torn).now = S.now := by
  rw [crash_quiet h.waits]
  refine ⟨⟨rfl, rfl, rfl, h.room, ?_, ?_, ?_⟩, rfl, h.sure⟩
  all_goals (show _; simp only [h.sure])
  · exact h.zero
  · exact h.cur
  · exact h.oth
/-- Power that fails within a set, and a crash that keeps a beginning of the write: the old one, or the new one. -/
theorem CInv.torn (h : CInv name S c) (hF : CForm name S.now) (hn : ∀ k, namedB (cfile name k) = true) (hu : usedF S.now ≤ 1000000) (hL : LenLe 48 S.now) (hf : 0 ≤ S.fuse) (hc : c.1 + 1 < 18446744073709551616) (ht : t < 18446744073709551616) (hv : v < 18446744073709551616) (keep : List Bool) (torn : Int) (h0 : 0 ≤ torn) :
    ((setS name S c.1 t v).1 = 0 ∧ CInv name (setS name S c.1 t v).2 (c.1 + 1, t, v) ∨ (setS name S c.1 t v).1 = 6 ∧ (setS name S c.1 t v).2.off = true) ∧
    ∃ c', (c' = c ∧ (setS name S c.1 t v).1 = 6 ∨ c' = (c.1 + 1, t, v)) ∧ CInv name (crashS (setS name S c.1 t v).2 (true :: keep) torn) c' ∧ (crashS (setS name S c.1 t v).2 (true :: keep) torn).fuse = -1 := by
  by_cases hf0 : S.fuse = 0
  · rw [h.set_lost0 hn hu hf0]
    refine ⟨.inr ⟨rfl, rfl⟩, c, .inl ⟨rfl, rfl⟩, ?_, rfl⟩
    rw [crash_quiet (S := { S with off := true }) h.waits]
    refine ⟨rfl, rfl, rfl, h.room, ?_, ?_, ?_⟩
    all_goals (show _; simp only [h.sure])
    · exact h.zero
    · exact h.cur
    · exact h.oth
  by_cases hf1 : S.fuse = 1
  · rw [h.set_lost1 hn hu hf1]
    refine ⟨.inr ⟨rfl, rfl⟩, ?_⟩
    obtain ⟨k, hk⟩ : ∃ k, k = (max 0 (min torn (48 : Nat))).toNat := ⟨_, rfl⟩
    have hcr : ∀ T : Dk, crashS { S with fuse := 0, now := T.now, waits := [wDd name (c.1 + 1) (layC (c.1 + 1) t v)], off := true } (true :: keep) torn =
        { S with now := doF (wDd name (c.1 + 1) ((layC (c.1 + 1) t v).take k)) S.sure, sure := doF (wDd name (c.1 + 1) ((layC (c.1 + 1) t v).take k)) S.sure, waits := [], off := false, fuse := -1 } := fun T => by
      have e : doAll (tornD torn (keptD [wDd name (c.1 + 1) (layC (c.1 + 1) t v)] (true :: keep))) S.sure = doF (wDd name (c.1 + 1) ((layC (c.1 + 1) t v).take k)) S.sure := by
        have e1 : keptD [wDd name (c.1 + 1) (layC (c.1 + 1) t v)] (true :: keep) = [wDd name (c.1 + 1) (layC (c.1 + 1) t v)] := by
          have : keptD [] keep = [] := by unfold keptD; cases keep <;> rfl
          simp [keptD, this]
        rw [e1]
        show doF (tearD torn (wDd name (c.1 + 1) (layC (c.1 + 1) t v))) S.sure = _
        have e2 : tearD torn (wDd name (c.1 + 1) (layC (c.1 + 1) t v)) = wDd name (c.1 + 1) ((layC (c.1 + 1) t v).take k) := by
          simp only [tearD, wDd, layC_len, hk]
        rw [e2]
      unfold crashS
      show ({ S with now := _, sure := _, waits := _, off := _, fuse := _ } : Dk) = _
      rw [e]
    rw [hcr { S with now := doF (wDd name (c.1 + 1) (layC (c.1 + 1) t v)) S.now }]
    rw [h.sure]
    have e1 := fil_same name (c.1 + 1) ((layC (c.1 + 1) t v).take k) S.now
    have e2 : ∀ j, j % 2 ≠ (c.1 + 1) % 2 → fil name (doF (wDd name (c.1 + 1) ((layC (c.1 + 1) t v).take k)) S.now) j = fil name S.now j := fun j hj => fil_other name hj _ _
    generalize doF (wDd name (c.1 + 1) ((layC (c.1 + 1) t v).take k)) S.now = L at e1 e2
    have hT : readC (fil name L (c.1 + 1)) = none ∨ fil name L (c.1 + 1) = fil name S.now (c.1 + 1) ∨ fil name L (c.1 + 1) = layC (c.1 + 1) t v := by
      rw [e1]
      rcases hF (c.1 + 1) with hs | hs
      · rcases Nat.lt_or_ge k 48 with hk8 | hk8
        · left; apply readC_len; rw [length_over, List.length_take, layC_len]; omega
        · right; right
          rw [List.take_of_length_le (by rw [layC_len]; exact hk8)]
          exact over_all (by rw [layC_len]; omega)
      · rw [over_some k hs.1 (layC_len _ _ _)]
        exact readC_mix k (turn_lay _ _ _) hs
    have hcur : c.1 ≠ 0 → readC (fil name L c.1) = some c := fun h1 => by rw [e2 _ (by omega)]; exact h.cur h1
    have hzero : c.1 = 0 → c = (0, 0, 0) ∧ readC (fil name L 0) = none := fun h1 => by rw [e2 _ (by omega)]; exact h.zero h1
    rcases hT with hT | hT | hT
    · exact ⟨c, .inl ⟨rfl, rfl⟩, ⟨rfl, rfl, rfl, h.room, hzero, hcur, fun w hw => by have hw' : readC (fil name L (c.1 + 1)) = some w := hw; rw [hT] at hw'; cases hw'⟩, rfl⟩
    · exact ⟨c, .inl ⟨rfl, rfl⟩, ⟨rfl, rfl, rfl, h.room, hzero, hcur, fun w hw => by have hw' : readC (fil name L (c.1 + 1)) = some w := hw; rw [hT] at hw'; exact h.oth w hw'⟩, rfl⟩
    · refine ⟨(c.1 + 1, t, v), .inr rfl, ⟨rfl, rfl, rfl, h.room, fun h1 => ?_, fun _ => ?_, fun w hw => ?_⟩, rfl⟩
      · simp at h1
      · show readC (fil name L (c.1 + 1)) = _
        rw [hT]; exact readC_lay _ _ _ hc ht hv
      · have hw' : readC (fil name L (c.1 + 1 + 1)) = some w := hw
        rw [fil_par name L (show (c.1 + 1 + 1) % 2 = c.1 % 2 by omega)] at hw'
        show w.1 < c.1 + 1
        by_cases h1 : c.1 = 0
        · rw [h1, (hzero h1).2] at hw'; cases hw'
        · rw [hcur h1] at hw'; cases hw'; omega
  · obtain ⟨S', e, hI, _, _⟩ := h.set_ok hn hu hL (t := t) (v := v) (.inr (by omega)) hc ht hv
    rw [e]
    have := hI.crash (true :: keep) torn
    exact ⟨.inl ⟨rfl, hI⟩, _, .inr rfl, this.1, this.2.1⟩
end
theorem CInv.new (name : ByteArray) : CInv name (dkNew 1073741824) (0, 0, 0) ∧ CForm name (dkNew 1073741824).now :=
  ⟨⟨rfl, rfl, rfl, rfl, fun _ => ⟨rfl, rfl⟩, fun h => absurd rfl h, fun w hw => by cases (show (none : Option (Nat × Nat × Nat)) = some w from hw)⟩, fun k => .inl (by show (0 : Nat) < 48; omega)⟩
end Go.Proofs.YtafjjladnghjbaaGreatDoor
