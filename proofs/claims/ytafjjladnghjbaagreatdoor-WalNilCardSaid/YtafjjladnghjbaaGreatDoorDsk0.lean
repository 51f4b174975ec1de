/- Files in memory: a map of byte slices, read, written, struck; what stays. -/
import Derived.Test.YtafjjladnghjbaaGreatDoorDskL
import Derived.Test.YtafjjladnghjbaaGreatDoorChg
import Derived.Test.YtafjjladnghjbaaGreatDoorShelf
import Derived.Maps.RangeWalk
import Derived.Maps.OwnOps
import Derived.Laws.CopyOwn
import Derived.Shelf.SlMaps.Clone
namespace Go.Proofs.YtafjjladnghjbaaGreatDoor
open Go Go.RowKit Go.Maps

theorem el8 : ElT Tryz.prog 23 5 (.int .u8 0) 1 := ElT.mk' Tryz.underlying23 (by kernel_rfl) rfl
theorem el8s : (Tryz.prog.info? 5).map (·.size) = some 1 := by kernel_rfl
theorem kS : Keyed Tryz.prog 9 := string_keyed Tryz.underlying9

/-! ### blocks that hold no byte -/
def NoB (w : World) (b : Nat) : Prop := ∀ j x, w.cell? ⟨b, j, none⟩ ≠ some (.int .u8 x)
section
variable {w w' : World} {S : List Nat} {v : Value} {xs : List Int}
theorem NoB.blk {b : Nat} {cs : Array Value} {e : TypeId} (h : Blk w b cs e) (hn : ∀ c ∈ cs, ∀ y, c ≠ .int .u8 y) : NoB w b := by
  intro j x hc
  rw [cell_of_row w b j cs e (0, 0) h] at hc
  exact hn _ (Array.mem_of_getElem? hc) x rfl
theorem NoB.map {b : Nat} {es : Array MapEntry} {clock : Nat} (h : w.heap[b]? = some (.map es clock)) : NoB w b := by
  intro j x hc
  simp [World.cell?, h] at hc
theorem NoB.iter {b : Nat} {m : Option Nat} {s c0 : Nat} {seen : Array Nat} (h : w.heap[b]? = some (.mapIter m s seen c0)) : NoB w b := by
  intro j x hc
  simp [World.cell?, h] at hc
theorem NoB.heap {b : Nat} (h : NoB w b) (he : w'.heap[b]? = w.heap[b]?) : NoB w' b := by
  intro j x hc
  rw [World.cell?_of_block he] at hc
  exact h j x hc
theorem off_noB {b : Nat} (h : Rd w v (u8s xs)) (hb : NoB w b) : OffL v (u8s xs) [b] := by
  intro a n c hv hn hm
  simp only [List.mem_singleton] at hm
  obtain ⟨a', c', hv', _, _, h3⟩ := h
  rcases h3 with h3 | ⟨b', o, rfl, hc⟩
  · exact hn h3
  · rw [hv] at hv'
    cases hv'
    cases xs with
    | nil => exact hn rfl
    | cons x r =>
      have := hc 0 (.int .u8 x) rfl
      subst hm
      exact hb _ _ this
theorem Rd.chgB (h : Rd w v (u8s xs)) (hg : Chg S w w') (hS : ∀ t ∈ S, NoB w t ∨ w.heap.size ≤ t) : Rd w' v (u8s xs) := by
  refine h.chg hg fun a n c hv hn hm => ?_
  rcases hS _ hm with h1 | h1
  · exact off_noB h h1 a n c hv hn (by simp)
  · obtain ⟨a', c', hv', _, _, h3⟩ := h
    rcases h3 with h3 | ⟨b', o, rfl, hc⟩
    · exact hn h3
    · rw [hv] at hv'
      cases hv'
      cases xs with
      | nil => exact hn rfl
      | cons x r => have := World.block_lt_of_cell? w _ (hc 0 (.int .u8 x) rfl); simp at this h1; omega
end

theorem Rd.ltB {a : Addr} {n c : Nat} {w : World} {v : Value} {cs : List Value} (h : Rd w v cs) (hv : v = .slice (some a) n c) (hn : cs ≠ []) : a.block < w.heap.size := by
  obtain ⟨a', c', hv', _, _, h3⟩ := h
  rcases h3 with h3 | ⟨b', o, rfl, hc⟩
  · exact absurd h3 hn
  · rw [hv] at hv'
    cases hv'
    cases cs with
    | nil => exact absurd rfl hn
    | cons u r => exact World.block_lt_of_cell? w ⟨b', o + 0, none⟩ (hc 0 u rfl)
theorem Rd.chgA {A S : List Nat} {w w' : World} {v : Value} {xs : List Int} (h : Rd w v (u8s xs)) (ho : OffL v (u8s xs) A) (hg : Chg S w w') (hS : ∀ t ∈ S, NoB w t ∨ t ∈ A ∨ w.heap.size ≤ t) : Rd w' v (u8s xs) := by
  refine h.chg hg fun a n c hv hn hm => ?_
  rcases hS _ hm with h1 | h1 | h1
  · exact off_noB h h1 a n c hv hn (by simp)
  · exact ho a n c hv hn h1
  · have := h.ltB hv hn; omega
theorem OffL.more {A A' : List Nat} {w : World} {v : Value} {cs : List Value} (ho : OffL v cs A) (h : Rd w v cs) (hA : ∀ t ∈ A', t ∈ A ∨ w.heap.size ≤ t) : OffL v cs A' := fun a n c hv hn hm => by
  rcases hA _ hm with h1 | h1
  · exact ho a n c hv hn h1
  · have := h.ltB hv hn; omega
theorem own_full {w : World} {base g n : Nat} {e : TypeId} {xs : List Value} (h : w.ownsRow base e 1 (.slice (some ⟨g, 0, none⟩) n n) n xs) : w.heap[g]? = some (.cells xs.toArray e (0, 0)) := by
  rcases h.2 with ⟨h1, _⟩ | ⟨g', cap, cur, hv, _, hh, _, _, hs, ht⟩
  · cases h1
  · cases hv
    rw [← ht, List.take_of_length_le (by rw [Array.length_toList, hs]; exact Nat.le_refl _)]
    exact hh
theorem made8 (n : Nat) : (madeCells (Value.int .u8 0).cells n).toList = u8s (List.replicate n 0) := by
  apply List.ext_getElem
  · simp [madeCells, u8s]
  · intro i h1 h2
    simp [madeCells, u8s, Value.cells, Nat.mod_one]
/-! ### files -/
/-- Block b is a map of at most n files: their names and bytes are L; no bytes lie in a block of A. -/
def Files (w : World) (b n : Nat) (A : List Nat) (L : FL) : Prop :=
  ∃ E : List (Nm × (Value × List Int)), w.ownsMap Tryz.prog 9 hR b n (toD (·.1) E) ∧ (∀ p ∈ E, Rd w p.2.1 (u8s p.2.2) ∧ B8 p.2.2 ∧ OffL p.2.1 (u8s p.2.2) A) ∧ L = mapG (·.2) E

section
variable {w w' : World} {b n : Nat} {L : FL} {S A : List Nat}
theorem hkeyS {s : ByteArray} (hs : s.size ≤ maxLen) : keyOf Tryz.prog 9 (.string s) = some (.string (nmOf s)) := Go.WideMaps.keyOf_string_mk Tryz.underlying9 hs
theorem Files.lt (h : Files w b n A L) : b < w.heap.size := by obtain ⟨E, h, _⟩ := h; exact h.lt
theorem Files.noB (h : Files w b n A L) : NoB w b := by obtain ⟨E, ⟨es, clock, hb, _⟩, _⟩ := h; exact NoB.map hb
theorem Files.mono (h : Files w b n A L) {n' : Nat} (hn : n ≤ n') : Files w b n' A L := by obtain ⟨E, h, r⟩ := h; exact ⟨E, h.mono hn, r⟩
theorem own_chgM {k : TypeId} {H : Type} {R : Value → Option (DataW H × List MemPlace)} {D : DataW H} {P : Program} (h : w.ownsMap P k R b n D) (hg : Chg S w w') (hb : b ∉ S) : w'.ownsMap P k R b n D := by
  have hlt := h.lt
  obtain ⟨es, clock, hh, r⟩ := h
  exact ⟨es, clock, (hg.block b hlt hb).trans hh, r⟩
theorem Files.chg (h : Files w b n A L) (hg : Chg S w w') (hb : b ∉ S) (hS : ∀ t ∈ S, NoB w t ∨ t ∈ A ∨ w.heap.size ≤ t) : Files w' b n A L := by
  obtain ⟨E, h, hE, hL⟩ := h
  exact ⟨E, own_chgM h hg hb, fun p hp => ⟨(hE p hp).1.chgA (hE p hp).2.2 hg hS, (hE p hp).2⟩, hL⟩
theorem Files.off {A' : List Nat} (h : Files w b n A L) (hA : ∀ t ∈ A', t ∈ A ∨ w.heap.size ≤ t) : Files w b n A' L := by
  obtain ⟨E, h, hE, hL⟩ := h
  exact ⟨E, h, fun p hp => ⟨(hE p hp).1, (hE p hp).2.1, (hE p hp).2.2.more (hE p hp).1 hA⟩, hL⟩
theorem Files.ext (h : Files w b n A L) (hE : Ext w w') : Files w' b n A L := h.chg (S := []) (Chg.ext hE) (by simp) (by simp)
theorem Files.b8 (h : Files w b n A L) {k : Nm} {bs : List Int} (hg : getG k L = some bs) : B8 bs := by
  obtain ⟨E, _, hE, rfl⟩ := h
  have := getG_mem hg
  simp only [mapG, List.mem_map] at this
  obtain ⟨p, hp, he⟩ := this
  cases he
  exact (hE p hp).2.1
theorem Files.made (w : World) : Files (w.alloc (.map #[] 0)) w.heap.size 0 A [] := ⟨[], World.ownsMap_made _ _ _ _, by simp, rfl⟩
theorem Files.len (h : Files w b n A L) : L.length ≤ n := by
  obtain ⟨E, h, _, rfl⟩ := h
  have := h.size_le
  rw [toD_size] at this
  simpa [mapG] using this
theorem Chg.turned (h : w.mapTurned w' b) : Chg [b] w w' ∧ w'.heap.size = w.heap.size := by
  refine ⟨Chg.some h.grown (.inl (by simp)), ?_⟩
  obtain ⟨es, clock, es', clock', _, rfl⟩ := h
  simp [Go.ChangeMaps.setBlock]
theorem zeroS (w : World) : (zeroValue 23).run Tryz.prog w = .ok (.slice none 0 0) w := by kernel_rfl

/-- 'm[s]', with ok or without. -/
theorem Files.look (h : Files w b n A L) {t : TypeId} (ht : Tryz.prog.underlying t = some (.map 9 23)) {s : ByteArray} (hs : s.size ≤ maxLen) :
    ∃ v, (Instr.lookup t (.map (some b)) (.string s) true).run Tryz.prog w = .ok (.tuple #[v, .bool (getG (nmOf s) L).isSome]) w ∧ (Instr.lookup t (.map (some b)) (.string s) false).run Tryz.prog w = .ok v w ∧
      Rd w v (u8s ((getG (nmOf s) L).getD [])) ∧ B8 ((getG (nmOf s) L).getD []) ∧ OffL v (u8s ((getG (nmOf s) L).getD [])) A := by
  obtain ⟨E, ho, hE, rfl⟩ := h
  have hr : ∀ e0 : Value, (hR e0) = some (.held e0, []) := fun _ => rfl
  obtain ⟨v, ps, hrun, hv⟩ := ho.look_ok kS ht (zeroS w) (hr _) (hkeyS hs)
  obtain ⟨v', ps', hrun', hv'⟩ := ho.lookup kS ht (zeroS w) (hr _) (hkeyS hs)
  simp only [hR, Option.some.injEq, Prod.mk.injEq] at hv hv'
  rw [toD_atKey] at hv hv'
  have ee : v = v' := by have := hv.1.trans hv'.1.symm; simpa using this
  subst ee
  refine ⟨v, by rw [toD_has] at hrun; rw [getG_mapG, Option.isSome_map]; exact hrun, hrun', ?_⟩
  rw [getG_mapG]
  cases hg : getG (nmOf s) E with
  | none =>
    rw [hg] at hv
    obtain rfl : v = .slice none 0 0 := by simpa using hv.1
    exact ⟨Rd.nil w, (by intro x hx; simp at hx), fun a n c hv => by cases hv⟩
  | some p =>
    rw [hg] at hv
    obtain rfl : v = p.1 := by simpa using hv.1
    exact hE _ (getG_mem hg)

/-- 'm[s] = v'. -/
theorem Files.put (h : Files w b n A L) {t : TypeId} (ht : Tryz.prog.underlying t = some (.map 9 23)) {s : ByteArray} (hs : s.size ≤ maxLen) (hn : n < maxLen) {v : Value} {xs : List Int} (hv : Rd w v (u8s xs)) (hb : B8 xs) (hof : OffL v (u8s xs) A) :
    ∃ w', (Instr.mapUpdate t (.map (some b)) (.string s) v).run Tryz.prog w = .ok () w' ∧ Files w' b (n + 1) A (putG (nmOf s) xs L) ∧ Chg [b] w w' ∧ w'.heap.size = w.heap.size := by
  have hnb := h.noB
  obtain ⟨E, ho, hE, rfl⟩ := h
  obtain ⟨w', hrun, ho', ht'⟩ := ho.store kS ht hn (hkeyS hs) (show hR v = some (.held v, []) from rfl)
  obtain ⟨hc, hsz⟩ := Chg.turned ht'
  refine ⟨w', hrun, ⟨putG (nmOf s) (v, xs) E, ?_, ?_, (mapG_putG (fun p : Value × List Int => p.2) (nmOf s) (v, xs) E).symm⟩, hc, hsz⟩
  · rw [← toD_put (c := fun p : Value × List Int => p.1) (nmOf s) (v, xs) E]; exact ho'
  · intro p hp
    have hS : ∀ t ∈ [b], NoB w t ∨ w.heap.size ≤ t := fun t ht => by simp at ht; subst ht; exact .inl hnb
    rcases mem_putG.1 hp with rfl | ⟨hp, _⟩
    · exact ⟨hv.chgB hc hS, hb, hof⟩
    · exact ⟨(hE p hp).1.chgB hc hS, (hE p hp).2⟩

/-- 'delete(m, s)'. -/
theorem Files.drop (h : Files w b n A L) {t : TypeId} (ht : Tryz.prog.underlying t = some (.map 9 23)) {s : ByteArray} (hs : s.size ≤ maxLen) (ty : TypeId) :
    ∃ w', (Builtin.delete_ #[t, 9] ty #[.map (some b), .string s]).run Tryz.prog w = .ok (.tuple #[]) w' ∧ Files w' b n A (delG (nmOf s) L) ∧ Chg [b] w w' ∧ w'.heap.size = w.heap.size := by
  have hnb := h.noB
  obtain ⟨E, ho, hE, rfl⟩ := h
  obtain ⟨w', hrun, ho', ht'⟩ := ho.drop kS ht (hkeyS hs) ty
  obtain ⟨hc, hsz⟩ := Chg.turned ht'
  refine ⟨w', hrun, ⟨delG (nmOf s) E, ?_, ?_, (mapG_delG _ _ _).symm⟩, hc, hsz⟩
  · rw [toD_del] at ho'; exact ho'
  · intro p hp
    have hS : ∀ t ∈ [b], NoB w t ∨ w.heap.size ≤ t := fun t ht => by simp at ht; subst ht; exact .inl hnb
    have hp := (mem_delG.1 hp).1
    exact ⟨(hE p hp).1.chgB hc hS, (hE p hp).2⟩
end
end Go.Proofs.YtafjjladnghjbaaGreatDoor
