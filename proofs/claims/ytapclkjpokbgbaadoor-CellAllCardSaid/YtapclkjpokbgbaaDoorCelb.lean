/- append to a slice of one with no room; a set leaves at most one deed; Whole lists of hard states. -/
import Derived.Test.YtapclkjpokbgbaaDoorCela
import Derived.ArgAppend
set_option linter.unusedSimpArgs false
set_option linter.unusedVariables false
namespace Go.Proofs.YtapclkjpokbgbaaDoor
open Go Go.RowKit Go.Maps

section
variable {P : Program} {w : World} {ops : Array Oper} {rest : List Oper} {o : Oper} {a : Act} {Q : Exit → Act → World → Prop}
theorem run_append_none1 (t ty e : TypeId) (i : TypeInfo) (ht : P.underlying t = some (.slice e)) (hi : P.info? e = some i) (ad : Addr) (ax : Option Addr) (c : Nat) :
    (Builtin.append_ #[t, t] ty #[.slice (some ad) 1 1, .slice ax 0 c]).run P w = .ok (.slice (some ad) 1 1) w := by
  cases ax with
  | none => simp [Builtin.append_, run_underlying ht, sizeOf, typeInfo, hi, Builtin.lenOf, run_firstCells_none, storeCells]
  | some x =>
    have hf := run_firstCells_some (P := P) w i.size 0 x 0 c [] (by simp) (by simp)
    simp [Builtin.append_, run_underlying ht, sizeOf, typeInfo, hi, Builtin.lenOf, hf, storeCells]
/-- 'append([]T{u}, x...)', all old blocks stay. -/
theorem wpList_append_one (hgd : o.guard = none) (s x : Operand) (t : TypeId) (ho : o.op = .call { callee := .builtin .append, args := #[s, x], argTypes := #[t, t] })
    {e : TypeId} {z : Value} {bytes : Nat} (hT : ElT P t e z bytes) (p : Nat) (u : Value) (hs : a.eval s = .slice (some ⟨p, 0, none⟩) 1 1) (hu : w.cell? ⟨p, 0, none⟩ = some u) (vx : Value) (cs : List Value) (hx : a.eval x = vx) (hrd : Rd w vx cs)
    (h63 : 1 + cs.length ≤ maxLen) (hbytes : (1 + cs.length) * bytes ≤ 140737488355328)
    (h : ∀ v' w', Rd w' v' (u :: cs) → Ext w w' → wpList P ops Q rest (a.put o.dst v') w') : wpList P ops Q (o :: rest) a w := by
  obtain ⟨i, hi, hz, hsz, hby⟩ := hT.info
  obtain ⟨ax, c, rfl, hl, hc, h3⟩ := hrd
  refine wpList_plain hgd fun K hK => ?_
  have key : ∃ v' w', (Builtin.append_ #[t, t] o.type #[.slice (some ⟨p, 0, none⟩) 1 1, .slice ax cs.length c]).run P w = .ok v' w' ∧ Rd w' v' (u :: cs) ∧ Ext w w' := by
    by_cases hm : cs = []
    · subst hm
      refine ⟨_, w, run_append_none1 t o.type e i hT.ty hi ⟨p, 0, none⟩ ax c, ⟨some ⟨p, 0, none⟩, 1, rfl, by simp, by unfold maxLen; omega, .inr ⟨p, 0, rfl, fun j y hj => ?_⟩⟩, Ext.refl _⟩
      match j, hj with
      | 0, hj => cases hj; exact hu
    · obtain ⟨b, o', rfl, hcc⟩ := h3.resolve_left hm
      have hpos : 0 < cs.length := List.length_pos_iff.2 hm
      obtain ⟨v', w', hr, ho', hg⟩ := run_append_arg_grows (P := P) w t o.type e i z 1 bytes hT.ty hi hz hsz hby hT.one (by decide) ⟨p, 0, none⟩ 1 1 [u] (by simp) (fun j y hj => by
        match j, hj with
        | 0, hj => cases hj; rw [Addr.add_lit]; exact hu) ⟨b, o', none⟩ cs.length c cs (by simp) (fun j y hj => by rw [Addr.add_lit]; exact hcc j y hj) (by omega) h63 hbytes
      refine ⟨v', w', hr, ?_, ⟨hg.os, hg.tape, hg.output, hg.size, fun k hk => hg.block k hk (by simp)⟩⟩
      exact Rd.of_own ho'
  obtain ⟨v', w', hr, h1, h2⟩ := key
  unfold Oper.wp execOp
  simp only [ho, resolve, invoke, builtin, Sem.run_bind, Sem.run_pure, Result.andThen_ok, List.map_toArray, List.map_cons, List.map_nil, hs, hx, hr]
  exact hK _ _ (h v' w' h1 h2)
end
theorem elBool : ElT Tryd.prog 61 4 (.bool false) 1 := ElT.mk' Tryd.underlying61 (by kernel_rfl) rfl
theorem waitS_waits (S : Dk) (o : Dd) : (waitS S o).2.waits.length ≤ S.waits.length + 1 := by
  unfold waitS; split
  · exact Nat.le_succ _
  · simp
theorem syncS_waits (S : Dk) : (syncS S).2.waits.length ≤ S.waits.length := by
  unfold syncS; split
  · exact Nat.le_refl _
  · split
    · exact Nat.le_refl _
    · exact Nat.zero_le _
theorem setS_waits (name : ByteArray) (S : Dk) (c t v : Nat) : (setS name S c t v).2.waits.length ≤ S.waits.length + 1 := by
  have hw : (writeS S (cfile name (c + 1)) 0 (layC (c + 1) t v)).2.waits.length ≤ S.waits.length + 1 := by
    unfold writeS
    repeat' split
    all_goals first | exact waitS_waits _ _ | exact Nat.le_succ _
  unfold setS
  split
  · exact Nat.le_trans (syncS_waits _) hw
  · exact hw
theorem CInv.fused {name : ByteArray} {S : Dk} {c : Nat × Nat × Nat} (h : CInv name S c) (f : Int) : CInv name { S with fuse := f } c := ⟨h.waits, h.sure, h.off, h.room, h.zero, h.cur, h.oth⟩
/-- A list of terms and votes in memory. -/
def HardsV (w : World) (v : Value) (xs : List (Nat × Nat)) : Prop := ∃ a c, v = .slice a xs.length c ∧ xs.length ≤ c ∧ c ≤ maxLen ∧
  (xs = [] ∨ ∃ b o, a = some ⟨b, o, none⟩ ∧ ∀ (i : Nat) x, xs[i]? = some x → w.cell? ⟨b, o + i * 2, none⟩ = some (.int .u64 x.1) ∧ w.cell? ⟨b, o + i * 2 + 1, none⟩ = some (.int .u64 x.2))
/-- A term and a vote. -/
def HOk (x : Nat × Nat) : Prop := x.1 < 18446744073709551616 ∧ x.2 < 18446744073709551616
theorem HardsV.ext {w w' : World} {v : Value} {xs : List (Nat × Nat)} (h : HardsV w v xs) (hE : Ext w w') : HardsV w' v xs := by
  obtain ⟨a, c, hv, h1, h2, h3⟩ := h
  refine ⟨a, c, hv, h1, h2, h3.imp id ?_⟩
  rintro ⟨b, o, ha, h⟩
  exact ⟨b, o, ha, fun i x hx => ⟨hE.cell (h i x hx).1, hE.cell (h i x hx).2⟩⟩
/-! ### What is known of a run while two of its calls come in one drawn region -/
def Sq1 (A B C : World → Prop) (w w' : World) : Prop := (A w → A w' ∨ B w') ∧ (B w → B w') ∧ (C w → C w')
def Sq2 (A B C : World → Prop) (w w' : World) : Prop := (A w → A w' ∨ B w' ∨ C w') ∧ (B w → B w' ∨ C w') ∧ (C w → C w')
theorem sq_pre (A B C : World → Prop) : Mono.Pre (Sq1 A B C) (Sq2 A B C) := by
  refine ⟨fun a b h => ⟨fun x => (h.1 x).imp id .inl, fun x => .inl (h.2.1 x), h.2.2⟩, fun a b c h k => ⟨fun x => ?_, fun x => k.2.1 (h.2.1 x), fun x => k.2.2 (h.2.2 x)⟩, fun a b c h k => ⟨fun x => ?_, fun x => ?_, fun x => k.2.2 (h.2.2 x)⟩⟩
  · rcases h.1 x with y | y
    · exact k.1 y
    · exact .inr (k.2.1 y)
  · rcases h.1 x with y | y | y
    · exact k.1 y
    · exact .inr (k.2.1 y)
    · exact .inr (.inr (k.2.2 y))
  · rcases h.2.1 x with y | y
    · exact k.2.1 y
    · exact .inr (k.2.2 y)
def Tq (A : World → Prop) (B : Nat → World → Prop) (w w' : World) : Prop := (A w → A w' ∨ ∃ c, B c w') ∧ ∀ c, B c w → B c w'
theorem tq_pre (A : World → Prop) (B : Nat → World → Prop) (hA : ∀ w w', Ext w w' → A w → A w') (hB : ∀ c w w', Ext w w' → B c w → B c w') : Mono.Pre Ext (Tq A B) := by
  refine ⟨fun a b h => ⟨fun x => .inl (hA _ _ h x), fun c x => hB c _ _ h x⟩, fun a b c => Ext.trans, fun a b c h k => ⟨fun x => ?_, fun y x => k.2 y (h.2 y x)⟩⟩
  rcases h.1 x with y | ⟨z, y⟩
  · exact k.1 y
  · exact .inr ⟨z, k.2 z y⟩
theorem runs_cell {w0 w : World} {r d c x n cnt c' n' cnt' : Nat} {O O' : List Nat} {S S' : Dk} {h m h' m' : Nat × Nat} {cov ov cov' ov' : Bool} (H : RunS w0 w r d c x n O S cnt h m cov ov) (K : RunS w0 w r d c' x n' O' S' cnt' h' m' cov' ov') : c = c' ∧ cnt = cnt' := by
  have h1 := (H.rb.three).2.1; have k1 := (K.rb.three).2.1
  rw [h1] at k1
  have e : c = c' := by
    have := Option.some.inj k1
    simpa [dptr] using this
  subst e
  have h2 := (Blk.six H.cel).2.2.1; have k2 := (Blk.six K.cel).2.2.1
  rw [h2] at k2
  refine ⟨rfl, ?_⟩
  have h3 := Option.some.inj k2
  injection h3 with _ h4
  omega
end Go.Proofs.YtapclkjpokbgbaaDoor
