/- cell: file, lay. -/
import Derived.Test.YtapclkjpokbgbaaDoorCelP
import Derived.Test.YtapclkjpokbgbaaDoorDskN
import Derived.Laws.Bits64b
set_option linter.unusedSimpArgs false
set_option linter.unusedVariables false
namespace Go.Proofs.YtapclkjpokbgbaaDoor
open Go Go.RowKit Go.Maps

/-- A row of bytes of one's own, at a place. -/
theorem own_at8 {w : World} {B : Nat} {xa : Option Addr} {L c : Nat} {xs : List Int} (h : w.ownsRow B 5 1 (.slice xa L c) L (u8s xs)) (hl : xs.length = L) {k : Nat} (hk : k < L) :
    ∃ g, xa = some ⟨g, 0, none⟩ ∧ B ≤ g ∧ w.frozen? ⟨g, k, none⟩ = false ∧ w.cell? ⟨g, k, none⟩ = some (.int .u8 (xs.getD k 0)) := by
  rcases h.2 with ⟨hv, h0⟩ | ⟨g, cap, cur, hv, hg, hh, h1, h2, h3, h4⟩
  · omega
  · injection hv with e1 e2 e3
    subst e1
    refine ⟨g, rfl, hg, (show Blk w g cur 5 from hh).free k, ?_⟩
    have := h.cells (g := g) rfl k (.int .u8 (xs.getD k 0)) (by simp [u8s, List.getD, List.getElem?_eq_getElem (show k < xs.length by omega)])
    rwa [Addr.add_lit, Nat.zero_add] at this
theorem own_cap8 {w : World} {B : Nat} {xa : Option Addr} {L c k : Nat} {cs : List Value} (h : w.ownsRow B 5 1 (.slice xa L c) L cs) (hk : k < L) : k < c := by
  rcases h.2 with ⟨hv, h0⟩ | ⟨g, cap, cur, hv, hg, hh, h1, h2, h3, h4⟩
  · omega
  · injection hv with e1 e2 e3; omega
theorem own_set8 {w : World} {B g L c : Nat} {xs : List Int} (h : w.ownsRow B 5 1 (.slice (some ⟨g, 0, none⟩) L c) L (u8s xs)) (k : Nat) (z : Int) : (w.setCell ⟨g, k, none⟩ (.int .u8 z)).ownsRow B 5 1 (.slice (some ⟨g, 0, none⟩) L c) L (u8s (xs.set k z)) := by
  have := own_set (j := k) h (.int .u8 z)
  rwa [show (u8s xs).set k (.int .u8 z) = u8s (xs.set k z) by simp [u8s, List.map_set]] at this
/-- c is a cell of the disk d. -/
def CelB (w : World) (c d : Nat) (name : ByteArray) (cnt t v : Nat) (over : Bool) : Prop := Blk w c #[dptr d, .string name, .int .u64 cnt, .int .u64 t, .int .u64 v, .bool over] 75
/-- One byte just laid. -/
def New1 (B : Nat) (a : Value) (v : Value) (w : World) : Prop := ∃ g, v = .slice (some ⟨g, 0, none⟩) 1 1 ∧ B ≤ g ∧ w.cell? ⟨g, 0, none⟩ = some a
theorem New1.ext {B : Nat} {a v : Value} {w w' : World} (h : New1 B a v w) (hE : Ext w w') : New1 B a v w' := by
  obtain ⟨g, h1, h2, h3⟩ := h
  exact ⟨g, h1, h2, hE.cell h3⟩
theorem New1.new {w : World} {B : Nat} (a : Value) (t : TypeId) (hB : B ≤ w.heap.size) : New1 B a (.slice (some ⟨w.heap.size, 0, none⟩) 1 1) (w.alloc (.cells #[a] t)) :=
  ⟨_, rfl, hB, (Blk.new w #[a] t).cell 0 rfl⟩
theorem New1.rd {B : Nat} {z : Int} {v : Value} {w : World} (h : New1 B (.int .u8 z) v w) : Rd w v (u8s [z]) := by
  obtain ⟨g, rfl, _, hc⟩ := h
  refine ⟨_, 1, rfl, Nat.le_refl _, by unfold maxLen; omega, .inr ⟨g, 0, rfl, fun j u hj => ?_⟩⟩
  match j, hj with
  | 0, hj => cases hj; exact hc
theorem and1 (k : Nat) (hk : k < 18446744073709551616) : bits BinOp.and IntKind.u64 (k : Int) 1 = ((k % 2 : Nat) : Int) := by
  have := bits_and_u64_nat k 1 hk (by decide)
  rw [Nat.and_one_is_mod] at this
  exact this
theorem cfile_eq (name : ByteArray) (k : Nat) : name ++ ⟨#[46]⟩ ++ strOfNums [48 + (k : Int) % 2] = cfile name k := by
  rcases Nat.mod_two_eq_zero_or_one k with h | h
  · rw [show (48 : Int) + (k : Int) % 2 = 48 by omega]
    apply ByteArray.ext
    simp only [ByteArray.data_append, cfile, h, if_pos]
    rw [Array.append_assoc]; rfl
  · rw [show (48 : Int) + (k : Int) % 2 = 49 by omega]
    apply ByteArray.ext
    simp only [ByteArray.data_append, cfile, h, if_neg (show ¬ ((1 : Nat) = 0) by decide)]
    rw [Array.append_assoc]; rfl
set_option maxRecDepth 100000 in
set_option maxHeartbeats 1000000 in
theorem file_c (c d : Nat) (name : ByteArray) (cnt t v k : Nat) (ov : Bool) (w : World) (h : CelB w c d name cnt t v ov) (hk : k < 18446744073709551616) (hs : name.size ≤ 4) :
    Calls Tryd.prog 30 #[dptr c, .int .u64 (k : Int)] w fun e w' => e = .returned (.string (cfile name k)) ∧ Ext w w' := by
  have HCV := Lib.hid (fun (w : World) (v : Value) (xs : List Int) (h : Rd w v (u8s xs)) => h.convert (P := Tryd.prog) Tryd.underlying36 Tryd.underlying5 Tryd.underlying9)
  have hb : Blk w c #[dptr d, .string name, .int .u64 cnt, .int .u64 t, .int .u64 v, .bool ov] 75 := h
  obtain ⟨_, c1, _⟩ := hb.six
  have ha := and1 k hk
  have hs1 : (name ++ (⟨#[46]⟩ : ByteArray)).size ≤ 5 := by rw [ByteArray.size_append]; show name.size + 1 ≤ 5; omega
  have hs2 : (strOfNums [48 + (k : Int) % 2]).size ≤ 1 := by simp [strOfNums, ByteArray.size]
  clear h hb
  go_enter Tryd.func30, Tryd.ntmps30
  go_upto_region 1 with fail
  apply Mono.region1 13 Ext [.is _, .is _, .is _, .is _, .is _, .is _, .is _, .is _, .is _, .rel (New1 w.heap.size (.int .u8 (48 + ((k % 2 : Nat) : Int)))), .is _, .is _, .is _] (by kernel_rfl) Ext.refl (fun _ _ _ => Ext.trans) (by kernel_rfl) rfl rfl ⟨fun v w w' h hE => New1.ext h hE, trivial⟩
  focus
    iterate 9 (apply Mono.step_is; (· refine Mono.obl_mk fun w5 hE5 _ K hK => ?_; (have k1 := hE5.cell (show w.drew.cell? _ = _ from c1)); clear hE5; go_wp2_with fail; simp only [Act.put, List.setIfInBounds_toArray, List.set_cons_succ, List.set_cons_zero] at hK; exact hK _ _ (Ext.refl _) (Mono.is_rfl _ _)); simp only [Act.put, List.setIfInBounds_toArray, List.set_cons_succ, List.set_cons_zero])
    apply Mono.step_rel
    · refine Mono.obl_mk fun w5 hE5 _ K hK => ?_
      go_wp2_with fail
      simp only [Act.put, List.setIfInBounds_toArray, List.set_cons_succ, List.set_cons_zero] at hK
      exact hK _ _ (Ext.alloc _ _) (Mono.rel_mk (New1.new _ _ hE5.size))
    intro sv
    simp only [Act.put, List.setIfInBounds_toArray, List.set_cons_succ, List.set_cons_zero]
    apply Mono.step_is
    · refine Mono.obl_mk fun w5 hE5 hkn K hK => ?_
      have hn := hkn.1 (by kernel_rfl)
      have kx := HCV.out w5 _ _ hn.rd
      clear hn hkn hE5
      go_wp2_with fail
      simp only [Act.put, List.setIfInBounds_toArray, List.set_cons_succ, List.set_cons_zero] at hK
      exact hK _ _ (Ext.refl _) (Mono.is_rfl _ _)
    simp only [Act.put, List.setIfInBounds_toArray, List.set_cons_succ, List.set_cons_zero]
    iterate 2 (apply Mono.step_is; (· refine Mono.obl_mk fun w5 hE5 _ K hK => ?_; clear hE5; go_wp2_with fail; simp only [Act.put, List.setIfInBounds_toArray, List.set_cons_succ, List.set_cons_zero] at hK; exact hK _ _ (Ext.refl _) (Mono.is_rfl _ _)); simp only [Act.put, List.setIfInBounds_toArray, List.set_cons_succ, List.set_cons_zero])
    refine Mono.step_end fun w5 hE5 hkn => ?_
    simp only [List.drop_succ_cons, List.drop_zero]
    clear hkn
    have hE : Ext w w5 := (Ext.drew _).trans hE5
    go_wp2_with fail
    go_ret
    exact ⟨by rw [← cfile_eq]; rfl, hE⟩
end Go.Proofs.YtapclkjpokbgbaaDoor
