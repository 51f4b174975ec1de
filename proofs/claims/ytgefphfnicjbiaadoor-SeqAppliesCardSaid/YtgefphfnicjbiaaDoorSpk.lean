/- Layer 25 (seq): tabellionlaw25.spoil. -/
import Derived.Test.YtgefphfnicjbiaaDoorBun3
import Derived.Test.YtgefphfnicjbiaaDoorSku
set_option linter.unusedSimpArgs false
set_option linter.unusedVariables false
namespace Go.Proofs.YtgefphfnicjbiaaDoor
open Go Go.RowKit

/-- The blocks from B on. -/
def upFrom (B : Nat) (w : World) : List Nat := (List.range w.heap.size).filter fun t => decide (B ≤ t)
theorem mem_upFrom {B t : Nat} {w : World} : t ∈ upFrom B w ↔ t < w.heap.size ∧ B ≤ t := by simp [upFrom]
theorem SlB.mem {B : Nat} {w : World} {e : TypeId} {v : Value} (h : SlB B w e v) {a : Addr} {n c : Nat} (hv : v = .slice (some a) n c) : a.block ∈ upFrom B w ∧ UnB w a.block := by
  obtain ⟨h1, cur, h2⟩ := h a n c hv
  exact ⟨mem_upFrom.2 ⟨h2.lt, h1⟩, cur, e, h2⟩
/-- The leaves of a new book. -/
def SpLf (S : List Nat) (w : World) (a : Option Addr) (n : Nat) : Prop := ∀ i, i < n → ∃ b o, a = some ⟨b, o, none⟩ ∧ ∃ da dn dc, w.cell? ⟨b, o + i, none⟩ = some (.slice da dn dc) ∧ dc ≤ 9223372036854775807 ∧ dn ≤ dc ∧ SpL S w .u8 da dn
/-- A client's slots. -/
def SpSl (S : List Nat) (w : World) (a : Option Addr) (n : Nat) : Prop := ∀ j, j < n → ∃ b o, a = some ⟨b, o, none⟩ ∧ b ∈ S ∧ UnB w b ∧ ∃ x, w.cell? ⟨b, o + j * 2 + 1, none⟩ = some (.int .u64 x)
def SpCl (S : List Nat) (w : World) (a : Option Addr) (n : Nat) : Prop := ∀ i, i < n → ∃ b o, a = some ⟨b, o, none⟩ ∧ b ∈ S ∧ UnB w b ∧ (∃ x, w.cell? ⟨b, o + i * 2, none⟩ = some (.int .u64 x)) ∧
  ∃ da dn dc, w.cell? ⟨b, o + i * 2 + 1, none⟩ = some (.slice da dn dc) ∧ dc ≤ 9223372036854775807 ∧ dn ≤ dc ∧ SpSl S w da dn
theorem Loose.spSl {S : List Nat} {w w' : World} {a : Option Addr} {n : Nat} (h : Loose S w w') (k : SpSl S w a n) : SpSl S w' a n := fun j hj => by
  obtain ⟨b, o, e, h1, h2, h3⟩ := k j hj
  exact ⟨b, o, e, h1, h.un b h2, h.u64 h3⟩
theorem NewBk.sp {B : Nat} {w : World} {v : Value} {b : Bk} (h : NewBk B w v b) : ∃ la N lc ca M cc, v = .agg #[.slice la N lc, .slice ca M cc] ∧ (N ≤ lc ∧ lc ≤ 9223372036854775807) ∧ (M ≤ cc ∧ cc ≤ 9223372036854775807) ∧ SpLf (upFrom B w) w la N ∧ SpCl (upFrom B w) w ca M := by
  obtain ⟨lv, cv, L, C, rfl, hL, hC, h3, h4, h5, h6, s1, s2, s3, s4⟩ := h
  obtain ⟨la, lc, rfl, hl1, hl2⟩ := h3.shape
  obtain ⟨ca, cc, rfl, hc1, hc2⟩ := h4.shape
  rw [List.length_map] at hl1 hc1 h3 h4 s1 s2 ⊢
  rw [List.length_map]
  refine ⟨la, _, lc, ca, _, cc, rfl, ⟨hl1, hl2⟩, ⟨hc1, hc2⟩, fun i hi => ?_, fun i hi => ?_⟩
  · obtain ⟨q, hq⟩ : ∃ q, L[i]? = some q := ⟨_, List.getElem?_eq_getElem hi⟩
    obtain ⟨g, o, rfl, k1⟩ := h3.cells1 hq
    have hm := List.mem_of_getElem? hq
    have hs := s3 q hm
    obtain ⟨da, dc, hv, hd1, hd2, hd3⟩ := h5 q hm
    rw [u8s_len] at hv hd1
    refine ⟨g, o, rfl, da, _, dc, by rw [k1, hv], by unfold maxLen at hd2; exact hd2, hd1, ?_⟩
    rcases hd3 with hd3 | ⟨db, dof, rfl, hc⟩
    · left; have := congrArg List.length hd3; rw [u8s_len] at this; exact this
    · obtain ⟨hm1, hm2⟩ := hs.mem hv
      refine .inr ⟨db, dof, rfl, hm1, hm2, fun j hj => ⟨_, hc j (.int .u8 (q.1[j]'hj)) ?_⟩⟩
      simp [u8s, hj]
  · obtain ⟨q, hq⟩ : ∃ q, C[i]? = some q := ⟨_, List.getElem?_eq_getElem hi⟩
    obtain ⟨g, o, rfl, k1⟩ := h4.cells2 hq
    have hm := List.mem_of_getElem? hq
    obtain ⟨hm1, hm2⟩ := s2.mem rfl
    have q0 := k1 0 _ rfl; have q1 := k1 1 _ rfl
    obtain ⟨da, dc, hv, hd1, hd2⟩ := RowV.shape (show RowV w 2 q.2 (q.1.slots.map slR) from h6 q hm)
    rw [List.length_map] at hv hd1
    refine ⟨g, o, rfl, hm1, hm2, ⟨_, q0⟩, da, _, dc, by rw [q1, hv], hd2, hd1, fun j hj => ?_⟩
    obtain ⟨x, hx⟩ : ∃ x, q.1.slots[j]? = some x := ⟨_, List.getElem?_eq_getElem hj⟩
    have h6' := h6 q hm
    unfold ClV at h6'
    rw [hv] at h6'
    obtain ⟨sb, so, rfl, k2⟩ := h6'.cells2 hx
    obtain ⟨hm3, hm4⟩ := (s4 q hm).mem hv
    exact ⟨sb, so, rfl, hm3, hm4, _, k2 1 _ rfl⟩
set_option maxRecDepth 100000 in
set_option maxHeartbeats 4000000 in
theorem spoil25_c {B : Nat} {w : World} {v : Value} {b : Bk} (h : NewBk B w v b) :
    Calls Tryd.prog 15 #[v] w fun e w' => e = .returned (.tuple #[]) ∧ Chg (upFrom B w) w w' := by
  obtain ⟨la, N, lc, ca, M, cc, rfl, ⟨hl1, hl2⟩, ⟨hc1, hc2⟩, hLf, hCl⟩ := h.sp
  obtain ⟨S, hS⟩ : ∃ S, S = upFrom B w := ⟨_, rfl⟩
  rw [← hS] at hLf hCl ⊢
  have hE0 := Ext.alloc w (.cells #[.slice la N lc, .slice ca M cc] 25)
  have hB0 := Blk.new w #[.slice la N lc, .slice ca M cc] 25
  have hPS : w.heap.size ∉ S := fun hm => by rw [hS] at hm; have := (mem_upFrom.1 hm).1; omega
  have HLF : Hid (SpLf S (w.alloc (.cells #[.slice la N lc, .slice ca M cc] 25)) la N) := Lib.hid fun i hi => by
    obtain ⟨g, o, e, da, dn, dc, k1, k2, k3, k4⟩ := hLf i hi
    exact ⟨g, o, e, da, dn, dc, hE0.cell k1, k2, k3, (Loose.ext hE0 (S := S)).spL.1 k4⟩
  have HCL : Hid (SpCl S (w.alloc (.cells #[.slice la N lc, .slice ca M cc] 25)) ca M) := Lib.hid fun i hi => by
    obtain ⟨g, o, e, h1, h2, ⟨x, hx⟩, da, dn, dc, k1, k2, k3, k4⟩ := hCl i hi
    exact ⟨g, o, e, h1, h2.ext hE0, ⟨x, hE0.cell hx⟩, da, dn, dc, hE0.cell k1, k2, k3, (Loose.ext hE0 (S := S)).spSl k4⟩
  have HE0 := Lib.hid hE0
  clear h hLf hCl hE0 hS
  go_enter Tryd.func15, Tryd.ntmps15
  go_upto_region 1 with fail
  obtain ⟨P, hP⟩ : ∃ P, P = w.heap.size := ⟨_, rfl⟩
  rw [← hP] at hB0 hPS ⊢
  generalize w.alloc (.cells #[.slice la N lc, .slice ca M cc] 25) = w0 at *
  have HB := Lib.hid hB0; have HPS := Lib.hid hPS
  clear hB0 hPS hP
  go_wp2_with fail
  go_loopg [2, 3] N (fun g i i3 wr => ∃ (k : Nat), k + g = N ∧ i = .int .i64 (k : Int) ∧ Loose S w0 wr)
  case atStart => exact ⟨0, by omega, rfl, Loose.refl S w0⟩
  case round =>
    obtain ⟨k, hk, rfl, hL⟩ := hrel
    have HL := Lib.hid hL
    have c0 := (HB.out.chg hL.chg HPS.out).cell 0 rfl
    clear hL
    simp only [List.getElem_toArray, List.getElem_cons_zero] at c0
    by_cases hlt : k < N
    · have hlt' : (k : Int) < (N : Int) := by omega
      obtain ⟨lb, lo, rfl, da, dn, dc, hd1, hd2, hd3, hd4⟩ := HLF.out k hlt
      have HD1 := Lib.hid hd1; have HD4 := Lib.hid hd4
      clear hd1 hd4
      go_wp2_with fail
      clear c0
      go_loopg [3] dn (fun g i wx => ∃ (j : Nat), j + g = dn ∧ i = .int .i64 (j : Int) ∧ Loose S w0 wx)
      case atStart => exact ⟨0, by omega, rfl, HL.out⟩
      case round =>
        clear HL
        obtain ⟨j, hj, rfl, hL⟩ := hrel
        have HL := Lib.hid hL
        have c0 := (HB.out.chg hL.chg HPS.out).cell 0 rfl
        have c4 := hL.slice HD1.out
        clear hL
        simp only [List.getElem_toArray, List.getElem_cons_zero] at c0
        by_cases hjt : j < dn
        · have hjt' : (j : Int) < (dn : Int) := by omega
          obtain ⟨db, dof, rfl, hdb⟩ : ∃ b o, da = some ⟨b, o, none⟩ ∧ b ∈ S ∧ UnB w0 b ∧ ∃ x, w0.cell? ⟨b, o + j, none⟩ = some (.int .u8 x) := by
            rcases HD4.out with h0 | ⟨b, o, e, h1, h2, h3⟩
            · omega
            · exact ⟨b, o, e, h1, h2, h3 j hjt⟩
          obtain ⟨x, hx⟩ := HL.out.u8 hdb.2.2
          have hf := (HL.out.un _ hdb.2.1).free (dof + j)
          have HDB := Lib.hid hdb; have HXX := Lib.hid hx
          clear hdb
          go_wp2_with fail
          clear c0 c4 hf hx
          go_roundg (dn - (j + 1))
          case rel => exact ⟨j + 1, by omega, rfl, HL.out.set HDB.out.1 HDB.out.2.1 HXX.out (.inr (.inl ⟨_, _, rfl, rfl⟩))⟩
          case measure => omega
        · have hjt' : ¬ ((j : Int) < (dn : Int)) := by omega
          clear hj
          go_wp2_with fail
          clear c0 c4 hjt
          go_roundg (N - (k + 1))
          case rel => exact ⟨k + 1, by omega, rfl, HL.out⟩
          case measure => omega
    · have hlt' : ¬ ((k : Int) < (N : Int)) := by omega
      clear hk
      go_wp2_with fail
      clear c0 hlt
      go_loopg [4, 5] M (fun g i i3 wr => ∃ (k : Nat), k + g = M ∧ i = .int .i64 (k : Int) ∧ Loose S w0 wr)
      case atStart => exact ⟨0, by omega, rfl, HL.out⟩
      case round =>
        clear HL
        obtain ⟨k, hk, rfl, hL⟩ := hrel
        have HL := Lib.hid hL
        have c1 := (HB.out.chg hL.chg HPS.out).cell 1 rfl
        clear hL
        simp only [List.getElem_toArray, List.getElem_cons_succ, List.getElem_cons_zero] at c1
        by_cases hlt : k < M
        · have hlt' : (k : Int) < (M : Int) := by omega
          obtain ⟨cb, co, rfl, hcS, hcU, hx0, da, dn, dc, hd1, hd2, hd3, hd4⟩ := HCL.out k hlt
          have HD1 := Lib.hid hd1; have HD4 := Lib.hid hd4; have HCS := Lib.hid hcS; have HCU := Lib.hid hcU; have HX0 := Lib.hid hx0
          clear hd1 hd4 hcS hcU hx0
          go_wp2_with fail
          clear c1
          go_loopg [5] dn (fun g i wx => ∃ (j : Nat), j + g = dn ∧ i = .int .i64 (j : Int) ∧ Loose S w0 wx)
          case atStart => exact ⟨0, by omega, rfl, HL.out⟩
          case round =>
            clear HL
            obtain ⟨j, hj, rfl, hL⟩ := hrel
            have HL := Lib.hid hL
            have c1 := (HB.out.chg hL.chg HPS.out).cell 1 rfl
            have c4 := hL.slice HD1.out
            clear hL
            simp only [List.getElem_toArray, List.getElem_cons_succ, List.getElem_cons_zero] at c1
            by_cases hjt : j < dn
            · have hjt' : (j : Int) < (dn : Int) := by omega
              obtain ⟨db, dof, rfl, hdb⟩ := HD4.out j hjt
              obtain ⟨x, hx⟩ := HL.out.u64 hdb.2.2
              have hf := (HL.out.un _ hdb.2.1).free (dof + j * 2 + 1)
              have HDB := Lib.hid hdb; have HXX := Lib.hid hx
              clear hdb
              go_wp2_with fail
              clear c1 c4 hf hx
              go_roundg (dn - (j + 1))
              case rel => exact ⟨j + 1, by omega, rfl, HL.out.set HDB.out.1 HDB.out.2.1 HXX.out (.inr (.inr ⟨_, _, rfl, rfl⟩))⟩
              case measure => omega
            · have hjt' : ¬ ((j : Int) < (dn : Int)) := by omega
              obtain ⟨x, hx⟩ := HL.out.u64 HX0.out
              have hf := (HL.out.un _ HCU.out).free (co + k * 2)
              have HXX := Lib.hid hx
              clear hj
              go_wp2_with fail
              clear c1 c4 hjt hf hx
              go_roundg (M - (k + 1))
              case rel => exact ⟨k + 1, by omega, rfl, HL.out.set HCS.out HCU.out HXX.out (.inr (.inr ⟨_, _, rfl, rfl⟩))⟩
              case measure => omega
        · have hlt' : ¬ ((k : Int) < (M : Int)) := by omega
          clear hk
          go_wp2_with fail
          have hC := (Chg.ext HE0.out : Chg S w w0).trans HL.out.chg
          exact bodyPost_end (results_none Tryd.results15 _ _ _) rfl ⟨rfl, hC⟩
end Go.Proofs.YtgefphfnicjbiaaDoor
