/- tabellionlaw19: spoil. -/
import Derived.Test.YtjodgbabfhcilaaBun10
set_option linter.unusedSimpArgs false
set_option linter.unusedVariables false
namespace Go.Proofs.Ytjodgbabfhcilaa
open Go Go.RowKit Go.Maps

set_option maxRecDepth 100000 in
set_option maxHeartbeats 4000000 in
theorem spoil_c {S : List Nat} {w : World} {v : Value} {M : Msg} (h : MsgR (· ∈ S) w v M) (hu : MsgU w v) (hS : ∀ t ∈ S, t < w.heap.size) :
    Calls Try.prog 15 #[v] w fun e w' => e = .returned (.tuple #[]) ∧ Chg S w w' := by
  obtain ⟨ea, N, ec, ma, n, mc, ia, m, ic, rfl, ⟨he1, he2, hE⟩, ⟨hm1, hm2, hM⟩, hi1, hi2, hI⟩ := h.sp hu
  obtain ⟨w0, hw0⟩ : ∃ w0, w0 = w.alloc (.cells #[.int .i64 M.kind, .int .u64 M.src, .int .u64 M.dst, .int .u64 M.term, .int .u64 M.index, .int .u64 M.logTerm, .int .u64 M.commit, .int .u64 M.stamp, .bool M.yes, .slice ea N ec, .slice ma n mc, .slice ia m ic] 34) := ⟨_, rfl⟩
  have hE0 : Ext w w0 := by rw [hw0]; exact Ext.alloc _ _
  have HB0 := Lib.hid (show Blk w0 w.heap.size #[.int .i64 M.kind, .int .u64 M.src, .int .u64 M.dst, .int .u64 M.term, .int .u64 M.index, .int .u64 M.logTerm, .int .u64 M.commit, .int .u64 M.stamp, .bool M.yes, .slice ea N ec, .slice ma n mc, .slice ia m ic] 34 from by rw [hw0]; exact Blk.new _ _ _)
  have HSP := Lib.hid (show w.heap.size ∉ S from fun hm => by have := hS _ hm; omega)
  have HE := Lib.hid ((Loose.ext hE0 (S := S)).spE hE); have HM := Lib.hid ((Loose.ext hE0 (S := S)).spL.2 hM); have HI := Lib.hid ((Loose.ext hE0 (S := S)).spL.1 hI)
  have HX0 := Lib.hid hE0; have HW := Lib.hid hw0
  unfold maxLen at he1 hm1 hi1
  clear h hu hS hE hM hI hE0 hw0
  simp only [mCells]
  go_enter Try.func15, Try.ntmps15
  go_upto_region 1 with fail
  rw [← HW.out]
  obtain ⟨P, hP⟩ : ∃ P, P = w.heap.size := ⟨_, rfl⟩
  rw [← hP]
  have hp := HB0.out; have hp2 := HSP.out
  rw [← hP] at hp hp2
  have HB := Lib.hid hp; have HPS := Lib.hid hp2
  clear hp hp2 hP HW HSP HB0
  go_wp2_with fail
  go_loopg [2, 3, 4] N (fun g i i3 i4 wr => ∃ (k : Nat), k + g = N ∧ i = .int .i64 (k : Int) ∧ Loose S w0 wr)
  case atStart => exact ⟨0, by omega, rfl, Loose.refl S w0⟩
  case round =>
    obtain ⟨k, hk, rfl, hL⟩ := hrel
    have HL := Lib.hid hL
    have c9 := (HB.out.chg hL.chg HPS.out).cell 9 rfl
    clear hL
    simp only [List.getElem_toArray, List.getElem_cons_succ, List.getElem_cons_zero] at c9
    by_cases hlt : k < N
    · obtain ⟨eb, eo, rfl, heb⟩ : ∃ eb eo, ea = some ⟨eb, eo, none⟩ ∧ eb ∈ S ∧ UnB w0 eb ∧ (∃ x, w0.cell? ⟨eb, eo + k * 6, none⟩ = some (.int .u64 x)) ∧
          (∃ da dn dc, w0.cell? ⟨eb, eo + k * 6 + 4, none⟩ = some (.slice da dn dc) ∧ dc ≤ maxLen ∧ dn ≤ dc ∧ SpL S w0 .u8 da dn) ∧ ∃ da dn dc, w0.cell? ⟨eb, eo + k * 6 + 5, none⟩ = some (.slice da dn dc) ∧ dc ≤ maxLen ∧ dn ≤ dc ∧ SpL S w0 .u64 da dn := by
        rcases HE.out with h0 | ⟨eb, eo, e, h1, h2, h3⟩
        · omega
        · exact ⟨eb, eo, e, h1, h2, h3 k hlt⟩
      obtain ⟨hebS, hebU, hx0, ⟨da, dn, dc, hd4, hd1, hd2, hd3⟩, qa, qn, qc, hq4, hq1, hq2, hq3⟩ := heb
      have HS1 := Lib.hid hebS; have HU1 := Lib.hid hebU; have HX := Lib.hid hx0; have HD4 := Lib.hid hd4; have HD3 := Lib.hid hd3; have HQ4 := Lib.hid hq4; have HQ3 := Lib.hid hq3
      unfold maxLen at hd1 hq1
      clear hebS hebU hx0 hd4 hd3 hq4 hq3
      go_wp2_with fail
      clear c9
      go_loopg [3] dn (fun g i wx => ∃ (j : Nat), j + g = dn ∧ i = .int .i64 (j : Int) ∧ Loose S w0 wx)
      case atStart => exact ⟨0, by omega, rfl, HL.out⟩
      case round =>
        clear HL
        obtain ⟨j, hj, rfl, hL⟩ := hrel
        have HL := Lib.hid hL
        have c9 := (HB.out.chg hL.chg HPS.out).cell 9 rfl
        have c4 := hL.slice HD4.out
        clear hL
        simp only [List.getElem_toArray, List.getElem_cons_succ, List.getElem_cons_zero] at c9
        by_cases hjt : j < dn
        · obtain ⟨db, dof, rfl, hdb⟩ : ∃ b o, da = some ⟨b, o, none⟩ ∧ b ∈ S ∧ UnB w0 b ∧ ∃ x, w0.cell? ⟨b, o + j, none⟩ = some (.int .u8 x) := by
            rcases HD3.out with h0 | ⟨b, o, e, h1, h2, h3⟩
            · omega
            · exact ⟨b, o, e, h1, h2, h3 j hjt⟩
          obtain ⟨x, hx⟩ := HL.out.u8 hdb.2.2
          have hf := (HL.out.un _ hdb.2.1).free (dof + j)
          have HDB := Lib.hid hdb; have HXX := Lib.hid hx
          clear hdb
          go_wp2_with fail
          clear c9 c4 hf hx
          go_roundg (dn - (j + 1))
          case rel => exact ⟨j + 1, by omega, rfl, HL.out.set HDB.out.1 HDB.out.2.1 HXX.out (.inr (.inl ⟨_, _, rfl, rfl⟩))⟩
          case measure => omega
        · clear hj
          go_wp2_with fail
          clear c9 c4 hjt
          go_loopg [4] qn (fun g i wx => ∃ (j : Nat), j + g = qn ∧ i = .int .i64 (j : Int) ∧ Loose S w0 wx)
          case atStart => exact ⟨0, by omega, rfl, HL.out⟩
          case round =>
            clear HL
            obtain ⟨j, hj, rfl, hL⟩ := hrel
            have HL := Lib.hid hL
            have c9 := (HB.out.chg hL.chg HPS.out).cell 9 rfl
            have c5 := hL.slice HQ4.out
            clear hL
            simp only [List.getElem_toArray, List.getElem_cons_succ, List.getElem_cons_zero] at c9
            by_cases hjt : j < qn
            · obtain ⟨db, dof, rfl, hdb⟩ : ∃ b o, qa = some ⟨b, o, none⟩ ∧ b ∈ S ∧ UnB w0 b ∧ ∃ x, w0.cell? ⟨b, o + j, none⟩ = some (.int .u64 x) := by
                rcases HQ3.out with h0 | ⟨b, o, e, h1, h2, h3⟩
                · omega
                · exact ⟨b, o, e, h1, h2, h3 j hjt⟩
              obtain ⟨x, hx⟩ := HL.out.u64 hdb.2.2
              have hf := (HL.out.un _ hdb.2.1).free (dof + j)
              have HDB := Lib.hid hdb; have HXX := Lib.hid hx
              clear hdb
              go_wp2_with fail
              clear c9 c5 hf hx
              go_roundg (qn - (j + 1))
              case rel => exact ⟨j + 1, by omega, rfl, HL.out.set HDB.out.1 HDB.out.2.1 HXX.out (.inr (.inr ⟨_, _, rfl, rfl⟩))⟩
              case measure => omega
            · obtain ⟨x, hx⟩ := HL.out.u64 HX.out
              have hf := (HL.out.un _ HU1.out).free (eo + k * 6)
              have HXX := Lib.hid hx
              clear hj
              go_wp2_with fail
              clear c9 c5 hjt hf hx
              go_roundg (N - (k + 1))
              case rel => exact ⟨k + 1, by omega, rfl, HL.out.set HS1.out HU1.out HXX.out (.inr (.inr ⟨_, _, rfl, rfl⟩))⟩
              case measure => omega
    · clear hk
      go_wp2_with fail
      clear c9 hlt
      go_loopg [5] n (fun g i wx => ∃ (j : Nat), j + g = n ∧ i = .int .i64 (j : Int) ∧ Loose S w0 wx)
      case atStart => exact ⟨0, by omega, rfl, HL.out⟩
      case round =>
        clear HL
        obtain ⟨j, hj, rfl, hL⟩ := hrel
        have HL := Lib.hid hL
        have c10 := (HB.out.chg hL.chg HPS.out).cell 10 rfl
        clear hL
        simp only [List.getElem_toArray, List.getElem_cons_succ, List.getElem_cons_zero] at c10
        by_cases hjt : j < n
        · obtain ⟨db, dof, rfl, hdb⟩ : ∃ b o, ma = some ⟨b, o, none⟩ ∧ b ∈ S ∧ UnB w0 b ∧ ∃ x, w0.cell? ⟨b, o + j, none⟩ = some (.int .u64 x) := by
            rcases HM.out with h0 | ⟨b, o, e, h1, h2, h3⟩
            · omega
            · exact ⟨b, o, e, h1, h2, h3 j hjt⟩
          obtain ⟨x, hx⟩ := HL.out.u64 hdb.2.2
          have hf := (HL.out.un _ hdb.2.1).free (dof + j)
          have HDB := Lib.hid hdb; have HXX := Lib.hid hx
          clear hdb
          go_wp2_with fail
          clear c10 hf hx
          go_roundg (n - (j + 1))
          case rel => exact ⟨j + 1, by omega, rfl, HL.out.set HDB.out.1 HDB.out.2.1 HXX.out (.inr (.inr ⟨_, _, rfl, rfl⟩))⟩
          case measure => omega
        · clear hj
          go_wp2_with fail
          clear c10 hjt
          go_loopg [6] m (fun g i wx => ∃ (j : Nat), j + g = m ∧ i = .int .i64 (j : Int) ∧ Loose S w0 wx)
          case atStart => exact ⟨0, by omega, rfl, HL.out⟩
          case round =>
            clear HL
            obtain ⟨j, hj, rfl, hL⟩ := hrel
            have HL := Lib.hid hL
            have c11 := (HB.out.chg hL.chg HPS.out).cell 11 rfl
            clear hL
            simp only [List.getElem_toArray, List.getElem_cons_succ, List.getElem_cons_zero] at c11
            by_cases hjt : j < m
            · obtain ⟨db, dof, rfl, hdb⟩ : ∃ b o, ia = some ⟨b, o, none⟩ ∧ b ∈ S ∧ UnB w0 b ∧ ∃ x, w0.cell? ⟨b, o + j, none⟩ = some (.int .u8 x) := by
                rcases HI.out with h0 | ⟨b, o, e, h1, h2, h3⟩
                · omega
                · exact ⟨b, o, e, h1, h2, h3 j hjt⟩
              obtain ⟨x, hx⟩ := HL.out.u8 hdb.2.2
              have hf := (HL.out.un _ hdb.2.1).free (dof + j)
              have HDB := Lib.hid hdb; have HXX := Lib.hid hx
              clear hdb
              go_wp2_with fail
              clear c11 hf hx
              go_roundg (m - (j + 1))
              case rel => exact ⟨j + 1, by omega, rfl, HL.out.set HDB.out.1 HDB.out.2.1 HXX.out (.inr (.inl ⟨_, _, rfl, rfl⟩))⟩
              case measure => omega
            · clear hj
              go_wp2_with fail
              exact bodyPost_end (results_none Try.results15 _ _ _) rfl ⟨rfl, (Chg.ext HX0.out : Chg S w w0).trans HL.out.chg⟩
end Go.Proofs.Ytjodgbabfhcilaa
