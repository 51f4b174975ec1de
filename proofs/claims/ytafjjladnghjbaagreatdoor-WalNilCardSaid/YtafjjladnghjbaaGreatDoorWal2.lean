/- Layer 9 (wal): gather on an empty disk. -/
import Derived.Test.YtafjjladnghjbaaGreatDoorWal1
import Derived.Test.YtafjjladnghjbaaGreatDoorDskm
namespace Go.Proofs.YtafjjladnghjbaaGreatDoor
open Go Go.RowKit Go.Maps

set_option maxHeartbeats 400000 in
theorem wins_nil (fv : Value) (w : World) : Calls Tryz.prog 128 #[.slice none 0 0, .int .i64 0, .int .i64 0, fv] w fun e w' => e = .returned (.tuple #[]) ∧ w' = w := by
  go_enter Tryz.func128, Tryz.ntmps128
  go_wp2_with fail
  go_loopg [8] 1 (fun gg v8 wr => v8 = .int .i64 1 ∧ wr = w)
  case atStart => exact ⟨rfl, rfl⟩
  case round =>
    obtain ⟨rfl, rfl⟩ := hrel
    go_wp2_with fail
    exact ⟨rfl, _, results_none rfl _ _ _, rfl, rfl⟩
set_option maxRecDepth 100000 in
set_option maxHeartbeats 400000 in
theorem wpdq_nil (lim fv : Value) (w : World) : Calls Tryz.prog 106 #[.slice none 0 0, .int .i64 0, .int .i64 0, lim, fv] w fun e w' => e = .returned (.tuple #[]) ∧ w' = w := by
  go_enter Tryz.func106, Tryz.ntmps106
  go_wp2_with fail
  go_loopg [1, 2] 1 (fun gg v1 v2 wr => v1 = .int .i64 0 ∧ v2 = .int .i64 0 ∧ wr = w)
  case atStart => exact ⟨rfl, rfl, rfl⟩
  case round =>
    obtain ⟨rfl, rfl, rfl⟩ := hrel
    go_wp2_with fail
    refine (wins_nil _ _).mono ?_
    rintro e w1 ⟨rfl, rfl⟩
    go_wp2_with fail
    exact ⟨rfl, _, results_none rfl _ _ _, rfl, rfl⟩
set_option maxHeartbeats 400000 in
theorem wsort_nil (fv : Value) (w : World) : Calls Tryz.prog 77 #[.slice none 0 0, fv] w fun e w' => e = .returned (.tuple #[]) ∧ w' = w := by
  go_enter Tryz.func77, Tryz.ntmps77
  go_wp2_with fail
  refine (Tryz.bits_Len 0 w (by decide) (by decide)).mono ?_
  rintro e w1 ⟨rfl, rfl⟩
  go_wp2_with fail
  refine (wpdq_nil _ _ _).mono ?_
  rintro e w1 ⟨rfl, rfl⟩
  go_wp2_with fail
  exact ⟨rfl, _, results_none rfl _ _ _, rfl, rfl⟩
/-- A log in memory. -/
def LogB (w : World) (l d : Nat) (name : ByteArray) (first : Int) (recs segs : Value) (last : Int) (over : Bool) : Prop :=
  Blk w l #[dptr d, .string name, .int .u64 first, recs, segs, .int .i64 last, .bool over] 64
theorem own_nil_len {w : World} {B : Nat} {e : TypeId} {s : Nat} {v : Value} {cs : List Value} (h : w.ownsRow B e s v 0 cs) : ∃ a c, v = .slice a 0 c := by
  rcases h.2 with ⟨rfl, -⟩ | ⟨g, cap, cur, rfl, -⟩
  · exact ⟨_, _, rfl⟩
  · exact ⟨_, _, rfl⟩
set_option maxRecDepth 100000 in
set_option maxHeartbeats 2000000 in
theorem wgather_nil (l d n M : Nat) (O F : List Nat) (S : Dk) (name : ByteArray) (first last : Int) (recs segs : Value) (ov : Bool) (w : World) (hB : LogB w l d name first recs segs last ov) (hD : DkS w d n M O F S) (hn : n < 1000000000) (h0 : S.now = []) (h1 : S.waits = []) :
    Calls Tryz.prog 37 #[lptr l] w fun e w' => e = .returned (.tuple #[]) ∧ Ext w w' := by
  have hmm := @run_makeMap Tryz.prog
  have c0 : w.cell? ⟨l, 0, none⟩ = some (dptr d) := (show Blk w l _ _ from hB).cell 0 rfl
  have c2 : w.cell? ⟨l, 2, none⟩ = some (.int .u64 first) := (show Blk w l _ _ from hB).cell 2 rfl
  have HB := Lib.hid hB; have HD := Lib.hid hD; have H0 := Lib.hid h0; have H1 := Lib.hid h1
  have hE0 := Ext.alloc w (.map #[] 0)
  have d0 := hE0.cell c0
  have HE0 := Lib.hid hE0
  clear hB hD h0 h1 hE0
  go_enter Tryz.func37, Tryz.ntmps37
  go_wp2_with fail
  refine (list_c d n M O F S _ (HD.out.ext HE0.out) hn).mono ?_
  rintro e w1 ⟨v, rfl, hro, hE1⟩
  rw [H0.out] at hro
  obtain ⟨a, c, rfl⟩ := own_nil_len hro
  have HE1 := Lib.hid (HE0.out.trans hE1)
  have e2 := HE1.out.cell c2
  have e0 := HE1.out.cell c0
  clear hro hE1 d0 c2 hmm
  go_wp2_with fail
  go_loopg [2, 36] 1 (fun gg v2 v36 wr => v2 = .slice none 0 0 ∧ v36 = .int .i64 0 ∧ wr = w1)
  case atStart => exact ⟨rfl, rfl, rfl⟩
  case round =>
    obtain ⟨rfl, rfl, rfl⟩ := hrel
    go_wp2_with fail
    refine (wsort_nil _ _).mono ?_
    rintro e w2 ⟨rfl, rfl⟩
    go_wp2_with fail
    go_loopg [156] 1 (fun gg v156 wr => v156 = .int .i64 0 ∧ wr = w2)
    case atStart => exact ⟨rfl, rfl⟩
    case round =>
      obtain ⟨rfl, rfl⟩ := hrel
      go_wp2_with fail
      refine (list_c d n M O F S _ (HD.out.ext HE1.out) hn).mono ?_
      rintro e w3 ⟨v, rfl, hro, hE3⟩
      rw [H0.out] at hro
      obtain ⟨a3, c3, rfl⟩ := own_nil_len hro
      have HE3 := Lib.hid (HE1.out.trans hE3)
      have g0 := HE3.out.cell c0
      clear hro hE3 e0 e2 c0
      go_wp2_with fail
      go_loopg [248] 1 (fun gg v248 wr => v248 = .int .i64 0 ∧ wr = w3)
      case atStart => exact ⟨rfl, rfl⟩
      case round =>
        obtain ⟨rfl, rfl⟩ := hrel
        go_wp2_with fail
        refine (waiting_c d n M O F S _ (HD.out.ext HE3.out)).mono ?_
        rintro e w4 ⟨rfl, rfl⟩
        rw [H1.out]
        go_wp2_with fail
        exact ⟨rfl, _, results_none rfl _ _ _, rfl, HE3.out⟩
end Go.Proofs.YtafjjladnghjbaaGreatDoor
