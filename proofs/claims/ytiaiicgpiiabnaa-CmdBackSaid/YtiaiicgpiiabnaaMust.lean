/- cmd's must and ought. -/
import Derived.Test.YtiaiicgpiiabnaaRdr
namespace Go.Proofs.Ytiaiicgpiiabnaa
open Go Go.RowKit

set_option maxHeartbeats 400000 in
theorem must_u64 (v : Value) (e : Int) (w : World) : Calls Try.prog 30 #[v, .int .i64 e] w fun en w' => w' = w ∧ en = if e = 0 then .returned v else thrown e := by
  by_cases he : e = 0
  · subst he
    go_enter Try.func30, Try.ntmps30
    go_wp2
    go_ret
    exact ⟨rfl, rfl⟩
  · have hb : (e != 0) = true := by simpa using he
    simp only [if_neg he]
    go_enter Try.func30, Try.ntmps30
    go_wp2
    exact ⟨rfl, rfl, rfl⟩

set_option maxHeartbeats 400000 in
theorem must_u8 (v : Value) (e : Int) (w : World) : Calls Try.prog 33 #[v, .int .i64 e] w fun en w' => w' = w ∧ en = if e = 0 then .returned v else thrown e := by
  by_cases he : e = 0
  · subst he
    go_enter Try.func33, Try.ntmps33
    go_wp2
    go_ret
    exact ⟨rfl, rfl⟩
  · have hb : (e != 0) = true := by simpa using he
    simp only [if_neg he]
    go_enter Try.func33, Try.ntmps33
    go_wp2
    exact ⟨rfl, rfl, rfl⟩

set_option maxHeartbeats 400000 in
theorem must_raw (v : Value) (e : Int) (w : World) : Calls Try.prog 35 #[v, .int .i64 e] w fun en w' => w' = w ∧ en = if e = 0 then .returned v else thrown e := by
  by_cases he : e = 0
  · subst he
    go_enter Try.func35, Try.ntmps35
    go_wp2
    go_ret
    exact ⟨rfl, rfl⟩
  · have hb : (e != 0) = true := by simpa using he
    simp only [if_neg he]
    go_enter Try.func35, Try.ntmps35
    go_wp2
    exact ⟨rfl, rfl, rfl⟩

set_option maxHeartbeats 400000 in
theorem must_err (v : Value) (e : Int) (w : World) : Calls Try.prog 37 #[v, .int .i64 e] w fun en w' => w' = w ∧ en = if e = 0 then .returned v else thrown e := by
  by_cases he : e = 0
  · subst he
    go_enter Try.func37, Try.ntmps37
    go_wp2
    go_ret
    exact ⟨rfl, rfl⟩
  · have hb : (e != 0) = true := by simpa using he
    simp only [if_neg he]
    go_enter Try.func37, Try.ntmps37
    go_wp2
    exact ⟨rfl, rfl, rfl⟩

set_option maxHeartbeats 400000 in
theorem ought_c (ok : Bool) (w : World) : Calls Try.prog 32 #[.bool ok] w fun en w' => w' = w ∧ en = if ok then .returned (.tuple #[]) else thrown 3 := by
  cases ok
  · go_enter Try.func32, Try.ntmps32
    go_wp2
    exact ⟨rfl, rfl, rfl⟩
  · go_enter Try.func32, Try.ntmps32
    go_wp2
    exact ⟨rfl, _, results_none rfl _ _ _, rfl, rfl⟩
end Go.Proofs.Ytiaiicgpiiabnaa
