/- seq's must and ought. PRINTED BY gen/rdt.py -/
import Derived.Test.YtgefphfnicjbiaaRdr
namespace Go.Proofs.Ytgefphfnicjbiaa
open Go Go.RowKit

set_option maxHeartbeats 400000 in
theorem must_u64 (v : Value) (e : Int) (w : World) : Calls Try.prog 33 #[v, .int .i64 e] w fun en w' => w' = w ∧ en = if e = 0 then .returned v else thrown e := by
  by_cases he : e = 0
  · subst he
    go_enter Try.func33, Try.ntmps33
    go_wp2
    go_ret
    exact ⟨rfl, rfl⟩
  · have hb : (e != 0) = true := by simpa using he
    simp only [if_neg he]
    go_enter Try.func33, Try.ntmps33
    go_wp2
    exact ⟨rfl, rfl, rfl⟩

set_option maxHeartbeats 400000 in
theorem must_raw (v : Value) (e : Int) (w : World) : Calls Try.prog 36 #[v, .int .i64 e] w fun en w' => w' = w ∧ en = if e = 0 then .returned v else thrown e := by
  by_cases he : e = 0
  · subst he
    go_enter Try.func36, Try.ntmps36
    go_wp2
    go_ret
    exact ⟨rfl, rfl⟩
  · have hb : (e != 0) = true := by simpa using he
    simp only [if_neg he]
    go_enter Try.func36, Try.ntmps36
    go_wp2
    exact ⟨rfl, rfl, rfl⟩

set_option maxHeartbeats 400000 in
theorem must_err (v : Value) (e : Int) (w : World) : Calls Try.prog 38 #[v, .int .i64 e] w fun en w' => w' = w ∧ en = if e = 0 then .returned v else thrown e := by
  by_cases he : e = 0
  · subst he
    go_enter Try.func38, Try.ntmps38
    go_wp2
    go_ret
    exact ⟨rfl, rfl⟩
  · have hb : (e != 0) = true := by simpa using he
    simp only [if_neg he]
    go_enter Try.func38, Try.ntmps38
    go_wp2
    exact ⟨rfl, rfl, rfl⟩

set_option maxHeartbeats 400000 in
theorem ought_c (ok : Bool) (no : Int) (w : World) : Calls Try.prog 35 #[.bool ok, .int .i64 no] w fun en w' => w' = w ∧ en = if ok then .returned (.tuple #[]) else thrown no := by
  cases ok
  · go_enter Try.func35, Try.ntmps35
    go_wp2
    exact ⟨rfl, rfl, rfl⟩
  · go_enter Try.func35, Try.ntmps35
    go_wp2
    exact ⟨rfl, _, results_none rfl _ _ _, rfl, rfl⟩
end Go.Proofs.Ytgefphfnicjbiaa
