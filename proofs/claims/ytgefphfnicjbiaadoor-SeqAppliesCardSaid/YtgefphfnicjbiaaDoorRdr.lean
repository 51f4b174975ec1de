/- bin.Reader: what its block holds; one; start; caught. -/
import Derived.Test.YtgefphfnicjbiaaDoorBun3
import Derived.Test.YtgefphfnicjbiaaDoorBun1
set_option linter.unusedSimpArgs false
set_option linter.unusedVariables false
namespace Go.Proofs.YtgefphfnicjbiaaDoor
open Go Go.RowKit

/-- v lies ahead of block b. -/
def Bef (v : Value) (b : Nat) : Prop := ∀ a n c, v = .slice (some a) n c → a.block < b
theorem rdr_off {w : World} {b : Nat} {v : Value} {bs : List Int} {e : Int} {v' : Value} {T : TypeId} (h : Rd w v (u8s bs)) (hb : Blk w b #[v', .int .i64 e] T) (hv : ∃ a n c, v' = .slice a n c) : Off v (u8s bs) (some b) := by
  refine Rd.off h hb fun u hu hm => ?_
  obtain ⟨x, _, rfl⟩ := List.mem_map.1 hm
  obtain ⟨a, n, c, rfl⟩ := hv
  simp at hu
abbrev errv (e : Int) : Value := .iface 34 (.int .i64 e)
abbrev thrown (e : Int) : Ending := .panicked [{ v := errv e, recovered := false }]
abbrev ptr (b : Nat) : Value := .pointer (some ⟨b, 0, none⟩)
theorem isErr_nil (w : World) : (Instr.typeAssert .nilIface 20 34 true).run Tryd.prog w = .ok (.tuple #[.int .i64 0, .bool false]) w := by
  obtain ⟨i, hi, hz⟩ := Option.map_eq_some_iff.1 (show (Tryd.prog.info? 34).map (·.zero) = some (some (.int .i64 0)) by kernel_rfl)
  simp [Instr.typeAssert, run_underlying Tryd.underlying34, zeroValue, typeInfo, hi, hz]
theorem isErr_some (v : Value) (w : World) : (Instr.typeAssert (.iface 34 v) 20 34 true).run Tryd.prog w = .ok (.tuple #[v, .bool true]) w := by
  simp [Instr.typeAssert, run_underlying Tryd.underlying34, go_sem, Result.andThen]

end Go.Proofs.YtgefphfnicjbiaaDoor
