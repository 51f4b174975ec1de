/-
  DERIVED. GIVEN WITH THE SEED: THE PROGRAM's TIES (one call each: nine closed facts by the kernel) AND EACH ROW's TIE, after the 31st guide's Derived/Test/Toyas{Tie, Card}.lean. No idea stands in it: it is a product of the set-up. Laid BY PROGRAM, IN A SANDBOX (cutbox-door.mjs). By AI agents, Wed Nov 11 2026. No macro, syntax, notation, axiom, sorry.
-/
import Derived.Test.YtgefphfnicjbiaaDoorRows
import Derived.LaidByTextLater
import Derived.SevenTiedAt
import Derived.LaidSub
import Derived.LaidOnce
namespace Go.Proofs.YtgefphfnicjbiaaDoor
open Go
set_option maxRecDepth 100000
theorem seatTie1 : Tryd.prog.laidByTextLater [("tabellion/sha.round", Rows.laid_tabellion_sha_round), ("tabellion/sha.begin", Rows.laid_tabellion_sha_begin), ("tabellion/tabellionref03.constants", Rows.laid_tabellion_tabellionref03_constants)] [.data, .data, .data] true :=
  Program.laidByTextLater_by_one 24 8 65 (by kernel_rfl) (by kernel_rfl) (by kernel_rfl) (by kernel_rfl) (by kernel_rfl) (by kernel_rfl) (fun _ _ => by kernel_rfl)
theorem noOwnUnsafe : Tryd.pinned.checked.prog.headLifts.contains "ownunsafe" = false := by kernel_rfl
theorem tie : Tryd.prog.laidByTextLater [("tabellion/sha.round", Rows.laid_tabellion_sha_round), ("tabellion/sha.begin", Rows.laid_tabellion_sha_begin), ("tabellion/tabellionref03.constants", Rows.laid_tabellion_tabellionref03_constants)] [.data, .data, .data] true :=
  Program.laidByTextLater.sub seatTie1 ["tabellion/sha.round", "tabellion/sha.begin", "tabellion/tabellionref03.constants"] (by kernel_rfl) (by kernel_rfl)
theorem seqApplies_row_tie : Rows.seqAppliesRow.laidByTextAt .later Tryd.pinned [.data, .data, .data] true :=
  OpenClaim.laidByTextAt_later rfl rfl tie noOwnUnsafe
theorem seqAppliesUpto_row_tie : Rows.seqAppliesUptoRow.laidByTextAt .later Tryd.pinned [.data, .data, .data] true :=
  OpenClaim.laidByTextAt_later rfl rfl tie noOwnUnsafe
end Go.Proofs.YtgefphfnicjbiaaDoor
