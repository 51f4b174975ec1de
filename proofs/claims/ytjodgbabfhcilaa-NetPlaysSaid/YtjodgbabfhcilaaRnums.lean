/- tabellionref18: nums, flag. -/
import Derived.Test.YtjodgbabfhcilaaRbare
set_option linter.unusedSimpArgs false
set_option linter.unusedVariables false
namespace Go.Proofs.Ytjodgbabfhcilaa
open Go Go.RowKit

/-- Numbers as bytes, one behind the other. -/
def numsB (xs : List Int) : List Int := xs.flatMap (fun m => numB m.toNat)
end Go.Proofs.Ytjodgbabfhcilaa
