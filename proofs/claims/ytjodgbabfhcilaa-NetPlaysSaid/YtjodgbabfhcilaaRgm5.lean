/- tabellionref18.Get, kind 5. PRINTED BY gen/rgetm.py -/
import Derived.Test.YtjodgbabfhcilaaBun6
import Derived.Deep.CutBlock
import Derived.Deep.DeepCutAuto
set_option linter.unusedSimpArgs false
set_option linter.unusedVariables false
namespace Go.Proofs.Ytjodgbabfhcilaa
open Go Go.RowKit
end Go.Proofs.Ytjodgbabfhcilaa
