/- tabellionref18.Get, all. PRINTED BY gen/rgetm.py -/
import Derived.Test.YtjodgbabfhcilaaRgm1
import Derived.Test.YtjodgbabfhcilaaRgm2
import Derived.Test.YtjodgbabfhcilaaRgm3
import Derived.Test.YtjodgbabfhcilaaRgm4
import Derived.Test.YtjodgbabfhcilaaRgm5
import Derived.Deep.CutBlock
import Derived.Deep.DeepCutAuto
set_option linter.unusedSimpArgs false
set_option linter.unusedVariables false
namespace Go.Proofs.Ytjodgbabfhcilaa
open Go Go.RowKit
end Go.Proofs.Ytjodgbabfhcilaa
