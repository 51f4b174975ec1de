/- tabellionref12.Read: the walk. -/
import Derived.Test.YtjodgbabfhcilaaBun4
set_option linter.unusedSimpArgs false
set_option linter.unusedVariables false
namespace Go.Proofs.Ytjodgbabfhcilaa
open Go Go.RowKit
end Go.Proofs.Ytjodgbabfhcilaa
