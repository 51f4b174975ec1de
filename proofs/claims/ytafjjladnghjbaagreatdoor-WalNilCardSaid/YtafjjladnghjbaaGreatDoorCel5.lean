/- cell: Get, Set. -/
import Derived.Test.YtafjjladnghjbaaGreatDoorCel4
namespace Go.Proofs.YtafjjladnghjbaaGreatDoor
open Go Go.RowKit Go.Maps

def hardV (t v : Int) : Value := .agg #[.int .u64 t, .int .u64 v]
end Go.Proofs.YtafjjladnghjbaaGreatDoor
