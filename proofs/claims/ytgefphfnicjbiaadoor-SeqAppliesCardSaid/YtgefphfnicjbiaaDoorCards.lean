/-
  DERIVED. GIVEN WITH THE SEED: THE CARDS: each row of YtgefphfnicjbiaaDoorRows.lean that lists a variable, with what it lists TIED to the program's text (the seventh form; the later family's looks); each row that meets fmt, with fmt's text TOLD by the authors' own Lean function (tested against real Go, not proved from fmt's source: count such statements apart). THE CARD IS WHAT COUNTS. Prove the row's statement (the work); the ties are given (YtgefphfnicjbiaaDoorTie.lean); close each card by the builder's one call (the guide's Derived/Test/ToyasCard.lean, 'card_holds'). Laid BY PROGRAM, IN A SANDBOX (cutbox-door.mjs). By AI agents, Wed Nov 11 2026. No macro, syntax, notation, axiom, sorry.
-/
import Derived.Test.YtgefphfnicjbiaaDoorRows
import GoSem.ClaimSeven
namespace Go.Proofs.YtgefphfnicjbiaaDoor
namespace Rows

/-- THE TIED CARD OF 'tabellionlaw25.SeqApplies'. -/
def seqAppliesCard : Claim7 := { stood := { row := seqAppliesRow, standIns := [], harness := (true, "072b67b1999ce0e8443d93b18c051ec0932ae062a47160a1843140f8e03042e9"), looks := false }, kinds := [], alts := [], laidByText := true, laidKinds := [.data, .data, .data], laidTests := true, laidLooks := .later }
def SeqAppliesCardSaid : Prop := Claim7.holds Tryd.pinned (.plain (OpenSpec.ofChange seqAppliesSpec)) seqAppliesCard

/-- THE SECOND FORM's CARD OF 'tabellionlaw25.SeqApplies'. -/
def seqAppliesUptoCard : Claim7 := { stood := { row := seqAppliesUptoRow, standIns := [], harness := (true, "072b67b1999ce0e8443d93b18c051ec0932ae062a47160a1843140f8e03042e9"), looks := false }, kinds := [], alts := [], laidByText := true, laidKinds := [.data, .data, .data], laidTests := true, laidLooks := .later }
def SeqAppliesUptoCardSaid : Prop := Claim7.holds Tryd.pinned (.plain (OpenSpec.upto seqAppliesSpec)) seqAppliesUptoCard
end Rows
end Go.Proofs.YtgefphfnicjbiaaDoor
