/-
  DERIVED. GIVEN WITH THE SEED: THE CARDS: each row of YtapclkjpokbgbaaDoorRows.lean that lists a variable, with what it lists TIED to the program's text (the seventh form; the later family's looks); each row that meets fmt, with fmt's text TOLD by the authors' own Lean function (tested against real Go, not proved from fmt's source: count such statements apart). THE CARD IS WHAT COUNTS. Prove the row's statement (the work); the ties are given (YtapclkjpokbgbaaDoorTie.lean); close each card by the builder's one call (the guide's Derived/Test/ToyasCard.lean, 'card_holds'). Laid BY PROGRAM, IN A SANDBOX (cutbox-door.mjs). By AI agents, Wed Nov 11 2026. No macro, syntax, notation, axiom, sorry.
-/
import Derived.Test.YtapclkjpokbgbaaDoorRows
import GoSem.ClaimSeven
namespace Go.Proofs.YtapclkjpokbgbaaDoor
namespace Rows

/-- THE TIED CARD OF 'tabellionlaw10.CellNil'. -/
def cellNilCard : Claim7 := { stood := { row := cellNilRow, standIns := [], harness := (true, "7becc035d26875698969a80e1419f2ee5271367eb1b9181f6f525eb45279850c"), looks := true }, kinds := [], alts := [], laidByText := true, laidKinds := [.data, .pinned], laidTests := true, laidLooks := .later }
def CellNilCardSaid : Prop := Claim7.holds Tryd.pinned (.plain (OpenSpec.ofChange cellNilSpec)) cellNilCard

/-- THE TIED CARD OF 'tabellionlaw11.VaultNil'. -/
def vaultNilCard : Claim7 := { stood := { row := vaultNilRow, standIns := [], harness := (true, "7becc035d26875698969a80e1419f2ee5271367eb1b9181f6f525eb45279850c"), looks := true }, kinds := [], alts := [], laidByText := true, laidKinds := [.data, .pinned], laidTests := true, laidLooks := .later }
def VaultNilCardSaid : Prop := Claim7.holds Tryd.pinned (.plain (OpenSpec.ofChange vaultNilSpec)) vaultNilCard

/-- THE TIED CARD OF 'tabellionlaw11.VaultLong'. -/
def vaultLongCard : Claim7 := { stood := { row := vaultLongRow, standIns := [], harness := (true, "7becc035d26875698969a80e1419f2ee5271367eb1b9181f6f525eb45279850c"), looks := true }, kinds := [], alts := [], laidByText := true, laidKinds := [.data, .pinned], laidTests := true, laidLooks := .later }
def VaultLongCardSaid : Prop := Claim7.holds Tryd.pinned (.plain (OpenSpec.ofChange vaultLongSpec)) vaultLongCard

/-- THE TIED CARD OF 'tabellionlaw10.CellAll'. -/
def cellAllCard : Claim7 := { stood := { row := cellAllRow, standIns := [], harness := (true, "7becc035d26875698969a80e1419f2ee5271367eb1b9181f6f525eb45279850c"), looks := true }, kinds := [], alts := [], laidByText := true, laidKinds := [.data, .pinned], laidTests := true, laidLooks := .later }
def CellAllCardSaid : Prop := Claim7.holds Tryd.pinned (.plain (OpenSpec.ofChange cellAllSpec)) cellAllCard

/-- THE TIED CARD OF 'tabellionlaw11.VaultAll'. -/
def vaultAllCard : Claim7 := { stood := { row := vaultAllRow, standIns := [], harness := (true, "7becc035d26875698969a80e1419f2ee5271367eb1b9181f6f525eb45279850c"), looks := true }, kinds := [], alts := [], laidByText := true, laidKinds := [.data, .pinned], laidTests := true, laidLooks := .later }
def VaultAllCardSaid : Prop := Claim7.holds Tryd.pinned (.plain (OpenSpec.ofChange vaultAllSpec)) vaultAllCard

/-- THE SECOND FORM's CARD OF 'tabellionlaw10.CellNil'. -/
def cellNilUptoCard : Claim7 := { stood := { row := cellNilUptoRow, standIns := [], harness := (true, "7becc035d26875698969a80e1419f2ee5271367eb1b9181f6f525eb45279850c"), looks := true }, kinds := [], alts := [], laidByText := true, laidKinds := [.data, .pinned], laidTests := true, laidLooks := .later }
def CellNilUptoCardSaid : Prop := Claim7.holds Tryd.pinned (.plain (OpenSpec.upto cellNilSpec)) cellNilUptoCard

/-- THE SECOND FORM's CARD OF 'tabellionlaw11.VaultNil'. -/
def vaultNilUptoCard : Claim7 := { stood := { row := vaultNilUptoRow, standIns := [], harness := (true, "7becc035d26875698969a80e1419f2ee5271367eb1b9181f6f525eb45279850c"), looks := true }, kinds := [], alts := [], laidByText := true, laidKinds := [.data, .pinned], laidTests := true, laidLooks := .later }
def VaultNilUptoCardSaid : Prop := Claim7.holds Tryd.pinned (.plain (OpenSpec.upto vaultNilSpec)) vaultNilUptoCard

/-- THE SECOND FORM's CARD OF 'tabellionlaw11.VaultLong'. -/
def vaultLongUptoCard : Claim7 := { stood := { row := vaultLongUptoRow, standIns := [], harness := (true, "7becc035d26875698969a80e1419f2ee5271367eb1b9181f6f525eb45279850c"), looks := true }, kinds := [], alts := [], laidByText := true, laidKinds := [.data, .pinned], laidTests := true, laidLooks := .later }
def VaultLongUptoCardSaid : Prop := Claim7.holds Tryd.pinned (.plain (OpenSpec.upto vaultLongSpec)) vaultLongUptoCard

/-- THE SECOND FORM's CARD OF 'tabellionlaw10.CellAll'. -/
def cellAllUptoCard : Claim7 := { stood := { row := cellAllUptoRow, standIns := [], harness := (true, "7becc035d26875698969a80e1419f2ee5271367eb1b9181f6f525eb45279850c"), looks := true }, kinds := [], alts := [], laidByText := true, laidKinds := [.data, .pinned], laidTests := true, laidLooks := .later }
def CellAllUptoCardSaid : Prop := Claim7.holds Tryd.pinned (.plain (OpenSpec.upto cellAllSpec)) cellAllUptoCard

/-- THE SECOND FORM's CARD OF 'tabellionlaw11.VaultAll'. -/
def vaultAllUptoCard : Claim7 := { stood := { row := vaultAllUptoRow, standIns := [], harness := (true, "7becc035d26875698969a80e1419f2ee5271367eb1b9181f6f525eb45279850c"), looks := true }, kinds := [], alts := [], laidByText := true, laidKinds := [.data, .pinned], laidTests := true, laidLooks := .later }
def VaultAllUptoCardSaid : Prop := Claim7.holds Tryd.pinned (.plain (OpenSpec.upto vaultAllSpec)) vaultAllUptoCard
end Rows
end Go.Proofs.YtapclkjpokbgbaaDoor
