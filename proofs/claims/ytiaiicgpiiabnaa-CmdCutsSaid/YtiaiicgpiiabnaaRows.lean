/-
  No cell of these rows narrows 'for every input' (looked for: loops, veiled, ifaces, maps, wideKeys, modest, calm, conditions, laid).
  DERIVED. THE GIVEN ROWS OF THIS SEAT. 5 by the template 'for every input the law returns true; each argument reads behind the call as it read before'; 0 by the template 'total and deterministic' (their statements: YtiaiicgpiiabnaaTotals.lean).
  GIVEN WITH THE SEED: the statements are not yours to turn. If you find one false, say at which input.
  Laid BY PROGRAM, IN A SANDBOX (cutbox-rows.mjs): the forced cells as the released guide's own fill.sh prints them over the translation b4041d282233cbb2… (all of the seat's roots in one cut). By AI agents, Wed Nov 11 2026. No macro, syntax, notation, axiom, sorry.
-/
import Derived.Test.YtiaiicgpiiabnaaChecked
import GoSem.Claim
import GoSem.ClaimJoined
import GoSem.ClaimMapViews
import Derived.JoinedTies
import Derived.KernelRfl
namespace Go.Proofs.Ytiaiicgpiiabnaa
/- THE CELL 'sum', in the pinned program and in every row, IS THE sha256 OF THE DUMP (.gsa) THAT YtiaiicgpiiabnaaProg.lean LOADS. Nothing in Lean hashes anything: it is a label: what it is worth is what the hold of that sum in a sandbox is worth. -/
noncomputable def Try.pinned : Pinned := { name := "ytiaiicgpiiabnaa", sum := "b4041d282233cbb216cfb2a7d0d5fb3190fecf5285423e0c77f133cfc48cd43a", checked := Try.checked }
namespace Rows
def none {H : Type} : Left H := { results := [], args := [] }

/-- 'tabellionlaw12.CmdLays': WHATEVER THE INPUT: true; the input reads as it did. -/
def cmdLaysSpec : ChangeSpec := { name := "cmdLays", fn := fun _ => fun
  | [d] => { results := [.lit (.bool true)], args := [d] }
  | _ => none }
def cmdLaysRow : OpenClaim := { program := "ytiaiicgpiiabnaa", sum := "b4041d282233cbb216cfb2a7d0d5fb3190fecf5285423e0c77f133cfc48cd43a", func := "tabellion/tabellionlaw12.CmdLays", spec := "cmdLays", apart := false }
def CmdLaysSaid : Prop := cmdLaysRow.holds Try.pinned (OpenSpec.ofChange cmdLaysSpec)

/-- ITS FALSE NEIGHBOUR: 'it returns false'. Refute it at one input. -/
def cmdLaysWrong : ChangeSpec := { name := "cmdLays", fn := fun _ => fun
  | [d] => { results := [.lit (.bool false)], args := [d] }
  | _ => none }
def CmdLaysWrongFalsely : Prop := cmdLaysRow.holds Try.pinned (OpenSpec.ofChange cmdLaysWrong)

/-- 'tabellionlaw12.CmdSames': WHATEVER THE INPUT: true; the input reads as it did. -/
def cmdSamesSpec : ChangeSpec := { name := "cmdSames", fn := fun _ => fun
  | [d1, d2] => { results := [.lit (.bool true)], args := [d1, d2] }
  | _ => none }
def cmdSamesRow : OpenClaim := { program := "ytiaiicgpiiabnaa", sum := "b4041d282233cbb216cfb2a7d0d5fb3190fecf5285423e0c77f133cfc48cd43a", func := "tabellion/tabellionlaw12.CmdSames", spec := "cmdSames", apart := false }
def CmdSamesSaid : Prop := cmdSamesRow.holds Try.pinned (OpenSpec.ofChange cmdSamesSpec)

/-- ITS FALSE NEIGHBOUR: 'it returns false'. Refute it at one input. -/
def cmdSamesWrong : ChangeSpec := { name := "cmdSames", fn := fun _ => fun
  | [d1, d2] => { results := [.lit (.bool false)], args := [d1, d2] }
  | _ => none }
def CmdSamesWrongFalsely : Prop := cmdSamesRow.holds Try.pinned (OpenSpec.ofChange cmdSamesWrong)

/-- 'tabellionlaw12.CmdReads': WHATEVER THE INPUT: true; the input reads as it did. -/
def cmdReadsSpec : ChangeSpec := { name := "cmdReads", fn := fun _ => fun
  | [d] => { results := [.lit (.bool true)], args := [d] }
  | _ => none }
def cmdReadsRow : OpenClaim := { program := "ytiaiicgpiiabnaa", sum := "b4041d282233cbb216cfb2a7d0d5fb3190fecf5285423e0c77f133cfc48cd43a", func := "tabellion/tabellionlaw12.CmdReads", spec := "cmdReads", unfollowed := true, recurses := true, apart := false }
def CmdReadsSaid : Prop := cmdReadsRow.holds Try.pinned (OpenSpec.ofChange cmdReadsSpec)

/-- ITS FALSE NEIGHBOUR: 'it returns false'. Refute it at one input. -/
def cmdReadsWrong : ChangeSpec := { name := "cmdReads", fn := fun _ => fun
  | [d] => { results := [.lit (.bool false)], args := [d] }
  | _ => none }
def CmdReadsWrongFalsely : Prop := cmdReadsRow.holds Try.pinned (OpenSpec.ofChange cmdReadsWrong)

/-- 'tabellionlaw12.CmdCuts': WHATEVER THE INPUT: true; the input reads as it did. -/
def cmdCutsSpec : ChangeSpec := { name := "cmdCuts", fn := fun _ => fun
  | [d1, d2, d3] => { results := [.lit (.bool true)], args := [d1, d2, d3] }
  | _ => none }
def cmdCutsRow : OpenClaim := { program := "ytiaiicgpiiabnaa", sum := "b4041d282233cbb216cfb2a7d0d5fb3190fecf5285423e0c77f133cfc48cd43a", func := "tabellion/tabellionlaw12.CmdCuts", spec := "cmdCuts", unfollowed := true, recurses := true, apart := false }
def CmdCutsSaid : Prop := cmdCutsRow.holds Try.pinned (OpenSpec.ofChange cmdCutsSpec)

/-- ITS FALSE NEIGHBOUR: 'it returns false'. Refute it at one input. -/
def cmdCutsWrong : ChangeSpec := { name := "cmdCuts", fn := fun _ => fun
  | [d1, d2, d3] => { results := [.lit (.bool false)], args := [d1, d2, d3] }
  | _ => none }
def CmdCutsWrongFalsely : Prop := cmdCutsRow.holds Try.pinned (OpenSpec.ofChange cmdCutsWrong)

/-- 'tabellionlaw12.CmdBack': WHATEVER THE INPUT: true; the input reads as it did. -/
def cmdBackSpec : ChangeSpec := { name := "cmdBack", fn := fun _ => fun
  | [d1, d2] => { results := [.lit (.bool true)], args := [d1, d2] }
  | _ => none }
def cmdBackRow : OpenClaim := { program := "ytiaiicgpiiabnaa", sum := "b4041d282233cbb216cfb2a7d0d5fb3190fecf5285423e0c77f133cfc48cd43a", func := "tabellion/tabellionlaw12.CmdBack", spec := "cmdBack", unfollowed := true, recurses := true, apart := false }
def CmdBackSaid : Prop := cmdBackRow.holds Try.pinned (OpenSpec.ofChange cmdBackSpec)

/-- ITS FALSE NEIGHBOUR: 'it returns false'. Refute it at one input. -/
def cmdBackWrong : ChangeSpec := { name := "cmdBack", fn := fun _ => fun
  | [d1, d2] => { results := [.lit (.bool false)], args := [d1, d2] }
  | _ => none }
def CmdBackWrongFalsely : Prop := cmdBackRow.holds Try.pinned (OpenSpec.ofChange cmdBackWrong)

/- THE SECOND FORM. 'bulk': how many values and letters a reading holds, each counted each time it is reached (what is shared counts as often as it is met; a slice's spare places count too). A statement '..UptoSaid' is the law's where the arguments, and the package variables that the reading takes, are together of bulk at most 1048576: NARROWER than '..Said'. Prove '..Said' where nothing that the law and all that it calls make is longer than what came in: it says more and counts as full. Else prove '..UptoSaid'. A law counts once. -/
mutual
def uptoBulk {H : Type} : DataW H → Nat
  | .lit (.string bytes) => bytes.length + 1
  | .lit _ => 1
  | .nil => 1
  | .ptr d => uptoBulk d + 1
  | .slice elems spare => uptoBulkAll elems + uptoBulkAll spare + 1
  | .agg parts => uptoBulkAll parts + 1
  | .iface _ d => uptoBulk d + 1
  | .map entries => uptoBulkEntries entries + 1
  | .held _ => 1
def uptoBulkAll {H : Type} : List (DataW H) → Nat
  | [] => 0
  | d :: r => uptoBulk d + uptoBulkAll r
def uptoBulkEntries {H : Type} : List (Lit × DataW H) → Nat
  | [] => 0
  | x :: r => uptoBulkEntry x + uptoBulkEntries r
def uptoBulkEntry {H : Type} : Lit × DataW H → Nat
  | (.string bytes, d) => bytes.length + uptoBulk d + 1
  | (_, d) => uptoBulk d + 1
 end
def uptoSmall : (H : Type) → List (DataW H) → Bool := fun _ ds => decide (uptoBulkAll ds ≤ 1048576)
def OpenSpec.upto (s : _root_.Go.ChangeSpec) : _root_.Go.OpenSpec := { _root_.Go.OpenSpec.ofChange s with cond := some uptoSmall }

/-- 'tabellionlaw12.CmdLays', WHERE WHAT IT READS IS OF BULK AT MOST 1048576: true; the input reads as it did. -/
def cmdLaysUptoRow : OpenClaim := { program := "ytiaiicgpiiabnaa", sum := "b4041d282233cbb216cfb2a7d0d5fb3190fecf5285423e0c77f133cfc48cd43a", func := "tabellion/tabellionlaw12.CmdLays", spec := "cmdLays", apart := false, narrowed := true }
def CmdLaysUptoSaid : Prop := cmdLaysUptoRow.holds Try.pinned (OpenSpec.upto cmdLaysSpec)

/-- 'tabellionlaw12.CmdSames', WHERE WHAT IT READS IS OF BULK AT MOST 1048576: true; the input reads as it did. -/
def cmdSamesUptoRow : OpenClaim := { program := "ytiaiicgpiiabnaa", sum := "b4041d282233cbb216cfb2a7d0d5fb3190fecf5285423e0c77f133cfc48cd43a", func := "tabellion/tabellionlaw12.CmdSames", spec := "cmdSames", apart := false, narrowed := true }
def CmdSamesUptoSaid : Prop := cmdSamesUptoRow.holds Try.pinned (OpenSpec.upto cmdSamesSpec)

/-- 'tabellionlaw12.CmdReads', WHERE WHAT IT READS IS OF BULK AT MOST 1048576: true; the input reads as it did. -/
def cmdReadsUptoRow : OpenClaim := { program := "ytiaiicgpiiabnaa", sum := "b4041d282233cbb216cfb2a7d0d5fb3190fecf5285423e0c77f133cfc48cd43a", func := "tabellion/tabellionlaw12.CmdReads", spec := "cmdReads", unfollowed := true, recurses := true, apart := false, narrowed := true }
def CmdReadsUptoSaid : Prop := cmdReadsUptoRow.holds Try.pinned (OpenSpec.upto cmdReadsSpec)

/-- 'tabellionlaw12.CmdCuts', WHERE WHAT IT READS IS OF BULK AT MOST 1048576: true; the input reads as it did. -/
def cmdCutsUptoRow : OpenClaim := { program := "ytiaiicgpiiabnaa", sum := "b4041d282233cbb216cfb2a7d0d5fb3190fecf5285423e0c77f133cfc48cd43a", func := "tabellion/tabellionlaw12.CmdCuts", spec := "cmdCuts", unfollowed := true, recurses := true, apart := false, narrowed := true }
def CmdCutsUptoSaid : Prop := cmdCutsUptoRow.holds Try.pinned (OpenSpec.upto cmdCutsSpec)

/-- 'tabellionlaw12.CmdBack', WHERE WHAT IT READS IS OF BULK AT MOST 1048576: true; the input reads as it did. -/
def cmdBackUptoRow : OpenClaim := { program := "ytiaiicgpiiabnaa", sum := "b4041d282233cbb216cfb2a7d0d5fb3190fecf5285423e0c77f133cfc48cd43a", func := "tabellion/tabellionlaw12.CmdBack", spec := "cmdBack", unfollowed := true, recurses := true, apart := false, narrowed := true }
def CmdBackUptoSaid : Prop := cmdBackUptoRow.holds Try.pinned (OpenSpec.upto cmdBackSpec)

end Rows
end Go.Proofs.Ytiaiicgpiiabnaa
