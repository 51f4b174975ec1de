/-
  No cell of these rows narrows 'for every input' (looked for: loops, veiled, ifaces, maps, wideKeys, modest, calm, conditions, laid).
  DERIVED. THE GIVEN ROWS OF THIS SEAT. 5 by the template 'for every input the law returns true; each argument reads behind the call as it read before'; 0 by the template 'total and deterministic' (their statements: YtnhfjoelfnmgaaaTotals.lean).
  GIVEN WITH THE SEED: the statements are not yours to turn. If you find one false, say at which input.
  Laid BY PROGRAM, IN A SANDBOX (cutbox-rows.mjs): the forced cells as the released guide's own fill.sh prints them over the translation 23cfee6948eb6bcd… (all of the seat's roots in one cut). By AI agents, Wed Nov 11 2026. No macro, syntax, notation, axiom, sorry.
-/
import Derived.Test.YtnhfjoelfnmgaaaChecked
import GoSem.Claim
import GoSem.ClaimJoined
import GoSem.ClaimMapViews
import Derived.JoinedTies
import Derived.KernelRfl
namespace Go.Proofs.Ytnhfjoelfnmgaaa
/- THE CELL 'sum', in the pinned program and in every row, IS THE sha256 OF THE DUMP (.gsa) THAT YtnhfjoelfnmgaaaProg.lean LOADS. Nothing in Lean hashes anything: it is a label: what it is worth is what the hold of that sum in a sandbox is worth. -/
noncomputable def Try.pinned : Pinned := { name := "ytnhfjoelfnmgaaa", sum := "23cfee6948eb6bcd269150b26129c0fcd2dda699745fc096362580df7980601d", checked := Try.checked }
namespace Rows
def none {H : Type} : Left H := { results := [], args := [] }

/-- 'tabellionlaw18.MsgReads': WHATEVER THE INPUT: true; the input reads as it did. -/
def msgReadsSpec : ChangeSpec := { name := "msgReads", fn := fun _ => fun
  | [d] => { results := [.lit (.bool true)], args := [d] }
  | _ => none }
def msgReadsRow : OpenClaim := { program := "ytnhfjoelfnmgaaa", sum := "23cfee6948eb6bcd269150b26129c0fcd2dda699745fc096362580df7980601d", func := "tabellion/tabellionlaw18.MsgReads", spec := "msgReads", unfollowed := true, recurses := true, apart := false }
def MsgReadsSaid : Prop := msgReadsRow.holds Try.pinned (OpenSpec.ofChange msgReadsSpec)

/-- ITS FALSE NEIGHBOUR: 'it returns false'. Refute it at one input. -/
def msgReadsWrong : ChangeSpec := { name := "msgReads", fn := fun _ => fun
  | [d] => { results := [.lit (.bool false)], args := [d] }
  | _ => none }
def MsgReadsWrongFalsely : Prop := msgReadsRow.holds Try.pinned (OpenSpec.ofChange msgReadsWrong)

/-- 'tabellionlaw18.MsgCuts': WHATEVER THE INPUT: true; the input reads as it did. -/
def msgCutsSpec : ChangeSpec := { name := "msgCuts", fn := fun _ => fun
  | [d1, d2, d3] => { results := [.lit (.bool true)], args := [d1, d2, d3] }
  | _ => none }
def msgCutsRow : OpenClaim := { program := "ytnhfjoelfnmgaaa", sum := "23cfee6948eb6bcd269150b26129c0fcd2dda699745fc096362580df7980601d", func := "tabellion/tabellionlaw18.MsgCuts", spec := "msgCuts", unfollowed := true, recurses := true, apart := false }
def MsgCutsSaid : Prop := msgCutsRow.holds Try.pinned (OpenSpec.ofChange msgCutsSpec)

/-- ITS FALSE NEIGHBOUR: 'it returns false'. Refute it at one input. -/
def msgCutsWrong : ChangeSpec := { name := "msgCuts", fn := fun _ => fun
  | [d1, d2, d3] => { results := [.lit (.bool false)], args := [d1, d2, d3] }
  | _ => none }
def MsgCutsWrongFalsely : Prop := msgCutsRow.holds Try.pinned (OpenSpec.ofChange msgCutsWrong)

/-- 'tabellionlaw18.MsgSames': WHATEVER THE INPUT: true; the input reads as it did. -/
def msgSamesSpec : ChangeSpec := { name := "msgSames", fn := fun _ => fun
  | [d1, d2] => { results := [.lit (.bool true)], args := [d1, d2] }
  | _ => none }
def msgSamesRow : OpenClaim := { program := "ytnhfjoelfnmgaaa", sum := "23cfee6948eb6bcd269150b26129c0fcd2dda699745fc096362580df7980601d", func := "tabellion/tabellionlaw18.MsgSames", spec := "msgSames", unfollowed := true, recurses := true, apart := false }
def MsgSamesSaid : Prop := msgSamesRow.holds Try.pinned (OpenSpec.ofChange msgSamesSpec)

/-- ITS FALSE NEIGHBOUR: 'it returns false'. Refute it at one input. -/
def msgSamesWrong : ChangeSpec := { name := "msgSames", fn := fun _ => fun
  | [d1, d2] => { results := [.lit (.bool false)], args := [d1, d2] }
  | _ => none }
def MsgSamesWrongFalsely : Prop := msgSamesRow.holds Try.pinned (OpenSpec.ofChange msgSamesWrong)

/-- 'tabellionlaw18.MsgLays': WHATEVER THE INPUT: true; the input reads as it did. -/
def msgLaysSpec : ChangeSpec := { name := "msgLays", fn := fun _ => fun
  | [d] => { results := [.lit (.bool true)], args := [d] }
  | _ => none }
def msgLaysRow : OpenClaim := { program := "ytnhfjoelfnmgaaa", sum := "23cfee6948eb6bcd269150b26129c0fcd2dda699745fc096362580df7980601d", func := "tabellion/tabellionlaw18.MsgLays", spec := "msgLays", unfollowed := true, recurses := true, apart := false }
def MsgLaysSaid : Prop := msgLaysRow.holds Try.pinned (OpenSpec.ofChange msgLaysSpec)

/-- ITS FALSE NEIGHBOUR: 'it returns false'. Refute it at one input. -/
def msgLaysWrong : ChangeSpec := { name := "msgLays", fn := fun _ => fun
  | [d] => { results := [.lit (.bool false)], args := [d] }
  | _ => none }
def MsgLaysWrongFalsely : Prop := msgLaysRow.holds Try.pinned (OpenSpec.ofChange msgLaysWrong)

/-- 'tabellionlaw18.MsgBack': WHATEVER THE INPUT: true; the input reads as it did. -/
def msgBackSpec : ChangeSpec := { name := "msgBack", fn := fun _ => fun
  | [d1, d2] => { results := [.lit (.bool true)], args := [d1, d2] }
  | _ => none }
def msgBackRow : OpenClaim := { program := "ytnhfjoelfnmgaaa", sum := "23cfee6948eb6bcd269150b26129c0fcd2dda699745fc096362580df7980601d", func := "tabellion/tabellionlaw18.MsgBack", spec := "msgBack", unfollowed := true, recurses := true, apart := false }
def MsgBackSaid : Prop := msgBackRow.holds Try.pinned (OpenSpec.ofChange msgBackSpec)

/-- ITS FALSE NEIGHBOUR: 'it returns false'. Refute it at one input. -/
def msgBackWrong : ChangeSpec := { name := "msgBack", fn := fun _ => fun
  | [d1, d2] => { results := [.lit (.bool false)], args := [d1, d2] }
  | _ => none }
def MsgBackWrongFalsely : Prop := msgBackRow.holds Try.pinned (OpenSpec.ofChange msgBackWrong)

/- THE SECOND FORM. 'bulk': how many values and letters a reading holds, each counted each time it is reached (what is shared counts as often as it is met; a slice's spare places count too). A statement '..UptoSaid' is the law's where the arguments, and the package variables that the reading takes, are together of bulk at most 1048576: NARROWER than '..Said'. Prove '..Said' where nothing that the law and all that it calls make is longer than what came in: it says more and counts as full. Else prove '..UptoSaid'. A law counts once. -/
mutual
def uptoBulk {H : Type} : DataW H → Nat
  | .lit (.string bytes) => bytes.length + 1
  | .lit _ => 1
  | .nil => 1
  | .ptr d => uptoBulk d + 1
  | .slice elems spare => uptoBulkAll elems + uptoBulkAll spare + 1
  | .agg parts => uptoBulkAll parts + 1
  | .iface _ d => uptoBulk d + 1
  | .map entries => uptoBulkEntries entries + 1
  | .held _ => 1
def uptoBulkAll {H : Type} : List (DataW H) → Nat
  | [] => 0
  | d :: r => uptoBulk d + uptoBulkAll r
def uptoBulkEntries {H : Type} : List (Lit × DataW H) → Nat
  | [] => 0
  | x :: r => uptoBulkEntry x + uptoBulkEntries r
def uptoBulkEntry {H : Type} : Lit × DataW H → Nat
  | (.string bytes, d) => bytes.length + uptoBulk d + 1
  | (_, d) => uptoBulk d + 1
 end
def uptoSmall : (H : Type) → List (DataW H) → Bool := fun _ ds => decide (uptoBulkAll ds ≤ 1048576)
def OpenSpec.upto (s : _root_.Go.ChangeSpec) : _root_.Go.OpenSpec := { _root_.Go.OpenSpec.ofChange s with cond := some uptoSmall }

/-- 'tabellionlaw18.MsgReads', WHERE WHAT IT READS IS OF BULK AT MOST 1048576: true; the input reads as it did. -/
def msgReadsUptoRow : OpenClaim := { program := "ytnhfjoelfnmgaaa", sum := "23cfee6948eb6bcd269150b26129c0fcd2dda699745fc096362580df7980601d", func := "tabellion/tabellionlaw18.MsgReads", spec := "msgReads", unfollowed := true, recurses := true, apart := false, narrowed := true }
def MsgReadsUptoSaid : Prop := msgReadsUptoRow.holds Try.pinned (OpenSpec.upto msgReadsSpec)

/-- 'tabellionlaw18.MsgCuts', WHERE WHAT IT READS IS OF BULK AT MOST 1048576: true; the input reads as it did. -/
def msgCutsUptoRow : OpenClaim := { program := "ytnhfjoelfnmgaaa", sum := "23cfee6948eb6bcd269150b26129c0fcd2dda699745fc096362580df7980601d", func := "tabellion/tabellionlaw18.MsgCuts", spec := "msgCuts", unfollowed := true, recurses := true, apart := false, narrowed := true }
def MsgCutsUptoSaid : Prop := msgCutsUptoRow.holds Try.pinned (OpenSpec.upto msgCutsSpec)

/-- 'tabellionlaw18.MsgSames', WHERE WHAT IT READS IS OF BULK AT MOST 1048576: true; the input reads as it did. -/
def msgSamesUptoRow : OpenClaim := { program := "ytnhfjoelfnmgaaa", sum := "23cfee6948eb6bcd269150b26129c0fcd2dda699745fc096362580df7980601d", func := "tabellion/tabellionlaw18.MsgSames", spec := "msgSames", unfollowed := true, recurses := true, apart := false, narrowed := true }
def MsgSamesUptoSaid : Prop := msgSamesUptoRow.holds Try.pinned (OpenSpec.upto msgSamesSpec)

/-- 'tabellionlaw18.MsgLays', WHERE WHAT IT READS IS OF BULK AT MOST 1048576: true; the input reads as it did. -/
def msgLaysUptoRow : OpenClaim := { program := "ytnhfjoelfnmgaaa", sum := "23cfee6948eb6bcd269150b26129c0fcd2dda699745fc096362580df7980601d", func := "tabellion/tabellionlaw18.MsgLays", spec := "msgLays", unfollowed := true, recurses := true, apart := false, narrowed := true }
def MsgLaysUptoSaid : Prop := msgLaysUptoRow.holds Try.pinned (OpenSpec.upto msgLaysSpec)

/-- 'tabellionlaw18.MsgBack', WHERE WHAT IT READS IS OF BULK AT MOST 1048576: true; the input reads as it did. -/
def msgBackUptoRow : OpenClaim := { program := "ytnhfjoelfnmgaaa", sum := "23cfee6948eb6bcd269150b26129c0fcd2dda699745fc096362580df7980601d", func := "tabellion/tabellionlaw18.MsgBack", spec := "msgBack", unfollowed := true, recurses := true, apart := false, narrowed := true }
def MsgBackUptoSaid : Prop := msgBackUptoRow.holds Try.pinned (OpenSpec.upto msgBackSpec)

end Rows
end Go.Proofs.Ytnhfjoelfnmgaaa
