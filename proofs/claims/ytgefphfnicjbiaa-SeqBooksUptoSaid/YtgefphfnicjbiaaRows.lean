/-
  No cell of these rows narrows 'for every input' (looked for: loops, veiled, ifaces, maps, wideKeys, modest, calm, conditions, laid).
  DERIVED. THE GIVEN ROWS OF THIS SEAT. 4 by the template 'for every input the law returns true; each argument reads behind the call as it read before'; 0 by the template 'total and deterministic' (their statements: YtgefphfnicjbiaaTotals.lean).
  GIVEN WITH THE SEED: the statements are not yours to turn. If you find one false, say at which input.
  Laid BY PROGRAM, IN A SANDBOX (cutbox-rows.mjs): the forced cells as the released guide's own fill.sh prints them over the translation bb0c5a1f5e0f98c9… (all of the seat's roots in one cut). By AI agents, Wed Nov 11 2026. No macro, syntax, notation, axiom, sorry.
-/
import Derived.Test.YtgefphfnicjbiaaChecked
import GoSem.Claim
import GoSem.ClaimJoined
import GoSem.ClaimMapViews
import Derived.JoinedTies
import Derived.KernelRfl
namespace Go.Proofs.Ytgefphfnicjbiaa
/- THE CELL 'sum', in the pinned program and in every row, IS THE sha256 OF THE DUMP (.gsa) THAT YtgefphfnicjbiaaProg.lean LOADS. Nothing in Lean hashes anything: it is a label: what it is worth is what the hold of that sum in a sandbox is worth. -/
noncomputable def Try.pinned : Pinned := { name := "ytgefphfnicjbiaa", sum := "bb0c5a1f5e0f98c94fda89abe7692c925cca2865e93129b051f9cdd241511ad0", checked := Try.checked }
namespace Rows
def none {H : Type} : Left H := { results := [], args := [] }

/-- 'tabellionlaw25.SeqOnce': WHATEVER THE INPUT: true; the input reads as it did. -/
def seqOnceSpec : ChangeSpec := { name := "seqOnce", fn := fun _ => fun
  | [d] => { results := [.lit (.bool true)], args := [d] }
  | _ => none }
def seqOnceRow : OpenClaim := { program := "ytgefphfnicjbiaa", sum := "bb0c5a1f5e0f98c94fda89abe7692c925cca2865e93129b051f9cdd241511ad0", func := "tabellion/tabellionlaw25.SeqOnce", spec := "seqOnce", inPlace := ["slices.overlaps[tabellion/api.Client]"], unfollowed := true, recurses := true, apart := false }
def SeqOnceSaid : Prop := seqOnceRow.holds Try.pinned (OpenSpec.ofChange seqOnceSpec)

/-- ITS FALSE NEIGHBOUR: 'it returns false'. Refute it at one input. -/
def seqOnceWrong : ChangeSpec := { name := "seqOnce", fn := fun _ => fun
  | [d] => { results := [.lit (.bool false)], args := [d] }
  | _ => none }
def SeqOnceWrongFalsely : Prop := seqOnceRow.holds Try.pinned (OpenSpec.ofChange seqOnceWrong)

/-- 'tabellionlaw25.SeqSplits': WHATEVER THE INPUT: true; the input reads as it did. -/
def seqSplitsSpec : ChangeSpec := { name := "seqSplits", fn := fun _ => fun
  | [d1, d2] => { results := [.lit (.bool true)], args := [d1, d2] }
  | _ => none }
def seqSplitsRow : OpenClaim := { program := "ytgefphfnicjbiaa", sum := "bb0c5a1f5e0f98c94fda89abe7692c925cca2865e93129b051f9cdd241511ad0", func := "tabellion/tabellionlaw25.SeqSplits", spec := "seqSplits", inPlace := ["slices.overlaps[tabellion/api.Client]"], unfollowed := true, recurses := true, apart := false }
def SeqSplitsSaid : Prop := seqSplitsRow.holds Try.pinned (OpenSpec.ofChange seqSplitsSpec)

/-- ITS FALSE NEIGHBOUR: 'it returns false'. Refute it at one input. -/
def seqSplitsWrong : ChangeSpec := { name := "seqSplits", fn := fun _ => fun
  | [d1, d2] => { results := [.lit (.bool false)], args := [d1, d2] }
  | _ => none }
def SeqSplitsWrongFalsely : Prop := seqSplitsRow.holds Try.pinned (OpenSpec.ofChange seqSplitsWrong)

/-- 'tabellionlaw25.SeqPlays': WHATEVER THE INPUT: true; the input reads as it did. -/
def seqPlaysSpec : ChangeSpec := { name := "seqPlays", fn := fun _ => fun
  | [d] => { results := [.lit (.bool true)], args := [d] }
  | _ => none }
def seqPlaysRow : OpenClaim := { program := "ytgefphfnicjbiaa", sum := "bb0c5a1f5e0f98c94fda89abe7692c925cca2865e93129b051f9cdd241511ad0", func := "tabellion/tabellionlaw25.SeqPlays", spec := "seqPlays", inPlace := ["slices.overlaps[tabellion/api.Client]"], unfollowed := true, recurses := true, apart := false }
def SeqPlaysSaid : Prop := seqPlaysRow.holds Try.pinned (OpenSpec.ofChange seqPlaysSpec)

/-- ITS FALSE NEIGHBOUR: 'it returns false'. Refute it at one input. -/
def seqPlaysWrong : ChangeSpec := { name := "seqPlays", fn := fun _ => fun
  | [d] => { results := [.lit (.bool false)], args := [d] }
  | _ => none }
def SeqPlaysWrongFalsely : Prop := seqPlaysRow.holds Try.pinned (OpenSpec.ofChange seqPlaysWrong)

/-- 'tabellionlaw25.SeqBooks': WHATEVER THE INPUT: true; the input reads as it did. -/
def seqBooksSpec : ChangeSpec := { name := "seqBooks", fn := fun _ => fun
  | [d1, d2] => { results := [.lit (.bool true)], args := [d1, d2] }
  | _ => none }
def seqBooksRow : OpenClaim := { program := "ytgefphfnicjbiaa", sum := "bb0c5a1f5e0f98c94fda89abe7692c925cca2865e93129b051f9cdd241511ad0", func := "tabellion/tabellionlaw25.SeqBooks", spec := "seqBooks", inPlace := ["slices.overlaps[tabellion/api.Client]"], unfollowed := true, recurses := true, apart := false }
def SeqBooksSaid : Prop := seqBooksRow.holds Try.pinned (OpenSpec.ofChange seqBooksSpec)

/-- ITS FALSE NEIGHBOUR: 'it returns false'. Refute it at one input. -/
def seqBooksWrong : ChangeSpec := { name := "seqBooks", fn := fun _ => fun
  | [d1, d2] => { results := [.lit (.bool false)], args := [d1, d2] }
  | _ => none }
def SeqBooksWrongFalsely : Prop := seqBooksRow.holds Try.pinned (OpenSpec.ofChange seqBooksWrong)

/- THE SECOND FORM. 'bulk': how many values and letters a reading holds, each counted each time it is reached (what is shared counts as often as it is met; a slice's spare places count too). A statement '..UptoSaid' is the law's where the arguments, and the package variables that the reading takes, are together of bulk at most 1048576: NARROWER than '..Said'. Prove '..Said' where nothing that the law and all that it calls make is longer than what came in: it says more and counts as full. Else prove '..UptoSaid'. A law counts once. -/
mutual
def uptoBulk {H : Type} : DataW H → Nat
  | .lit (.string bytes) => bytes.length + 1
  | .lit _ => 1
  | .nil => 1
  | .ptr d => uptoBulk d + 1
  | .slice elems spare => uptoBulkAll elems + uptoBulkAll spare + 1
  | .agg parts => uptoBulkAll parts + 1
  | .iface _ d => uptoBulk d + 1
  | .map entries => uptoBulkEntries entries + 1
  | .held _ => 1
def uptoBulkAll {H : Type} : List (DataW H) → Nat
  | [] => 0
  | d :: r => uptoBulk d + uptoBulkAll r
def uptoBulkEntries {H : Type} : List (Lit × DataW H) → Nat
  | [] => 0
  | x :: r => uptoBulkEntry x + uptoBulkEntries r
def uptoBulkEntry {H : Type} : Lit × DataW H → Nat
  | (.string bytes, d) => bytes.length + uptoBulk d + 1
  | (_, d) => uptoBulk d + 1
 end
def uptoSmall : (H : Type) → List (DataW H) → Bool := fun _ ds => decide (uptoBulkAll ds ≤ 1048576)
def OpenSpec.upto (s : _root_.Go.ChangeSpec) : _root_.Go.OpenSpec := { _root_.Go.OpenSpec.ofChange s with cond := some uptoSmall }

/-- 'tabellionlaw25.SeqOnce', WHERE WHAT IT READS IS OF BULK AT MOST 1048576: true; the input reads as it did. -/
def seqOnceUptoRow : OpenClaim := { program := "ytgefphfnicjbiaa", sum := "bb0c5a1f5e0f98c94fda89abe7692c925cca2865e93129b051f9cdd241511ad0", func := "tabellion/tabellionlaw25.SeqOnce", spec := "seqOnce", inPlace := ["slices.overlaps[tabellion/api.Client]"], unfollowed := true, recurses := true, apart := false, narrowed := true }
def SeqOnceUptoSaid : Prop := seqOnceUptoRow.holds Try.pinned (OpenSpec.upto seqOnceSpec)

/-- 'tabellionlaw25.SeqSplits', WHERE WHAT IT READS IS OF BULK AT MOST 1048576: true; the input reads as it did. -/
def seqSplitsUptoRow : OpenClaim := { program := "ytgefphfnicjbiaa", sum := "bb0c5a1f5e0f98c94fda89abe7692c925cca2865e93129b051f9cdd241511ad0", func := "tabellion/tabellionlaw25.SeqSplits", spec := "seqSplits", inPlace := ["slices.overlaps[tabellion/api.Client]"], unfollowed := true, recurses := true, apart := false, narrowed := true }
def SeqSplitsUptoSaid : Prop := seqSplitsUptoRow.holds Try.pinned (OpenSpec.upto seqSplitsSpec)

/-- 'tabellionlaw25.SeqPlays', WHERE WHAT IT READS IS OF BULK AT MOST 1048576: true; the input reads as it did. -/
def seqPlaysUptoRow : OpenClaim := { program := "ytgefphfnicjbiaa", sum := "bb0c5a1f5e0f98c94fda89abe7692c925cca2865e93129b051f9cdd241511ad0", func := "tabellion/tabellionlaw25.SeqPlays", spec := "seqPlays", inPlace := ["slices.overlaps[tabellion/api.Client]"], unfollowed := true, recurses := true, apart := false, narrowed := true }
def SeqPlaysUptoSaid : Prop := seqPlaysUptoRow.holds Try.pinned (OpenSpec.upto seqPlaysSpec)

/-- 'tabellionlaw25.SeqBooks', WHERE WHAT IT READS IS OF BULK AT MOST 1048576: true; the input reads as it did. -/
def seqBooksUptoRow : OpenClaim := { program := "ytgefphfnicjbiaa", sum := "bb0c5a1f5e0f98c94fda89abe7692c925cca2865e93129b051f9cdd241511ad0", func := "tabellion/tabellionlaw25.SeqBooks", spec := "seqBooks", inPlace := ["slices.overlaps[tabellion/api.Client]"], unfollowed := true, recurses := true, apart := false, narrowed := true }
def SeqBooksUptoSaid : Prop := seqBooksUptoRow.holds Try.pinned (OpenSpec.upto seqBooksSpec)

end Rows
end Go.Proofs.Ytgefphfnicjbiaa
