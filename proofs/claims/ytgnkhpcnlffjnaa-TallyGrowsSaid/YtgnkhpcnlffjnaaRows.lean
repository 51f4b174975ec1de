/-
  No cell of these rows narrows 'for every input' (looked for: loops, veiled, ifaces, maps, wideKeys, modest, calm, conditions, laid).
  DERIVED. THE GIVEN ROWS OF THIS SEAT. 5 by the template 'for every input the law returns true; each argument reads behind the call as it read before'; 0 by the template 'total and deterministic' (their statements: YtgnkhpcnlffjnaaTotals.lean).
  GIVEN WITH THE SEED: the statements are not yours to turn. If you find one false, say at which input.
  Laid BY PROGRAM, IN A SANDBOX (cutbox-rows.mjs): the forced cells as the released guide's own fill.sh prints them over the translation 198aee41169c5a70… (all of the seat's roots in one cut). By AI agents, Wed Nov 11 2026. No macro, syntax, notation, axiom, sorry.
-/
import Derived.Test.YtgnkhpcnlffjnaaChecked
import GoSem.Claim
import GoSem.ClaimJoined
import GoSem.ClaimMapViews
import Derived.JoinedTies
import Derived.KernelRfl
namespace Go.Proofs.Ytgnkhpcnlffjnaa
/- THE CELL 'sum', in the pinned program and in every row, IS THE sha256 OF THE DUMP (.gsa) THAT YtgnkhpcnlffjnaaProg.lean LOADS. Nothing in Lean hashes anything: it is a label: what it is worth is what the hold of that sum in a sandbox is worth. -/
noncomputable def Try.pinned : Pinned := { name := "ytgnkhpcnlffjnaa", sum := "198aee41169c5a7064b402f423441c1b7a029c60ebda720803631b2d18d46e8d", checked := Try.checked }
namespace Rows
def none {H : Type} : Left H := { results := [], args := [] }

/-- 'tabellionlaw23.TallyAgrees': WHATEVER THE INPUT: true; the input reads as it did. -/
def tallyAgreesSpec : ChangeSpec := { name := "tallyAgrees", fn := fun _ => fun
  | [d1, d2] => { results := [.lit (.bool true)], args := [d1, d2] }
  | _ => none }
def tallyAgreesRow : OpenClaim := { program := "ytgnkhpcnlffjnaa", sum := "198aee41169c5a7064b402f423441c1b7a029c60ebda720803631b2d18d46e8d", func := "tabellion/tabellionlaw23.TallyAgrees", spec := "tallyAgrees", unfollowed := true, recurses := true, apart := false }
def TallyAgreesSaid : Prop := tallyAgreesRow.holds Try.pinned (OpenSpec.ofChange tallyAgreesSpec)

/-- ITS FALSE NEIGHBOUR: 'it returns false'. Refute it at one input. -/
def tallyAgreesWrong : ChangeSpec := { name := "tallyAgrees", fn := fun _ => fun
  | [d1, d2] => { results := [.lit (.bool false)], args := [d1, d2] }
  | _ => none }
def TallyAgreesWrongFalsely : Prop := tallyAgreesRow.holds Try.pinned (OpenSpec.ofChange tallyAgreesWrong)

/-- 'tabellionlaw23.TallyAdvances': WHATEVER THE INPUT: true; the input reads as it did. -/
def tallyAdvancesSpec : ChangeSpec := { name := "tallyAdvances", fn := fun _ => fun
  | [d1, d2, d3, d4] => { results := [.lit (.bool true)], args := [d1, d2, d3, d4] }
  | _ => none }
def tallyAdvancesRow : OpenClaim := { program := "ytgnkhpcnlffjnaa", sum := "198aee41169c5a7064b402f423441c1b7a029c60ebda720803631b2d18d46e8d", func := "tabellion/tabellionlaw23.TallyAdvances", spec := "tallyAdvances", unfollowed := true, recurses := true, apart := false }
def TallyAdvancesSaid : Prop := tallyAdvancesRow.holds Try.pinned (OpenSpec.ofChange tallyAdvancesSpec)

/-- ITS FALSE NEIGHBOUR: 'it returns false'. Refute it at one input. -/
def tallyAdvancesWrong : ChangeSpec := { name := "tallyAdvances", fn := fun _ => fun
  | [d1, d2, d3, d4] => { results := [.lit (.bool false)], args := [d1, d2, d3, d4] }
  | _ => none }
def TallyAdvancesWrongFalsely : Prop := tallyAdvancesRow.holds Try.pinned (OpenSpec.ofChange tallyAdvancesWrong)

/-- 'tabellionlaw23.TallyMajority': WHATEVER THE INPUT: true; the input reads as it did. -/
def tallyMajoritySpec : ChangeSpec := { name := "tallyMajority", fn := fun _ => fun
  | [d1, d2] => { results := [.lit (.bool true)], args := [d1, d2] }
  | _ => none }
def tallyMajorityRow : OpenClaim := { program := "ytgnkhpcnlffjnaa", sum := "198aee41169c5a7064b402f423441c1b7a029c60ebda720803631b2d18d46e8d", func := "tabellion/tabellionlaw23.TallyMajority", spec := "tallyMajority", unfollowed := true, recurses := true, apart := false }
def TallyMajoritySaid : Prop := tallyMajorityRow.holds Try.pinned (OpenSpec.ofChange tallyMajoritySpec)

/-- ITS FALSE NEIGHBOUR: 'it returns false'. Refute it at one input. -/
def tallyMajorityWrong : ChangeSpec := { name := "tallyMajority", fn := fun _ => fun
  | [d1, d2] => { results := [.lit (.bool false)], args := [d1, d2] }
  | _ => none }
def TallyMajorityWrongFalsely : Prop := tallyMajorityRow.holds Try.pinned (OpenSpec.ofChange tallyMajorityWrong)

/-- 'tabellionlaw23.TallyGrows': WHATEVER THE INPUT: true; the input reads as it did. -/
def tallyGrowsSpec : ChangeSpec := { name := "tallyGrows", fn := fun _ => fun
  | [d1, d2, d3, d4] => { results := [.lit (.bool true)], args := [d1, d2, d3, d4] }
  | _ => none }
def tallyGrowsRow : OpenClaim := { program := "ytgnkhpcnlffjnaa", sum := "198aee41169c5a7064b402f423441c1b7a029c60ebda720803631b2d18d46e8d", func := "tabellion/tabellionlaw23.TallyGrows", spec := "tallyGrows", unfollowed := true, recurses := true, apart := false }
def TallyGrowsSaid : Prop := tallyGrowsRow.holds Try.pinned (OpenSpec.ofChange tallyGrowsSpec)

/-- ITS FALSE NEIGHBOUR: 'it returns false'. Refute it at one input. -/
def tallyGrowsWrong : ChangeSpec := { name := "tallyGrows", fn := fun _ => fun
  | [d1, d2, d3, d4] => { results := [.lit (.bool false)], args := [d1, d2, d3, d4] }
  | _ => none }
def TallyGrowsWrongFalsely : Prop := tallyGrowsRow.holds Try.pinned (OpenSpec.ofChange tallyGrowsWrong)

/-- 'tabellionlaw23.TallyMeets': WHATEVER THE INPUT: true; the input reads as it did. -/
def tallyMeetsSpec : ChangeSpec := { name := "tallyMeets", fn := fun _ => fun
  | [d1, d2, d3] => { results := [.lit (.bool true)], args := [d1, d2, d3] }
  | _ => none }
def tallyMeetsRow : OpenClaim := { program := "ytgnkhpcnlffjnaa", sum := "198aee41169c5a7064b402f423441c1b7a029c60ebda720803631b2d18d46e8d", func := "tabellion/tabellionlaw23.TallyMeets", spec := "tallyMeets", unfollowed := true, recurses := true, apart := false }
def TallyMeetsSaid : Prop := tallyMeetsRow.holds Try.pinned (OpenSpec.ofChange tallyMeetsSpec)

/-- ITS FALSE NEIGHBOUR: 'it returns false'. Refute it at one input. -/
def tallyMeetsWrong : ChangeSpec := { name := "tallyMeets", fn := fun _ => fun
  | [d1, d2, d3] => { results := [.lit (.bool false)], args := [d1, d2, d3] }
  | _ => none }
def TallyMeetsWrongFalsely : Prop := tallyMeetsRow.holds Try.pinned (OpenSpec.ofChange tallyMeetsWrong)

/- THE SECOND FORM. 'bulk': how many values and letters a reading holds, each counted each time it is reached (what is shared counts as often as it is met; a slice's spare places count too). A statement '..UptoSaid' is the law's where the arguments, and the package variables that the reading takes, are together of bulk at most 1048576: NARROWER than '..Said'. Prove '..Said' where nothing that the law and all that it calls make is longer than what came in: it says more and counts as full. Else prove '..UptoSaid'. A law counts once. -/
mutual
def uptoBulk {H : Type} : DataW H → Nat
  | .lit (.string bytes) => bytes.length + 1
  | .lit _ => 1
  | .nil => 1
  | .ptr d => uptoBulk d + 1
  | .slice elems spare => uptoBulkAll elems + uptoBulkAll spare + 1
  | .agg parts => uptoBulkAll parts + 1
  | .iface _ d => uptoBulk d + 1
  | .map entries => uptoBulkEntries entries + 1
  | .held _ => 1
def uptoBulkAll {H : Type} : List (DataW H) → Nat
  | [] => 0
  | d :: r => uptoBulk d + uptoBulkAll r
def uptoBulkEntries {H : Type} : List (Lit × DataW H) → Nat
  | [] => 0
  | x :: r => uptoBulkEntry x + uptoBulkEntries r
def uptoBulkEntry {H : Type} : Lit × DataW H → Nat
  | (.string bytes, d) => bytes.length + uptoBulk d + 1
  | (_, d) => uptoBulk d + 1
 end
def uptoSmall : (H : Type) → List (DataW H) → Bool := fun _ ds => decide (uptoBulkAll ds ≤ 1048576)
def OpenSpec.upto (s : _root_.Go.ChangeSpec) : _root_.Go.OpenSpec := { _root_.Go.OpenSpec.ofChange s with cond := some uptoSmall }

/-- 'tabellionlaw23.TallyAgrees', WHERE WHAT IT READS IS OF BULK AT MOST 1048576: true; the input reads as it did. -/
def tallyAgreesUptoRow : OpenClaim := { program := "ytgnkhpcnlffjnaa", sum := "198aee41169c5a7064b402f423441c1b7a029c60ebda720803631b2d18d46e8d", func := "tabellion/tabellionlaw23.TallyAgrees", spec := "tallyAgrees", unfollowed := true, recurses := true, apart := false, narrowed := true }
def TallyAgreesUptoSaid : Prop := tallyAgreesUptoRow.holds Try.pinned (OpenSpec.upto tallyAgreesSpec)

/-- 'tabellionlaw23.TallyAdvances', WHERE WHAT IT READS IS OF BULK AT MOST 1048576: true; the input reads as it did. -/
def tallyAdvancesUptoRow : OpenClaim := { program := "ytgnkhpcnlffjnaa", sum := "198aee41169c5a7064b402f423441c1b7a029c60ebda720803631b2d18d46e8d", func := "tabellion/tabellionlaw23.TallyAdvances", spec := "tallyAdvances", unfollowed := true, recurses := true, apart := false, narrowed := true }
def TallyAdvancesUptoSaid : Prop := tallyAdvancesUptoRow.holds Try.pinned (OpenSpec.upto tallyAdvancesSpec)

/-- 'tabellionlaw23.TallyMajority', WHERE WHAT IT READS IS OF BULK AT MOST 1048576: true; the input reads as it did. -/
def tallyMajorityUptoRow : OpenClaim := { program := "ytgnkhpcnlffjnaa", sum := "198aee41169c5a7064b402f423441c1b7a029c60ebda720803631b2d18d46e8d", func := "tabellion/tabellionlaw23.TallyMajority", spec := "tallyMajority", unfollowed := true, recurses := true, apart := false, narrowed := true }
def TallyMajorityUptoSaid : Prop := tallyMajorityUptoRow.holds Try.pinned (OpenSpec.upto tallyMajoritySpec)

/-- 'tabellionlaw23.TallyGrows', WHERE WHAT IT READS IS OF BULK AT MOST 1048576: true; the input reads as it did. -/
def tallyGrowsUptoRow : OpenClaim := { program := "ytgnkhpcnlffjnaa", sum := "198aee41169c5a7064b402f423441c1b7a029c60ebda720803631b2d18d46e8d", func := "tabellion/tabellionlaw23.TallyGrows", spec := "tallyGrows", unfollowed := true, recurses := true, apart := false, narrowed := true }
def TallyGrowsUptoSaid : Prop := tallyGrowsUptoRow.holds Try.pinned (OpenSpec.upto tallyGrowsSpec)

/-- 'tabellionlaw23.TallyMeets', WHERE WHAT IT READS IS OF BULK AT MOST 1048576: true; the input reads as it did. -/
def tallyMeetsUptoRow : OpenClaim := { program := "ytgnkhpcnlffjnaa", sum := "198aee41169c5a7064b402f423441c1b7a029c60ebda720803631b2d18d46e8d", func := "tabellion/tabellionlaw23.TallyMeets", spec := "tallyMeets", unfollowed := true, recurses := true, apart := false, narrowed := true }
def TallyMeetsUptoSaid : Prop := tallyMeetsUptoRow.holds Try.pinned (OpenSpec.upto tallyMeetsSpec)

end Rows
end Go.Proofs.Ytgnkhpcnlffjnaa
