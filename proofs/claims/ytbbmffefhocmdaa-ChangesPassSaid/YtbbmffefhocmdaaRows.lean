/-
  No cell of these rows narrows 'for every input' (looked for: loops, veiled, ifaces, maps, wideKeys, modest, calm, conditions, laid).
  DERIVED. THE GIVEN ROWS OF THIS SEAT. 5 by the template 'for every input the law returns true; each argument reads behind the call as it read before'; 0 by the template 'total and deterministic' (their statements: YtbbmffefhocmdaaTotals.lean).
  GIVEN WITH THE SEED: the statements are not yours to turn. If you find one false, say at which input.
  Laid BY PROGRAM, IN A SANDBOX (cutbox-rows.mjs): the forced cells as the released guide's own fill.sh prints them over the translation 9da96082476e4929… (all of the seat's roots in one cut). By AI agents, Wed Nov 11 2026. No macro, syntax, notation, axiom, sorry.
-/
import Derived.Test.YtbbmffefhocmdaaChecked
import GoSem.Claim
import GoSem.ClaimJoined
import GoSem.ClaimMapViews
import Derived.JoinedTies
import Derived.KernelRfl
namespace Go.Proofs.Ytbbmffefhocmdaa
/- THE CELL 'sum', in the pinned program and in every row, IS THE sha256 OF THE DUMP (.gsa) THAT YtbbmffefhocmdaaProg.lean LOADS. Nothing in Lean hashes anything: it is a label: what it is worth is what the hold of that sum in a sandbox is worth. -/
noncomputable def Try.pinned : Pinned := { name := "ytbbmffefhocmdaa", sum := "9da96082476e4929e4edad9efbcac80580824397ef87edbfef59b60ce156aeb9", checked := Try.checked }
namespace Rows
def none {H : Type} : Left H := { results := [], args := [] }

/-- 'hglaw2.PlacesMoved': WHATEVER THE INPUT: true; the input reads as it did. -/
def placesMovedSpec : ChangeSpec := { name := "placesMoved", fn := fun _ => fun
  | [d] => { results := [.lit (.bool true)], args := [d] }
  | _ => none }
def placesMovedRow : OpenClaim := { program := "ytbbmffefhocmdaa", sum := "9da96082476e4929e4edad9efbcac80580824397ef87edbfef59b60ce156aeb9", func := "hedgelayer/hglaw2.PlacesMoved", spec := "placesMoved", inPlace := ["internal/abi.NoEscape"], unfollowed := true, recurses := true, apart := false }
def PlacesMovedSaid : Prop := placesMovedRow.holds Try.pinned (OpenSpec.ofChange placesMovedSpec)

/-- ITS FALSE NEIGHBOUR: 'it returns false'. Refute it at one input. -/
def placesMovedWrong : ChangeSpec := { name := "placesMoved", fn := fun _ => fun
  | [d] => { results := [.lit (.bool false)], args := [d] }
  | _ => none }
def PlacesMovedWrongFalsely : Prop := placesMovedRow.holds Try.pinned (OpenSpec.ofChange placesMovedWrong)

/-- 'hglaw2.ChangesMade': WHATEVER THE INPUT: true; the input reads as it did. -/
def changesMadeSpec : ChangeSpec := { name := "changesMade", fn := fun _ => fun
  | [d] => { results := [.lit (.bool true)], args := [d] }
  | _ => none }
def changesMadeRow : OpenClaim := { program := "ytbbmffefhocmdaa", sum := "9da96082476e4929e4edad9efbcac80580824397ef87edbfef59b60ce156aeb9", func := "hedgelayer/hglaw2.ChangesMade", spec := "changesMade", inPlace := ["internal/abi.NoEscape"], unfollowed := true, recurses := true, apart := false }
def ChangesMadeSaid : Prop := changesMadeRow.holds Try.pinned (OpenSpec.ofChange changesMadeSpec)

/-- ITS FALSE NEIGHBOUR: 'it returns false'. Refute it at one input. -/
def changesMadeWrong : ChangeSpec := { name := "changesMade", fn := fun _ => fun
  | [d] => { results := [.lit (.bool false)], args := [d] }
  | _ => none }
def ChangesMadeWrongFalsely : Prop := changesMadeRow.holds Try.pinned (OpenSpec.ofChange changesMadeWrong)

/-- 'hglaw2.ChangesFollow': WHATEVER THE INPUT: true; the input reads as it did. -/
def changesFollowSpec : ChangeSpec := { name := "changesFollow", fn := fun _ => fun
  | [d] => { results := [.lit (.bool true)], args := [d] }
  | _ => none }
def changesFollowRow : OpenClaim := { program := "ytbbmffefhocmdaa", sum := "9da96082476e4929e4edad9efbcac80580824397ef87edbfef59b60ce156aeb9", func := "hedgelayer/hglaw2.ChangesFollow", spec := "changesFollow", inPlace := ["internal/abi.NoEscape"], unfollowed := true, recurses := true, apart := false }
def ChangesFollowSaid : Prop := changesFollowRow.holds Try.pinned (OpenSpec.ofChange changesFollowSpec)

/-- ITS FALSE NEIGHBOUR: 'it returns false'. Refute it at one input. -/
def changesFollowWrong : ChangeSpec := { name := "changesFollow", fn := fun _ => fun
  | [d] => { results := [.lit (.bool false)], args := [d] }
  | _ => none }
def ChangesFollowWrongFalsely : Prop := changesFollowRow.holds Try.pinned (OpenSpec.ofChange changesFollowWrong)

/-- 'hglaw2.TreesChecked': WHATEVER THE INPUT: true; the input reads as it did. -/
def treesCheckedSpec : ChangeSpec := { name := "treesChecked", fn := fun _ => fun
  | [d] => { results := [.lit (.bool true)], args := [d] }
  | _ => none }
def treesCheckedRow : OpenClaim := { program := "ytbbmffefhocmdaa", sum := "9da96082476e4929e4edad9efbcac80580824397ef87edbfef59b60ce156aeb9", func := "hedgelayer/hglaw2.TreesChecked", spec := "treesChecked", inPlace := ["internal/bytealg.IndexByteString", "internal/abi.NoEscape"], unfollowed := true, recurses := true, apart := false }
def TreesCheckedSaid : Prop := treesCheckedRow.holds Try.pinned (OpenSpec.ofChange treesCheckedSpec)

/-- ITS FALSE NEIGHBOUR: 'it returns false'. Refute it at one input. -/
def treesCheckedWrong : ChangeSpec := { name := "treesChecked", fn := fun _ => fun
  | [d] => { results := [.lit (.bool false)], args := [d] }
  | _ => none }
def TreesCheckedWrongFalsely : Prop := treesCheckedRow.holds Try.pinned (OpenSpec.ofChange treesCheckedWrong)

/-- 'hglaw2.ChangesPass': WHATEVER THE INPUT: true; the input reads as it did. -/
def changesPassSpec : ChangeSpec := { name := "changesPass", fn := fun _ => fun
  | [d] => { results := [.lit (.bool true)], args := [d] }
  | _ => none }
def changesPassRow : OpenClaim := { program := "ytbbmffefhocmdaa", sum := "9da96082476e4929e4edad9efbcac80580824397ef87edbfef59b60ce156aeb9", func := "hedgelayer/hglaw2.ChangesPass", spec := "changesPass", inPlace := ["internal/abi.NoEscape"], unfollowed := true, recurses := true, apart := false }
def ChangesPassSaid : Prop := changesPassRow.holds Try.pinned (OpenSpec.ofChange changesPassSpec)

/-- ITS FALSE NEIGHBOUR: 'it returns false'. Refute it at one input. -/
def changesPassWrong : ChangeSpec := { name := "changesPass", fn := fun _ => fun
  | [d] => { results := [.lit (.bool false)], args := [d] }
  | _ => none }
def ChangesPassWrongFalsely : Prop := changesPassRow.holds Try.pinned (OpenSpec.ofChange changesPassWrong)

/- THE SECOND FORM. 'bulk': how many values and letters a reading holds, each counted each time it is reached (what is shared counts as often as it is met; a slice's spare places count too). A statement '..UptoSaid' is the law's where the arguments, and the package variables that the reading takes, are together of bulk at most 1048576: NARROWER than '..Said'. Prove '..Said' where nothing that the law and all that it calls make is longer than what came in: it says more and counts as full. Else prove '..UptoSaid'. A law counts once. -/
mutual
def uptoBulk {H : Type} : DataW H → Nat
  | .lit (.string bytes) => bytes.length + 1
  | .lit _ => 1
  | .nil => 1
  | .ptr d => uptoBulk d + 1
  | .slice elems spare => uptoBulkAll elems + uptoBulkAll spare + 1
  | .agg parts => uptoBulkAll parts + 1
  | .iface _ d => uptoBulk d + 1
  | .map entries => uptoBulkEntries entries + 1
  | .held _ => 1
def uptoBulkAll {H : Type} : List (DataW H) → Nat
  | [] => 0
  | d :: r => uptoBulk d + uptoBulkAll r
def uptoBulkEntries {H : Type} : List (Lit × DataW H) → Nat
  | [] => 0
  | x :: r => uptoBulkEntry x + uptoBulkEntries r
def uptoBulkEntry {H : Type} : Lit × DataW H → Nat
  | (.string bytes, d) => bytes.length + uptoBulk d + 1
  | (_, d) => uptoBulk d + 1
 end
def uptoSmall : (H : Type) → List (DataW H) → Bool := fun _ ds => decide (uptoBulkAll ds ≤ 1048576)
def OpenSpec.upto (s : _root_.Go.ChangeSpec) : _root_.Go.OpenSpec := { _root_.Go.OpenSpec.ofChange s with cond := some uptoSmall }

/-- 'hglaw2.PlacesMoved', WHERE WHAT IT READS IS OF BULK AT MOST 1048576: true; the input reads as it did. -/
def placesMovedUptoRow : OpenClaim := { program := "ytbbmffefhocmdaa", sum := "9da96082476e4929e4edad9efbcac80580824397ef87edbfef59b60ce156aeb9", func := "hedgelayer/hglaw2.PlacesMoved", spec := "placesMoved", inPlace := ["internal/abi.NoEscape"], unfollowed := true, recurses := true, apart := false, narrowed := true }
def PlacesMovedUptoSaid : Prop := placesMovedUptoRow.holds Try.pinned (OpenSpec.upto placesMovedSpec)

/-- 'hglaw2.ChangesMade', WHERE WHAT IT READS IS OF BULK AT MOST 1048576: true; the input reads as it did. -/
def changesMadeUptoRow : OpenClaim := { program := "ytbbmffefhocmdaa", sum := "9da96082476e4929e4edad9efbcac80580824397ef87edbfef59b60ce156aeb9", func := "hedgelayer/hglaw2.ChangesMade", spec := "changesMade", inPlace := ["internal/abi.NoEscape"], unfollowed := true, recurses := true, apart := false, narrowed := true }
def ChangesMadeUptoSaid : Prop := changesMadeUptoRow.holds Try.pinned (OpenSpec.upto changesMadeSpec)

/-- 'hglaw2.ChangesFollow', WHERE WHAT IT READS IS OF BULK AT MOST 1048576: true; the input reads as it did. -/
def changesFollowUptoRow : OpenClaim := { program := "ytbbmffefhocmdaa", sum := "9da96082476e4929e4edad9efbcac80580824397ef87edbfef59b60ce156aeb9", func := "hedgelayer/hglaw2.ChangesFollow", spec := "changesFollow", inPlace := ["internal/abi.NoEscape"], unfollowed := true, recurses := true, apart := false, narrowed := true }
def ChangesFollowUptoSaid : Prop := changesFollowUptoRow.holds Try.pinned (OpenSpec.upto changesFollowSpec)

/-- 'hglaw2.TreesChecked', WHERE WHAT IT READS IS OF BULK AT MOST 1048576: true; the input reads as it did. -/
def treesCheckedUptoRow : OpenClaim := { program := "ytbbmffefhocmdaa", sum := "9da96082476e4929e4edad9efbcac80580824397ef87edbfef59b60ce156aeb9", func := "hedgelayer/hglaw2.TreesChecked", spec := "treesChecked", inPlace := ["internal/bytealg.IndexByteString", "internal/abi.NoEscape"], unfollowed := true, recurses := true, apart := false, narrowed := true }
def TreesCheckedUptoSaid : Prop := treesCheckedUptoRow.holds Try.pinned (OpenSpec.upto treesCheckedSpec)

/-- 'hglaw2.ChangesPass', WHERE WHAT IT READS IS OF BULK AT MOST 1048576: true; the input reads as it did. -/
def changesPassUptoRow : OpenClaim := { program := "ytbbmffefhocmdaa", sum := "9da96082476e4929e4edad9efbcac80580824397ef87edbfef59b60ce156aeb9", func := "hedgelayer/hglaw2.ChangesPass", spec := "changesPass", inPlace := ["internal/abi.NoEscape"], unfollowed := true, recurses := true, apart := false, narrowed := true }
def ChangesPassUptoSaid : Prop := changesPassUptoRow.holds Try.pinned (OpenSpec.upto changesPassSpec)

end Rows
end Go.Proofs.Ytbbmffefhocmdaa
