/-
  NARROWER THAN 'FOR EVERY INPUT', by the rows' own cells (each row's printed sentence says how): InverseUndoes: laid · ThenIsAssociative: laid · ChangesStay: laid · PlacesKeepOrder: laid · BothOrdersMeet: laid · DiffIsLeast: laid.
  DERIVED. THE GIVEN ROWS OF THIS SEAT. 6 by the template 'for every input the law returns true; each argument reads behind the call as it read before'; 0 by the template 'total and deterministic' (their statements: YtiohblpikmjofaaGreatDoorTotals.lean).
  GIVEN WITH THE SEED: the statements are not yours to turn. If you find one false, say at which input.
  Laid BY PROGRAM, IN A SANDBOX (cutbox-rows.mjs): the forced cells as the released guide's own fill.sh prints them over the translation 47c3f9cd70615f58… (all of the seat's roots in one cut). By AI agents, Wed Nov 11 2026. No macro, syntax, notation, axiom, sorry.
-/
import Derived.Test.YtiohblpikmjofaaGreatDoorChecked
import GoSem.PinnedTables
import GoSem.Claim
import GoSem.ClaimJoined
import GoSem.ClaimMapViews
import Derived.JoinedTies
import Derived.KernelRfl
namespace Go.Proofs.YtiohblpikmjofaaGreatDoor
/- THE CELL 'sum', in the pinned program and in every row, IS THE sha256 OF THE DUMP (.gsa) THAT YtiohblpikmjofaaGreatDoorProg.lean LOADS. Nothing in Lean hashes anything: it is a label: what it is worth is what the hold of that sum in a sandbox is worth. -/
noncomputable def Tryz.pinned : Pinned := { name := "ytiohblpikmjofaagreatdoor", sum := "47c3f9cd70615f58fb903c72f1a710d81dcb3b4df4cccb142e2571f897cfcce6", checked := Tryz.checked }
namespace Rows
def none {H : Type} : Left H := { results := [], args := [] }

/- WHAT THE LISTED PACKAGE-LEVEL VARIABLES READ AS WHEN THE CALL BEGINS. Each datum BY PROGRAM (the guide's laid-datum.mjs) off the statement by which the dump's own 'gosem.cut.vars' lays the variable. In a bare row this is a premise. The card (YtiohblpikmjofaaGreatDoorCards.lean) ties it to the program's text. -/
def laid_math_bits_deBruijn32tab {H : Type} : DataW H := .agg [.lit (.int .u8 0), .lit (.int .u8 1), .lit (.int .u8 28), .lit (.int .u8 2), .lit (.int .u8 29), .lit (.int .u8 14), .lit (.int .u8 24), .lit (.int .u8 3), .lit (.int .u8 30), .lit (.int .u8 22), .lit (.int .u8 20), .lit (.int .u8 15), .lit (.int .u8 25), .lit (.int .u8 17), .lit (.int .u8 4), .lit (.int .u8 8), .lit (.int .u8 31), .lit (.int .u8 27), .lit (.int .u8 13), .lit (.int .u8 23), .lit (.int .u8 21), .lit (.int .u8 19), .lit (.int .u8 16), .lit (.int .u8 7), .lit (.int .u8 26), .lit (.int .u8 12), .lit (.int .u8 18), .lit (.int .u8 6), .lit (.int .u8 11), .lit (.int .u8 5), .lit (.int .u8 10), .lit (.int .u8 9)]
def laid_math_bits_deBruijn64tab {H : Type} : DataW H := .agg [.lit (.int .u8 0), .lit (.int .u8 1), .lit (.int .u8 56), .lit (.int .u8 2), .lit (.int .u8 57), .lit (.int .u8 49), .lit (.int .u8 28), .lit (.int .u8 3), .lit (.int .u8 61), .lit (.int .u8 58), .lit (.int .u8 42), .lit (.int .u8 50), .lit (.int .u8 38), .lit (.int .u8 29), .lit (.int .u8 17), .lit (.int .u8 4), .lit (.int .u8 62), .lit (.int .u8 47), .lit (.int .u8 59), .lit (.int .u8 36), .lit (.int .u8 45), .lit (.int .u8 43), .lit (.int .u8 51), .lit (.int .u8 22), .lit (.int .u8 53), .lit (.int .u8 39), .lit (.int .u8 33), .lit (.int .u8 30), .lit (.int .u8 24), .lit (.int .u8 18), .lit (.int .u8 12), .lit (.int .u8 5), .lit (.int .u8 63), .lit (.int .u8 55), .lit (.int .u8 48), .lit (.int .u8 27), .lit (.int .u8 60), .lit (.int .u8 41), .lit (.int .u8 37), .lit (.int .u8 16), .lit (.int .u8 46), .lit (.int .u8 35), .lit (.int .u8 44), .lit (.int .u8 21), .lit (.int .u8 52), .lit (.int .u8 32), .lit (.int .u8 23), .lit (.int .u8 11), .lit (.int .u8 54), .lit (.int .u8 26), .lit (.int .u8 40), .lit (.int .u8 15), .lit (.int .u8 34), .lit (.int .u8 20), .lit (.int .u8 31), .lit (.int .u8 10), .lit (.int .u8 25), .lit (.int .u8 14), .lit (.int .u8 19), .lit (.int .u8 9), .lit (.int .u8 13), .lit (.int .u8 8), .lit (.int .u8 7), .lit (.int .u8 6)]
def laid_internal_strconv_uint64pow10 {H : Type} : DataW H := .agg [.lit (.int .u64 1), .lit (.int .u64 10), .lit (.int .u64 100), .lit (.int .u64 1000), .lit (.int .u64 10000), .lit (.int .u64 100000), .lit (.int .u64 1000000), .lit (.int .u64 10000000), .lit (.int .u64 100000000), .lit (.int .u64 1000000000), .lit (.int .u64 10000000000), .lit (.int .u64 100000000000), .lit (.int .u64 1000000000000), .lit (.int .u64 10000000000000), .lit (.int .u64 100000000000000), .lit (.int .u64 1000000000000000), .lit (.int .u64 10000000000000000), .lit (.int .u64 100000000000000000), .lit (.int .u64 1000000000000000000), .lit (.int .u64 10000000000000000000)]
def laid_unicode_utf8_acceptRanges {H : Type} : DataW H := .agg [.agg [.lit (.int .u8 128), .lit (.int .u8 191)], .agg [.lit (.int .u8 160), .lit (.int .u8 191)], .agg [.lit (.int .u8 128), .lit (.int .u8 159)], .agg [.lit (.int .u8 144), .lit (.int .u8 191)], .agg [.lit (.int .u8 128), .lit (.int .u8 143)], .agg [.lit (.int .u8 0), .lit (.int .u8 0)], .agg [.lit (.int .u8 0), .lit (.int .u8 0)], .agg [.lit (.int .u8 0), .lit (.int .u8 0)], .agg [.lit (.int .u8 0), .lit (.int .u8 0)], .agg [.lit (.int .u8 0), .lit (.int .u8 0)], .agg [.lit (.int .u8 0), .lit (.int .u8 0)], .agg [.lit (.int .u8 0), .lit (.int .u8 0)], .agg [.lit (.int .u8 0), .lit (.int .u8 0)], .agg [.lit (.int .u8 0), .lit (.int .u8 0)], .agg [.lit (.int .u8 0), .lit (.int .u8 0)], .agg [.lit (.int .u8 0), .lit (.int .u8 0)]]
def laid_hedgelayer_repair_never {H : Type} : DataW H := .agg [.lit (.int .i64 1152921504606846976), .lit (.int .i64 0)]
/-- One of Go's own tables, pinned by name: the form's constant. -/
def laid_unicode_utf8_first : DataW Unit := Go.Pinned.utf8First

/-- 'hgkeep2.InverseUndoes': WHATEVER THE INPUT: true; the input reads as it did. -/
def inverseUndoesSpec : ChangeSpec := { name := "inverseUndoes", fn := fun _ => fun
  | [d] => { results := [.lit (.bool true)], args := [d] }
  | _ => none }
def inverseUndoesRow : OpenClaim := { program := "ytiohblpikmjofaagreatdoor", sum := "47c3f9cd70615f58fb903c72f1a710d81dcb3b4df4cccb142e2571f897cfcce6", func := "hedgelayer/hgkeep2.InverseUndoes", spec := "inverseUndoes", inPlace := ["internal/abi.NoEscape", "internal/bytealg.CountString", "internal/bytealg.IndexByteString", "internal/bytealg.IndexString", "internal/bytealg.abigen_runtime_cmpstring", "slices.overlaps[hedgelayer/api.Note]"], unfollowed := true, recurses := true, named := ["math/bits.deBruijn64tab", "unicode/utf8.first", "unicode/utf8.acceptRanges", "internal/bytealg.MaxLen", "internal/strconv.uint64pow10", "math/bits.deBruijn32tab", "hedgelayer/repair.never"], plainKeys := false, apart := false, laid := [("math/bits.deBruijn32tab", laid_math_bits_deBruijn32tab), ("math/bits.deBruijn64tab", laid_math_bits_deBruijn64tab), ("internal/strconv.uint64pow10", laid_internal_strconv_uint64pow10), ("unicode/utf8.acceptRanges", laid_unicode_utf8_acceptRanges), ("hedgelayer/repair.never", laid_hedgelayer_repair_never), ("unicode/utf8.first", laid_unicode_utf8_first)] }
def InverseUndoesSaid : Prop := inverseUndoesRow.holds Tryz.pinned (OpenSpec.ofChange inverseUndoesSpec)

/-- ITS FALSE NEIGHBOUR: 'it returns false'. Refute it at one input. -/
def inverseUndoesWrong : ChangeSpec := { name := "inverseUndoes", fn := fun _ => fun
  | [d] => { results := [.lit (.bool false)], args := [d] }
  | _ => none }
def InverseUndoesWrongFalsely : Prop := inverseUndoesRow.holds Tryz.pinned (OpenSpec.ofChange inverseUndoesWrong)

/-- 'hgkeep2.ThenIsAssociative': WHATEVER THE INPUT: true; the input reads as it did. -/
def thenIsAssociativeSpec : ChangeSpec := { name := "thenIsAssociative", fn := fun _ => fun
  | [d] => { results := [.lit (.bool true)], args := [d] }
  | _ => none }
def thenIsAssociativeRow : OpenClaim := { program := "ytiohblpikmjofaagreatdoor", sum := "47c3f9cd70615f58fb903c72f1a710d81dcb3b4df4cccb142e2571f897cfcce6", func := "hedgelayer/hgkeep2.ThenIsAssociative", spec := "thenIsAssociative", inPlace := ["internal/abi.NoEscape", "internal/bytealg.CountString", "internal/bytealg.IndexByteString", "internal/bytealg.IndexString", "internal/bytealg.abigen_runtime_cmpstring", "slices.overlaps[hedgelayer/api.Note]"], unfollowed := true, recurses := true, named := ["math/bits.deBruijn64tab", "unicode/utf8.first", "unicode/utf8.acceptRanges", "internal/bytealg.MaxLen", "internal/strconv.uint64pow10", "math/bits.deBruijn32tab", "hedgelayer/repair.never"], plainKeys := false, apart := false, laid := [("math/bits.deBruijn32tab", laid_math_bits_deBruijn32tab), ("math/bits.deBruijn64tab", laid_math_bits_deBruijn64tab), ("internal/strconv.uint64pow10", laid_internal_strconv_uint64pow10), ("unicode/utf8.acceptRanges", laid_unicode_utf8_acceptRanges), ("hedgelayer/repair.never", laid_hedgelayer_repair_never), ("unicode/utf8.first", laid_unicode_utf8_first)] }
def ThenIsAssociativeSaid : Prop := thenIsAssociativeRow.holds Tryz.pinned (OpenSpec.ofChange thenIsAssociativeSpec)

/-- ITS FALSE NEIGHBOUR: 'it returns false'. Refute it at one input. -/
def thenIsAssociativeWrong : ChangeSpec := { name := "thenIsAssociative", fn := fun _ => fun
  | [d] => { results := [.lit (.bool false)], args := [d] }
  | _ => none }
def ThenIsAssociativeWrongFalsely : Prop := thenIsAssociativeRow.holds Tryz.pinned (OpenSpec.ofChange thenIsAssociativeWrong)

/-- 'hgkeep2.ChangesStay': WHATEVER THE INPUT: true; the input reads as it did. -/
def changesStaySpec : ChangeSpec := { name := "changesStay", fn := fun _ => fun
  | [d] => { results := [.lit (.bool true)], args := [d] }
  | _ => none }
def changesStayRow : OpenClaim := { program := "ytiohblpikmjofaagreatdoor", sum := "47c3f9cd70615f58fb903c72f1a710d81dcb3b4df4cccb142e2571f897cfcce6", func := "hedgelayer/hgkeep2.ChangesStay", spec := "changesStay", inPlace := ["internal/abi.NoEscape", "internal/bytealg.CountString", "internal/bytealg.IndexByteString", "internal/bytealg.IndexString", "internal/bytealg.abigen_runtime_cmpstring", "slices.overlaps[hedgelayer/api.Note]"], unfollowed := true, recurses := true, named := ["math/bits.deBruijn64tab", "unicode/utf8.first", "unicode/utf8.acceptRanges", "internal/bytealg.MaxLen", "internal/strconv.uint64pow10", "math/bits.deBruijn32tab", "hedgelayer/repair.never"], plainKeys := false, apart := false, laid := [("math/bits.deBruijn32tab", laid_math_bits_deBruijn32tab), ("math/bits.deBruijn64tab", laid_math_bits_deBruijn64tab), ("internal/strconv.uint64pow10", laid_internal_strconv_uint64pow10), ("unicode/utf8.acceptRanges", laid_unicode_utf8_acceptRanges), ("hedgelayer/repair.never", laid_hedgelayer_repair_never), ("unicode/utf8.first", laid_unicode_utf8_first)] }
def ChangesStaySaid : Prop := changesStayRow.holds Tryz.pinned (OpenSpec.ofChange changesStaySpec)

/-- ITS FALSE NEIGHBOUR: 'it returns false'. Refute it at one input. -/
def changesStayWrong : ChangeSpec := { name := "changesStay", fn := fun _ => fun
  | [d] => { results := [.lit (.bool false)], args := [d] }
  | _ => none }
def ChangesStayWrongFalsely : Prop := changesStayRow.holds Tryz.pinned (OpenSpec.ofChange changesStayWrong)

/-- 'hgkeep2.PlacesKeepOrder': WHATEVER THE INPUT: true; the input reads as it did. -/
def placesKeepOrderSpec : ChangeSpec := { name := "placesKeepOrder", fn := fun _ => fun
  | [d] => { results := [.lit (.bool true)], args := [d] }
  | _ => none }
def placesKeepOrderRow : OpenClaim := { program := "ytiohblpikmjofaagreatdoor", sum := "47c3f9cd70615f58fb903c72f1a710d81dcb3b4df4cccb142e2571f897cfcce6", func := "hedgelayer/hgkeep2.PlacesKeepOrder", spec := "placesKeepOrder", inPlace := ["internal/abi.NoEscape", "internal/bytealg.CountString", "internal/bytealg.IndexByteString", "internal/bytealg.IndexString", "internal/bytealg.abigen_runtime_cmpstring", "slices.overlaps[hedgelayer/api.Note]"], unfollowed := true, recurses := true, named := ["math/bits.deBruijn64tab", "unicode/utf8.first", "unicode/utf8.acceptRanges", "internal/bytealg.MaxLen", "internal/strconv.uint64pow10", "math/bits.deBruijn32tab", "hedgelayer/repair.never"], plainKeys := false, apart := false, laid := [("math/bits.deBruijn32tab", laid_math_bits_deBruijn32tab), ("math/bits.deBruijn64tab", laid_math_bits_deBruijn64tab), ("internal/strconv.uint64pow10", laid_internal_strconv_uint64pow10), ("unicode/utf8.acceptRanges", laid_unicode_utf8_acceptRanges), ("hedgelayer/repair.never", laid_hedgelayer_repair_never), ("unicode/utf8.first", laid_unicode_utf8_first)] }
def PlacesKeepOrderSaid : Prop := placesKeepOrderRow.holds Tryz.pinned (OpenSpec.ofChange placesKeepOrderSpec)

/-- ITS FALSE NEIGHBOUR: 'it returns false'. Refute it at one input. -/
def placesKeepOrderWrong : ChangeSpec := { name := "placesKeepOrder", fn := fun _ => fun
  | [d] => { results := [.lit (.bool false)], args := [d] }
  | _ => none }
def PlacesKeepOrderWrongFalsely : Prop := placesKeepOrderRow.holds Tryz.pinned (OpenSpec.ofChange placesKeepOrderWrong)

/-- 'hgkeep2.BothOrdersMeet': WHATEVER THE INPUT: true; the input reads as it did. -/
def bothOrdersMeetSpec : ChangeSpec := { name := "bothOrdersMeet", fn := fun _ => fun
  | [d] => { results := [.lit (.bool true)], args := [d] }
  | _ => none }
def bothOrdersMeetRow : OpenClaim := { program := "ytiohblpikmjofaagreatdoor", sum := "47c3f9cd70615f58fb903c72f1a710d81dcb3b4df4cccb142e2571f897cfcce6", func := "hedgelayer/hgkeep2.BothOrdersMeet", spec := "bothOrdersMeet", inPlace := ["internal/abi.NoEscape", "internal/bytealg.CountString", "internal/bytealg.IndexByteString", "internal/bytealg.IndexString", "internal/bytealg.abigen_runtime_cmpstring", "slices.overlaps[hedgelayer/api.Note]"], unfollowed := true, recurses := true, named := ["math/bits.deBruijn64tab", "unicode/utf8.first", "unicode/utf8.acceptRanges", "internal/bytealg.MaxLen", "internal/strconv.uint64pow10", "math/bits.deBruijn32tab", "hedgelayer/repair.never"], plainKeys := false, apart := false, laid := [("math/bits.deBruijn32tab", laid_math_bits_deBruijn32tab), ("math/bits.deBruijn64tab", laid_math_bits_deBruijn64tab), ("internal/strconv.uint64pow10", laid_internal_strconv_uint64pow10), ("unicode/utf8.acceptRanges", laid_unicode_utf8_acceptRanges), ("hedgelayer/repair.never", laid_hedgelayer_repair_never), ("unicode/utf8.first", laid_unicode_utf8_first)] }
def BothOrdersMeetSaid : Prop := bothOrdersMeetRow.holds Tryz.pinned (OpenSpec.ofChange bothOrdersMeetSpec)

/-- ITS FALSE NEIGHBOUR: 'it returns false'. Refute it at one input. -/
def bothOrdersMeetWrong : ChangeSpec := { name := "bothOrdersMeet", fn := fun _ => fun
  | [d] => { results := [.lit (.bool false)], args := [d] }
  | _ => none }
def BothOrdersMeetWrongFalsely : Prop := bothOrdersMeetRow.holds Tryz.pinned (OpenSpec.ofChange bothOrdersMeetWrong)

/-- 'hgkeep2.DiffIsLeast': WHATEVER THE INPUT: true; the input reads as it did. -/
def diffIsLeastSpec : ChangeSpec := { name := "diffIsLeast", fn := fun _ => fun
  | [d] => { results := [.lit (.bool true)], args := [d] }
  | _ => none }
def diffIsLeastRow : OpenClaim := { program := "ytiohblpikmjofaagreatdoor", sum := "47c3f9cd70615f58fb903c72f1a710d81dcb3b4df4cccb142e2571f897cfcce6", func := "hedgelayer/hgkeep2.DiffIsLeast", spec := "diffIsLeast", inPlace := ["internal/abi.NoEscape", "internal/bytealg.IndexByteString", "internal/bytealg.CountString", "internal/bytealg.IndexString", "internal/bytealg.abigen_runtime_cmpstring", "slices.overlaps[hedgelayer/api.Note]"], unfollowed := true, recurses := true, named := ["math/bits.deBruijn64tab", "unicode/utf8.first", "unicode/utf8.acceptRanges", "internal/bytealg.MaxLen", "internal/strconv.uint64pow10", "math/bits.deBruijn32tab", "hedgelayer/repair.never"], plainKeys := false, apart := false, laid := [("math/bits.deBruijn32tab", laid_math_bits_deBruijn32tab), ("math/bits.deBruijn64tab", laid_math_bits_deBruijn64tab), ("internal/strconv.uint64pow10", laid_internal_strconv_uint64pow10), ("unicode/utf8.acceptRanges", laid_unicode_utf8_acceptRanges), ("hedgelayer/repair.never", laid_hedgelayer_repair_never), ("unicode/utf8.first", laid_unicode_utf8_first)] }
def DiffIsLeastSaid : Prop := diffIsLeastRow.holds Tryz.pinned (OpenSpec.ofChange diffIsLeastSpec)

/-- ITS FALSE NEIGHBOUR: 'it returns false'. Refute it at one input. -/
def diffIsLeastWrong : ChangeSpec := { name := "diffIsLeast", fn := fun _ => fun
  | [d] => { results := [.lit (.bool false)], args := [d] }
  | _ => none }
def DiffIsLeastWrongFalsely : Prop := diffIsLeastRow.holds Tryz.pinned (OpenSpec.ofChange diffIsLeastWrong)

/- THE SECOND FORM. 'bulk': how many values and letters a reading holds, each counted each time it is reached (what is shared counts as often as it is met; a slice's spare places count too). A statement '..UptoSaid' is the law's where the arguments, and the package variables that the reading takes, are together of bulk at most 1048576: NARROWER than '..Said'. Prove '..Said' where nothing that the law and all that it calls make is longer than what came in: it says more and counts as full. Else prove '..UptoSaid'. A law counts once. -/
mutual
def uptoBulk {H : Type} : DataW H → Nat
  | .lit (.string bytes) => bytes.length + 1
  | .lit _ => 1
  | .nil => 1
  | .ptr d => uptoBulk d + 1
  | .slice elems spare => uptoBulkAll elems + uptoBulkAll spare + 1
  | .agg parts => uptoBulkAll parts + 1
  | .iface _ d => uptoBulk d + 1
  | .map entries => uptoBulkEntries entries + 1
  | .held _ => 1
def uptoBulkAll {H : Type} : List (DataW H) → Nat
  | [] => 0
  | d :: r => uptoBulk d + uptoBulkAll r
def uptoBulkEntries {H : Type} : List (Lit × DataW H) → Nat
  | [] => 0
  | x :: r => uptoBulkEntry x + uptoBulkEntries r
def uptoBulkEntry {H : Type} : Lit × DataW H → Nat
  | (.string bytes, d) => bytes.length + uptoBulk d + 1
  | (_, d) => uptoBulk d + 1
 end
def uptoSmall : (H : Type) → List (DataW H) → Bool := fun _ ds => decide (uptoBulkAll ds ≤ 1048576)
def OpenSpec.upto (s : _root_.Go.ChangeSpec) : _root_.Go.OpenSpec := { _root_.Go.OpenSpec.ofChange s with cond := some uptoSmall }

/-- 'hgkeep2.InverseUndoes', WHERE WHAT IT READS IS OF BULK AT MOST 1048576: true; the input reads as it did. -/
def inverseUndoesUptoRow : OpenClaim := { program := "ytiohblpikmjofaagreatdoor", sum := "47c3f9cd70615f58fb903c72f1a710d81dcb3b4df4cccb142e2571f897cfcce6", func := "hedgelayer/hgkeep2.InverseUndoes", spec := "inverseUndoes", inPlace := ["internal/abi.NoEscape", "internal/bytealg.CountString", "internal/bytealg.IndexByteString", "internal/bytealg.IndexString", "internal/bytealg.abigen_runtime_cmpstring", "slices.overlaps[hedgelayer/api.Note]"], unfollowed := true, recurses := true, named := ["math/bits.deBruijn64tab", "unicode/utf8.first", "unicode/utf8.acceptRanges", "internal/bytealg.MaxLen", "internal/strconv.uint64pow10", "math/bits.deBruijn32tab", "hedgelayer/repair.never"], plainKeys := false, apart := false, laid := [("math/bits.deBruijn32tab", laid_math_bits_deBruijn32tab), ("math/bits.deBruijn64tab", laid_math_bits_deBruijn64tab), ("internal/strconv.uint64pow10", laid_internal_strconv_uint64pow10), ("unicode/utf8.acceptRanges", laid_unicode_utf8_acceptRanges), ("hedgelayer/repair.never", laid_hedgelayer_repair_never), ("unicode/utf8.first", laid_unicode_utf8_first)], narrowed := true }
def InverseUndoesUptoSaid : Prop := inverseUndoesUptoRow.holds Tryz.pinned (OpenSpec.upto inverseUndoesSpec)

/-- 'hgkeep2.ThenIsAssociative', WHERE WHAT IT READS IS OF BULK AT MOST 1048576: true; the input reads as it did. -/
def thenIsAssociativeUptoRow : OpenClaim := { program := "ytiohblpikmjofaagreatdoor", sum := "47c3f9cd70615f58fb903c72f1a710d81dcb3b4df4cccb142e2571f897cfcce6", func := "hedgelayer/hgkeep2.ThenIsAssociative", spec := "thenIsAssociative", inPlace := ["internal/abi.NoEscape", "internal/bytealg.CountString", "internal/bytealg.IndexByteString", "internal/bytealg.IndexString", "internal/bytealg.abigen_runtime_cmpstring", "slices.overlaps[hedgelayer/api.Note]"], unfollowed := true, recurses := true, named := ["math/bits.deBruijn64tab", "unicode/utf8.first", "unicode/utf8.acceptRanges", "internal/bytealg.MaxLen", "internal/strconv.uint64pow10", "math/bits.deBruijn32tab", "hedgelayer/repair.never"], plainKeys := false, apart := false, laid := [("math/bits.deBruijn32tab", laid_math_bits_deBruijn32tab), ("math/bits.deBruijn64tab", laid_math_bits_deBruijn64tab), ("internal/strconv.uint64pow10", laid_internal_strconv_uint64pow10), ("unicode/utf8.acceptRanges", laid_unicode_utf8_acceptRanges), ("hedgelayer/repair.never", laid_hedgelayer_repair_never), ("unicode/utf8.first", laid_unicode_utf8_first)], narrowed := true }
def ThenIsAssociativeUptoSaid : Prop := thenIsAssociativeUptoRow.holds Tryz.pinned (OpenSpec.upto thenIsAssociativeSpec)

/-- 'hgkeep2.ChangesStay', WHERE WHAT IT READS IS OF BULK AT MOST 1048576: true; the input reads as it did. -/
def changesStayUptoRow : OpenClaim := { program := "ytiohblpikmjofaagreatdoor", sum := "47c3f9cd70615f58fb903c72f1a710d81dcb3b4df4cccb142e2571f897cfcce6", func := "hedgelayer/hgkeep2.ChangesStay", spec := "changesStay", inPlace := ["internal/abi.NoEscape", "internal/bytealg.CountString", "internal/bytealg.IndexByteString", "internal/bytealg.IndexString", "internal/bytealg.abigen_runtime_cmpstring", "slices.overlaps[hedgelayer/api.Note]"], unfollowed := true, recurses := true, named := ["math/bits.deBruijn64tab", "unicode/utf8.first", "unicode/utf8.acceptRanges", "internal/bytealg.MaxLen", "internal/strconv.uint64pow10", "math/bits.deBruijn32tab", "hedgelayer/repair.never"], plainKeys := false, apart := false, laid := [("math/bits.deBruijn32tab", laid_math_bits_deBruijn32tab), ("math/bits.deBruijn64tab", laid_math_bits_deBruijn64tab), ("internal/strconv.uint64pow10", laid_internal_strconv_uint64pow10), ("unicode/utf8.acceptRanges", laid_unicode_utf8_acceptRanges), ("hedgelayer/repair.never", laid_hedgelayer_repair_never), ("unicode/utf8.first", laid_unicode_utf8_first)], narrowed := true }
def ChangesStayUptoSaid : Prop := changesStayUptoRow.holds Tryz.pinned (OpenSpec.upto changesStaySpec)

/-- 'hgkeep2.PlacesKeepOrder', WHERE WHAT IT READS IS OF BULK AT MOST 1048576: true; the input reads as it did. -/
def placesKeepOrderUptoRow : OpenClaim := { program := "ytiohblpikmjofaagreatdoor", sum := "47c3f9cd70615f58fb903c72f1a710d81dcb3b4df4cccb142e2571f897cfcce6", func := "hedgelayer/hgkeep2.PlacesKeepOrder", spec := "placesKeepOrder", inPlace := ["internal/abi.NoEscape", "internal/bytealg.CountString", "internal/bytealg.IndexByteString", "internal/bytealg.IndexString", "internal/bytealg.abigen_runtime_cmpstring", "slices.overlaps[hedgelayer/api.Note]"], unfollowed := true, recurses := true, named := ["math/bits.deBruijn64tab", "unicode/utf8.first", "unicode/utf8.acceptRanges", "internal/bytealg.MaxLen", "internal/strconv.uint64pow10", "math/bits.deBruijn32tab", "hedgelayer/repair.never"], plainKeys := false, apart := false, laid := [("math/bits.deBruijn32tab", laid_math_bits_deBruijn32tab), ("math/bits.deBruijn64tab", laid_math_bits_deBruijn64tab), ("internal/strconv.uint64pow10", laid_internal_strconv_uint64pow10), ("unicode/utf8.acceptRanges", laid_unicode_utf8_acceptRanges), ("hedgelayer/repair.never", laid_hedgelayer_repair_never), ("unicode/utf8.first", laid_unicode_utf8_first)], narrowed := true }
def PlacesKeepOrderUptoSaid : Prop := placesKeepOrderUptoRow.holds Tryz.pinned (OpenSpec.upto placesKeepOrderSpec)

/-- 'hgkeep2.BothOrdersMeet', WHERE WHAT IT READS IS OF BULK AT MOST 1048576: true; the input reads as it did. -/
def bothOrdersMeetUptoRow : OpenClaim := { program := "ytiohblpikmjofaagreatdoor", sum := "47c3f9cd70615f58fb903c72f1a710d81dcb3b4df4cccb142e2571f897cfcce6", func := "hedgelayer/hgkeep2.BothOrdersMeet", spec := "bothOrdersMeet", inPlace := ["internal/abi.NoEscape", "internal/bytealg.CountString", "internal/bytealg.IndexByteString", "internal/bytealg.IndexString", "internal/bytealg.abigen_runtime_cmpstring", "slices.overlaps[hedgelayer/api.Note]"], unfollowed := true, recurses := true, named := ["math/bits.deBruijn64tab", "unicode/utf8.first", "unicode/utf8.acceptRanges", "internal/bytealg.MaxLen", "internal/strconv.uint64pow10", "math/bits.deBruijn32tab", "hedgelayer/repair.never"], plainKeys := false, apart := false, laid := [("math/bits.deBruijn32tab", laid_math_bits_deBruijn32tab), ("math/bits.deBruijn64tab", laid_math_bits_deBruijn64tab), ("internal/strconv.uint64pow10", laid_internal_strconv_uint64pow10), ("unicode/utf8.acceptRanges", laid_unicode_utf8_acceptRanges), ("hedgelayer/repair.never", laid_hedgelayer_repair_never), ("unicode/utf8.first", laid_unicode_utf8_first)], narrowed := true }
def BothOrdersMeetUptoSaid : Prop := bothOrdersMeetUptoRow.holds Tryz.pinned (OpenSpec.upto bothOrdersMeetSpec)

/-- 'hgkeep2.DiffIsLeast', WHERE WHAT IT READS IS OF BULK AT MOST 1048576: true; the input reads as it did. -/
def diffIsLeastUptoRow : OpenClaim := { program := "ytiohblpikmjofaagreatdoor", sum := "47c3f9cd70615f58fb903c72f1a710d81dcb3b4df4cccb142e2571f897cfcce6", func := "hedgelayer/hgkeep2.DiffIsLeast", spec := "diffIsLeast", inPlace := ["internal/abi.NoEscape", "internal/bytealg.IndexByteString", "internal/bytealg.CountString", "internal/bytealg.IndexString", "internal/bytealg.abigen_runtime_cmpstring", "slices.overlaps[hedgelayer/api.Note]"], unfollowed := true, recurses := true, named := ["math/bits.deBruijn64tab", "unicode/utf8.first", "unicode/utf8.acceptRanges", "internal/bytealg.MaxLen", "internal/strconv.uint64pow10", "math/bits.deBruijn32tab", "hedgelayer/repair.never"], plainKeys := false, apart := false, laid := [("math/bits.deBruijn32tab", laid_math_bits_deBruijn32tab), ("math/bits.deBruijn64tab", laid_math_bits_deBruijn64tab), ("internal/strconv.uint64pow10", laid_internal_strconv_uint64pow10), ("unicode/utf8.acceptRanges", laid_unicode_utf8_acceptRanges), ("hedgelayer/repair.never", laid_hedgelayer_repair_never), ("unicode/utf8.first", laid_unicode_utf8_first)], narrowed := true }
def DiffIsLeastUptoSaid : Prop := diffIsLeastUptoRow.holds Tryz.pinned (OpenSpec.upto diffIsLeastSpec)

end Rows
end Go.Proofs.YtiohblpikmjofaaGreatDoor
