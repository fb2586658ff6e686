/-
  DERIVED. GIVEN WITH THE SEED: THE CARDS: each row of YtinoecojbflpfaaGreatDoorRows.lean that lists a variable, with what it lists TIED to the program's text (the seventh form; the later family's looks); each row that meets fmt, with fmt's text TOLD by the authors' own Lean function (tested against real Go, not proved from fmt's source: count such statements apart). THE CARD IS WHAT COUNTS. Prove the row's statement (the work); the ties are given (YtinoecojbflpfaaGreatDoorTie.lean); close each card by the builder's one call (the guide's Derived/Test/ToyasCard.lean, 'card_holds'). Laid BY PROGRAM, IN A SANDBOX (cutbox-door.mjs). By AI agents, Wed Nov 11 2026. No macro, syntax, notation, axiom, sorry.
-/
import Derived.Test.YtinoecojbflpfaaGreatDoorRows
import GoSem.ClaimSeven
namespace Go.Proofs.YtinoecojbflpfaaGreatDoor
namespace Rows

/-- THE TIED CARD OF 'hglaw2.TextsDiffer'. -/
def textsDifferCard : Claim7 := { stood := { row := textsDifferRow, standIns := [], harness := (true, "02806a0d78e49e428ec52240e96b3165ce3fdfea1112abcf91f26527f32b0087"), looks := true }, kinds := [], alts := [], laidByText := true, laidKinds := [.data, .data, .data], laidTests := true, laidLooks := .later }
def TextsDifferCardSaid : Prop := Claim7.holds Tryz.pinned (.plain (OpenSpec.ofChange textsDifferSpec)) textsDifferCard

/-- THE TIED CARD OF 'hglaw2.PatsDiffer'. -/
def patsDifferCard : Claim7 := { stood := { row := patsDifferRow, standIns := [], harness := (true, "02806a0d78e49e428ec52240e96b3165ce3fdfea1112abcf91f26527f32b0087"), looks := true }, kinds := [], alts := [], laidByText := true, laidKinds := [.data, .data, .data], laidTests := true, laidLooks := .later }
def PatsDifferCardSaid : Prop := Claim7.holds Tryz.pinned (.plain (OpenSpec.ofChange patsDifferSpec)) patsDifferCard

/-- THE TIED CARD OF 'hglaw2.TextsSplit'. -/
def textsSplitCard : Claim7 := { stood := { row := textsSplitRow, standIns := [], harness := (true, "02806a0d78e49e428ec52240e96b3165ce3fdfea1112abcf91f26527f32b0087"), looks := true }, kinds := [], alts := [], laidByText := true, laidKinds := [.data, .data, .data, .sentinel, .sentinel], laidTests := true, laidLooks := .later }
def TextsSplitCardSaid : Prop := Claim7.holds Tryz.pinned (.plain (OpenSpec.ofChange textsSplitSpec)) textsSplitCard

/-- THE TIED CARD OF 'hglaw2.SplitAgain'. -/
def splitAgainCard : Claim7 := { stood := { row := splitAgainRow, standIns := [], harness := (true, "02806a0d78e49e428ec52240e96b3165ce3fdfea1112abcf91f26527f32b0087"), looks := true }, kinds := [], alts := [], laidByText := true, laidKinds := [.data, .data, .data, .sentinel, .sentinel], laidTests := true, laidLooks := .later }
def SplitAgainCardSaid : Prop := Claim7.holds Tryz.pinned (.plain (OpenSpec.ofChange splitAgainSpec)) splitAgainCard

/-- THE TIED CARD OF 'hglaw2.PatsRead'. -/
def patsReadCard : Claim7 := { stood := { row := patsReadRow, standIns := [], harness := (true, "02806a0d78e49e428ec52240e96b3165ce3fdfea1112abcf91f26527f32b0087"), looks := true }, kinds := [], alts := [], laidByText := true, laidKinds := [.data, .data, .data, .sentinel, .sentinel], laidTests := true, laidLooks := .later }
def PatsReadCardSaid : Prop := Claim7.holds Tryz.pinned (.plain (OpenSpec.ofChange patsReadSpec)) patsReadCard

/-- THE TIED CARD OF 'hglaw2.MarksChecked'. -/
def marksCheckedCard : Claim7 := { stood := { row := marksCheckedRow, standIns := [], harness := (true, "02806a0d78e49e428ec52240e96b3165ce3fdfea1112abcf91f26527f32b0087"), looks := true }, kinds := [], alts := [], laidByText := true, laidKinds := [.data, .data, .data, .sentinel, .sentinel], laidTests := true, laidLooks := .later }
def MarksCheckedCardSaid : Prop := Claim7.holds Tryz.pinned (.plain (OpenSpec.ofChange marksCheckedSpec)) marksCheckedCard

/-- THE SECOND FORM's CARD OF 'hglaw2.TextsDiffer'. -/
def textsDifferUptoCard : Claim7 := { stood := { row := textsDifferUptoRow, standIns := [], harness := (true, "02806a0d78e49e428ec52240e96b3165ce3fdfea1112abcf91f26527f32b0087"), looks := true }, kinds := [], alts := [], laidByText := true, laidKinds := [.data, .data, .data], laidTests := true, laidLooks := .later }
def TextsDifferUptoCardSaid : Prop := Claim7.holds Tryz.pinned (.plain (OpenSpec.upto textsDifferSpec)) textsDifferUptoCard

/-- THE SECOND FORM's CARD OF 'hglaw2.PatsDiffer'. -/
def patsDifferUptoCard : Claim7 := { stood := { row := patsDifferUptoRow, standIns := [], harness := (true, "02806a0d78e49e428ec52240e96b3165ce3fdfea1112abcf91f26527f32b0087"), looks := true }, kinds := [], alts := [], laidByText := true, laidKinds := [.data, .data, .data], laidTests := true, laidLooks := .later }
def PatsDifferUptoCardSaid : Prop := Claim7.holds Tryz.pinned (.plain (OpenSpec.upto patsDifferSpec)) patsDifferUptoCard

/-- THE SECOND FORM's CARD OF 'hglaw2.TextsSplit'. -/
def textsSplitUptoCard : Claim7 := { stood := { row := textsSplitUptoRow, standIns := [], harness := (true, "02806a0d78e49e428ec52240e96b3165ce3fdfea1112abcf91f26527f32b0087"), looks := true }, kinds := [], alts := [], laidByText := true, laidKinds := [.data, .data, .data, .sentinel, .sentinel], laidTests := true, laidLooks := .later }
def TextsSplitUptoCardSaid : Prop := Claim7.holds Tryz.pinned (.plain (OpenSpec.upto textsSplitSpec)) textsSplitUptoCard

/-- THE SECOND FORM's CARD OF 'hglaw2.SplitAgain'. -/
def splitAgainUptoCard : Claim7 := { stood := { row := splitAgainUptoRow, standIns := [], harness := (true, "02806a0d78e49e428ec52240e96b3165ce3fdfea1112abcf91f26527f32b0087"), looks := true }, kinds := [], alts := [], laidByText := true, laidKinds := [.data, .data, .data, .sentinel, .sentinel], laidTests := true, laidLooks := .later }
def SplitAgainUptoCardSaid : Prop := Claim7.holds Tryz.pinned (.plain (OpenSpec.upto splitAgainSpec)) splitAgainUptoCard

/-- THE SECOND FORM's CARD OF 'hglaw2.PatsRead'. -/
def patsReadUptoCard : Claim7 := { stood := { row := patsReadUptoRow, standIns := [], harness := (true, "02806a0d78e49e428ec52240e96b3165ce3fdfea1112abcf91f26527f32b0087"), looks := true }, kinds := [], alts := [], laidByText := true, laidKinds := [.data, .data, .data, .sentinel, .sentinel], laidTests := true, laidLooks := .later }
def PatsReadUptoCardSaid : Prop := Claim7.holds Tryz.pinned (.plain (OpenSpec.upto patsReadSpec)) patsReadUptoCard

/-- THE SECOND FORM's CARD OF 'hglaw2.MarksChecked'. -/
def marksCheckedUptoCard : Claim7 := { stood := { row := marksCheckedUptoRow, standIns := [], harness := (true, "02806a0d78e49e428ec52240e96b3165ce3fdfea1112abcf91f26527f32b0087"), looks := true }, kinds := [], alts := [], laidByText := true, laidKinds := [.data, .data, .data, .sentinel, .sentinel], laidTests := true, laidLooks := .later }
def MarksCheckedUptoCardSaid : Prop := Claim7.holds Tryz.pinned (.plain (OpenSpec.upto marksCheckedSpec)) marksCheckedUptoCard
end Rows
end Go.Proofs.YtinoecojbflpfaaGreatDoor
