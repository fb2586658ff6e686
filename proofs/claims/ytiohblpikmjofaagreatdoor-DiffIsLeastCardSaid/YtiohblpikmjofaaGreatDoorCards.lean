/-
  DERIVED. GIVEN WITH THE SEED: THE CARDS: each row of YtiohblpikmjofaaGreatDoorRows.lean that lists a variable, with what it lists TIED to the program's text (the seventh form; the later family's looks); each row that meets fmt, with fmt's text TOLD by the authors' own Lean function (tested against real Go, not proved from fmt's source: count such statements apart). THE CARD IS WHAT COUNTS. Prove the row's statement (the work); the ties are given (YtiohblpikmjofaaGreatDoorTie.lean); close each card by the builder's one call (the guide's Derived/Test/ToyasCard.lean, 'card_holds'). Laid BY PROGRAM, IN A SANDBOX (cutbox-door.mjs). By AI agents, Wed Nov 11 2026. No macro, syntax, notation, axiom, sorry.
-/
import Derived.Test.YtiohblpikmjofaaGreatDoorRows
import GoSem.ClaimSeven
namespace Go.Proofs.YtiohblpikmjofaaGreatDoor
namespace Rows

/-- THE TIED CARD OF 'hgkeep2.InverseUndoes'. -/
def inverseUndoesCard : Claim7 := { stood := { row := inverseUndoesRow, standIns := [], harness := (true, "cadab65ed7b72d6eb0f57739bf7cc1fa5900891ab658e4f4a1bbc4dfe4213d72"), looks := false }, kinds := [], alts := [], laidByText := true, laidKinds := [.data, .data, .data, .data, .data, .pinned], laidTests := true, laidLooks := .later }
def InverseUndoesCardSaid : Prop := Claim7.holds Tryz.pinned (.plain (OpenSpec.ofChange inverseUndoesSpec)) inverseUndoesCard

/-- THE TIED CARD OF 'hgkeep2.ThenIsAssociative'. -/
def thenIsAssociativeCard : Claim7 := { stood := { row := thenIsAssociativeRow, standIns := [], harness := (true, "cadab65ed7b72d6eb0f57739bf7cc1fa5900891ab658e4f4a1bbc4dfe4213d72"), looks := false }, kinds := [], alts := [], laidByText := true, laidKinds := [.data, .data, .data, .data, .data, .pinned], laidTests := true, laidLooks := .later }
def ThenIsAssociativeCardSaid : Prop := Claim7.holds Tryz.pinned (.plain (OpenSpec.ofChange thenIsAssociativeSpec)) thenIsAssociativeCard

/-- THE TIED CARD OF 'hgkeep2.ChangesStay'. -/
def changesStayCard : Claim7 := { stood := { row := changesStayRow, standIns := [], harness := (true, "cadab65ed7b72d6eb0f57739bf7cc1fa5900891ab658e4f4a1bbc4dfe4213d72"), looks := false }, kinds := [], alts := [], laidByText := true, laidKinds := [.data, .data, .data, .data, .data, .pinned], laidTests := true, laidLooks := .later }
def ChangesStayCardSaid : Prop := Claim7.holds Tryz.pinned (.plain (OpenSpec.ofChange changesStaySpec)) changesStayCard

/-- THE TIED CARD OF 'hgkeep2.PlacesKeepOrder'. -/
def placesKeepOrderCard : Claim7 := { stood := { row := placesKeepOrderRow, standIns := [], harness := (true, "cadab65ed7b72d6eb0f57739bf7cc1fa5900891ab658e4f4a1bbc4dfe4213d72"), looks := false }, kinds := [], alts := [], laidByText := true, laidKinds := [.data, .data, .data, .data, .data, .pinned], laidTests := true, laidLooks := .later }
def PlacesKeepOrderCardSaid : Prop := Claim7.holds Tryz.pinned (.plain (OpenSpec.ofChange placesKeepOrderSpec)) placesKeepOrderCard

/-- THE TIED CARD OF 'hgkeep2.BothOrdersMeet'. -/
def bothOrdersMeetCard : Claim7 := { stood := { row := bothOrdersMeetRow, standIns := [], harness := (true, "cadab65ed7b72d6eb0f57739bf7cc1fa5900891ab658e4f4a1bbc4dfe4213d72"), looks := false }, kinds := [], alts := [], laidByText := true, laidKinds := [.data, .data, .data, .data, .data, .pinned], laidTests := true, laidLooks := .later }
def BothOrdersMeetCardSaid : Prop := Claim7.holds Tryz.pinned (.plain (OpenSpec.ofChange bothOrdersMeetSpec)) bothOrdersMeetCard

/-- THE TIED CARD OF 'hgkeep2.DiffIsLeast'. -/
def diffIsLeastCard : Claim7 := { stood := { row := diffIsLeastRow, standIns := [], harness := (true, "cadab65ed7b72d6eb0f57739bf7cc1fa5900891ab658e4f4a1bbc4dfe4213d72"), looks := false }, kinds := [], alts := [], laidByText := true, laidKinds := [.data, .data, .data, .data, .data, .pinned], laidTests := true, laidLooks := .later }
def DiffIsLeastCardSaid : Prop := Claim7.holds Tryz.pinned (.plain (OpenSpec.ofChange diffIsLeastSpec)) diffIsLeastCard

/-- THE SECOND FORM's CARD OF 'hgkeep2.InverseUndoes'. -/
def inverseUndoesUptoCard : Claim7 := { stood := { row := inverseUndoesUptoRow, standIns := [], harness := (true, "cadab65ed7b72d6eb0f57739bf7cc1fa5900891ab658e4f4a1bbc4dfe4213d72"), looks := false }, kinds := [], alts := [], laidByText := true, laidKinds := [.data, .data, .data, .data, .data, .pinned], laidTests := true, laidLooks := .later }
def InverseUndoesUptoCardSaid : Prop := Claim7.holds Tryz.pinned (.plain (OpenSpec.upto inverseUndoesSpec)) inverseUndoesUptoCard

/-- THE SECOND FORM's CARD OF 'hgkeep2.ThenIsAssociative'. -/
def thenIsAssociativeUptoCard : Claim7 := { stood := { row := thenIsAssociativeUptoRow, standIns := [], harness := (true, "cadab65ed7b72d6eb0f57739bf7cc1fa5900891ab658e4f4a1bbc4dfe4213d72"), looks := false }, kinds := [], alts := [], laidByText := true, laidKinds := [.data, .data, .data, .data, .data, .pinned], laidTests := true, laidLooks := .later }
def ThenIsAssociativeUptoCardSaid : Prop := Claim7.holds Tryz.pinned (.plain (OpenSpec.upto thenIsAssociativeSpec)) thenIsAssociativeUptoCard

/-- THE SECOND FORM's CARD OF 'hgkeep2.ChangesStay'. -/
def changesStayUptoCard : Claim7 := { stood := { row := changesStayUptoRow, standIns := [], harness := (true, "cadab65ed7b72d6eb0f57739bf7cc1fa5900891ab658e4f4a1bbc4dfe4213d72"), looks := false }, kinds := [], alts := [], laidByText := true, laidKinds := [.data, .data, .data, .data, .data, .pinned], laidTests := true, laidLooks := .later }
def ChangesStayUptoCardSaid : Prop := Claim7.holds Tryz.pinned (.plain (OpenSpec.upto changesStaySpec)) changesStayUptoCard

/-- THE SECOND FORM's CARD OF 'hgkeep2.PlacesKeepOrder'. -/
def placesKeepOrderUptoCard : Claim7 := { stood := { row := placesKeepOrderUptoRow, standIns := [], harness := (true, "cadab65ed7b72d6eb0f57739bf7cc1fa5900891ab658e4f4a1bbc4dfe4213d72"), looks := false }, kinds := [], alts := [], laidByText := true, laidKinds := [.data, .data, .data, .data, .data, .pinned], laidTests := true, laidLooks := .later }
def PlacesKeepOrderUptoCardSaid : Prop := Claim7.holds Tryz.pinned (.plain (OpenSpec.upto placesKeepOrderSpec)) placesKeepOrderUptoCard

/-- THE SECOND FORM's CARD OF 'hgkeep2.BothOrdersMeet'. -/
def bothOrdersMeetUptoCard : Claim7 := { stood := { row := bothOrdersMeetUptoRow, standIns := [], harness := (true, "cadab65ed7b72d6eb0f57739bf7cc1fa5900891ab658e4f4a1bbc4dfe4213d72"), looks := false }, kinds := [], alts := [], laidByText := true, laidKinds := [.data, .data, .data, .data, .data, .pinned], laidTests := true, laidLooks := .later }
def BothOrdersMeetUptoCardSaid : Prop := Claim7.holds Tryz.pinned (.plain (OpenSpec.upto bothOrdersMeetSpec)) bothOrdersMeetUptoCard

/-- THE SECOND FORM's CARD OF 'hgkeep2.DiffIsLeast'. -/
def diffIsLeastUptoCard : Claim7 := { stood := { row := diffIsLeastUptoRow, standIns := [], harness := (true, "cadab65ed7b72d6eb0f57739bf7cc1fa5900891ab658e4f4a1bbc4dfe4213d72"), looks := false }, kinds := [], alts := [], laidByText := true, laidKinds := [.data, .data, .data, .data, .data, .pinned], laidTests := true, laidLooks := .later }
def DiffIsLeastUptoCardSaid : Prop := Claim7.holds Tryz.pinned (.plain (OpenSpec.upto diffIsLeastSpec)) diffIsLeastUptoCard
end Rows
end Go.Proofs.YtiohblpikmjofaaGreatDoor
