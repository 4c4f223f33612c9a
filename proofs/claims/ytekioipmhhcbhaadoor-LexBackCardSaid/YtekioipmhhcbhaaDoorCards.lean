/-
  DERIVED. GIVEN WITH THE SEED: THE CARDS: each row of YtekioipmhhcbhaaDoorRows.lean that lists a variable, with what it lists TIED to the program's text (the seventh form; the later family's looks); each row that meets fmt, with fmt's text TOLD by the authors' own Lean function (tested against real Go, not proved from fmt's source: count such statements apart). THE CARD IS WHAT COUNTS. Prove the row's statement (the work); the ties are given (YtekioipmhhcbhaaDoorTie.lean); close each card by the builder's one call (the guide's Derived/Test/ToyasCard.lean, 'card_holds'). Laid BY PROGRAM, IN A SANDBOX (cutbox-door.mjs). By AI agents, Wed Nov 11 2026. No macro, syntax, notation, axiom, sorry.
-/
import Derived.Test.YtekioipmhhcbhaaDoorRows
import GoSem.ClaimSeven
namespace Go.Proofs.YtekioipmhhcbhaaDoor
namespace Rows

/-- THE TIED CARD OF 'zermelolaw06.LexPlaces'. -/
def lexPlacesCard : Claim7 := { stood := { row := lexPlacesRow, standIns := [], harness := (true, "824b58b877adc3163403d759263c909ee0c883dbfa8277514d88f38705ce7494"), looks := true }, kinds := [], alts := [], laidByText := true, laidKinds := [.data, .listed, .data, .pinned, .pinned], laidTests := true, laidLooks := .later }
def LexPlacesCardSaid : Prop := Claim7.holds Tryd.pinned (.plain (OpenSpec.ofChange lexPlacesSpec)) lexPlacesCard

/-- THE TIED CARD OF 'zermelolaw06.LexPositions'. -/
def lexPositionsCard : Claim7 := { stood := { row := lexPositionsRow, standIns := [], harness := (true, "824b58b877adc3163403d759263c909ee0c883dbfa8277514d88f38705ce7494"), looks := true }, kinds := [], alts := [], laidByText := true, laidKinds := [.data, .listed, .data, .pinned, .pinned], laidTests := true, laidLooks := .later }
def LexPositionsCardSaid : Prop := Claim7.holds Tryd.pinned (.plain (OpenSpec.ofChange lexPositionsSpec)) lexPositionsCard

/-- THE TIED CARD OF 'zermelolaw06.LexLines'. -/
def lexLinesCard : Claim7 := { stood := { row := lexLinesRow, standIns := [], harness := (true, "824b58b877adc3163403d759263c909ee0c883dbfa8277514d88f38705ce7494"), looks := true }, kinds := [], alts := [], laidByText := true, laidKinds := [.data, .listed, .data, .pinned, .pinned], laidTests := true, laidLooks := .later }
def LexLinesCardSaid : Prop := Claim7.holds Tryd.pinned (.plain (OpenSpec.ofChange lexLinesSpec)) lexLinesCard

/-- THE TIED CARD OF 'zermelolaw06.LexPieces'. -/
def lexPiecesCard : Claim7 := { stood := { row := lexPiecesRow, standIns := [], harness := (true, "824b58b877adc3163403d759263c909ee0c883dbfa8277514d88f38705ce7494"), looks := true }, kinds := [], alts := [], laidByText := true, laidKinds := [.data, .listed, .data, .pinned, .pinned], laidTests := true, laidLooks := .later }
def LexPiecesCardSaid : Prop := Claim7.holds Tryd.pinned (.plain (OpenSpec.ofChange lexPiecesSpec)) lexPiecesCard

/-- THE TIED CARD OF 'zermelolaw06.LexBack'. -/
def lexBackCard : Claim7 := { stood := { row := lexBackRow, standIns := [], harness := (true, "824b58b877adc3163403d759263c909ee0c883dbfa8277514d88f38705ce7494"), looks := true }, kinds := [], alts := [], laidByText := true, laidKinds := [.data, .listed, .data, .pinned, .pinned], laidTests := true, laidLooks := .later }
def LexBackCardSaid : Prop := Claim7.holds Tryd.pinned (.plain (OpenSpec.ofChange lexBackSpec)) lexBackCard

/-- THE TIED CARD OF 'zermelolaw06.LexChanges'. -/
def lexChangesCard : Claim7 := { stood := { row := lexChangesRow, standIns := [], harness := (true, "824b58b877adc3163403d759263c909ee0c883dbfa8277514d88f38705ce7494"), looks := true }, kinds := [], alts := [], laidByText := true, laidKinds := [.data, .listed, .data, .pinned, .pinned], laidTests := true, laidLooks := .later }
def LexChangesCardSaid : Prop := Claim7.holds Tryd.pinned (.plain (OpenSpec.ofChange lexChangesSpec)) lexChangesCard

/-- THE SECOND FORM's CARD OF 'zermelolaw06.LexPlaces'. -/
def lexPlacesUptoCard : Claim7 := { stood := { row := lexPlacesUptoRow, standIns := [], harness := (true, "824b58b877adc3163403d759263c909ee0c883dbfa8277514d88f38705ce7494"), looks := true }, kinds := [], alts := [], laidByText := true, laidKinds := [.data, .listed, .data, .pinned, .pinned], laidTests := true, laidLooks := .later }
def LexPlacesUptoCardSaid : Prop := Claim7.holds Tryd.pinned (.plain (OpenSpec.upto lexPlacesSpec)) lexPlacesUptoCard

/-- THE SECOND FORM's CARD OF 'zermelolaw06.LexPositions'. -/
def lexPositionsUptoCard : Claim7 := { stood := { row := lexPositionsUptoRow, standIns := [], harness := (true, "824b58b877adc3163403d759263c909ee0c883dbfa8277514d88f38705ce7494"), looks := true }, kinds := [], alts := [], laidByText := true, laidKinds := [.data, .listed, .data, .pinned, .pinned], laidTests := true, laidLooks := .later }
def LexPositionsUptoCardSaid : Prop := Claim7.holds Tryd.pinned (.plain (OpenSpec.upto lexPositionsSpec)) lexPositionsUptoCard

/-- THE SECOND FORM's CARD OF 'zermelolaw06.LexLines'. -/
def lexLinesUptoCard : Claim7 := { stood := { row := lexLinesUptoRow, standIns := [], harness := (true, "824b58b877adc3163403d759263c909ee0c883dbfa8277514d88f38705ce7494"), looks := true }, kinds := [], alts := [], laidByText := true, laidKinds := [.data, .listed, .data, .pinned, .pinned], laidTests := true, laidLooks := .later }
def LexLinesUptoCardSaid : Prop := Claim7.holds Tryd.pinned (.plain (OpenSpec.upto lexLinesSpec)) lexLinesUptoCard

/-- THE SECOND FORM's CARD OF 'zermelolaw06.LexPieces'. -/
def lexPiecesUptoCard : Claim7 := { stood := { row := lexPiecesUptoRow, standIns := [], harness := (true, "824b58b877adc3163403d759263c909ee0c883dbfa8277514d88f38705ce7494"), looks := true }, kinds := [], alts := [], laidByText := true, laidKinds := [.data, .listed, .data, .pinned, .pinned], laidTests := true, laidLooks := .later }
def LexPiecesUptoCardSaid : Prop := Claim7.holds Tryd.pinned (.plain (OpenSpec.upto lexPiecesSpec)) lexPiecesUptoCard

/-- THE SECOND FORM's CARD OF 'zermelolaw06.LexBack'. -/
def lexBackUptoCard : Claim7 := { stood := { row := lexBackUptoRow, standIns := [], harness := (true, "824b58b877adc3163403d759263c909ee0c883dbfa8277514d88f38705ce7494"), looks := true }, kinds := [], alts := [], laidByText := true, laidKinds := [.data, .listed, .data, .pinned, .pinned], laidTests := true, laidLooks := .later }
def LexBackUptoCardSaid : Prop := Claim7.holds Tryd.pinned (.plain (OpenSpec.upto lexBackSpec)) lexBackUptoCard

/-- THE SECOND FORM's CARD OF 'zermelolaw06.LexChanges'. -/
def lexChangesUptoCard : Claim7 := { stood := { row := lexChangesUptoRow, standIns := [], harness := (true, "824b58b877adc3163403d759263c909ee0c883dbfa8277514d88f38705ce7494"), looks := true }, kinds := [], alts := [], laidByText := true, laidKinds := [.data, .listed, .data, .pinned, .pinned], laidTests := true, laidLooks := .later }
def LexChangesUptoCardSaid : Prop := Claim7.holds Tryd.pinned (.plain (OpenSpec.upto lexChangesSpec)) lexChangesUptoCard
end Rows
end Go.Proofs.YtekioipmhhcbhaaDoor
