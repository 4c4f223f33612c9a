/-
  DERIVED. GIVEN WITH THE SEED: THE CARDS: each row of YtiilaimcmkdfjaaGreatDoorRows.lean that lists a variable, with what it lists TIED to the program's text (the seventh form; the later family's looks); each row that meets fmt, with fmt's text TOLD by the authors' own Lean function (tested against real Go, not proved from fmt's source: count such statements apart). THE CARD IS WHAT COUNTS. Prove the row's statement (the work); the ties are given (YtiilaimcmkdfjaaGreatDoorTie.lean); close each card by the builder's one call (the guide's Derived/Test/ToyasCard.lean, 'card_holds'). Laid BY PROGRAM, IN A SANDBOX (cutbox-door.mjs). By AI agents, Wed Nov 11 2026. No macro, syntax, notation, axiom, sorry.
-/
import Derived.Test.YtiilaimcmkdfjaaGreatDoorRows
import GoSem.ClaimSeven
namespace Go.Proofs.YtiilaimcmkdfjaaGreatDoor
namespace Rows

/-- THE TIED CARD OF 'zermelolaw08.ParsePuts'. -/
def parsePutsCard : Claim7 := { stood := { row := parsePutsRow, standIns := [], harness := (true, "58eb07a52f1128e408867d9ca2c3845c3d73734acaacc547b0011509dd670b97"), looks := true }, kinds := [], alts := [], laidByText := true, laidKinds := [.data, .data, .data, .data, .sentinel, .sentinel, .listed, .data, .pinned, .pinned], laidTests := true, laidLooks := .later }
def ParsePutsCardSaid : Prop := Claim7.holds Tryz.pinned (.plain (OpenSpec.ofChange parsePutsSpec)) parsePutsCard

/-- THE TIED CARD OF 'zermelolaw08.ParseTrees'. -/
def parseTreesCard : Claim7 := { stood := { row := parseTreesRow, standIns := [], harness := (true, "58eb07a52f1128e408867d9ca2c3845c3d73734acaacc547b0011509dd670b97"), looks := true }, kinds := [], alts := [], laidByText := true, laidKinds := [.data, .data, .data, .data, .sentinel, .sentinel, .listed, .data, .pinned, .pinned], laidTests := true, laidLooks := .later }
def ParseTreesCardSaid : Prop := Claim7.holds Tryz.pinned (.plain (OpenSpec.ofChange parseTreesSpec)) parseTreesCard

/-- THE TIED CARD OF 'zermelolaw08.ParseChecks'. -/
def parseChecksCard : Claim7 := { stood := { row := parseChecksRow, standIns := [], harness := (true, "58eb07a52f1128e408867d9ca2c3845c3d73734acaacc547b0011509dd670b97"), looks := true }, kinds := [], alts := [], laidByText := true, laidKinds := [.data, .data, .data, .data, .sentinel, .sentinel, .listed, .data, .pinned, .pinned], laidTests := true, laidLooks := .later }
def ParseChecksCardSaid : Prop := Claim7.holds Tryz.pinned (.plain (OpenSpec.ofChange parseChecksSpec)) parseChecksCard

/-- THE SECOND FORM's CARD OF 'zermelolaw08.ParsePuts'. -/
def parsePutsUptoCard : Claim7 := { stood := { row := parsePutsUptoRow, standIns := [], harness := (true, "58eb07a52f1128e408867d9ca2c3845c3d73734acaacc547b0011509dd670b97"), looks := true }, kinds := [], alts := [], laidByText := true, laidKinds := [.data, .data, .data, .data, .sentinel, .sentinel, .listed, .data, .pinned, .pinned], laidTests := true, laidLooks := .later }
def ParsePutsUptoCardSaid : Prop := Claim7.holds Tryz.pinned (.plain (OpenSpec.upto parsePutsSpec)) parsePutsUptoCard

/-- THE SECOND FORM's CARD OF 'zermelolaw08.ParseTrees'. -/
def parseTreesUptoCard : Claim7 := { stood := { row := parseTreesUptoRow, standIns := [], harness := (true, "58eb07a52f1128e408867d9ca2c3845c3d73734acaacc547b0011509dd670b97"), looks := true }, kinds := [], alts := [], laidByText := true, laidKinds := [.data, .data, .data, .data, .sentinel, .sentinel, .listed, .data, .pinned, .pinned], laidTests := true, laidLooks := .later }
def ParseTreesUptoCardSaid : Prop := Claim7.holds Tryz.pinned (.plain (OpenSpec.upto parseTreesSpec)) parseTreesUptoCard

/-- THE SECOND FORM's CARD OF 'zermelolaw08.ParseChecks'. -/
def parseChecksUptoCard : Claim7 := { stood := { row := parseChecksUptoRow, standIns := [], harness := (true, "58eb07a52f1128e408867d9ca2c3845c3d73734acaacc547b0011509dd670b97"), looks := true }, kinds := [], alts := [], laidByText := true, laidKinds := [.data, .data, .data, .data, .sentinel, .sentinel, .listed, .data, .pinned, .pinned], laidTests := true, laidLooks := .later }
def ParseChecksUptoCardSaid : Prop := Claim7.holds Tryz.pinned (.plain (OpenSpec.upto parseChecksSpec)) parseChecksUptoCard
end Rows
end Go.Proofs.YtiilaimcmkdfjaaGreatDoor
