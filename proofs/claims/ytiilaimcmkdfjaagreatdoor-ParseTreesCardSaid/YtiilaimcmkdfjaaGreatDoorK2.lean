/- ParseTrees: a closed fact of its row. -/
import Derived.Test.YtiilaimcmkdfjaaGreatDoorRows
import Derived.JoinedOf
import Derived.SevenTiedAt

set_option maxRecDepth 100000
namespace Go.Proofs.YtiilaimcmkdfjaaGreatDoor
open Go
theorem j3 : (Rows.parseTreesRow.recurses == Tryz.prog.recurses 4) = true := by kernel_rfl
end Go.Proofs.YtiilaimcmkdfjaaGreatDoor
set_option maxRecDepth 100000
namespace Go.Proofs.YtiilaimcmkdfjaaGreatDoor
open Go
theorem j4 : (Rows.parseTreesRow.named == Tryz.prog.varsNamed 4) = true := by kernel_rfl
end Go.Proofs.YtiilaimcmkdfjaaGreatDoor
set_option maxRecDepth 100000
namespace Go.Proofs.YtiilaimcmkdfjaaGreatDoor
open Go
theorem j5 : laidOutB Tryz.prog = true := by kernel_rfl
theorem j6 : mapsRowed Tryz.prog = true := by kernel_rfl
end Go.Proofs.YtiilaimcmkdfjaaGreatDoor
