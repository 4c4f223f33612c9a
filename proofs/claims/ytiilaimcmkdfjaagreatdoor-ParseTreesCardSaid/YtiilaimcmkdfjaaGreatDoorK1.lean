/- ParseTrees: a closed fact of its row. -/
import Derived.Test.YtiilaimcmkdfjaaGreatDoorRows
import Derived.JoinedOf
import Derived.SevenTiedAt

set_option maxRecDepth 100000
namespace Go.Proofs.YtiilaimcmkdfjaaGreatDoor
open Go
theorem j1 : (Rows.parseTreesRow.inPlace == Tryz.prog.inPlace 4) = true := by kernel_rfl
end Go.Proofs.YtiilaimcmkdfjaaGreatDoor
set_option maxRecDepth 100000
namespace Go.Proofs.YtiilaimcmkdfjaaGreatDoor
open Go
theorem j2 : (Rows.parseTreesRow.unfollowed == Tryz.prog.unfollowed 4) = true := by kernel_rfl
end Go.Proofs.YtiilaimcmkdfjaaGreatDoor
