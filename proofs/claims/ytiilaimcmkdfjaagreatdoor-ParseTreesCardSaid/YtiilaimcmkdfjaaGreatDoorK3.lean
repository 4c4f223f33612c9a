/- ParseTrees: a closed fact of its row. -/
import Derived.Test.YtiilaimcmkdfjaaGreatDoorRows
import Derived.JoinedOf
import Derived.SevenTiedAt

set_option maxRecDepth 100000
namespace Go.Proofs.YtiilaimcmkdfjaaGreatDoor
open Go
theorem j9 : false = Rows.parseTreesRow.goesBy Tryz.prog := by kernel_rfl
end Go.Proofs.YtiilaimcmkdfjaaGreatDoor
