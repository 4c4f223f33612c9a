/- ParsePuts: a closed fact of its row. -/
import Derived.Test.YtiilaimcmkdfjaaGreatDoorRows
import Derived.JoinedOf
import Derived.SevenTiedAt

set_option maxRecDepth 100000
namespace Go.Proofs.YtiilaimcmkdfjaaGreatDoor
open Go
theorem j1 : (Rows.parsePutsRow.inPlace == Tryz.prog.inPlace 3) = true := by kernel_rfl
end Go.Proofs.YtiilaimcmkdfjaaGreatDoor
set_option maxRecDepth 100000
namespace Go.Proofs.YtiilaimcmkdfjaaGreatDoor
open Go
theorem j2 : (Rows.parsePutsRow.unfollowed == Tryz.prog.unfollowed 3) = true := by kernel_rfl
end Go.Proofs.YtiilaimcmkdfjaaGreatDoor
