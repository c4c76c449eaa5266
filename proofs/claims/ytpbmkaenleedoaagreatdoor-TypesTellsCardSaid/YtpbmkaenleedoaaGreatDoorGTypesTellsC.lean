/- Closed facts of the law TypesTells: printed by row.py of this session. -/
import Derived.Test.YtpbmkaenleedoaaGreatDoorRows
import Derived.Test.YtpbmkaenleedoaaGreatDoorQ22v308309
import Derived.ProofKit
import Derived.JoinedOf
import Derived.SevenTiedAt
namespace Go.Proofs.YtpbmkaenleedoaaGreatDoor.typesTells
open Go.Q Go.ChangeShapes Go.WideShapes Go.ChangeAt
set_option maxHeartbeats 2000000
theorem cw : Rows.typesTellsRow.wfByText (OpenSpec.ofChange Rows.typesTellsSpec) = true := by kernel_rfl
theorem cm : Tryz.pinned.checked.prog.mainIs = some ((true, "fa5965585a8ea338ca0e4f7196953cfc3240884ae21c6653f384b961778a151f").1, (true, "fa5965585a8ea338ca0e4f7196953cfc3240884ae21c6653f384b961778a151f").2.toList) := by kernel_rfl
theorem cl : false = Tryz.pinned.checked.prog.looks [] := by kernel_rfl
theorem cs : ([25, 3].all fun u => !Tryz.pinned.checked.prog.wantsStandIn u) = true := by kernel_rfl
theorem cg : false = Rows.typesTellsRow.goesBy Tryz.pinned.checked.prog := by kernel_rfl
end Go.Proofs.YtpbmkaenleedoaaGreatDoor.typesTells
