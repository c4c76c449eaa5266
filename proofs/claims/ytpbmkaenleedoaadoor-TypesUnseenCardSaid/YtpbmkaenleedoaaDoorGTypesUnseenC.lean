/- Closed facts of the law TypesUnseen: printed by row.py of this session. -/
import Derived.Test.YtpbmkaenleedoaaDoorRows
import Derived.Test.YtpbmkaenleedoaaDoorQ22v539090
import Derived.ProofKit
import Derived.JoinedOf
import Derived.SevenTiedAt
namespace Go.Proofs.YtpbmkaenleedoaaDoor.typesUnseen
open Go.Q Go.ChangeShapes Go.WideShapes Go.ChangeAt
set_option maxHeartbeats 2000000
theorem cw : Rows.typesUnseenRow.wfByText (OpenSpec.ofChange Rows.typesUnseenSpec) = true := by kernel_rfl
theorem cm : Tryd.pinned.checked.prog.mainIs = some ((true, "6fd4b41b53ffc6598c85827d4502bb4fbbe0297eebc295a75fb7bc5a18504a05").1, (true, "6fd4b41b53ffc6598c85827d4502bb4fbbe0297eebc295a75fb7bc5a18504a05").2.toList) := by kernel_rfl
theorem cl : false = Tryd.pinned.checked.prog.looks [] := by kernel_rfl
theorem cs : ([25, 3, 5].all fun u => !Tryd.pinned.checked.prog.wantsStandIn u) = true := by kernel_rfl
theorem cg : false = Rows.typesUnseenRow.goesBy Tryd.pinned.checked.prog := by kernel_rfl
end Go.Proofs.YtpbmkaenleedoaaDoor.typesUnseen
