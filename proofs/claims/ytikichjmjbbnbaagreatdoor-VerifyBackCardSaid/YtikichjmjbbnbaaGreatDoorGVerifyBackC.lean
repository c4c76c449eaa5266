/- Closed facts of the law VerifyBack: printed by row.py of this session. -/
import Derived.Test.YtikichjmjbbnbaaGreatDoorRows
import Derived.Test.YtikichjmjbbnbaaGreatDoorQ22xVerifyBack
import Derived.ProofKit
import Derived.JoinedOf
import Derived.SevenTiedAt
namespace Go.Proofs.YtikichjmjbbnbaaGreatDoor.verifyBack
open Go.Q Go.ChangeShapes Go.WideShapes Go.ChangeAt
set_option maxHeartbeats 2000000
theorem cw : Rows.verifyBackRow.wfByText (OpenSpec.ofChange Rows.verifyBackSpec) = true := by kernel_rfl
theorem cm : Tryz.pinned.checked.prog.mainIs = some ((true, "6d52c0c2919ed25870cc2f48da0ca0ca1363b26ba40473773f9cd848f74f03d2").1, (true, "6d52c0c2919ed25870cc2f48da0ca0ca1363b26ba40473773f9cd848f74f03d2").2.toList) := by kernel_rfl
theorem cl : true = Tryz.pinned.checked.prog.looks [] := by kernel_rfl
theorem cs : ([25, 26].all fun u => !Tryz.pinned.checked.prog.wantsStandIn u) = true := by kernel_rfl
theorem cg : false = Rows.verifyBackRow.goesBy Tryz.pinned.checked.prog := by kernel_rfl
end Go.Proofs.YtikichjmjbbnbaaGreatDoor.verifyBack
