/- Closed facts of the law ReaderNil: printed by row.py of this session. -/
import Derived.Test.YtgfjjjbpikfgaaaGreatDoorRows
import Derived.Test.YtgfjjjbpikfgaaaGreatDoorQ22v188945
import Derived.ProofKit
import Derived.JoinedOf
import Derived.SevenTiedAt
namespace Go.Proofs.YtgfjjjbpikfgaaaGreatDoor.readerNil
open Go.Q Go.ChangeShapes Go.WideShapes Go.ChangeAt
set_option maxHeartbeats 2000000
theorem cw : Rows.readerNilRow.wfByText (OpenSpec.ofChange Rows.readerNilSpec) = true := by kernel_rfl
theorem cm : Tryz.pinned.checked.prog.mainIs = some ((true, "34801d0e500e8e0d236e801f7e35b8c8c38ec2dab3259c27c155cd823ee7a2a9").1, (true, "34801d0e500e8e0d236e801f7e35b8c8c38ec2dab3259c27c155cd823ee7a2a9").2.toList) := by kernel_rfl
theorem cl : true = Tryz.pinned.checked.prog.looks [] := by kernel_rfl
theorem cs : ([3].all fun u => !Tryz.pinned.checked.prog.wantsStandIn u) = true := by kernel_rfl
theorem cg : false = Rows.readerNilRow.goesBy Tryz.pinned.checked.prog := by kernel_rfl
end Go.Proofs.YtgfjjjbpikfgaaaGreatDoor.readerNil
