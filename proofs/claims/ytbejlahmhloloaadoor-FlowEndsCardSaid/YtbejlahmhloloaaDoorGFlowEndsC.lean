/- Closed facts of the law FlowEnds: printed by row.py of this session. -/
import Derived.Test.YtbejlahmhloloaaDoorRows
import Derived.Test.YtbejlahmhloloaaDoorQ22vced053
import Derived.ProofKit
import Derived.JoinedOf
import Derived.SevenTiedAt
namespace Go.Proofs.YtbejlahmhloloaaDoor.flowEnds
open Go.Q Go.ChangeShapes Go.WideShapes Go.ChangeAt
set_option maxHeartbeats 2000000
theorem cw : Rows.flowEndsRow.wfByText (OpenSpec.ofChange Rows.flowEndsSpec) = true := by kernel_rfl
theorem cm : Tryd.pinned.checked.prog.mainIs = some ((true, "64afbe8193fafbd21021bffc1f42958caf34197f9490ae58f89f75263333c9a1").1, (true, "64afbe8193fafbd21021bffc1f42958caf34197f9490ae58f89f75263333c9a1").2.toList) := by kernel_rfl
theorem cl : false = Tryd.pinned.checked.prog.looks [] := by kernel_rfl
theorem cs : ([22, 46].all fun u => !Tryd.pinned.checked.prog.wantsStandIn u) = true := by kernel_rfl
theorem cg : false = Rows.flowEndsRow.goesBy Tryd.pinned.checked.prog := by kernel_rfl
end Go.Proofs.YtbejlahmhloloaaDoor.flowEnds
