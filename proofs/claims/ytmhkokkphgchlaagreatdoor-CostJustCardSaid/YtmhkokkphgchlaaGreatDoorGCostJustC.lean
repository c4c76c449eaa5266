/- Closed facts of the law CostJust: printed by row.py of this session. -/
import Derived.Test.YtmhkokkphgchlaaGreatDoorRows
import Derived.Test.YtmhkokkphgchlaaGreatDoorQ22xCostJust
import Derived.ProofKit
import Derived.JoinedOf
import Derived.SevenTiedAt
namespace Go.Proofs.YtmhkokkphgchlaaGreatDoor.costJust
open Go.Q Go.ChangeShapes Go.WideShapes Go.ChangeAt
set_option maxHeartbeats 2000000
theorem cw : Rows.costJustRow.wfByText (OpenSpec.ofChange Rows.costJustSpec) = true := by kernel_rfl
theorem cm : Tryz.pinned.checked.prog.mainIs = some ((true, "35e2b53325624563409bc4ed32d25eae5fd39695ae833e1972688a969944cc61").1, (true, "35e2b53325624563409bc4ed32d25eae5fd39695ae833e1972688a969944cc61").2.toList) := by kernel_rfl
theorem cl : false = Tryz.pinned.checked.prog.looks [] := by kernel_rfl
theorem cs : ([25, 3].all fun u => !Tryz.pinned.checked.prog.wantsStandIn u) = true := by kernel_rfl
theorem cg : false = Rows.costJustRow.goesBy Tryz.pinned.checked.prog := by kernel_rfl
end Go.Proofs.YtmhkokkphgchlaaGreatDoor.costJust
