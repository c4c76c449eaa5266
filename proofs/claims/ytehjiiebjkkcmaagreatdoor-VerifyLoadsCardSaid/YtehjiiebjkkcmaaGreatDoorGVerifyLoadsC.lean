/- Closed facts of the law VerifyLoads: printed by row.py of this session. -/
import Derived.Test.YtehjiiebjkkcmaaGreatDoorRows
import Derived.Test.YtehjiiebjkkcmaaGreatDoorW2xVerifyLoads
import Derived.ProofKit
import Derived.JoinedOf
import Derived.SevenTiedAt
namespace Go.Proofs.YtehjiiebjkkcmaaGreatDoor.verifyLoads
open Go.Q Go.ChangeShapes Go.WideShapes Go.ChangeAt
set_option maxHeartbeats 2000000
theorem cw:Rows.verifyLoadsRow.wfByText (OpenSpec.ofChange Rows.verifyLoadsSpec)=true:=by kernel_rfl
theorem cm:Tryz.pinned.checked.prog.mainIs=some ((true, "592333c7a2a26ae6717ca700cf30a6aab0b7241ec995681c703f16b49cf10f95").1,(true, "592333c7a2a26ae6717ca700cf30a6aab0b7241ec995681c703f16b49cf10f95").2.toList):=by kernel_rfl
theorem cl:true=Tryz.pinned.checked.prog.looks []:=by kernel_rfl
theorem cs:([31].all fun u => !Tryz.pinned.checked.prog.wantsStandIn u)=true:=by kernel_rfl
theorem cg:false=Rows.verifyLoadsRow.goesBy Tryz.pinned.checked.prog:=by kernel_rfl
end Go.Proofs.YtehjiiebjkkcmaaGreatDoor.verifyLoads
