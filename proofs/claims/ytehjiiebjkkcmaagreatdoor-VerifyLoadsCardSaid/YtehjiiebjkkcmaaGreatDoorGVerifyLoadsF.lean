/- Closed facts of the law VerifyLoads: printed by row.py of this session. -/
import Derived.Test.YtehjiiebjkkcmaaGreatDoorRows
import Derived.Test.YtehjiiebjkkcmaaGreatDoorW2xVerifyLoads
import Derived.ProofKit
import Derived.JoinedOf
namespace Go.Proofs.YtehjiiebjkkcmaaGreatDoor.verifyLoads
open Go.Q Go.ChangeShapes Go.WideShapes Go.ChangeAt
set_option maxHeartbeats 2000000
theorem own:ownKnob Tryz.prog.godebug=none:=by kernel_rfl
theorem laidOut:laidOutB Tryz.prog=true:=by kernel_rfl
theorem Zhg:Tryz.pinned.checked.prog.funcNamed Rows.verifyLoadsRow.func=some 7:=by kernel_rfl
theorem closed:joinedFacts Tryz.pinned.checked.prog 7 Tryz.f7 Rows.verifyLoadsSpec Rows.verifyLoadsRow=true:=by
  unfold joinedFacts
  repeat' (with_reducible refine Bool.and_eq_true_iff.2 ⟨?_,?_⟩)
  all_goals as_aux_lemma=>kernel_rfl
end Go.Proofs.YtehjiiebjkkcmaaGreatDoor.verifyLoads
