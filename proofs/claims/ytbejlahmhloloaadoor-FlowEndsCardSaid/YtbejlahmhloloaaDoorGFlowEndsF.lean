/- Closed facts of the law FlowEnds: printed by row.py of this session. -/
import Derived.Test.YtbejlahmhloloaaDoorRows
import Derived.Test.YtbejlahmhloloaaDoorQ22vced053
import Derived.ProofKit
import Derived.JoinedOf
namespace Go.Proofs.YtbejlahmhloloaaDoor.flowEnds
open Go.Q Go.ChangeShapes Go.WideShapes Go.ChangeAt
set_option maxHeartbeats 2000000
theorem own : ownKnob Tryd.prog.godebug = none := by kernel_rfl
theorem laidOut : laidOutB Tryd.prog = true := by kernel_rfl
theorem fnamed : Tryd.pinned.checked.prog.funcNamed Rows.flowEndsRow.func = some 5 := by kernel_rfl
theorem closed : joinedFacts Tryd.pinned.checked.prog 5 Tryd.f5 Rows.flowEndsSpec Rows.flowEndsRow = true := by
  unfold joinedFacts
  repeat' (with_reducible refine Bool.and_eq_true_iff.2 ⟨?_, ?_⟩)
  all_goals as_aux_lemma => kernel_rfl
end Go.Proofs.YtbejlahmhloloaaDoor.flowEnds
