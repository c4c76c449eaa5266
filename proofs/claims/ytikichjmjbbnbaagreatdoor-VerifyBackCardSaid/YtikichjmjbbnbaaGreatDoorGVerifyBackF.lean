/- Closed facts of the law VerifyBack: printed by row.py of this session. -/
import Derived.Test.YtikichjmjbbnbaaGreatDoorRows
import Derived.Test.YtikichjmjbbnbaaGreatDoorQ22xVerifyBack
import Derived.ProofKit
import Derived.JoinedOf
namespace Go.Proofs.YtikichjmjbbnbaaGreatDoor.verifyBack
open Go.Q Go.ChangeShapes Go.WideShapes Go.ChangeAt
set_option maxHeartbeats 2000000
theorem own : ownKnob Tryz.prog.godebug = none := by kernel_rfl
theorem laidOut : laidOutB Tryz.prog = true := by kernel_rfl
theorem fnamed : Tryz.pinned.checked.prog.funcNamed Rows.verifyBackRow.func = some 3 := by kernel_rfl
theorem closed : joinedFacts Tryz.pinned.checked.prog 3 Tryz.f3 Rows.verifyBackSpec Rows.verifyBackRow = true := by
  unfold joinedFacts
  repeat' (with_reducible refine Bool.and_eq_true_iff.2 ⟨?_, ?_⟩)
  all_goals as_aux_lemma => kernel_rfl
end Go.Proofs.YtikichjmjbbnbaaGreatDoor.verifyBack
