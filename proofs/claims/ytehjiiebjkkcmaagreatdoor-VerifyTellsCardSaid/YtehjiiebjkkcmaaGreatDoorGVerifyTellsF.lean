/- Closed facts of the law VerifyTells: printed by row.py of this session. -/
import Derived.Test.YtehjiiebjkkcmaaGreatDoorRows
import Derived.Test.YtehjiiebjkkcmaaGreatDoorQ22xVerifyTells
import Derived.ProofKit
import Derived.JoinedOf
namespace Go.Proofs.YtehjiiebjkkcmaaGreatDoor.verifyTells
open Go.Q Go.ChangeShapes Go.WideShapes Go.ChangeAt
set_option maxHeartbeats 2000000
theorem own : ownKnob Tryz.prog.godebug = none := by kernel_rfl
theorem laidOut : laidOutB Tryz.prog = true := by kernel_rfl
theorem fnamed : Tryz.pinned.checked.prog.funcNamed Rows.verifyTellsRow.func = some 6 := by kernel_rfl
theorem closed : joinedFacts Tryz.pinned.checked.prog 6 Tryz.f6 Rows.verifyTellsSpec Rows.verifyTellsRow = true := by
  unfold joinedFacts
  repeat' (with_reducible refine Bool.and_eq_true_iff.2 ⟨?_, ?_⟩)
  all_goals as_aux_lemma => kernel_rfl
end Go.Proofs.YtehjiiebjkkcmaaGreatDoor.verifyTells
