/- Closed facts of the law ReaderNil: printed by row.py of this session. -/
import Derived.Test.YtgfjjjbpikfgaaaGreatDoorRows
import Derived.Test.YtgfjjjbpikfgaaaGreatDoorQ22v188945
import Derived.ProofKit
import Derived.JoinedOf
namespace Go.Proofs.YtgfjjjbpikfgaaaGreatDoor.readerNil
open Go.Q Go.ChangeShapes Go.WideShapes Go.ChangeAt
set_option maxHeartbeats 2000000
theorem own : ownKnob Tryz.prog.godebug = none := by kernel_rfl
theorem laidOut : laidOutB Tryz.prog = true := by kernel_rfl
theorem fnamed : Tryz.pinned.checked.prog.funcNamed Rows.readerNilRow.func = some 5 := by kernel_rfl
theorem closed : joinedFacts Tryz.pinned.checked.prog 5 Tryz.f5 Rows.readerNilSpec Rows.readerNilRow = true := by
  unfold joinedFacts
  repeat' (with_reducible refine Bool.and_eq_true_iff.2 ⟨?_, ?_⟩)
  all_goals as_aux_lemma => kernel_rfl
end Go.Proofs.YtgfjjjbpikfgaaaGreatDoor.readerNil
