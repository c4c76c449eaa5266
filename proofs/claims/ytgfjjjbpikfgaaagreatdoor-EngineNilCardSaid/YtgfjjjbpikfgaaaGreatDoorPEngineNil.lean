/- An engine that nobody made has nothing, and does nothing (the law EngineNil, its tied card): for every input, with no condition. -/
import Derived.Test.YtgfjjjbpikfgaaaGreatDoorREngineNil
set_option linter.unusedVariables false
set_option linter.unusedSimpArgs false
namespace Go.Proofs.YtgfjjjbpikfgaaaGreatDoor
open Go.Q
namespace EngineNilPure
theorem pure : capstanlaw29_EngineNil.Pure := by
  unfold capstanlaw29_EngineNil.Pure
  intros
  unfold capstanlaw29_EngineNil.f capstanlaw20_Great.f
  simp only [Option.bind_some]
  split
  · rfl
  · simp only [engine_Engine_none_s1.f, engine_Engine_Do_s1.f, engine_Engine_Procs_s1.f, engine_Engine_Every_s1.f, engine_Engine_Time_s1.f, engine_Engine_has_s1.f, engine_Engine_Busy_s1.f, engine_Engine_Calls_s1.f, engine_Engine_Replica_s1.f, engine_Engine_Published_s1.f, engine_Engine_Held_s1.f, engine_Engine_none_s2.f, engine_Engine_Do_s2.f, engine_Engine_Procs_s2.f, engine_Engine_Every_s2.f, engine_Engine_Time_s2.f, engine_Engine_has_s2.f, engine_Engine_Busy_s2.f, engine_Engine_Calls_s2.f, engine_Engine_Replica_s2.f, engine_Engine_Published_s2.f, engine_Engine_Held_s2.f, Option.bind_some]
end EngineNilPure
/-- The law EngineNil: its tied card holds. -/
theorem engineNil_card : Rows.EngineNilCardSaid := engineNil.card EngineNilPure.pure
#print axioms engineNil_card
end Go.Proofs.YtgfjjjbpikfgaaaGreatDoor
