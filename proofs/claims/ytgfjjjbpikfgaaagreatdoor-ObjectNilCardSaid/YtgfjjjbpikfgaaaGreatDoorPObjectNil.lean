/- An object that nobody made has nothing, and does nothing (the law ObjectNil, its tied card): for every input, with no condition. -/
import Derived.Test.YtgfjjjbpikfgaaaGreatDoorRObjectNil
set_option linter.unusedVariables false
set_option linter.unusedSimpArgs false
namespace Go.Proofs.YtgfjjjbpikfgaaaGreatDoor
open Go.Q
namespace ObjectNilPure
theorem pure : capstanlaw19_ObjectNil.Pure := by
  unfold capstanlaw19_ObjectNil.Pure
  intros
  unfold capstanlaw19_ObjectNil.f capstanlaw20_Great.f
  simp only [Option.bind_some]
  split
  · rfl
  · simp only [object_Object_fits_s1.f, object_Object_Call_s1.f, object_Object_Upgrade_s1.f, object_does.f, object_Object_Do_s1.f, object_Object_Read_s1.f, slices_Equal_api_Value_api_Value_s1.f, slices_EqualFunc_api_Method_api_Method_api_Method_api_Method_s1.f, state_Same_s1.f, object_Same_s1.f, slices_Clone_api_Value_api_Value_s1.f, object_Object_Globals_s1.f, slices_Clone_api_Cert_api_Cert_s1.f, object_Object_Certs_s1.f, slices_Clone_api_Method_api_Method_s1.f, object_own_s1.f, object_Object_Module_s1.f, capstanlaw19_ObjectNil.j1, Option.bind_some]
end ObjectNilPure
/-- The law ObjectNil: its tied card holds. -/
theorem objectNil_card : Rows.ObjectNilCardSaid := objectNil.card ObjectNilPure.pure
#print axioms objectNil_card
end Go.Proofs.YtgfjjjbpikfgaaaGreatDoor
