/- A replica that nobody made has nothing, and does nothing (the law ReplicaNil, its tied card): for every input, with no condition. -/
import Derived.Test.YtgfjjjbpikfgaaaGreatDoorRReplicaNil
set_option linter.unusedVariables false
set_option linter.unusedSimpArgs false
namespace Go.Proofs.YtgfjjjbpikfgaaaGreatDoor
open Go.Q
namespace ReplicaNilPure
theorem great (x : api_Entry) : ∃ b, capstanlaw25_Great.f [x] = some b := by
  cases h : ((decide ((x.Op.Args.length : Int) > 20)) || (decide ((x.Op.Bytes.length : Int) > 3000)))
  · refine ⟨false, runF_iff.2 ⟨3, ?_⟩⟩
    have e0 : capstanlaw25_Great.F [x] .start = some (.inl (.l1 0)) := by simp [capstanlaw25_Great.F]
    have e1 : capstanlaw25_Great.F [x] (.l1 0) = some (.inl (.l1 1)) := by
      have : elt [x] 0 = some x := rfl
      have w1 : IntKind.i64.wrap (0 + 1) = 1 := rfl
      simp only [capstanlaw25_Great.F, this, capstanlaw20_Great.f, Option.bind_some, h]
      simp only [show (0:Int) < 1 from by decide, List.length_cons, List.length_nil, w1]; simp
    have e2 : capstanlaw25_Great.F [x] (.l1 1) = some (.inr false) := by simp [capstanlaw25_Great.F]
    simp [iter, e0, e1, e2]
  · refine ⟨true, runF_iff.2 ⟨2, ?_⟩⟩
    have e0 : capstanlaw25_Great.F [x] .start = some (.inl (.l1 0)) := by simp [capstanlaw25_Great.F]
    have e1 : capstanlaw25_Great.F [x] (.l1 0) = some (.inr true) := by
      have : elt [x] 0 = some x := rfl
      simp only [capstanlaw25_Great.F, this, capstanlaw20_Great.f, Option.bind_some, h]
      simp
    simp [iter, e0, e1]
theorem pure : capstanlaw25_ReplicaNil.Pure := by
  unfold capstanlaw25_ReplicaNil.Pure
  intro x _
  unfold capstanlaw25_ReplicaNil.f
  obtain ⟨b, hb⟩ := great x
  simp only [hb, Option.bind_some]
  split
  · rfl
  · simp only [replica_Replica_none_s1.f, replica_Replica_Do_s1.f, replica_Replica_Pos_s1.f, replica_Replica_Seqs_s1.f, replica_Replica_Object_s1.f, object_Object_fits_s1.f, object_Object_Read_s1.f, replica_Replica_Read_s1.f, replica_Replica_Become_s1.f, replica_Replica_Snap_s1.f, slices_Equal_api_Value_api_Value_s1.f, slices_EqualFunc_api_Method_api_Method_api_Method_api_Method_s1.f, state_Same_s1.f, object_Same_s1.f, replica_Replica_none_s2.f, replica_Replica_Do_s2.f, replica_Replica_Pos_s2.f, replica_Replica_Seqs_s2.f, replica_Replica_Object_s2.f, replica_Replica_Read_s2.f, replica_Replica_Become_s2.f, replica_Replica_Snap_s2.f, Option.bind_some]
end ReplicaNilPure
/-- The law ReplicaNil: its tied card holds. -/
theorem replicaNil_card : Rows.ReplicaNilCardSaid := replicaNil.card ReplicaNilPure.pure
#print axioms replicaNil_card
end Go.Proofs.YtgfjjjbpikfgaaaGreatDoor
