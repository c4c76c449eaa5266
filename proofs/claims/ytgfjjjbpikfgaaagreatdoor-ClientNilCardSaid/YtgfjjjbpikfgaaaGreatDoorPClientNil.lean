/- Nobody's update is over, and does nothing; how many steps are enough is what the chapter says (the law ClientNil, its tied card): for every input, with no condition. -/
import Derived.Test.YtgfjjjbpikfgaaaGreatDoorRClientNil
set_option linter.unusedVariables false
set_option linter.unusedSimpArgs false
namespace Go.Proofs.YtgfjjjbpikfgaaaGreatDoor
open Go.Q
namespace ClientNilPure
theorem new : mem_New_s1.f = some ((), 0) := by
  unfold mem_New_s1.f mem_Arena_s1.f
  simp only [Option.bind_some]
  rw [if_pos (by decide), if_pos (by decide)]
theorem arena (n e : Int) : (n < 1 ∨ 64 < n ∨ e < 1 ∨ 64 < e) ∧ mem_Arena.f n e = some 0 ∨ (1 ≤ n ∧ n ≤ 64 ∧ 1 ≤ e ∧ e ≤ 64) ∧ mem_Arena.f n e = some (2 * e + 2 * n) := by
  unfold mem_Arena.f
  by_cases h : n < 1 ∨ 64 < n ∨ e < 1 ∨ 64 < e
  · refine .inl ⟨h, ?_⟩
    rw [if_pos (by simp; omega)]
  · refine .inr ⟨by omega, ?_⟩
    rw [if_neg (by simp; omega), wrap_id (x := 2 * e) (by omega) (by omega), wrap_id (x := 2 * n) (by omega) (by omega), wrap_id (by omega) (by omega)]
theorem same (n e : Int) : capstanref21_Arena.f n e = mem_Arena.f n e := rfl
theorem pure : capstanlaw27_ClientNil.Pure := fun n e hn he => by
  unfold capstanlaw27_ClientNil.f
  simp only [new, client_Update_Step_s1.f, client_Update_Step_s1.j1, client_Update_Over_s1.f, client_Update_Reply_s1.f, client_Update_Announced_s1.f, client_Update_Known_s1.f, Option.bind_some, same]
  unfold capstanlaw27_ClientNil.j1 client_Most.f
  simp only [client_New_s1.f, entry_Copy_s1.f, slices_Clone_api_Value_api_Value_s1.f, bytes_Clone_s1.f, replica_Replica_Seqs_s1.f, replica_Replica_none_s1.f, entry_Entry_s1.f, entry_May_s1.f, Option.bind_some]
  rcases arena n e with ⟨h, e1⟩ | ⟨h, e1⟩
  · simp [e1]
  · simp only [e1, Option.bind_some]
    rw [if_pos (by omega), if_neg (by omega)]
    simp
end ClientNilPure
/-- The law ClientNil: its tied card holds. -/
theorem clientNil_card : Rows.ClientNilCardSaid := clientNil.card ClientNilPure.pure
#print axioms clientNil_card
end Go.Proofs.YtgfjjjbpikfgaaaGreatDoor
