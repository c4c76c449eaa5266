/- Nobody's read is over, and does nothing; how many steps are enough is what the chapter says (the law ReaderNil, its tied card): for every input, with no condition. -/
import Derived.Test.YtgfjjjbpikfgaaaGreatDoorRReaderNil
set_option linter.unusedVariables false
set_option linter.unusedSimpArgs false
namespace Go.Proofs.YtgfjjjbpikfgaaaGreatDoor
open Go.Q
namespace ReaderNilPure
theorem new : mem_New_s1.f = some ((), 0) := by
  unfold mem_New_s1.f mem_Arena_s1.f
  simp only [Option.bind_some]
  rw [if_pos (by decide), if_pos (by decide)]
theorem bounds {x : Int} (h : (Lit.int .i64 x).wf = true) : -9223372036854775808 ≤ x ∧ x < 9223372036854775808 := by
  have e1 : IntKind.i64.min = -9223372036854775808 := by rfl
  have e2 : IntKind.i64.max = 9223372036854775807 := by rfl
  simp [Lit.wf] at h
  omega
theorem arena (n e : Int) : (n < 1 ∨ 64 < n ∨ e < 1 ∨ 64 < e) ∧ mem_Arena.f n e = some 0 ∨ (1 ≤ n ∧ n ≤ 64 ∧ 1 ≤ e ∧ e ≤ 64) ∧ mem_Arena.f n e = some (2 * e + 2 * n) := by
  unfold mem_Arena.f
  by_cases h : n < 1 ∨ 64 < n ∨ e < 1 ∨ 64 < e
  · refine .inl ⟨h, ?_⟩
    rw [if_pos (by simp; omega)]
  · refine .inr ⟨by omega, ?_⟩
    rw [if_neg (by simp; omega), wrap_id (x := 2 * e) (by omega) (by omega), wrap_id (x := 2 * n) (by omega) (by omega), wrap_id (by omega) (by omega)]
theorem same (n e : Int) : capstanref21_Arena.f n e = mem_Arena.f n e := rfl
theorem begin (p : Int) : reader_begin_s1.f p = some ((), 2) := by
  unfold reader_begin_s1.f
  by_cases h : p < 0
  · rw [if_pos h]; rfl
  · have h2 : p ≥ 0 := by omega
    rw [if_neg h]
    simp [replica_Replica_Seqs_s1.f, replica_Replica_none_s1.f, h2]
theorem news (p : Int) : reader_New_s1.f p = some ((), 2) := by
  unfold reader_New_s1.f
  simp [begin, reader_New_s1.j1, entry_May_s1.f, slices_ContainsFunc_api_Value_api_Value_s1.f, slices_IndexFunc_api_Value_api_Value_s1.f]
theorem newSync (p : Int) : reader_NewSync_s1.f p = some ((), 2) := by
  unfold reader_NewSync_s1.f
  simp [begin, reader_NewSync_s1.j1]
theorem pure : capstanlaw28_ReaderNil.Pure := by
  unfold capstanlaw28_ReaderNil.Pure
  intro n e p hn he hp
  unfold capstanlaw28_ReaderNil.f
  simp only [new, reader_Reading_Over_s1.f, reader_Reading_Step_s1.j1, reader_Reading_Step_s1.f, reader_Reading_Reply_s1.f, reader_Reading_Over_s2.f, reader_Reading_Step_s2.j1, reader_Reading_Step_s2.f, reader_Reading_Reply_s2.f, capstanlaw19_Tell.f, slices_IndexFunc_api_Value_api_Value_s1.f, slices_ContainsFunc_api_Value_api_Value_s1.f, entry_May_s1.f, replica_Replica_none_s1.f, replica_Replica_Seqs_s1.f, snap_NewCatch_s1.f, slices_Clone_api_Value_api_Value_s1.f, bytes_Clone_s1.f, entry_Copy_s1.f, reader_Reading_Known_s1.f, Option.bind_some, same]
  unfold capstanlaw28_ReaderNil.j1 reader_Most.f
  simp only [news, newSync, capstanlaw19_Tell.f, reader_Reading_Known_s1.f, Option.bind_some]
  rcases arena n e with ⟨h, e1⟩ | ⟨h, e1⟩
  · simp [e1]
  · simp only [e1, Option.bind_some]
    have a1 : 2 * e + 2 * n > 0 := by omega
    have a2 : ¬ (2 * e + 2 * n = 0) := by omega
    simp [a1, a2]
end ReaderNilPure
/-- The law ReaderNil: its tied card holds. -/
theorem readerNil_card : Rows.ReaderNilCardSaid := readerNil.card ReaderNilPure.pure
#print axioms readerNil_card
end Go.Proofs.YtgfjjjbpikfgaaaGreatDoor
