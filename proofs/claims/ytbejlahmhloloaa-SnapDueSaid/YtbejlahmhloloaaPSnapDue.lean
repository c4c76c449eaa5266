/- Whether a snapshot is due is what the chapter says; nobody's is over, and does nothing (the law SnapDue): for every input, with no condition. -/
import Derived.Test.YtbejlahmhloloaaRSnapDue
set_option linter.unusedVariables false
set_option linter.unusedSimpArgs false
namespace Go.Proofs.Ytbejlahmhloloaa
open Go.Q
namespace SnapDuePure
theorem bounds {x : Int} (h : (Lit.int .i64 x).wf = true) : -9223372036854775808 ≤ x ∧ x < 9223372036854775808 := by
  have e1 : IntKind.i64.min = -9223372036854775808 := by rfl
  have e2 : IntKind.i64.max = 9223372036854775807 := by rfl
  simp [Lit.wf] at h
  omega
theorem due {k p e : Int} (hk : (Lit.int .i64 k).wf = true) (hp : (Lit.int .i64 p).wf = true) (he : (Lit.int .i64 e).wf = true) : ∃ b, snap_Due.f k p e = some b ∧ capstanref26_Due.f k p e = some b := by
  have bk := bounds hk; have bp := bounds hp; have be := bounds he
  unfold snap_Due.f capstanref26_Due.f
  by_cases h1 : e < 1
  · refine ⟨false, ?_, ?_⟩
    · rw [if_neg (by simp; omega)]; rfl
    · rw [if_pos (by simp [h1])]
  by_cases h2 : k < 0
  · refine ⟨false, ?_, ?_⟩
    · rw [if_neg (by simp; omega)]; rfl
    · rw [if_pos (by simp [h2])]
  rw [if_pos (by simp; omega), if_pos (by omega)]
  simp only [Option.bind_some]
  have ep : (0 : Int) < e := by omega
  by_cases h3 : p ≤ k
  · refine ⟨false, ?_, by rw [if_pos (by simp [h3])]⟩
    congr 1
    by_cases h4 : 0 ≤ p
    · rw [Int.tdiv_eq_ediv_of_nonneg h4]
      have a1 := Int.ediv_mul_le p (show e ≠ 0 by omega)
      have a2 : 0 ≤ p / e := Int.ediv_nonneg h4 (by omega)
      have a3 : 0 ≤ p / e * e := Int.mul_nonneg a2 (by omega)
      have a4 : p / e ≤ p := Int.ediv_le_self _ h4
      rw [wrap_id (x := p / e) (by omega) (by omega), wrap_id (by omega) (by omega)]
      simp; omega
    · have hn : Int.tdiv p e = -((-p) / e) := by
        have : p = -(-p) := by omega
        rw [this, Int.neg_tdiv, Int.tdiv_eq_ediv_of_nonneg (by omega)]
        simp
      rw [hn]
      have a1 := Int.ediv_mul_le (-p) (show e ≠ 0 by omega)
      have a2 : 0 ≤ (-p) / e := Int.ediv_nonneg (by omega) (by omega)
      have a3 : 0 ≤ (-p) / e * e := Int.mul_nonneg a2 (by omega)
      have a4 : (-p) / e ≤ -p := Int.ediv_le_self _ (by omega)
      rw [wrap_id (x := -((-p) / e)) (by omega) (by omega), Int.neg_mul, wrap_id (by omega) (by omega)]
      simp; omega
  · rw [if_neg (by simp; omega), if_pos (by omega), if_pos (by omega)]
    refine ⟨_, rfl, ?_⟩
    congr 1
    rw [Int.tdiv_eq_ediv_of_nonneg (show 0 ≤ p by omega), Int.tdiv_eq_ediv_of_nonneg (show 0 ≤ k by omega)]
    have a1 := Int.ediv_mul_le p (show e ≠ 0 by omega)
    have a2 : 0 ≤ p / e := Int.ediv_nonneg (by omega) (by omega)
    have a3 : 0 ≤ p / e * e := Int.mul_nonneg a2 (by omega)
    have a4 : p / e ≤ p := Int.ediv_le_self _ (by omega)
    have b1 := Int.ediv_mul_le k (show e ≠ 0 by omega)
    have b2 : 0 ≤ k / e := Int.ediv_nonneg (by omega) (by omega)
    have b4 : k / e ≤ k := Int.ediv_le_self _ (by omega)
    have b5 : k < (k / e + 1) * e := Int.lt_ediv_add_one_mul_self k ep
    rw [wrap_id (x := p / e) (by omega) (by omega), wrap_id (x := p / e * e) (by omega) (by omega), wrap_id (x := k / e) (by omega) (by omega)]
    rw [Bool.eq_iff_iff]
    simp only [decide_eq_true_eq]
    constructor
    · intro h
      have := Int.mul_le_mul_of_nonneg_right (show k / e + 1 ≤ p / e by omega) (show 0 ≤ e by omega)
      omega
    · intro h
      rcases Int.lt_or_le (k / e) (p / e) with z | z
      · exact z
      · have := Int.mul_le_mul_of_nonneg_right z (show 0 ≤ e by omega)
        omega
theorem new : mem_New.f 1 1 (⟨(⟨[], [], [], 0⟩ : api_Module), [], []⟩ : mem_Image) = some ((), 0) := by rfl
theorem pure : capstanlaw26_SnapDue.Pure := by
  intro k p e hk hp he
  obtain ⟨b, d1, d2⟩ := due hk hp he
  unfold capstanlaw26_SnapDue.f
  rw [new, d1, d2]
  simp [snap_Catch_Step_s1.f, snap_Keep_Step_s1.f, snap_Catch_Over_s1.f, snap_Keep_Over_s1.f, snap_Catch_Known_s1.f, snap_Keep_Known_s1.f, snap_Catch_Step_s2.f, snap_doing_step_s1.f, snap_doing_step_s1.j1, snap_Keep_Step_s2.f, snap_doing_step_s2.f, snap_doing_step_s2.j1, snap_Catch_Over_s2.f, snap_doing_over_s1.f, snap_Keep_Over_s2.f, snap_doing_over_s2.f, snap_Catch_Known_s2.f, snap_Keep_Known_s2.f]
end SnapDuePure
theorem snapDue_holds : Rows.SnapDueSaid := snapDue.over SnapDuePure.pure
#print axioms snapDue_holds
end Go.Proofs.Ytbejlahmhloloaa
