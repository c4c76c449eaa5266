/- Whether any certificate fits any method is what the chapter says (the law CostFits): for every input, with no condition. -/
import Derived.Test.YtbejlahmhloloaaRCostFits
set_option linter.unusedVariables false
set_option linter.unusedSimpArgs false
namespace Go.Proofs.Ytbejlahmhloloaa
open Go.Q
theorem costFits_ite (b y : Bool) : (if b = true then some y else some false) = some (b && y) := by cases b <;> rfl
theorem costFits_pure : capstanlaw12_CostFits.Pure := by
  intro c x _ _
  unfold capstanlaw12_CostFits.f capstanlaw07_Great.f cost_Fits.f cost_within.f capstanref12_Fits.f
  simp only [Option.bind_some, costFits_ite]
  split
  · rfl
  · split
    · rename_i h
      simp at h ⊢
      omega
    · split
      · rename_i h1 h2
        simp at h1 h2 ⊢
        omega
      · rename_i h1 h2
        simp only [Option.bind_some]
        simp at h1 h2 ⊢
        rw [Bool.eq_iff_iff]
        simp
        omega
theorem costFits_holds : Rows.CostFitsSaid := costFits.over costFits_pure
#print axioms costFits_holds
end Go.Proofs.Ytbejlahmhloloaa
