/- Words of this seat: arrays as values. -/
import Derived.Test.YtehjiiebjkkcmaaGreatDoorQ26xVerifyTells
set_option linter.unusedVariables false
set_option linter.unusedSimpArgs false
namespace Go.Q
def lenP (m N : Nat) : HP := ⟨fun _ => m = N, fun _ _ _ h => h⟩
section
variable {P : Program} {n : Fr} {ρ : Option Nat} {σ : List (Nat × Value)} {w0 w : World} {hA hV : Hp} {ps : List HP} {os : List HO} {L l : List Oper} {Q : Cont} {d : Nat} {t tr T : TypeId} {x : Operand} {pos : String} {af : Array Edge} {g : Option (Nat × Bool)} {α : Type} {f : α → Value} {N b : Nat} {xs : List α}
end
end Go.Q
