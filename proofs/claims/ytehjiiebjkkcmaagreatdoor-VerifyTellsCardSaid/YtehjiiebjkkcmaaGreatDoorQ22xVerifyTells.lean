/- Words of this seat: methods as values, parts of values. -/
import Derived.Test.YtehjiiebjkkcmaaGreatDoorQ21xVerifyTells
set_option linter.unusedVariables false
set_option linter.unusedSimpArgs false
namespace Go.Q
section
variable {P : Program} {n : Fr} {ρ : Option Nat} {σ : List (Nat × Value)} {A : World → Prop} {L l : List Oper} {Q : Cont} {d : Nat} {dd : Option Nat} {t tr : TypeId} {x : Operand} {pos : String} {af : Array Edge} {g : Option (Nat × Bool)} {as : Array Operand} {ats : Array TypeId} {f : FuncId} {us vals caps : List Value}
end
end Go.Q
