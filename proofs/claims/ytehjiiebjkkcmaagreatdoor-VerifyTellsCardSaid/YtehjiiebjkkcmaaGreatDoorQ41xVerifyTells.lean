/- Words of this seat: calls walked in place that may panic; panics that a deferred call recovers. -/
import Derived.Test.YtehjiiebjkkcmaaGreatDoorQ40xVerifyTells
import Derived.RecoverIn
set_option linter.unusedVariables false
set_option linter.unusedSimpArgs false
namespace Go.Q
section
variable {P : Program} {n m : Fr} {ρ : Option Nat} {σ τ : List (Nat × Value)} {A B : World → Prop} {L l : List Oper} {Q : Cont} {d : Nat} {dd : Option Nat} {a : Act} {f : FuncId} {fn : Func} {c : Code} {vals caps : List Value} {ch : List PanicEntry} {t tr u ty : TypeId} {x y : Operand} {pos : String} {af : Array Edge} {gu : Option (Nat × Bool)} {v : Value}
end
end Go.Q
