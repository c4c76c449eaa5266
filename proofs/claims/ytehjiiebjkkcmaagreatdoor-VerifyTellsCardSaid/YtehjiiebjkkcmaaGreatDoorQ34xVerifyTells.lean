/- Words of this seat: rows some of whose elements are one's own. -/
import Derived.Test.YtehjiiebjkkcmaaGreatDoorQ33xVerifyTells
set_option linter.unusedVariables false
set_option linter.unusedSimpArgs false
namespace Go.Q
section
variable {P : Program} {n : Fr} {ρ : Option Nat} {σ : List (Nat × Value)} {w0 w : World} {hA hV : Hp} {ps : List HP} {os : List HO} {L l : List Oper} {Q : Cont} {d : Nat} {dd : Option Nat} {t e T T' tr : TypeId} {x y : Operand} {pos : String} {af : Array Edge} {g : Option (Nat × Bool)} {v u p s : Value} {α β : Type} {k : Ko α} {kd : Kd β} {j : Int} {off : Nat}
end
end Go.Q
