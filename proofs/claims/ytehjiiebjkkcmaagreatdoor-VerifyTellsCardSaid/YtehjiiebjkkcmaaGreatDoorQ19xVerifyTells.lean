/- Words of this seat: ways that are known: loops gone round by round, nil pointers, memory that nobody reads. -/
import Derived.Test.YtehjiiebjkkcmaaGreatDoorQ18xVerifyTells
import Derived.LoopNIn
import Derived.Laws.MakeOwn
set_option linter.unusedVariables false
set_option linter.unusedSimpArgs false
namespace Go.Q
section
variable {P : Program} {n : Fr} {ρ : Option Nat} {σ : List (Nat × Value)} {A : World → Prop} {Q : Cont} {c : Code} {m : Nat}
def LP (P : Program) (n : Fr) (ρ : Option Nat) (σ : List (Nat × Value)) (A : World → Prop) (c : Code) (Q : Cont) (m : Nat) : Prop := ∀ a w, Env n σ a → A w → Code.roundsIn (FF ρ) 0 P c Q m a w
theorem CP.rounds (m : Nat) (h : LP P n ρ σ A c Q m) : CP P n ρ σ A (.loop c) Q := fun a w ha hw => wpIn_loop_rounds m (h a w ha hw)
theorem LP.step (h : CP P n ρ σ A c (Exit.then (Code.roundsIn (FF ρ) 0 P c Q m) Q)) : LP P n ρ σ A c Q (m + 1) := fun a w ha hw => h a w ha hw
theorem QE.round (h : LP P n ρ σ A c Q m) : QE n σ A (Exit.then (Code.roundsIn (FF ρ) 0 P c Q m) Q) .normal := h
end
section
variable {P : Program} {n : Fr} {ρ : Option Nat} {σ : List (Nat × Value)} {A : World → Prop} {L l : List Oper} {Q : Cont} {dd : Option Nat} {d : Nat} {t e tr ty : TypeId} {x y : Operand} {pos : String} {af : Array Edge} {g : Option (Nat × Bool)} {b : Nat} {off : Nat}
theorem Val.nilCheck {ad : Addr} (hx : ev σ x = some (.pointer (some ad))) : Val P n σ A ⟨dd, .nilCheck x, tr, pos, af, g⟩ (.pointer (some ad)) := fun a w ha _ => by
 simp [execOp, ha.eval hx]
def anyP : HP := ⟨fun _ => True, fun _ _ _ h => h⟩
variable {w0 : World} {hA hV : Hp} {ps : List HP} {os : List HO}
end
end Go.Q
