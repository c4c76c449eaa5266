/- Words of this seat: jumps to a label further on. -/
import Derived.Test.YtehjiiebjkkcmaaGreatDoorQ19xVerifyTells
import Derived.ScopeJumps
set_option linter.unusedVariables false
set_option linter.unusedSimpArgs false
namespace Go.Q
section
variable {P : Program} {n : Fr} {σ : List (Nat × Value)} {A : World → Prop} {Q : Cont} {c rest : Code} {id : Nat}
theorem CP.scope (l : Nat) (M : Act → World → Prop) (hf : findLabel c l = some rest) (hQ : ∀ l' a w, ¬ Q (.goto l') a w) (later : ∀ a w, M a w → rest.wpIn (FF none) 0 P Q a w)
    (now : CP P n none σ A c (Exit.jump l M Q)) : CP P n none σ A (.scope c) Q := fun a w ha hw => by
 refine wpIn_wide.2 (wp_scope_jumps l M (fun _ _ => 0) hf (wpIn_wide.1 (now a w ha hw)) fun a w h => ?_)
 refine wp_mono (wpIn_wide.1 (later a w h)) fun e a w q => ?_
 cases e with
 | goto l' => exact absurd q (hQ _ _ _)
 | _ => exact q
theorem CP.goto {l : Nat} (h : QE n σ A Q (.goto l)) : CP P n none σ A (.goto l) Q := fun a w ha hw => wpIn_goto (h a w ha hw)
theorem QE.jump {l : Nat} {M : Act → World → Prop} (h : ∀ a w, Env n σ a → A w → M a w) : QE n σ A (Exit.jump l M Q) (.goto l) := fun a w ha hw => ⟨rfl, h a w ha hw⟩
theorem QE.scopeX {l : Nat} {M : Act → World → Prop} {e : Exit} (he : (match e with | .goto _ => false | _ => true) = true) (h : QE n σ A Q e) : QE n σ A (Exit.jump l M Q) e := fun a w ha hw => by
 cases e <;> first | exact h a w ha hw | cases he
theorem QE.blockG {l : Nat} (h : QE n σ A Q (.goto l)) : QE n σ A (Exit.inBlock id Q) (.goto l) := h
end
end Go.Q
