/- Words of this seat: methods as values, parts of values. -/
import Derived.Test.YtikichjmjbbnbaaGreatDoorQ21xVerifyBack
set_option linter.unusedVariables false
set_option linter.unusedSimpArgs false
namespace Go.Q
section
variable {P : Program} {n : Fr} {ρ : Option Nat} {σ : List (Nat × Value)} {A : World → Prop} {L l : List Oper} {Q : Cont} {d : Nat} {dd : Option Nat} {t tr : TypeId} {x : Operand} {pos : String} {af : Array Edge} {g : Option (Nat × Bool)} {as : Array Operand} {ats : Array TypeId} {f : FuncId} {us vals caps : List Value}
theorem SP.rebind (hfn : ((P.funcs[f]?).map fun fn => fn.body.isSome && !(fn.name == "runtime.NumGoroutine")) = some true) (hg : gd L σ g = some true) (hx : ev σ x = some (.func (.func f) us.toArray caps.toArray)) (has : evs σ as.toList = some vals)
    (h : SP P n ρ σ A L (⟨some d, .call ⟨.value (.const (.func (.func f) #[] caps.toArray)), (us.map Operand.const ++ as.toList).toArray, ats⟩, tr, pos, af, g⟩ :: l) Q) :
    SP P n ρ σ A L (⟨some d, .call ⟨.value x, as, ats⟩, tr, pos, af, g⟩ :: l) Q := fun a w ha hw => by
 have key := h a w ha hw
 have hm : as.map a.eval = vals.toArray := by rw [← Array.toArray_toList (xs := as.map a.eval), Array.toList_map, ha.evals has]
 have hl : as.toList.map a.eval = vals := ha.evals has
 have hu : us.map (fun v => a.eval (Operand.const v)) = us := by
  have : (fun v => a.eval (Operand.const v)) = id := by funext v; simp [Act.eval]
  rw [this]; simp
 have hr1 : (execOp a.eval ⟨some d, .call ⟨.value x, as, ats⟩, tr, pos, af, g⟩).run P w = .ok (.enter f (us ++ vals ++ caps).toArray) w := by
  simp [execOp, resolve, ha.eval hx, Deferred.ofValue, invoke, hm, run_call hfn (b := default) (fv := undef)]
 have hr2 : (execOp a.eval ⟨some d, .call ⟨.value (.const (.func (.func f) #[] caps.toArray)), (us.map Operand.const ++ as.toList).toArray, ats⟩, tr, pos, af, g⟩).run P w = .ok (.enter f (us ++ vals ++ caps).toArray) w := by
  have he : a.eval (.const (.func (.func f) #[] caps.toArray)) = .func (.func f) #[] caps.toArray := by simp [Act.eval]
  have h3 : ((us.map Operand.const ++ as.toList).toArray.map a.eval) = (us ++ vals).toArray := by
   simp only [List.map_toArray, List.map_append, List.map_map, hl, Function.comp_def, hu]
  simp only [execOp, resolve, he, Deferred.ofValue, h3]
  simp [invoke, run_call hfn (b := default) (fv := undef)]
 unfold wpListIn at key ⊢
 rw [if_pos (ha.wanted hg)] at key ⊢
 have k2 := key.2
 rw [semAt_of hr2 (fun d e => by cases e), Oper.uponIn_enter] at k2
 refine ⟨fun _ _ => trivial, ?_⟩
 rw [semAt_of hr1 (fun d e => by cases e), Oper.uponIn_enter]
 exact k2
end
end Go.Q
