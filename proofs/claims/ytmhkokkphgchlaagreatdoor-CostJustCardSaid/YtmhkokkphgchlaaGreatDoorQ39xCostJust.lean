/- Words of this seat: calls of functions that are walked in place; deferred calls. -/
import Derived.Test.YtmhkokkphgchlaaGreatDoorQ38xCostJust
import Derived.DefersIn
set_option linter.unusedVariables false
set_option linter.unusedSimpArgs false
namespace Go.Q
section
variable {P : Program} {n m : Fr} {ρ : Option Nat} {σ τ : List (Nat × Value)} {A B : World → Prop} {L l : List Oper} {Q : Cont} {d : Nat} {a : Act} {f : FuncId} {fn : Func} {c : Code} {vals caps : List Value}
def dfr (f : FuncId) (caps vals : List Value) : Deferred := { target := .fn (.func f) caps.toArray, args := vals.toArray }
theorem SP.defer {o : Oper} {tr : TypeId} {x : Operand} {pos : String} {af : Array Edge} {gu : Option (Nat × Bool)} {ar : Array Operand} {ats : Array TypeId} (ho : o = ⟨none, .defer ⟨.value x, ar, ats⟩, tr, pos, af, gu⟩) (hg : gd L σ gu = some true) (hx : ev σ x = some (.func (.func f) #[] caps.toArray)) (has : evs σ ar.toList = some vals)
    (h : SP P ⟨n.n, dfr f caps vals :: n.ds⟩ none σ A L l Q) : SP P n none σ A L (o :: l) Q := fun a w ha hw => by
 subst ho
 unfold wpListIn
 rw [if_pos (ha.wanted hg)]
 have hm : ar.map a.eval = vals.toArray := by rw [← Array.toArray_toList (xs := ar.map a.eval), Array.toList_map, ha.evals has]
 have hr : (execOp a.eval ⟨none, .defer ⟨.value x, ar, ats⟩, tr, pos, af, gu⟩).run P w = .ok (.defer (dfr f caps vals)) w := by
  simp [execOp, resolve, ha.eval hx, Deferred.ofValue, hm, dfr]
 refine ⟨fun _ _ => trivial, ?_⟩
 rw [Oper.semAt_none, hr, Oper.uponIn_defer]
 exact h _ _ ⟨ha.1, by show _ :: a.defers = _; rw [ha.2.1], ha.2.2⟩ hw
def NP (Q : Cont) : Cont := fun e a w => match e with
 | .panic _ => False
 | e => Q e a w
theorem NP.imp {Q : Cont} {e : Exit} {a : Act} {w : World} (h : NP Q e a w) : Q e a w := by cases e <;> first | exact h.elim | exact h
end
section
variable {P : Program} {n : Fr} {σ : List (Nat × Value)} {A : World → Prop} {dd : Option Nat} {t tr e : TypeId} {x y : Operand} {pos : String} {af : Array Edge} {g : Option (Nat × Bool)} {cs c : List Value} {v : Value} {j k : Nat} {m : Nat} {ik : IntKind}
end
def andI (k : IntKind) (a b : Int) : Int := k.wrap ((BitVec.ofInt k.bits a &&& BitVec.ofInt k.bits b).toNat : Int)
def orI (k : IntKind) (a b : Int) : Int := k.wrap ((BitVec.ofInt k.bits a ||| BitVec.ofInt k.bits b).toNat : Int)
section
variable {P : Program} {n : Fr} {σ : List (Nat × Value)} {A : World → Prop} {dd : Option Nat} {t tr ty : TypeId} {x y : Operand} {pos : String} {af : Array Edge} {g : Option (Nat × Bool)} {k yk : IntKind} {a b : Int}
theorem Val.and (hx : ev σ x = some (.int k a)) (hy : ev σ y = some (.int k b)) : Val P n σ A ⟨dd, .binOp .and t x y ty, tr, pos, af, g⟩ (.int k (andI k a b)) := fun e w ha _ => by
 simp [execOp, ha.eval hx, ha.eval hy, eqGuard, binOp, Op.intBits, andI]
theorem Val.neg (hx : ev σ x = some (.int k a)) : Val P n σ A ⟨dd, .unOp .neg t x, tr, pos, af, g⟩ (.int k (k.wrap (0 - a))) := fun e w ha _ => by
 simp [execOp, ha.eval hx, Op.unary, Op.intArith]
theorem Val.or (hx : ev σ x = some (.int k a)) (hy : ev σ y = some (.int k b)) : Val P n σ A ⟨dd, .binOp .or t x y ty, tr, pos, af, g⟩ (.int k (orI k a b)) := fun e w ha _ => by
 simp [execOp, ha.eval hx, ha.eval hy, eqGuard, binOp, Op.intBits, orI]
end
end Go.Q
