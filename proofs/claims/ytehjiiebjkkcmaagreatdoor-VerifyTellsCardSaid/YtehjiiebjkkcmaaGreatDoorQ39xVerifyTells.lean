/- Words of this seat: calls of functions that are walked in place; deferred calls. -/
import Derived.Test.YtehjiiebjkkcmaaGreatDoorQ38xVerifyTells
import Derived.DefersIn
set_option linter.unusedVariables false
set_option linter.unusedSimpArgs false
namespace Go.Q
section
variable {P : Program} {n m : Fr} {ρ : Option Nat} {σ τ : List (Nat × Value)} {A B : World → Prop} {L l : List Oper} {Q : Cont} {d : Nat} {a : Act} {f : FuncId} {fn : Func} {c : Code} {vals caps : List Value}
def NP (Q : Cont) : Cont := fun e a w => match e with
 | .panic _ => False
 | e => Q e a w
theorem NP.imp {Q : Cont} {e : Exit} {a : Act} {w : World} (h : NP Q e a w) : Q e a w := by cases e <;> first | exact h.elim | exact h
end
section
variable {P : Program} {n : Fr} {σ : List (Nat × Value)} {A : World → Prop} {dd : Option Nat} {t tr e : TypeId} {x y : Operand} {pos : String} {af : Array Edge} {g : Option (Nat × Bool)} {cs c : List Value} {v : Value} {j k : Nat} {m : Nat} {ik : IntKind}
theorem Val.Z0L (j : Nat) (hu : P.underlying t = some (.array m e)) {dsc : TypeDesc} (he : P.underlying e = some dsc) (hd : isA dsc = false) (hs : (P.info? e).map (·.size) = some 1) (hx : ev σ x = some (.agg cs.toArray)) (hy : ev σ y = some (.int ik (j : Int))) (hm : Nat.blt j m = true) (hc : cs[j]? = some v) :
    Val P n σ A ⟨dd, .index t x y, tr, pos, af, g⟩ v := by
 intro a w ha hw
 have hm : j < m := by simpa using hm
 have hp := Wl (P := P) (t := e) (w := w) (cs := cs.toArray) (off := (j : Int).toNat * 1) he hd (by simpa using hc)
 have hsz : (sizeOf e).run P w = .ok 1 w := by
  cases hq : P.info? e with
  | none => simp [hq] at hs
  | some i => simp [hq] at hs; simp [sizeOf, typeInfo, hq, hs]
 have : (Instr.index t (.agg cs.toArray) (.int ik (j : Int))).run P w = .ok v w := by
  simp only [Instr.index, asIntOf, Sem.run_bind, Sem.run_pure, Result.andThen_ok, run_underlying hu]
  rw [if_pos ⟨by omega, by omega⟩]
  simp only [Sem.run_bind, hsz, Result.andThen_ok]
  exact hp
 simp [execOp, ha.eval hx, ha.eval hy, this]
theorem Val.TG (j : Nat) (hu : P.underlying t = some (.array m e)) {dsc : TypeDesc} (he : P.underlying e = some dsc) (hd : isA dsc = true) (hs : (P.info? e).map (·.size) = some k) (hx : ev σ x = some (.agg cs.toArray)) (hy : ev σ y = some (.int ik (j : Int))) (hm : Nat.blt j m = true) (hc : cs.toArray.extract (j * k) (j * k + k) = c.toArray) :
    Val P n σ A ⟨dd, .index t x y, tr, pos, af, g⟩ (.agg c.toArray) := by
 intro a w ha hw
 have hm : j < m := by simpa using hm
 have hp := Z5y (P := P) (t := e) (w := w) (cs := cs.toArray) (off := (j : Int).toNat * k) he hd hs hc
 have hsz : (sizeOf e).run P w = .ok k w := by
  cases hq : P.info? e with
  | none => simp [hq] at hs
  | some i => simp [hq] at hs; simp [sizeOf, typeInfo, hq, hs]
 have : (Instr.index t (.agg cs.toArray) (.int ik (j : Int))).run P w = .ok (.agg c.toArray) w := by
  simp only [Instr.index, asIntOf, Sem.run_bind, Sem.run_pure, Result.andThen_ok, run_underlying hu]
  rw [if_pos ⟨by omega, by omega⟩]
  simp only [Sem.run_bind, hsz, Result.andThen_ok]
  exact hp
 simp [execOp, ha.eval hx, ha.eval hy, this]
end
def shrI (k : IntKind) (a b : Int) : Int := a.fdiv (2 ^ (min b.toNat k.bits))
def andI (k : IntKind) (a b : Int) : Int := k.wrap ((BitVec.ofInt k.bits a &&& BitVec.ofInt k.bits b).toNat : Int)
section
variable {P : Program} {n : Fr} {σ : List (Nat × Value)} {A : World → Prop} {dd : Option Nat} {t tr ty : TypeId} {x y : Operand} {pos : String} {af : Array Edge} {g : Option (Nat × Bool)} {k yk : IntKind} {a b : Int}
theorem Val.shr (hb : 0 ≤ b) (hx : ev σ x = some (.int k a)) (hy : ev σ y = some (.int yk b)) : Val P n σ A ⟨dd, .binOp .shr t x y ty, tr, pos, af, g⟩ (.int k (shrI k a b)) := fun e w ha _ => by
 simp [execOp, ha.eval hx, ha.eval hy, eqGuard, binOp, Op.shift, shrI, Int.not_lt.2 hb]
theorem Val.and (hx : ev σ x = some (.int k a)) (hy : ev σ y = some (.int k b)) : Val P n σ A ⟨dd, .binOp .and t x y ty, tr, pos, af, g⟩ (.int k (andI k a b)) := fun e w ha _ => by
 simp [execOp, ha.eval hx, ha.eval hy, eqGuard, binOp, Op.intBits, andI]
theorem Val.neg (hx : ev σ x = some (.int k a)) : Val P n σ A ⟨dd, .unOp .neg t x, tr, pos, af, g⟩ (.int k (k.wrap (0 - a))) := fun e w ha _ => by
 simp [execOp, ha.eval hx, Op.unary, Op.intArith]
end
end Go.Q
