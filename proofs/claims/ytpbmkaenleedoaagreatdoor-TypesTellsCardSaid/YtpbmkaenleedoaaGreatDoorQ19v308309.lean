/- Words of this seat: ways that are known: loops gone round by round, nil pointers, memory that nobody reads. -/
import Derived.Test.YtpbmkaenleedoaaGreatDoorQ18v308309
import Derived.LoopNIn
import Derived.Laws.MakeOwn
set_option linter.unusedVariables false
set_option linter.unusedSimpArgs false
namespace Go.Q
section
variable {P : Program} {n : Fr} {ρ : Option Nat} {σ : List (Nat × Value)} {A : World → Prop} {Q : Cont} {c : Code} {m : Nat}
/-- At most m rounds. -/
def LP (P : Program) (n : Fr) (ρ : Option Nat) (σ : List (Nat × Value)) (A : World → Prop) (c : Code) (Q : Cont) (m : Nat) : Prop := ∀ a w, Env n σ a → A w → Code.roundsIn (FF ρ) 0 P c Q m a w
theorem CP.rounds (m : Nat) (h : LP P n ρ σ A c Q m) : CP P n ρ σ A (.loop c) Q := fun a w ha hw => wpIn_loop_rounds m (h a w ha hw)
theorem LP.step (h : CP P n ρ σ A c (Exit.then (Code.roundsIn (FF ρ) 0 P c Q m) Q)) : LP P n ρ σ A c Q (m + 1) := fun a w ha hw => h a w ha hw
theorem QE.round (h : LP P n ρ σ A c Q m) : QE n σ A (Exit.then (Code.roundsIn (FF ρ) 0 P c Q m) Q) .normal := h
end
section
variable {P : Program} {n : Fr} {ρ : Option Nat} {σ : List (Nat × Value)} {A : World → Prop} {L l : List Oper} {Q : Cont} {dd : Option Nat} {d : Nat} {t e tr ty : TypeId} {x y : Operand} {pos : String} {af : Array Edge} {g : Option (Nat × Bool)} {b : Nat} {off : Nat}
theorem run_nilP {w : World} {p : Option Addr} (hu : P.underlying t = some (.pointer e)) : (Op.equal t (.pointer p) (.pointer none)).run P w = .ok p.isNone w := by
  have h1 : ∀ k, (Op.equalIn (k + 1) t (.pointer p) (.pointer none)).run P w = .ok p.isNone w := fun k => by cases p <;> simp [Op.equalIn, run_underlying hu]
  exact h1 9999
theorem Val.eqlPN {p : Option Addr} (hu : P.underlying t = some (.pointer e)) (hx : ev σ x = some (.pointer p)) (hy : ev σ y = some (.pointer none)) : Val P n σ A ⟨dd, .binOp .eql t x y ty, tr, pos, af, g⟩ (.bool p.isNone) := fun a w ha _ => by
  simp [execOp, ha.eval hx, ha.eval hy, eqGuard_at_pointer, binOp, run_nilP hu]
theorem Val.neqPN {p : Option Addr} (hu : P.underlying t = some (.pointer e)) (hx : ev σ x = some (.pointer p)) (hy : ev σ y = some (.pointer none)) : Val P n σ A ⟨dd, .binOp .neq t x y ty, tr, pos, af, g⟩ (.bool (!p.isNone)) := fun a w ha _ => by
  simp [execOp, ha.eval hx, ha.eval hy, eqGuard_at_pointer, binOp, run_nilP hu]
def isFn : TypeDesc → Bool
  | .func .. => true
  | _ => false
theorem run_nilF {w : World} {dsc : TypeDesc} (hu : P.underlying t = some dsc) (hd : isFn dsc = true) : (Op.equal t .nilFunc .nilFunc).run P w = .ok true w := by
  have h1 : ∀ k, (Op.equalIn (k + 1) t .nilFunc .nilFunc).run P w = .ok true w := fun k => by
    cases dsc <;> simp_all [isFn, Op.equalIn, run_underlying hu]
  exact h1 9999
theorem run_notF {w : World} {dsc : TypeDesc} {f : Fn} {us cs : Array Value} (hu : P.underlying t = some dsc) (hd : isFn dsc = true) : (Op.equal t (.func f us cs) .nilFunc).run P w = .ok false w := by
  have h1 : ∀ k, (Op.equalIn (k + 1) t (.func f us cs) .nilFunc).run P w = .ok false w := fun k => by
    cases dsc <;> simp_all [isFn, Op.equalIn, run_underlying hu]
  exact h1 9999
theorem Val.eqlFN {dsc : TypeDesc} (hu : P.underlying t = some dsc) (hd : isFn dsc = true) (hx : ev σ x = some .nilFunc) (hy : ev σ y = some .nilFunc) : Val P n σ A ⟨dd, .binOp .eql t x y ty, tr, pos, af, g⟩ (.bool true) := fun a w ha _ => by
  simp [execOp, ha.eval hx, ha.eval hy, eqGuard_at_nilFunc, binOp, run_nilF hu hd]
theorem Val.neqFN {dsc : TypeDesc} (hu : P.underlying t = some dsc) (hd : isFn dsc = true) (hx : ev σ x = some .nilFunc) (hy : ev σ y = some .nilFunc) : Val P n σ A ⟨dd, .binOp .neq t x y ty, tr, pos, af, g⟩ (.bool false) := fun a w ha _ => by
  simp [execOp, ha.eval hx, ha.eval hy, eqGuard_at_nilFunc, binOp, run_nilF hu hd]
theorem Val.eqlFF {dsc : TypeDesc} {f : Fn} {us cs : Array Value} (hu : P.underlying t = some dsc) (hd : isFn dsc = true) (hx : ev σ x = some (.func f us cs)) (hy : ev σ y = some .nilFunc) : Val P n σ A ⟨dd, .binOp .eql t x y ty, tr, pos, af, g⟩ (.bool false) := fun a w ha _ => by
  simp [execOp, ha.eval hx, ha.eval hy, eqGuard_at_func, binOp, run_notF hu hd]
theorem Val.nilCheck {ad : Addr} (hx : ev σ x = some (.pointer (some ad))) : Val P n σ A ⟨dd, .nilCheck x, tr, pos, af, g⟩ (.pointer (some ad)) := fun a w ha _ => by
  simp [execOp, ha.eval hx]
theorem Val.cast {o : Oper} {v v' : Value} (h : Val P n σ A o v') (e : v' = v) : Val P n σ A o v := e ▸ h
/-- What nobody asks for. -/
def anyP : HP := ⟨fun _ => True, fun _ _ _ h => h⟩
variable {w0 : World} {hA hV : Hp} {ps : List HP} {os : List HO}
theorem SP.makeAny {cs : List Value} {s bytes : Nat} {k : Int} {kl : IntKind} (hu : P.underlying t = some (.slice e)) (hi : (P.info? e).map (fun i => ((i.zero.map fun z => z.cells.toList), i.size, i.bytes)) = some (some cs, s, bytes)) (hg : gd L σ g = some true) (hn : Nat.blt d n.n = true)
    (hx : ev σ x = some (.int kl k)) (hy : ev σ y = some (.int kl k)) (hb : 0 ≤ k ∧ (bytes : Int) * k ≤ 281474976710656 ∧ k ≤ 9223372036854775807)
    (h : ∀ b, SP P n ρ ((d, .slice (some ⟨b, 0, none⟩) k.toNat k.toNat) :: σ) (St w0 hA hV ps (HO.em :: os)) L l Q) : SP P n ρ σ (St w0 hA hV ps os) L (⟨some d, .makeSlice t x y, tr, pos, af, g⟩ :: l) Q := by
  obtain ⟨i, z, h1, h2, h3, h4, h5⟩ := zero_of hi
  refine SP.op (fun b => .slice (some ⟨b, 0, none⟩) k.toNat k.toNat) (fun b => St w0 hA hV ps (HO.em :: os)) hg rfl hn (fun a w ha hw => ⟨w.heap.size, _, ?_, hw.alloc (x := HO.em) (.cells (madeCells z.cells (k.toNat * i.size)) e) trivial⟩) h
  have := run_make (P := P) w t e i z hu h1 h2 kl kl k k hb.1 (Int.le_refl _) (by rw [h5]; exact hb.2.1) hb.2.2
  simp [execOp, ha.eval hx, ha.eval hy, this]
end
end Go.Q
