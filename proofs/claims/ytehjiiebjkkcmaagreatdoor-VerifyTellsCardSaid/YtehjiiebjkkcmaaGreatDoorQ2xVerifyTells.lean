/- Words of this seat: the operations, one rule each. -/
import Derived.Test.YtehjiiebjkkcmaaGreatDoorQ1xVerifyTells
import Derived.Laws.CopyRow
set_option linter.unusedVariables false
set_option linter.unusedSimpArgs false
namespace Go.Q
section
variable {P : Program} {n : Fr} {ρ : Option Nat} {σ σ' : List (Nat × Value)} {A A' : World → Prop} {L l : List Oper} {Q : Cont} {o : Oper} {d : Nat}
theorem Z5w {P : Program} {r : Operand → Value} {o : Oper} {w w' : World} {nx : Next} (h : (execOp r o).run P w = .ok nx w') (hn : ∀ d, nx ≠ .defer d) : ∀ c, o.op ≠ .defer c := fun c hc => by
 simp only [execOp, hc, Sem.run_bind, Sem.run_pure] at h
 cases hr : (resolve r c o.type).run P w with
 | ok d w1 => rw [hr] at h; simp at h; exact hn d h.1.symm
 | halt x w1 => rw [hr] at h; cases h
theorem UE {P : Program} {ρ : Option Nat} {r : Operand → Value} {o : Oper} {w w' : World} {nx : Next} (h : (execOp r o).run P w = .ok nx w') (hn : ∀ d, nx ≠ .defer d) : (o.semAt (FF ρ).round r).run P w = .ok nx w' := by
 rw [Oper.semAt_eq _ _ _ (Z5w h hn)]; exact h
theorem SP.op {β : Type} (G : β → Value) (A' : β → World → Prop) (hg : gd L σ o.guard = some true) (hd : o.dst = some d) (hn : Nat.blt d n.n = true)
    (hv : ∀ a w, Env n σ a → A w → ∃ x w', (execOp a.eval o).run P w = .ok (.value (G x)) w' ∧ A' x w')
    (h : ∀ x, SP P n ρ ((d, G x) :: σ) (A' x) L l Q) : SP P n ρ σ A L (o :: l) Q := fun a w ha hw => by
 obtain ⟨x, w', hr, hA⟩ := hv a w ha hw
 unfold wpListIn
 rw [if_pos (ha.wanted hg)]
 refine ⟨fun _ _ => trivial, ?_⟩
 rw [UE hr (fun d e => by cases e), Oper.uponIn_value, hd]
 exact h x _ _ (ha.put _ (by simpa using hn)) hA
def Val (P : Program) (n : Fr) (σ : List (Nat × Value)) (A : World → Prop) (o : Oper) (v : Value) : Prop := ∀ a w, Env n σ a → A w → (execOp a.eval o).run P w = .ok (.value v) w
theorem SP.val {v : Value} (hv : Val P n σ A o v) (hg : gd L σ o.guard = some true) (hd : o.dst = some d) (hn : Nat.blt d n.n = true)
    (h : SP P n ρ ((d, v) :: σ) A L l Q) : SP P n ρ σ A L (o :: l) Q :=
 SP.op (β := Unit) (fun _ => v) (fun _ => A) hg hd hn (fun a w ha hw => ⟨(), w, hv a w ha hw, hw⟩) (fun _ => h)
theorem SP.act (hg : gd L σ o.guard = some true) (hd : o.dst = none)
    (hv : ∀ a w, Env n σ a → A w → ∃ w', (execOp a.eval o).run P w = .ok .skip w' ∧ A' w')
    (h : SP P n ρ σ A' L l Q) : SP P n ρ σ A L (o :: l) Q := fun a w ha hw => by
 obtain ⟨w', hr, hA⟩ := hv a w ha hw
 unfold wpListIn
 rw [if_pos (ha.wanted hg)]
 refine ⟨fun _ _ => trivial, ?_⟩
 rw [UE hr (fun d e => by cases e), Oper.uponIn_skip, hd]
 exact h _ _ ha hA
theorem SP.not (hg : gd L σ o.guard = some false) (hd : o.dst = some d) (hn : Nat.blt d n.n = true) (h : SP P n ρ ((d, undef) :: σ) A L l Q) : SP P n ρ σ A L (o :: l) Q := fun a w ha hw => by
 unfold wpListIn
 rw [if_neg (by rw [ha.wanted hg]; simp), hd]
 exact ⟨fun _ _ => trivial, h _ _ (ha.put _ (by simpa using hn)) hw⟩
theorem SP.byBool {b : Bool} (hd : find d σ = some (.bool b)) (ht : b = true → SP P n ρ ((d, .bool true) :: σ) A L l Q) (hf : b = false → SP P n ρ ((d, .bool false) :: σ) A L l Q) : SP P n ρ σ A L l Q := fun a w ha hw => by
 have key : ∀ c, b = c → Env n ((d, .bool c) :: σ) a := fun c hc => ⟨ha.1, ha.2.1, fun t v hv => by
  simp only [find] at hv
  by_cases e : d = t
  ·subst e; simp at hv; subst hv; exact ha.2.2 d _ (hc ▸ hd)
  ·rw [KZ e] at hv; exact ha.2.2 t v hv⟩
 cases hb : b with
 | true => exact ht hb a w (key true hb) hw
 | false => exact hf hb a w (key false hb) hw
theorem SP.ex {ι : Type} {I : ι → World → Prop} (hx : ∀ w, A w → ∃ x, I x w) (h : ∀ x, SP P n ρ σ (I x) L l Q) : SP P n ρ σ A L l Q := fun a w ha hw => by
 obtain ⟨x, k⟩ := hx w hw; exact h x a w ha k
theorem SP.have {q : Prop} (hx : ∀ w, A w → q) (h : q → SP P n ρ σ A L l Q) : SP P n ρ σ A L l Q := fun a w ha hw => h (hx w hw) a w ha hw
theorem CP.ex {ι : Type} {I : ι → World → Prop} {c : Code} (hx : ∀ w, A w → ∃ x, I x w) (h : ∀ x, CP P n ρ σ (I x) c Q) : CP P n ρ σ A c Q := fun a w ha hw => by
 obtain ⟨x, k⟩ := hx w hw; exact h x a w ha k
theorem CP.have {q : Prop} {c : Code} (hx : ∀ w, A w → q) (h : q → CP P n ρ σ A c Q) : CP P n ρ σ A c Q := fun a w ha hw => h (hx w hw) a w ha hw
theorem CP.imp {c : Code} (hx : ∀ w, A w → A' w) (h : CP P n ρ σ A' c Q) : CP P n ρ σ A c Q := fun a w ha hw => h a w ha (hx w hw)
theorem SP.imp (hx : ∀ w, A w → A' w) (h : SP P n ρ σ A' L l Q) : SP P n ρ σ A L l Q := fun a w ha hw => h a w ha (hx w hw)
end
section
variable {P : Program} {n : Fr} {ρ : Option Nat} {σ : List (Nat × Value)} {A : World → Prop} {L l : List Oper} {Q : Cont} {d : Nat} {dd : Option Nat} {t ty tr : TypeId} {x y z : Operand} {pos : String} {af : Array Edge} {g : Option (Nat × Bool)} {k yk : IntKind} {a b : Int} {p q : Bool} {v u : Value}
theorem Val.move (hx : ev σ x = some v) : Val P n σ A ⟨dd, .move x, t, pos, af, g⟩ (v) := fun a w ha _ => by simp [execOp, ha.eval hx]
theorem Val.assign (hx : ev σ x = some v) : Val P n σ A ⟨dd, .assign x, t, pos, af, g⟩ (v) := fun a w ha _ => by simp [execOp, ha.eval hx]
theorem Val.pickT (hx : ev σ x = some (.bool true)) (hy : ev σ y = some v) : Val P n σ A ⟨dd, .pick x y z, t, pos, af, g⟩ (v) := fun a w ha _ => by simp [execOp, asBool, ha.eval hx, ha.eval hy]
theorem Val.pickF (hx : ev σ x = some (.bool false)) (hz : ev σ z = some v) : Val P n σ A ⟨dd, .pick x y z, t, pos, af, g⟩ (v) := fun a w ha _ => by simp [execOp, asBool, ha.eval hx, ha.eval hz]
theorem Val.add (hx : ev σ x = some (.int k a)) (hy : ev σ y = some (.int k b)) : Val P n σ A ⟨dd, .binOp .add t x y ty, tr, pos, af, g⟩ (.int k (k.wrap (a + b))) := fun e w ha _ => by simp [execOp, ha.eval hx, ha.eval hy, eqGuard_add, binOp_add, Op.intArith]
theorem Val.sub (hx : ev σ x = some (.int k a)) (hy : ev σ y = some (.int k b)) : Val P n σ A ⟨dd, .binOp .sub t x y ty, tr, pos, af, g⟩ (.int k (k.wrap (a - b))) := fun e w ha _ => by simp [execOp, ha.eval hx, ha.eval hy, eqGuard_sub, binOp_sub, Op.intArith]
theorem Val.mul (hx : ev σ x = some (.int k a)) (hy : ev σ y = some (.int k b)) : Val P n σ A ⟨dd, .binOp .mul t x y ty, tr, pos, af, g⟩ (.int k (k.wrap (a * b))) := fun e w ha _ => by simp [execOp, ha.eval hx, ha.eval hy, eqGuard_mul, binOp_mul, Op.intArith]
theorem Val.quo (hx : ev σ x = some (.int k a)) (hy : ev σ y = some (.int k b)) (hb : b ≠ 0) : Val P n σ A ⟨dd, .binOp .quo t x y ty, tr, pos, af, g⟩ (.int k (k.wrap (a.tdiv b))) := fun e w ha _ => by simp [execOp, ha.eval hx, ha.eval hy, eqGuard_quo, binOp_quo, Op.intDiv, hb]
theorem Val.rem (hx : ev σ x = some (.int k a)) (hy : ev σ y = some (.int k b)) (hb : b ≠ 0) : Val P n σ A ⟨dd, .binOp .rem t x y ty, tr, pos, af, g⟩ (.int k (a.tmod b)) := fun e w ha _ => by simp [execOp, ha.eval hx, ha.eval hy, eqGuard_rem, binOp_rem, Op.intDiv, hb]
theorem Val.lss (hx : ev σ x = some (.int k a)) (hy : ev σ y = some (.int k b)) : Val P n σ A ⟨dd, .binOp .lss t x y ty, tr, pos, af, g⟩ (.bool (decide (a < b))) := fun e w ha _ => by simp [execOp, ha.eval hx, ha.eval hy, eqGuard_lss, binOp_lss]
theorem Val.leq (hx : ev σ x = some (.int k a)) (hy : ev σ y = some (.int k b)) : Val P n σ A ⟨dd, .binOp .leq t x y ty, tr, pos, af, g⟩ (.bool (decide (a ≤ b))) := fun e w ha _ => by simp [execOp, ha.eval hx, ha.eval hy, eqGuard_leq, binOp_leq]
theorem Val.gtr (hx : ev σ x = some (.int k a)) (hy : ev σ y = some (.int k b)) : Val P n σ A ⟨dd, .binOp .gtr t x y ty, tr, pos, af, g⟩ (.bool (decide (a > b))) := fun e w ha _ => by simp [execOp, ha.eval hx, ha.eval hy, eqGuard_gtr, binOp_gtr]
theorem Val.geq (hx : ev σ x = some (.int k a)) (hy : ev σ y = some (.int k b)) : Val P n σ A ⟨dd, .binOp .geq t x y ty, tr, pos, af, g⟩ (.bool (decide (a ≥ b))) := fun e w ha _ => by simp [execOp, ha.eval hx, ha.eval hy, eqGuard_geq, binOp_geq]
theorem Val.eql (hx : ev σ x = some (.int k a)) (hy : ev σ y = some (.int k b)) : Val P n σ A ⟨dd, .binOp .eql t x y ty, tr, pos, af, g⟩ (.bool (decide (a = b))) := fun e w ha _ => by simp [execOp, ha.eval hx, ha.eval hy, eqGuard_at_int, binOp_eql]; rfl
theorem Val.neq (hx : ev σ x = some (.int k a)) (hy : ev σ y = some (.int k b)) : Val P n σ A ⟨dd, .binOp .neq t x y ty, tr, pos, af, g⟩ (.bool (decide (a ≠ b))) := fun e w ha _ => by simp [execOp, ha.eval hx, ha.eval hy, eqGuard_at_int, binOp_neq, bne]; rfl
theorem Val.eqlB (hu : P.underlying t = some .bool) (hx : ev σ x = some (.bool p)) (hy : ev σ y = some (.bool q)) : Val P n σ A ⟨dd, .binOp .eql t x y ty, tr, pos, af, g⟩ (.bool (p == q)) := fun e w ha _ => by simp [execOp, ha.eval hx, ha.eval hy, eqGuard_at_bool, run_eql_bool w t p q hu]
theorem Val.notB (hx : ev σ x = some (.bool p)) : Val P n σ A ⟨dd, .unOp .not t x, tr, pos, af, g⟩ (.bool (!p)) := fun e w ha _ => by simp [execOp, ha.eval hx, Op.unary]
theorem Val.conv (hs : (P.underlying t).isSome = true) (hu : P.underlying ty = some (.int yk)) (hx : ev σ x = some (.int k a)) : Val P n σ A ⟨dd, .convert t ty x, tr, pos, af, g⟩ (.int yk (yk.wrap a)) := fun e w ha _ => by
    have hk : P.intKind ty = yk := by simp [Program.intKind, hu]
    have := run_convert_int (P := P) w t ty k a hs (by rw [hk]; exact hu)
    rw [hk] at this
    simp [execOp, ha.eval hx, this]
theorem Val.makeFunc {fn : Fn} {f1 f2 : Array Operand} {us vs : List Value} (h1 : evs σ f1.toList = some us) (h2 : evs σ f2.toList = some vs) : Val P n σ A ⟨dd, .makeFunc fn f1 f2, tr, pos, af, g⟩ (.func fn us.toArray vs.toArray) := fun e w ha _ => by
    have e1 : f1.map e.eval = us.toArray := by rw [← Array.toArray_toList (xs := f1.map e.eval), Array.toList_map, ha.evals h1]
    have e2 : f2.map e.eval = vs.toArray := by rw [← Array.toArray_toList (xs := f2.map e.eval), Array.toList_map, ha.evals h2]
    simp [execOp, Instr.makeFunc, e1, e2]
theorem Val.extract {i : Nat} {vs : Array Value} (hx : ev σ x = some (.tuple vs)) (hi : vs[i]? = some v) : Val P n σ A ⟨dd, .extract x i, tr, pos, af, g⟩ (v) := fun e w ha _ => by simp [execOp, ha.eval hx, Instr.extract, hi]
end
section
variable {P : Program} {n : Fr} {ρ : Option Nat} {σ : List (Nat × Value)} {w0 : World} {hA hV : Hp} {ps : List HP} {os : List HO} {L l : List Oper} {Q : Cont} {d : Nat} {dd : Option Nat} {t ty tr : TypeId} {x y z : Operand} {pos : String} {af : Array Edge} {g : Option (Nat × Bool)} {v u : Value}
def nv : List Value → Nat → Option Value
 | [], _ => none
 | v :: _, 0 => some v
 | _ :: r, n + 1 => nv r n
theorem JF : ∀ (l : List Value) (i : Nat), nv l i = l[i]?
 | [], _ => by simp [nv]
 | _ :: _, 0 => by simp [nv]
 | _ :: r, n + 1 => by simp [nv, JF r n]
def put : List Value → Nat → List Value → List Value
 | cs, 0, [] => cs
 | _ :: r, 0, v :: vs => v :: put r 0 vs
 | [], _, _ => []
 | c :: r, n + 1, vs => c :: put r n vs
theorem Z39 : ∀ (cs vs : List Value), vs.length ≤ cs.length → put cs 0 vs = vs ++ cs.drop vs.length
 | cs, [], _ => by cases cs <;> simp [put]
 | [], v :: vs, h => by simp at h
 | _ :: r, v :: vs, h => by simp [put, Z39 r vs (by simpa using h)]
theorem put_eq : ∀ (cs : List Value) (o : Nat) (vs : List Value), o + vs.length ≤ cs.length → put cs o vs = cs.take o ++ vs ++ cs.drop (o + vs.length)
 | cs, 0, vs, h => by simpa using Z39 cs vs (by simpa using h)
 | [], o + 1, vs, h => by simp at h
 | c :: r, o + 1, vs, h => by
  have := put_eq r o vs (by simp at h; omega)
  simp [put, this, Nat.add_right_comm]
def one : List Value → Bool
 | [] => true
 | v :: r => v.oneCell' && one r
theorem Vz {v : Value} {r : List Value} (h : v.oneCell' = true) (hr : one r = true) : one (v :: r) = true := by rw [one, h, hr]; rfl
theorem Z0E : ∀ {l : List Value}, one l = true → ∀ v ∈ l, v.oneCell' = true
 | [], _, v, h => by simp at h
 | u :: r, h, v, hv => by
  simp [one] at h
  rcases List.mem_cons.1 hv with rfl | hv
  ·exact h.1
  ·exact Z0E h.2 v hv
theorem Z5x (w : World) {i : TypeInfo} (hi : P.info? t = some i) (hz : i.zero = some v) :
    (Instr.alloc t true (.tuple #[])).run P w = .ok (.pointer (some ⟨w.heap.size, 0, none⟩)) (w.alloc (.cells v.cells t)) := by
 simp [Instr.alloc, zeroValue, typeInfo, hi, hz, newVar, newRow]
theorem J2 {t : TypeId} {cs : List Value} {s b : Nat} (hi : (P.info? t).map (fun i => ((i.zero.map fun z => z.cells.toList), i.size, i.bytes)) = some (some cs, s, b)) :
    ∃ i z, P.info? t = some i ∧ i.zero = some z ∧ z.cells = cs.toArray ∧ i.size = s ∧ i.bytes = b := by
 cases hq : P.info? t with
 | none => simp [hq] at hi
 | some i =>
  simp [hq] at hi
  obtain ⟨⟨z, hz, rfl⟩, h2, h3⟩ := hi
  exact ⟨i, z, rfl, hz, by simp, h2, h3⟩
theorem SP.alloc {cs : List Value} {s b : Nat} (hi : (P.info? t).map (fun i => ((i.zero.map fun z => z.cells.toList), i.size, i.bytes)) = some (some cs, s, b)) (hg : gd L σ g = some true) (hn : Nat.blt d n.n = true)
    (h : ∀ b, SP P n ρ ((d, .pointer (some ⟨b, 0, none⟩)) :: σ) (St w0 hA hV ps (boxO b cs t :: os)) L l Q) : SP P n ρ σ (St w0 hA hV ps os) L (⟨some d, .alloc t, tr, pos, af, g⟩ :: l) Q := by
 obtain ⟨i, z, h1, h2, h3, -, -⟩ := J2 hi
 refine SP.op (fun b => .pointer (some ⟨b, 0, none⟩)) (fun b => St w0 hA hV ps (boxO b cs t :: os)) hg rfl hn (fun a w ha hw => ⟨w.heap.size, _, ?_, hw.box cs t⟩) h
 simp [execOp, Z5x w h1 h2, h3]
theorem SP.box {cs : List Value} (hg : gd L σ g = some true) (hn : Nat.blt d n.n = true) (hx : ev σ x = some v) (hc : v.cells = cs.toArray)
    (h : ∀ b, SP P n ρ ((d, .pointer (some ⟨b, 0, none⟩)) :: σ) (St w0 hA hV ps (boxO b cs t :: os)) L l Q) : SP P n ρ σ (St w0 hA hV ps os) L (⟨some d, .box t x, tr, pos, af, g⟩ :: l) Q := by
 refine SP.op (fun b => .pointer (some ⟨b, 0, none⟩)) (fun b => St w0 hA hV ps (boxO b cs t :: os)) hg rfl hn (fun a w ha hw => ⟨w.heap.size, _, ?_, hw.box cs t⟩) h
 simp [execOp, ha.eval hx, Instr.box, newVar, newRow, hc]
theorem Met.setRow (w : World) (b : Nat) (cs : Array Value) : Met w (w.setRow b cs) := ⟨rfl, rfl, rfl, by simp⟩
theorem St.setRow {w : World} (i : Nat) {b : Nat} {cs : List Value} {T : TypeId} (cs' : List Value) (hi : os[i]? = some (boxO b cs T)) (h : St w0 hA hV ps os w) :
    St w0 hA hV ps (os.set i (boxO b cs' T)) (w.setRow b cs'.toArray) := by
 refine h.change i hi (Met.setRow _ _ _) fun hP hO hs hx => ⟨bk b (.cells cs'.toArray T (0, 0)), by simp [boxO, bk], fun b' o e => ?_, fun b' hb' => ?_, fun b' o e1 e2 => ?_⟩
 ·unfold bk at e
  split at e
  ·rename_i hb; subst hb; simp at e; subst e
   exact setRow_heap w b' _ _ T (0, 0) (hs _ _ hx)
  ·cases e
 ·unfold bk at hb'
  split at hb'
  ·rename_i hb; subst hb; rw [show hO b' = _ from hx]; simp
  ·simp at hb'
 ·show (w.setRow b cs'.toArray).heap[b']? = _
  rw [setRow_other]; exact e1
  intro e; subst e
  rw [show hO _ = _ from hx] at e2; cases e2
theorem Uc {w : World} {b off : Nat} {cs vs : List Value} {T : TypeId} (hb : w.heap[b]? = some (.cells cs.toArray T (0, 0))) (hs : (P.info? t).map (·.size) = some vs.length) (hv : v.cells = vs.toArray) (h1 : one vs = true)
    (hl : off + vs.length ≤ cs.length) : (storeVar t ⟨b, off, none⟩ v).run P w = .ok () (w.setRow b (put cs off vs).toArray) := by
 cases hq : P.info? t with
 | none => simp [hq] at hs
 | some i =>
  simp [hq] at hs
  have := run_storeCells_at (P := P) b off T vs 0 cs.toArray w hb (by simpa using hl) (Z0E h1)
  simp only [Nat.add_zero] at this
  rw [put_eq cs off vs hl]
  simp [storeVar, sizeOf, typeInfo, hq, hs, hv, this]
theorem SP.store (i : Nat) {b off : Nat} {cs vs : List Value} {T : TypeId} (hi : os[i]? = some (boxO b cs T)) (hs : (P.info? t).map (·.size) = some vs.length) (hg : gd L σ g = some true)
    (hx : ev σ x = some (.pointer (some ⟨b, off, none⟩))) (hy : ev σ y = some v) (hv : v.cells = vs.toArray) (h1 : one vs = true) (hl : Nat.ble (off + vs.length) cs.length = true)
    (h : SP P n ρ σ (St w0 hA hV ps (os.set i (boxO b (put cs off vs) T))) L l Q) : SP P n ρ σ (St w0 hA hV ps os) L (⟨none, .store t x y, tr, pos, af, g⟩ :: l) Q := by
 refine SP.act hg rfl (fun a w ha hw => ⟨_, ?_, hw.setRow i (put cs off vs) hi⟩) h
 simp [execOp, ha.eval hx, ha.eval hy, Instr.storeAt, Instr.sureAddr, Uc (hw.cell i hi) hs hv h1 (by simpa using hl)]
theorem Z2x {w : World} {dsc : TypeDesc} (hu : P.underlying t = some dsc) : (isAgg t).run P w = .ok (match dsc with | .struct _ | .array _ _ => true | _ => false) w := by
 unfold isAgg
 rw [Sem.run_bind, run_underlying hu w]
 cases dsc <;> simp
theorem XC {w : World} {a : Addr} {dsc : TypeDesc} (hu : P.underlying t = some dsc) (hd : (match dsc with | .struct _ | .array _ _ => true | _ => false) = false) (hc : w.cell? a = some v) : (loadVar t a).run P w = .ok v w := by
 simp [loadVar, Z2x hu, hd, hc]
theorem VJ {w : World} {a : Addr} {dsc : TypeDesc} {cs : List Value} (hu : P.underlying t = some dsc) (hd : (match dsc with | .struct _ | .array _ _ => true | _ => false) = true) (hs : (P.info? t).map (·.size) = some cs.length)
    (hc : ∀ j u, cs[j]? = some u → w.cell? (a.add j) = some u) : (loadVar t a).run P w = .ok (.agg cs.toArray) w := by
 cases hq : P.info? t with
 | none => simp [hq] at hs
 | some i =>
  simp [hq] at hs
  have := run_loadCells_list (P := P) w a cs hc
  simp [loadVar, Z2x hu, hd, sizeOf, typeInfo, hq, hs, this]
theorem Val.load1 (i : Nat) {b off : Nat} {cs : List Value} {T : TypeId} {dsc : TypeDesc} (hi : os[i]? = some (boxO b cs T)) (hu : P.underlying t = some dsc) (hd : (match dsc with | .struct _ | .array _ _ => true | _ => false) = false)
    (hx : ev σ x = some (.pointer (some ⟨b, off, none⟩))) (hc : nv cs off = some v) : Val P n σ (St w0 hA hV ps os) ⟨dd, .load t x, tr, pos, af, g⟩ (v) := by
 intro a w ha hw
 have hcell : w.cell? ⟨b, off, none⟩ = some v := by
  rw [JF] at hc
  simp [World.cell?, hw.cell i hi, hc]
 simp [execOp, ha.eval hx, Instr.loadAt, Instr.sureAddr, XC hu hd hcell]
def seg : List Value → Nat → Nat → List Value
 | _, 0, 0 => []
 | [], _, _ => []
 | c :: r, 0, k + 1 => c :: seg r 0 k
 | _ :: r, o + 1, k => seg r o k
theorem U0 : ∀ (cs : List Value) (o k : Nat) (j : Nat) (u : Value), (seg cs o k)[j]? = some u → cs[o + j]? = some u
 | _, 0, 0, j, u, h => by simp [seg] at h
 | [], o + 1, k, j, u, h => by simp [seg] at h
 | [], 0, k + 1, j, u, h => by simp [seg] at h
 | c :: r, 0, k + 1, 0, u, h => by simpa [seg] using h
 | c :: r, 0, k + 1, j + 1, u, h => by
  have := U0 r 0 k j u (by simpa [seg] using h)
  simpa using this
 | c :: r, o + 1, k, j, u, h => by
  have := U0 r o k j u (by simpa [seg] using h)
  simpa [Nat.add_right_comm] using this
theorem Val.loadA (i : Nat) {b off k : Nat} {cs vs : List Value} {T : TypeId} {dsc : TypeDesc} (hi : os[i]? = some (boxO b cs T)) (hu : P.underlying t = some dsc) (hd : (match dsc with | .struct _ | .array _ _ => true | _ => false) = true) (hs : (P.info? t).map (·.size) = some k)
    (hx : ev σ x = some (.pointer (some ⟨b, off, none⟩))) (hc : seg cs off k = vs) (hk : Nat.beq vs.length k = true) : Val P n σ (St w0 hA hV ps os) ⟨dd, .load t x, tr, pos, af, g⟩ (.agg vs.toArray) := by
 intro a w ha hw
 have hk' : vs.length = k := by simpa using hk
 have := VJ (P := P) (w := w) (a := ⟨b, off, none⟩) (cs := vs) hu hd (by rw [hk']; exact hs) (fun j u hj => by
  have h1 := U0 cs off k j u (hc ▸ hj)
  have hadd : (⟨b, off, none⟩ : Addr).add j = ⟨b, off + j, none⟩ := by unfold Addr.add; split <;> simp_all
  rw [hadd]
  simp [World.cell?, hw.cell i hi, h1])
 simp [execOp, ha.eval hx, Instr.loadAt, Instr.sureAddr, this]
theorem UN {w : World} {fs : Array Field} {f : Nat} {fd : Field} {s : Nat} {a : Addr} (hu : P.underlying t = some (.struct fs)) (hf : fs[f]? = some fd) (hs : (P.info? fd.type).map (·.size) = some (s + 1)) :
    (Instr.fieldAt t (.pointer (some a)) f).run P w = .ok (.pointer (some (a.add fd.offset))) w := by
 cases hq : P.info? fd.type with
 | none => simp [hq] at hs
 | some i =>
  simp [hq] at hs
  simp [Instr.fieldAt, run_underlying hu, hf, Instr.sureAddr, fieldPlace, sizeOf, typeInfo, hq, hs]
theorem Val.fieldAddr {b off f s : Nat} {fs : Array Field} {fd : Field} (hu : P.underlying t = some (.struct fs)) (hf : fs[f]? = some fd) (hs : (P.info? fd.type).map (·.size) = some (s + 1))
    (hx : ev σ x = some (.pointer (some ⟨b, off, none⟩))) : Val P n σ (St w0 hA hV ps os) ⟨dd, .fieldAddr t x f, tr, pos, af, g⟩ (.pointer (some ⟨b, off + fd.offset, none⟩)) := by
 intro a w ha hw
 have hadd : (⟨b, off, none⟩ : Addr).add fd.offset = ⟨b, off + fd.offset, none⟩ := by unfold Addr.add; split <;> simp_all
 simp [execOp, ha.eval hx, UN hu hf hs, hadd]
end
end Go.Q
