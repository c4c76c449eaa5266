/- Words of this seat: calls of functions that are walked in place; deferred calls. -/
import Derived.Test.YtikichjmjbbnbaaGreatDoorQ38xVerifyBack
import Derived.DefersIn
set_option linter.unusedVariables false
set_option linter.unusedSimpArgs false
namespace Go.Q
section
variable {P : Program} {n m : Fr} {ρ : Option Nat} {σ τ : List (Nat × Value)} {A B : World → Prop} {L l : List Oper} {Q : Cont} {d : Nat} {a : Act} {f : FuncId} {fn : Func} {c : Code} {vals caps : List Value}
def Back (P : Program) (ρ : Option Nat) (L l : List Oper) (Q : Cont) (d : Nat) (a : Act) : Ending → World → Prop := fun e w => ∃ v, e = .returned v ∧ wpListIn (FF ρ) 0 P L.toArray Q l (a.put (some d) v) w
theorem SP.callI {tr : TypeId} {x : Operand} {pos : String} {af : Array Edge} {gu : Option (Nat × Bool)} {ar : Array Operand} {ats : Array TypeId} (m : Nat) (hf : P.funcs[f]? = some fn) (hfn : ((P.funcs[f]?).map fun fn => fn.body.isSome && !(fn.name == "runtime.NumGoroutine")) = some true)
    (hg : gd L σ gu = some true) (hx : ev σ x = some (.func (.func f) #[] caps.toArray)) (has : evs σ ar.toList = some vals) (hb : fn.body = some c) (hk : fn.ntmps = m) (hl : Nat.ble (vals ++ caps).length m = true)
    (h : ∀ a, Env n σ a → CP P ⟨m, []⟩ none (slots 0 (vals ++ caps)) A c (bodyPost P fn (Back P ρ L l Q d a))) : SP P n ρ σ A L (⟨some d, .call ⟨.value x, ar, ats⟩, tr, pos, af, gu⟩ :: l) Q := fun a w ha hw => by
 unfold wpListIn
 rw [if_pos (ha.wanted hg)]
 have hm : ar.map a.eval = vals.toArray := by rw [← Array.toArray_toList (xs := ar.map a.eval), Array.toList_map, ha.evals has]
 have hr : (execOp a.eval ⟨some d, .call ⟨.value x, ar, ats⟩, tr, pos, af, gu⟩).run P w = .ok (.enter f (vals ++ caps).toArray) w := by
  simp [execOp, resolve, ha.eval hx, Deferred.ofValue, invoke, hm, run_call hfn (b := default) (fv := undef)]
 refine ⟨fun _ _ => trivial, ?_⟩
 rw [semAt_of hr (fun d e => by cases e), Oper.uponIn_enter]
 refine ⟨fun h => (by cases h), callsFF ?_⟩
 have hc := calls_of_wp hf hb (wpIn_wide.1 (h a ha _ _ (Env.enter (n := ⟨m, []⟩) ⟨hk, rfl⟩ hl) hw))
 exact hc.mono fun e w' ⟨v, e1, hs⟩ => by subst e1; exact hs
theorem QE.retI {rs : List ResultVar} {vs : List Value} (ha : Env n σ a) (hn : Nat.blt d n.n = true) (hr : fn.results = rs.toArray) (hv : RVs P ⟨m.n, []⟩ τ B rs vs) (h : SP P n ρ ((d, single vs) :: σ) B L l Q) : QE ⟨m.n, []⟩ τ B (bodyPost P fn (Back P ρ L l Q d a)) .ret :=
 QE.rets hr rfl hv fun w hw => ⟨single vs, rfl, h _ _ (ha.put (single vs) (by simpa using hn)) hw⟩
theorem QE.endI {rs : List ResultVar} {vs : List Value} (ha : Env n σ a) (hn : Nat.blt d n.n = true) (hr : fn.results = rs.toArray) (hv : RVs P ⟨m.n, []⟩ τ B rs vs) (h : SP P n ρ ((d, single vs) :: σ) B L l Q) : QE ⟨m.n, []⟩ τ B (bodyPost P fn (Back P ρ L l Q d a)) .normal :=
 fun a2 w h2 hw => QE.rets (n := ⟨m.n, []⟩) (σ := τ) (A := B) hr rfl hv (fun w hw => ⟨single vs, rfl, h _ _ (ha.put (single vs) (by simpa using hn)) hw⟩) a2 w h2 hw
def dfr (f : FuncId) (caps vals : List Value) : Deferred := { target := .fn (.func f) caps.toArray, args := vals.toArray }
theorem SP.defer {o : Oper} {tr : TypeId} {x : Operand} {pos : String} {af : Array Edge} {gu : Option (Nat × Bool)} {ar : Array Operand} {ats : Array TypeId} (ho : o = ⟨none, .defer ⟨.value x, ar, ats⟩, tr, pos, af, gu⟩) (hg : gd L σ gu = some true) (hx : ev σ x = some (.func (.func f) #[] caps.toArray)) (has : evs σ ar.toList = some vals)
    (h : SP P ⟨n.n, dfr f caps vals :: n.ds⟩ none σ A L l Q) : SP P n none σ A L (o :: l) Q := fun a w ha hw => by
 subst ho
 unfold wpListIn
 rw [if_pos (ha.wanted hg)]
 have hm : ar.map a.eval = vals.toArray := by rw [← Array.toArray_toList (xs := ar.map a.eval), Array.toList_map, ha.evals has]
 have hr : (execOp a.eval ⟨none, .defer ⟨.value x, ar, ats⟩, tr, pos, af, gu⟩).run P w = .ok (.defer (dfr f caps vals)) w := by
  simp [execOp, resolve, ha.eval hx, Deferred.ofValue, hm, dfr]
 refine ⟨fun _ _ => trivial, ?_⟩
 rw [Oper.semAt_none, hr, Oper.uponIn_defer]
 exact h _ _ ⟨ha.1, by show _ :: a.defers = _; rw [ha.2.1], ha.2.2⟩ hw
def NP (Q : Cont) : Cont := fun e a w => match e with
 | .panic _ => False
 | e => Q e a w
theorem NP.imp {Q : Cont} {e : Exit} {a : Act} {w : World} (h : NP Q e a w) : Q e a w := by cases e <;> first | exact h.elim | exact h
theorem Trip.ofD {w0 : World} {hA hV : Hp} {ps : List HP} {os : List HO} {args : List Value} {K : Value → HO} (hf : P.funcs[f]? = some fn) (hb : fn.body = some c) (hn : fn.ntmps = n.n ∧ n.ds = []) (ha : Nat.ble args.length n.n = true)
    (h0 : St w0 hA hV ps os w0)
    (h : CP P n none (slots 0 args) (St w0 hA hV ps os) c (NP (bodyPostDIn (FF none) 0 P fn fun e w' => ∃ v, e = .returned v ∧ Since w0 hA hV (K v).p w'))) : Trip P f args.toArray hA hV w0 K :=
 callsIn_wide.1 (callsIn_of_wp_defers (F := FF none) (n := 0) hf hb trivial (wpIn_mono (h _ _ (Env.enter hn ha) h0) fun _ _ _ q => NP.imp q))
def BackD (P : Program) (fn : Func) (tmps : Array Value) (R : Ending → World → Prop) (ds : List Deferred) : Ending → World → Prop := fun e w => ∃ v, e = .returned v ∧ LeavesIn (FF none) 0 P fn tmps R ds .returning w
theorem QE.door {q : Nat} {g : Func} {ds : List Deferred} {R : Ending → World → Prop} (k : Nat) (hf : P.funcs[f]? = some g) (hfn : ((P.funcs[f]?).map fun fn => fn.body.isSome && !(fn.name == "runtime.NumGoroutine")) = some true) (hb : g.body = some c) (hk : g.ntmps = k) (hl : Nat.ble (vals ++ caps).length k = true)
    (h : ∀ a, Env ⟨q, dfr f caps vals :: ds⟩ σ a → CP P ⟨k, []⟩ none (slots 0 (vals ++ caps)) A c (bodyPost P g (BackD P fn a.tmps R ds))) : QE ⟨q, dfr f caps vals :: ds⟩ σ A (NP (bodyPostDIn (FF none) 0 P fn R)) .ret := fun a w ha hw => by
 show LeavesIn (FF none) 0 P fn a.tmps R a.defers .returning w
 rw [ha.2.1]
 refine leavesIn_cons (f := f) (args := (vals ++ caps).toArray) (by simp) (by intro h; cases h) ?_ (fun _ _ => trivial) ?_
 ·simp [invoke, run_call hfn (b := default) (fv := undef)]
 ·refine (callsDIn_of_wp hf hb trivial (h a ha _ _ (Env.enter (n := ⟨k, []⟩) ⟨hk, rfl⟩ hl) hw)).mono fun e u' w' ⟨hu, v, e1, hs⟩ => ?_
  subst e1 hu
  exact hs
theorem QE.doorEnd {R : Ending → World → Prop} {g : Func} {k : Nat} {rs : List ResultVar} {vs : List Value} {e : Exit} (he : e = .ret ∨ e = .normal) (ha : Env n σ a) (hg : g.results = #[]) (hr : fn.results = rs.toArray) (hv : RVs P n σ B rs vs) (h : ∀ w, B w → R (.returned (single vs)) w) : QE ⟨k, []⟩ τ B (bodyPost P g (BackD P fn a.tmps R [])) e := fun a2 w h2 hw => by
 have key : bodyPost P g (BackD P fn a.tmps R []) .ret a2 w := QE.rets (n := ⟨k, []⟩) (σ := τ) (A := B) (rs := []) (vs := []) hg rfl trivial (fun w hw => ⟨single [], rfl, single vs, RVs.told hr ha hw hv, h w hw⟩) a2 w h2 hw
 rcases he with rfl | rfl <;> exact key
theorem QE.noDoor {R : Ending → World → Prop} {rs : List ResultVar} {vs : List Value} (hr : fn.results = rs.toArray) (hds : n.ds = []) (hv : RVs P n σ A rs vs) (h : ∀ w, A w → R (.returned (single vs)) w) : QE n σ A (NP (bodyPostDIn (FF none) 0 P fn R)) .ret := fun a w ha hw => by
 show LeavesIn (FF none) 0 P fn a.tmps R a.defers .returning w
 rw [ha.2.1, hds]
 exact ⟨single vs, RVs.told hr ha hw hv, h w hw⟩
end
section
variable {P : Program} {n : Fr} {σ : List (Nat × Value)} {A : World → Prop} {dd : Option Nat} {t tr e : TypeId} {x y : Operand} {pos : String} {af : Array Edge} {g : Option (Nat × Bool)} {cs c : List Value} {v : Value} {j k : Nat} {m : Nat} {ik : IntKind}
theorem Val.indexC1 (j : Nat) (hu : P.underlying t = some (.array m e)) {dsc : TypeDesc} (he : P.underlying e = some dsc) (hd : isA dsc = false) (hs : (P.info? e).map (·.size) = some 1) (hx : ev σ x = some (.agg cs.toArray)) (hy : ev σ y = some (.int ik (j : Int))) (hm : Nat.blt j m = true) (hc : cs[j]? = some v) :
    Val P n σ A ⟨dd, .index t x y, tr, pos, af, g⟩ v := by
 intro a w ha hw
 have hm : j < m := by simpa using hm
 have hp := run_part1 (P := P) (t := e) (w := w) (cs := cs.toArray) (off := (j : Int).toNat * 1) he hd (by simpa using hc)
 have hsz : (sizeOf e).run P w = .ok 1 w := by
  cases hq : P.info? e with
  | none => simp [hq] at hs
  | some i => simp [hq] at hs; simp [sizeOf, typeInfo, hq, hs]
 have : (Instr.index t (.agg cs.toArray) (.int ik (j : Int))).run P w = .ok v w := by
  simp only [Instr.index, asIntOf, Sem.run_bind, Sem.run_pure, Result.andThen_ok, run_underlying hu]
  rw [if_pos ⟨by omega, by omega⟩]
  simp only [Sem.run_bind, hsz, Result.andThen_ok]
  exact hp
 simp [execOp, ha.eval hx, ha.eval hy, this]
theorem Val.indexCA (j : Nat) (hu : P.underlying t = some (.array m e)) {dsc : TypeDesc} (he : P.underlying e = some dsc) (hd : isA dsc = true) (hs : (P.info? e).map (·.size) = some k) (hx : ev σ x = some (.agg cs.toArray)) (hy : ev σ y = some (.int ik (j : Int))) (hm : Nat.blt j m = true) (hc : cs.toArray.extract (j * k) (j * k + k) = c.toArray) :
    Val P n σ A ⟨dd, .index t x y, tr, pos, af, g⟩ (.agg c.toArray) := by
 intro a w ha hw
 have hm : j < m := by simpa using hm
 have hp := run_partA (P := P) (t := e) (w := w) (cs := cs.toArray) (off := (j : Int).toNat * k) he hd hs hc
 have hsz : (sizeOf e).run P w = .ok k w := by
  cases hq : P.info? e with
  | none => simp [hq] at hs
  | some i => simp [hq] at hs; simp [sizeOf, typeInfo, hq, hs]
 have : (Instr.index t (.agg cs.toArray) (.int ik (j : Int))).run P w = .ok (.agg c.toArray) w := by
  simp only [Instr.index, asIntOf, Sem.run_bind, Sem.run_pure, Result.andThen_ok, run_underlying hu]
  rw [if_pos ⟨by omega, by omega⟩]
  simp only [Sem.run_bind, hsz, Result.andThen_ok]
  exact hp
 simp [execOp, ha.eval hx, ha.eval hy, this]
end
def shlI (k : IntKind) (a b : Int) : Int := k.wrap (a * 2 ^ (min b.toNat k.bits))
def shrI (k : IntKind) (a b : Int) : Int := a.fdiv (2 ^ (min b.toNat k.bits))
def andI (k : IntKind) (a b : Int) : Int := k.wrap ((BitVec.ofInt k.bits a &&& BitVec.ofInt k.bits b).toNat : Int)
def orI (k : IntKind) (a b : Int) : Int := k.wrap ((BitVec.ofInt k.bits a ||| BitVec.ofInt k.bits b).toNat : Int)
section
variable {P : Program} {n : Fr} {σ : List (Nat × Value)} {A : World → Prop} {dd : Option Nat} {t tr ty : TypeId} {x y : Operand} {pos : String} {af : Array Edge} {g : Option (Nat × Bool)} {k yk : IntKind} {a b : Int}
theorem Val.shl (hb : 0 ≤ b) (hx : ev σ x = some (.int k a)) (hy : ev σ y = some (.int yk b)) : Val P n σ A ⟨dd, .binOp .shl t x y ty, tr, pos, af, g⟩ (.int k (shlI k a b)) := fun e w ha _ => by
 simp [execOp, ha.eval hx, ha.eval hy, eqGuard, binOp, Op.shift, shlI, Int.not_lt.2 hb]
theorem Val.shr (hb : 0 ≤ b) (hx : ev σ x = some (.int k a)) (hy : ev σ y = some (.int yk b)) : Val P n σ A ⟨dd, .binOp .shr t x y ty, tr, pos, af, g⟩ (.int k (shrI k a b)) := fun e w ha _ => by
 simp [execOp, ha.eval hx, ha.eval hy, eqGuard, binOp, Op.shift, shrI, Int.not_lt.2 hb]
theorem Val.and (hx : ev σ x = some (.int k a)) (hy : ev σ y = some (.int k b)) : Val P n σ A ⟨dd, .binOp .and t x y ty, tr, pos, af, g⟩ (.int k (andI k a b)) := fun e w ha _ => by
 simp [execOp, ha.eval hx, ha.eval hy, eqGuard, binOp, Op.intBits, andI]
theorem Val.or (hx : ev σ x = some (.int k a)) (hy : ev σ y = some (.int k b)) : Val P n σ A ⟨dd, .binOp .or t x y ty, tr, pos, af, g⟩ (.int k (orI k a b)) := fun e w ha _ => by
 simp [execOp, ha.eval hx, ha.eval hy, eqGuard, binOp, Op.intBits, orI]
end
theorem SP.slice2P {P : Program} {n : Fr} {ρ : Option Nat} {σ : List (Nat × Value)} {w0 : World} {hA hV : Hp} {ps : List HP} {os : List HO} {L l : List Oper} {Q : Cont} {d : Nat} {t tr e : TypeId} {x y y2 : Operand} {pos : String} {af : Array Edge} {g : Option (Nat × Bool)} {α : Type} {k : Kd α} {xs : List α} {v : Value} {ik ik2 : IntKind} {z z2 : Int}
    (see : Sees w0 hA hV) (i : Nat) (hi : ps[i]? = some (slP k v xs)) (hu : P.underlying t = some (.slice e)) (hs : (P.info? e).map (·.size) = some k.sz) (hx : ev σ x = some v) (hy : ev σ y = some (.int ik z)) (hy2 : ev σ y2 = some (.int ik2 z2)) (h0 : (0 ≤ z ∧ z ≤ z2) ∧ z2 ≤ xs.length) (hg : gd L σ g = some true) (hn : Nat.blt d n.n = true)
    (h : ∀ s, SP P n ρ ((d, s) :: σ) (St w0 hA hV (slP k s ((xs.take z2.toNat).drop z.toNat) :: ps) os) L l Q) : SP P n ρ σ (St w0 hA hV ps os) L (⟨some d, .slice t x (some y) (some y2) none, tr, pos, af, g⟩ :: l) Q := by
 refine SP.op (fun s : Value => s) (fun s => St w0 hA hV (slP k s ((xs.take z2.toNat).drop z.toNat) :: ps) os) hg rfl hn (fun a w ha hw => ?_) h
 obtain ⟨A, cap, e1, hle, -⟩ := St.pers i hi see.sub see.dj hw
 subst e1
 cases hq : P.info? e with
 | none => simp [hq] at hs
 | some j =>
  have hj : j.size = k.sz := by simpa [hq] using hs
  have hb2 := run_sliceBound (P := P) (w := w) ik2 z2 cap .sliceAcap (by omega) (by omega)
  have hb := run_sliceBound (P := P) (w := w) ik z z2.toNat .sliceB h0.1.1 (by omega)
  have hl : (xs.take z2.toNat).length = z2.toNat := by simp; omega
  refine ⟨.slice (if cap = z.toNat then A else A.map (·.add (z.toNat * k.sz))) (z2.toNat - z.toNat) (cap - z.toNat), w, by simp [execOp, ha.eval hx, ha.eval hy, ha.eval hy2, Instr.sliceAt, Instr.slice, run_underlying hu, Instr.sliceBounds, hb, hb2, sizeOf, typeInfo, hq, hj], hw.know fun hh ap => ?_⟩
  have u := slR.upto (ap _ (List.mem_of_getElem? hi)) z2.toNat (by omega)
  have f := slR.from u z.toNat (by rw [hl]; omega)
  exact f
end Go.Q
