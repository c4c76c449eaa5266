/- Words of this seat: calls walked in place that may panic; panics that a deferred call recovers. -/
import Derived.Test.YtikichjmjbbnbaaGreatDoorQ40xVerifyBack
import Derived.RecoverIn
set_option linter.unusedVariables false
set_option linter.unusedSimpArgs false
namespace Go.Q
section
variable {P : Program} {n m : Fr} {ρ : Option Nat} {σ τ : List (Nat × Value)} {A B : World → Prop} {L l : List Oper} {Q : Cont} {d : Nat} {dd : Option Nat} {a : Act} {f : FuncId} {fn : Func} {c : Code} {vals caps : List Value} {ch : List PanicEntry} {t tr u ty : TypeId} {x y : Operand} {pos : String} {af : Array Edge} {gu : Option (Nat × Bool)} {v : Value}
abbrev thr (v : Value) : Exit := .panic [{ v, recovered := false }]
def BackP (P : Program) (ρ : Option Nat) (L l : List Oper) (Q : Cont) (d : Nat) (a : Act) : Ending → World → Prop := fun e w => match e with
 | .returned v => wpListIn (FF ρ) 0 P L.toArray Q l (a.put (some d) v) w
 | .panicked ch => Q (.panic ch) a w
 | .outgrown => False
theorem SP.callP {ar : Array Operand} {ats : Array TypeId} (m : Nat) (hf : P.funcs[f]? = some fn) (hfn : ((P.funcs[f]?).map fun fn => fn.body.isSome && !(fn.name == "runtime.NumGoroutine")) = some true)
    (hg : gd L σ gu = some true) (hx : ev σ x = some (.func (.func f) #[] caps.toArray)) (has : evs σ ar.toList = some vals) (hb : fn.body = some c) (hk : fn.ntmps = m) (hl : Nat.ble (vals ++ caps).length m = true)
    (h : ∀ a, Env n σ a → CP P ⟨m, []⟩ none (slots 0 (vals ++ caps)) A c (bodyPost P fn (BackP P ρ L l Q d a))) : SP P n ρ σ A L (⟨some d, .call ⟨.value x, ar, ats⟩, tr, pos, af, gu⟩ :: l) Q := fun a w ha hw => by
 unfold wpListIn
 rw [if_pos (ha.wanted hg)]
 have hm : ar.map a.eval = vals.toArray := by rw [← Array.toArray_toList (xs := ar.map a.eval), Array.toList_map, ha.evals has]
 have hr : (execOp a.eval ⟨some d, .call ⟨.value x, ar, ats⟩, tr, pos, af, gu⟩).run P w = .ok (.enter f (vals ++ caps).toArray) w := by
  simp [execOp, resolve, ha.eval hx, Deferred.ofValue, invoke, hm, run_call hfn (b := default) (fv := undef)]
 refine ⟨fun _ _ => trivial, ?_⟩
 rw [semAt_of hr (fun d e => by cases e), Oper.uponIn_enter]
 refine ⟨fun h => (by cases h), callsFF ?_⟩
 have hc := calls_of_wp hf hb (wpIn_wide.1 (h a ha _ _ (Env.enter (n := ⟨m, []⟩) ⟨hk, rfl⟩ hl) hw))
 exact hc.mono fun e w' hs => by
  cases e with
  | returned v => exact hs
  | panicked ch => exact hs
  | outgrown => exact hs.elim
theorem QE.retP {rs : List ResultVar} {vs : List Value} (ha : Env n σ a) (hn : Nat.blt d n.n = true) (hr : fn.results = rs.toArray) (hv : RVs P ⟨m.n, []⟩ τ B rs vs) (h : SP P n ρ ((d, single vs) :: σ) B L l Q) : QE ⟨m.n, []⟩ τ B (bodyPost P fn (BackP P ρ L l Q d a)) .ret :=
 QE.rets hr rfl hv fun w hw => (h _ _ (ha.put (single vs) (by simpa using hn)) hw)
theorem QE.endP {rs : List ResultVar} {vs : List Value} (ha : Env n σ a) (hn : Nat.blt d n.n = true) (hr : fn.results = rs.toArray) (hv : RVs P ⟨m.n, []⟩ τ B rs vs) (h : SP P n ρ ((d, single vs) :: σ) B L l Q) : QE ⟨m.n, []⟩ τ B (bodyPost P fn (BackP P ρ L l Q d a)) .normal :=
 fun a2 w h2 hw => QE.rets (n := ⟨m.n, []⟩) (σ := τ) (A := B) hr rfl hv (fun w hw => (h _ _ (ha.put (single vs) (by simpa using hn)) hw)) a2 w h2 hw
theorem QE.panP (ha : Env n σ a) (h : QE n σ B Q (.panic ch)) : QE ⟨m.n, []⟩ τ B (bodyPost P fn (BackP P ρ L l Q d a)) (.panic ch) := fun a2 w h2 hw => ⟨h2.2.1, h a w ha hw⟩
theorem SP.panic (hg : gd L σ gu = some true) (hx : ev σ x = some (.iface u v)) (h : QE n σ A Q (thr (.iface u v))) : SP P n none σ A L (⟨none, .panic x, tr, pos, af, gu⟩ :: l) Q := fun a w ha hw => by
 unfold wpListIn
 rw [if_pos (ha.wanted hg)]
 have hr : (execOp a.eval ⟨none, .panic x, tr, pos, af, gu⟩).run P w = .halt (.panic (.iface u v)) w := by
  simp [execOp, ha.eval hx, Instr.panic, goPanic]
 refine ⟨fun _ _ => trivial, ?_⟩
 rw [Oper.semAt_none, hr, Oper.uponIn_panic]
 exact h a w ha hw
theorem CP.np (h : CP P n ρ σ A c (NP Q)) : CP P n ρ σ A c Q := fun a w ha hw => wpIn_mono (h a w ha hw) fun _ _ _ q => NP.imp q
theorem QE.npN (h : QE n σ A Q .normal) : QE n σ A (NP Q) .normal := h
theorem Val.iface {ds : TypeDesc} (hu : P.underlying t = some ds) (hd : (match ds with | .interface _ => true | _ => false) = false) (hx : ev σ x = some v) : Val P n σ A ⟨dd, .makeInterface t x, tr, pos, af, gu⟩ (.iface t v) := fun e w ha _ => by
 cases ds <;> simp at hd <;> simp [execOp, ha.eval hx, Instr.makeInterface, run_underlying hu]
theorem Val.assertT {ds : TypeDesc} (hu : P.underlying t = some ds) (hd : (match ds with | .interface _ => true | _ => false) = false) (hx : ev σ x = some (.iface t v)) : Val P n σ A ⟨dd, .typeAssert x u t true, tr, pos, af, gu⟩ (.tuple #[v, .bool true]) := fun e w ha _ => by
 cases ds <;> simp at hd <;> simp [execOp, ha.eval hx, Instr.typeAssert, run_underlying hu]
theorem Val.neqI {ms : Array (String × TypeId)} (hu : P.underlying u = some (.interface ms)) (hx : ev σ x = some (.iface t v)) (hy : ev σ y = some .nilIface) : Val P n σ A ⟨dd, .binOp .neq u x y ty, tr, pos, af, gu⟩ (.bool true) := fun e w ha _ => by
 have h : ∀ d : Nat, (Op.equalIn (d + 1) u (.iface t v) .nilIface).run P w = .ok false w := fun d => by simp [Op.equalIn, run_underlying hu]
 have h2 : (Op.equal u (.iface t v) .nilIface).run P w = .ok false w := h 9999
 simp [execOp, ha.eval hx, ha.eval hy, eqGuard, binOp, h2]
theorem Val.neqN {ms : Array (String × TypeId)} (hu : P.underlying u = some (.interface ms)) (hx : ev σ x = some .nilIface) : Val P n σ A ⟨dd, .binOp .neq u x (.const .nilIface) ty, tr, pos, af, gu⟩ (.bool false) := fun e w ha _ => by
 have hv := ha.eval hx
 have hc : e.eval (.const .nilIface) = .nilIface := rfl
 have h : ∀ d : Nat, (Op.equalIn (d + 1) u .nilIface .nilIface).run P w = .ok true w := fun d => by simp [Op.equalIn, run_underlying hu]
 have h2 : (Op.equal u .nilIface .nilIface).run P w = .ok true w := h 9999
 simp [execOp, hv, hc, eqGuard, binOp, h2]
theorem Trip.ofP {w0 : World} {hA hV : Hp} {ps : List HP} {os : List HO} {args : List Value} {K : Value → HO} (hf : P.funcs[f]? = some fn) (hb : fn.body = some c) (hn : fn.ntmps = n.n ∧ n.ds = []) (ha : Nat.ble args.length n.n = true)
    (h0 : St w0 hA hV ps os w0)
    (h : CP P n none (slots 0 args) (St w0 hA hV ps os) c (bodyPostDIn (FF none) 0 P fn fun e w' => ∃ v, e = .returned v ∧ Since w0 hA hV (K v).p w')) : Trip P f args.toArray hA hV w0 K :=
 callsIn_wide.1 (callsIn_of_wp_defers (F := FF none) (n := 0) hf hb trivial (h _ _ (Env.enter hn ha) h0))
theorem atDoor {g : Func} {R : Ending → World → Prop} {tmps : Array Value} {w : World} {um um2 : FrameMode} {k r1 r2 id : Nat} {rest : Code} {t1 t2 : TypeId} {p1 p2 : String} {a1 a2 : Array Edge} (hum : um ≠ .run)
    (hrec : ∀ (c₀ : Frame) cs, c₀.mode = um → (match recoverD (c₀ :: cs) with | some (v', cs') => v' = v ∧ cs' = { c₀ with mode := um2 } :: cs | none => v = .nilIface ∧ um2 = um)) (hset : settle um2 = .returning)
    (hf : P.funcs[f]? = some g) (hfn : ((P.funcs[f]?).map fun fn => fn.body.isSome && !(fn.name == "runtime.NumGoroutine")) = some true)
    (hb : g.body = some (.seq (.region id #[⟨some r1, .call ⟨.builtin .recover, #[], #[]⟩, t1, p1, a1, none⟩, ⟨some r2, .assign (.tmp r1), t2, p2, a2, none⟩] false) rest)) (hk : g.ntmps = k) (hl : Nat.ble caps.length k = true) (h1 : Nat.blt r1 k = true) (h2 : Nat.blt r2 k = true) (hA : A w)
    (h : CP P ⟨k, []⟩ none ((r2, v) :: (r1, v) :: slots 0 caps) A rest (bodyPost P g (BackD P fn tmps R []))) : LeavesIn (FF none) 0 P fn tmps R [dfr f caps []] um w := by
 refine leavesIn_cons (f := f) (args := caps.toArray) hum (by intro h; cases h) ?_ (fun _ _ => trivial) ?_
 ·simp [invoke, run_call hfn (b := default) (fv := undef)]
 ·refine callsDIn_of_wpSIn hf hb trivial fun c₀ cs hm => ?_
  have he : Env ⟨k, []⟩ (slots 0 caps) { tmps := caps.toArray ++ Array.replicate (g.ntmps - caps.toArray.size) undef, defers := [] } := by
   have := Env.enter (n := ⟨k, []⟩) (fn := g) (args := caps) ⟨hk, rfl⟩ hl
   exact this
  generalize hac : ({ tmps := caps.toArray ++ Array.replicate (g.ntmps - caps.toArray.size) undef, defers := [] } : Act) = ac at he
  refine wpSIn_seq (wpSIn_region ?_)
  have hr := hrec c₀ cs hm
  have e1 : ((ac.put (some r1) v).put (some r2) v).tmps = ((ac.put (some r1) v).put (some r2) v).tmps := rfl
  have he2 := (he.put v (by simpa using h1)).put (d := r2) v (by simpa using h2)
  have fin : ∀ cs2 R', cs2 = ({ c₀ with mode := um2 } : Frame) :: cs → (∀ v2 w', LeavesIn (FF none) 0 P fn tmps R [] .returning w' → R' (.returned v2) um2 w') → rest.wpSIn (FF none) 0 P (bodyPostS P g c₀ cs R') ((ac.put (some r1) v).put (some r2) v) cs2 w := by
   rintro _ R' rfl hR
   refine wpSIn_of_wpIn rfl (wpIn_mono (h _ _ he2 hA) fun e a' w' q => ?_)
   cases e with
   | normal =>
    obtain ⟨q1, v', q2, v2, q3, q4⟩ := q
    cases q3
    exact ⟨q1, um2, rfl, v', q2, hR _ _ q4⟩
   | ret =>
    obtain ⟨q1, v', q2, v2, q3, q4⟩ := q
    cases q3
    exact ⟨q1, um2, rfl, v', q2, hR _ _ q4⟩
   | panic ch => obtain ⟨_, _, q3, _⟩ := q; cases q3
   | exit _ => exact q.elim
   | goto _ => exact q.elim
   | outgrown => obtain ⟨_, q3, _⟩ := q; cases q3
  have ev1 : (execOp ac.eval ⟨some r1, .call ⟨.builtin .recover, #[], #[]⟩, t1, p1, a1, none⟩).run P w = .ok .recover w := by
   simp [execOp, resolve, invoke, builtin]
  have hg1 : (ac.put (some r1) v).eval (.tmp r1) = v := by
   have := (he.put (d := r1) v (by simpa using h1)).eval (x := .tmp r1) (v := v) (by simp [ev, find])
   exact this
  show wpOpsSIn _ _ _ _ _ [0, 1] _ _ _
  split at hr
  ·rename_i v' cs' hrv
   obtain ⟨rfl, rfl⟩ := hr
   have ev2 : (execOp (ac.put (some r1) v').eval ⟨some r2, .assign (.tmp r1), t2, p2, a2, none⟩).run P w = .ok (.value v') w := by
    simp [execOp, hg1]
   simp only [wpOpsSIn]
   simp [Region.wanted, ev1, hrv, ev2, Exit.thenS]
   exact ⟨fun _ _ => trivial, fun _ _ => trivial, fin _ _ rfl fun v2 w' q => by dsimp only; rw [hset]; exact q⟩
  ·rename_i hrv
   obtain ⟨rfl, rfl⟩ := hr
   have ev2 : (execOp (ac.put (some r1) .nilIface).eval ⟨some r2, .assign (.tmp r1), t2, p2, a2, none⟩).run P w = .ok (.value .nilIface) w := by
    simp [execOp, hg1]
   simp only [wpOpsSIn]
   simp [Region.wanted, ev1, hrv, ev2, Exit.thenS]
   exact ⟨fun _ _ => trivial, fun _ _ => trivial, fin _ _ (by rw [← hm]) fun v2 w' q => by dsimp only; rw [hset]; exact q⟩
theorem QE.doorR {g : Func} {R : Ending → World → Prop} {q k : Nat} (r1 r2 : Nat) {id : Nat} {rest : Code} {t1 t2 : TypeId} {p1 p2 : String} {a1 a2 : Array Edge} (hf : P.funcs[f]? = some g) (hfn : ((P.funcs[f]?).map fun fn => fn.body.isSome && !(fn.name == "runtime.NumGoroutine")) = some true)
    (hb : g.body = some (.seq (.region id #[⟨some r1, .call ⟨.builtin .recover, #[], #[]⟩, t1, p1, a1, none⟩, ⟨some r2, .assign (.tmp r1), t2, p2, a2, none⟩] false) rest)) (hk : g.ntmps = k) (hl : Nat.ble caps.length k = true) (h1 : Nat.blt r1 k = true) (h2 : Nat.blt r2 k = true)
    (h : ∀ a, Env ⟨q, [dfr f caps []]⟩ σ a → CP P ⟨k, []⟩ none ((r2, .nilIface) :: (r1, .nilIface) :: slots 0 caps) A rest (bodyPost P g (BackD P fn a.tmps R []))) : QE ⟨q, [dfr f caps []]⟩ σ A (bodyPostDIn (FF none) 0 P fn R) .ret := fun a w ha hw => by
 show LeavesIn (FF none) 0 P fn a.tmps R a.defers .returning w
 rw [ha.2.1]
 exact atDoor (v := .nilIface) (um2 := .returning) (by intro h; cases h) (fun c₀ cs hm => by simp [recoverD, hm]) rfl hf hfn hb hk hl h1 h2 hw (h a ha)
theorem QE.doorP {g : Func} {R : Ending → World → Prop} {q k : Nat} (r1 r2 : Nat) {id : Nat} {rest : Code} {t1 t2 : TypeId} {p1 p2 : String} {a1 a2 : Array Edge} (hf : P.funcs[f]? = some g) (hfn : ((P.funcs[f]?).map fun fn => fn.body.isSome && !(fn.name == "runtime.NumGoroutine")) = some true)
    (hb : g.body = some (.seq (.region id #[⟨some r1, .call ⟨.builtin .recover, #[], #[]⟩, t1, p1, a1, none⟩, ⟨some r2, .assign (.tmp r1), t2, p2, a2, none⟩] false) rest)) (hk : g.ntmps = k) (hl : Nat.ble caps.length k = true) (h1 : Nat.blt r1 k = true) (h2 : Nat.blt r2 k = true)
    (h : ∀ a, Env ⟨q, [dfr f caps []]⟩ σ a → CP P ⟨k, []⟩ none ((r2, v) :: (r1, v) :: slots 0 caps) A rest (bodyPost P g (BackD P fn a.tmps R []))) : QE ⟨q, [dfr f caps []]⟩ σ A (bodyPostDIn (FF none) 0 P fn R) (thr v) := fun a w ha hw => by
 show LeavesIn (FF none) 0 P fn a.tmps R a.defers (.panicking [{ v, recovered := false }]) w
 rw [ha.2.1]
 exact atDoor (v := v) (um2 := .panicking [{ v, recovered := true }]) (by intro h; cases h) (fun c₀ cs hm => by simp [recoverD, hm]) rfl hf hfn hb hk hl h1 h2 hw (h a ha)
end
end Go.Q
