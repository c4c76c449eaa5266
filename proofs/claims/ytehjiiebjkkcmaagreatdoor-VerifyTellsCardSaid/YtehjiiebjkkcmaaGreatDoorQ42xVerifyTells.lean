/- Words of this seat: shorter words still; what they ask is found, and the steps behind them that need nothing told are gone at once. -/
import Derived.Test.YtehjiiebjkkcmaaGreatDoorQ41xVerifyTells
set_option linter.unusedVariables false
set_option linter.unusedSimpArgs false
namespace Go.Q
class Inf (P : Program) (t : TypeId) (cs : outParam (List Value)) (s b : outParam Nat) : Prop where
 h : (P.info? t).map (fun i => ((i.zero.map fun z => z.cells.toList), i.size, i.bytes)) = some (some cs, s, b)
class Fnc (P : Program) (f : FuncId) : Prop where
 h : ((P.funcs[f]?).map fun fn => fn.body.isSome && !(fn.name == "runtime.NumGoroutine")) = some true
class Shp (P : Program) (t : TypeId) (z : outParam (List Value)) (pl : outParam (List (Nat × Nat))) : Prop where
 h : shapeOf P t = some (z, pl)
theorem Fnc.f {P : Program} {f : FuncId} {fn : Func} (h : P.funcs[f]? = some fn) (hb : (fn.body.isSome && !(fn.name == "runtime.NumGoroutine")) = true := by rfl) : Fnc P f := ⟨by rw [h]; exact congrArg some hb⟩
theorem Fld.f {P : Program} {t : TypeId} {f q ft s : Nat} {fs : Array Field} (hu : P.underlying t = some (.struct fs)) (hs : Siz P ft (s + 1)) (hf : ∃ fd, fs[f]? = some fd ∧ fd.offset = q ∧ fd.type = ft := by exact ⟨_, rfl, rfl, rfl⟩) : Fld P t f q := by
 obtain ⟨fd, h1, h2, rfl⟩ := hf; exact ⟨⟨_, fd, s, hu, h1, h2, hs.h⟩⟩
inductive Has {α : Type _} (x : α) : List α → Prop where
 | here {r : List α} : Has x (x :: r)
 | there {y : α} {r : List α} : Has x r → Has x (y :: r)
theorem ix {α : Type _} {xs : List α} {x : α} (h : Has x xs := by repeat (first | exact Has.here | apply Has.there)) : ∃ i : Nat, xs[i]? = some x := by
 induction h with
 | here => exact ⟨0, rfl⟩
 | there _ ih => obtain ⟨i, e⟩ := ih; exact ⟨i + 1, e⟩
section
variable {P : Program} {n : Fr} {σ : List (Nat × Value)} {A : World → Prop} {w0 : World} {hA hV : Hp} {ps : List HP} {os : List HO} {dd : Option Nat} {t ty tr : TypeId} {x y : Operand} {pos : String} {af : Array Edge} {g : Option (Nat × Bool)} {v : Value}
theorem Val.la {b off k : Nat} {cs : List Value} {T : TypeId} {dsc : TypeDesc} (hx : ev σ x = some (.pointer (some ⟨b, off, none⟩))) (hi : ∃ i : Nat, os[i]? = some (boxO b cs T) := by exact ix) [hu : Und P t dsc] [hs : Siz P t k] (hd : ag dsc = true := by rfl) (hk : Nat.beq (seg cs off k).length k = true := by rfl) :
    Val P n σ (St w0 hA hV ps os) ⟨dd, .load t x, tr, pos, af, g⟩ (.agg (seg cs off k).toArray) := let ⟨i, h⟩ := hi; Val.loadA i h hu.h (by revert hd; cases dsc <;> simp [ag]) hs.h hx rfl hk
theorem Val.lw {α : Type} {k : Kd α} {xs : List α} {T e : TypeId} (hx : ev σ x = some v) [hu : Und P t (.slice e)] (se : Sees w0 hA hV := by exact see) (hi : ∃ i : Nat, os[i]? = some (slO k T v xs) := by exact ix) :
    Val P n σ (St w0 hA hV ps os) ⟨dd, .call ⟨.builtin .len, #[x], #[t]⟩, tr, pos, af, g⟩ (.int .i64 (xs.length : Int)) := let ⟨i, h⟩ := hi; Val.lenO se i h hu.h hx
theorem Val.cv {yk k : IntKind} {a : Int} {dsc : TypeDesc} (hx : ev σ x = some (.int k a)) [hs : Und P t dsc] [hu : Und P ty (.int yk)] : Val P n σ A ⟨dd, .convert t ty x, tr, pos, af, g⟩ (.int yk (yk.wrap a)) := Val.conv (by rw [hs.h]; rfl) hu.h hx
theorem Val.l2 {b off : Nat} {cs : List Value} {T : TypeId} {dsc : TypeDesc} (hx : ev σ x = some (.pointer (some ⟨b, off, none⟩))) (hi : ∃ i : Nat, os[i]? = some (boxO b cs T) := by exact ix)
    [hu : Und P t dsc] (hd : ag dsc = false := by rfl) (hc : nv cs off = some v := by rfl) : Val P n σ (St w0 hA hV ps os) ⟨dd, .load t x, tr, pos, af, g⟩ v := let ⟨i, h⟩ := hi; Val.load1 i h hu.h (by revert hd; cases dsc <;> simp [ag]) hx hc
end
theorem Val.gg {P : Program} {n : Fr} {σ : List (Nat × Value)} {A : World → Prop} {o : Oper} {v : Value} (hv : Val P n σ A o v := by first
      | exact Val.assign rfl | exact Val.move rfl | exact Val.pickT rfl rfl | exact Val.pickF rfl rfl
      | exact Val.f0 rfl | exact Val.fa rfl | exact Val.l1 rfl | exact Val.ln rfl
      | exact Val.eql rfl rfl | exact Val.lss rfl rfl | exact Val.add rfl rfl | exact Val.neq rfl rfl | exact Val.sub rfl rfl | exact Val.gtr rfl rfl | exact Val.geq rfl rfl | exact Val.leq rfl rfl | exact Val.mul rfl rfl
      | exact Val.extract rfl rfl | exact Val.notB rfl | exact Val.nilCheck rfl | exact Val.la rfl | exact Val.lw rfl | exact Val.cv rfl | exact Val.l2 rfl) : Val P n σ A o v := hv
section
variable {P : Program} {n : Fr} {σ : List (Nat × Value)} {A : World → Prop} {w0 : World} {hA hV : Hp} {ps : List HP} {os : List HO} {dd : Option Nat} {t ty tr : TypeId} {x y : Operand} {pos : String} {af : Array Edge} {g : Option (Nat × Bool)} {v p u : Value}
theorem Val.ie {e : TypeId} {ik : IntKind} {j : Int} {s : Nat} (hx : ev σ x = some v) (hy : ev σ y = some (.int ik j)) [hu : Und P t (.slice e)] [hs : Siz P e s] (hp : IsEl v s j p := by assumption) : Val P n σ A ⟨dd, .indexAddr t x y, tr, pos, af, g⟩ p := Val.indexE hp hu.h hs.h hx hy
theorem Val.a1 (hx : ev σ x = some p) {dsc : TypeDesc} [hu : Und P t dsc] (hi : ∃ i : Nat, ps[i]? = some (atP p [u]) := by exact ix) (hd : ag dsc = false := by rfl) (se : Sees w0 hA hV := by exact see) : Val P n σ (St w0 hA hV ps os) ⟨dd, .load t x, tr, pos, af, g⟩ u := let ⟨i, h⟩ := hi; Val.Z7z se i h hu.h (by revert hd; cases dsc <;> simp [ag]) hx
theorem Val.aa (hx : ev σ x = some p) {dsc : TypeDesc} {cs : List Value} {k : Nat} [hu : Und P t dsc] [hs : Siz P t k] (hi : ∃ i : Nat, ps[i]? = some (atP p cs) := by exact ix) (hk : k = cs.length := by rfl) (hd : ag dsc = true := by rfl) (se : Sees w0 hA hV := by exact see) : Val P n σ (St w0 hA hV ps os) ⟨dd, .load t x, tr, pos, af, g⟩ (.agg cs.toArray) := let ⟨i, h⟩ := hi; Val.Z7y se i h hu.h (by revert hd; cases dsc <;> simp [ag]) (hk ▸ hs.h) hx
theorem Val.fe {fi q : Nat} (hx : ev σ x = some v) [hu : Fld P t fi q] (hp : IsFd v q p := by assumption) : Val P n σ A ⟨dd, .fieldAddr t x fi, tr, pos, af, g⟩ p := by
 obtain ⟨fs, fd, s, h1, h2, h3, h4⟩ := hu.h; exact Val.fieldE hp h1 h2 h3 h4 hx
end
theorem Val.gh {P : Program} {n : Fr} {σ : List (Nat × Value)} {A : World → Prop} {o : Oper} {v : Value} (hv : Val P n σ A o v := by first | exact Val.a1 rfl | exact Val.aa rfl | exact Val.gg) : Val P n σ A o v := hv
section
variable {P : Program} {n : Fr} {ρ : Option Nat} {σ : List (Nat × Value)} {A : World → Prop} {L l : List Oper} {Q : Cont} {o : Oper} {d : Nat} {v : Value}
theorem SP.o1 (h : SP P n ρ ((d, v) :: σ) A L l Q) (hd : o.dst = some d := by rfl) (hg : gd L σ o.guard = some true := by rfl) (hn : Nat.blt d n.n = true := by rfl) (hv : Val P n σ A o v := by exact Val.gg) : SP P n ρ σ A L (o :: l) Q := SP.val hv hg hd hn h
attribute [local irreducible] CP SP QE DA DT Val St
theorem gg {G R : Prop} (q : R) (h : R → G := by
 intro q
 repeat (first
  | refine SP.o1 ?_ | refine SP.nil ?_ | refine QE.then ?_ | refine CP.seqR ?_ | refine CP.region ?_
  | refine QE.tX ?_ | refine QE.tR ?_ | refine QE.tG ?_ | refine QE.tP ?_ | refine QE.blockP ?_ | refine SP.not rfl rfl rfl ?_
  | refine CP.ret ?_ | refine CP.skip ?_ | refine CP.block ?_ | refine CP.exit ?_ | refine QE.blockX rfl ?_ | refine QE.blockR ?_ | refine QE.blockE ?_ | refine QE.blockN ?_ | refine CP.seq ?_ | refine QE.atA ?_)
 exact q) : G := h q
end
section
variable {P : Program} {n : Fr} {ρ : Option Nat} {σ : List (Nat × Value)} {A : World → Prop} {L l : List Oper} {Q : Cont} {d : Nat} {dd : Option Nat} {v : Value} {w0 : World} {hA hV : Hp} {ps ps' : List HP} {os os' : List HO} {t ty tr e : TypeId} {x y : Operand} {b : Operand} {cx cy : Code} {pos : String} {af : Array Edge} {g : Option (Nat × Bool)} {R R' : Prop} {α β γ : Type}
theorem jo {nx : Act → World → Prop} (M : Act → World → Prop) (later : ∀ a w, M a w → nx a w) (now : CP P n ρ σ A cx (Exit.then M Q)) : CP P n ρ σ A cx (Exit.then nx Q) := fun a w ha hw =>
 wpIn_mono (now a w ha hw) (fun e a w q => by cases e <;> first | exact q | exact later a w q)
theorem ci {c : Prop} [Decidable c] {X Y : Option γ} {r : γ} (ho : (if c then X else Y) = some r) (t : X = some r → R) (f : Y = some r → R') (hb : ev σ b = some (.bool (decide c)) := by rfl) (ht : R → CP P n ρ σ A cx Q := by exact fun q => gg q) (hf : R' → CP P n ρ σ A cy Q := by exact fun q => gg q) : CP P n ρ σ A (.cond b cx cy) Q := CP.ci ho (fun h => ht (t h)) (fun h => hf (f h)) hb
theorem cb {c : Bool} {X Y : Option γ} {r : γ} (ho : (if c = true then X else Y) = some r) (t : X = some r → R) (f : Y = some r → R') (hb : ev σ b = some (.bool c) := by rfl) (ht : R → CP P n ρ σ A cx Q := by exact fun q => gg q) (hf : R' → CP P n ρ σ A cy Q := by exact fun q => gg q) : CP P n ρ σ A (.cond b cx cy) Q := CP.cb ho (fun h => ht (t h)) (fun h => hf (f h)) hb
theorem rt {fn : Func} {rs : List ResultVar} {vs : List Value} {K : Value → HO} [hr : Rsl fn rs] (h : ∀ w, A w → St w0 hA hV ps os w := by exact fun _ h => h) (hds : n.ds = [] := by rfl) (hv : RVs P n σ A rs vs := by repeat (first | exact RVs.nil | apply RVs.cons rfl))
    (hk : ∀ a b, All ps a → Sep a os b → (K (single vs)).p a b := by first | exact fun _ _ _ _ => rfl | exact fun _ _ _ s => ⟨_, rfl, s⟩ | exact fun _ _ _ s => ⟨_, _, rfl, s⟩ | exact fun _ _ _ s => ⟨rfl, s⟩ | exact fun _ _ _ s => ⟨_, _, _, rfl, s⟩) :
    QE n σ A (bodyPost P fn fun x w' => ∃ v, x = .returned v ∧ Since w0 hA hV (K v).p w') .ret := QE.rt h hds hv hk
theorem sO (is : List Nat) (hn : nodup is = true := by rfl) (hs : Go.Q.sel is os = some os' := by rfl) : ∀ w, St w0 hA hV ps os w → St w0 hA hV ps os' w := fun _ => St.selO is hn hs
theorem oneL {v : Value} (h : v.oneCell' = true) : v.cells.toList = [v] := by rw [Z01 h]
theorem st (i : Nat) (q : R) {b off k : Nat} {v : Value} {cs vs : List Value} {T : TypeId} (hi : os[i]? = some (boxO b cs T) := by rfl) [hs : Siz P t k] (hg : gd L σ g = some true := by rfl) (hx : ev σ x = some (.pointer (some ⟨b, off, none⟩)) := by rfl) (hy : ev σ y = some v := by rfl) (hv : v.cells.toList = vs := by first | exact oneL (by assumption) | rfl) (hk : vs.length = k := by rfl) (h1 : one vs = true := by repeat (first | exact rfl | refine Vz (by first | rfl | assumption) ?_)) (hl : Nat.ble (off + vs.length) cs.length = true := by rfl)
    (h : R → SP P n ρ σ (St w0 hA hV ps (os.set i (boxO b (put cs off vs) T))) L l Q := by exact fun q => gg q) : SP P n ρ σ (St w0 hA hV ps os) L (⟨none, .store t x y, tr, pos, af, g⟩ :: l) Q :=
 SP.store i hi (by rw [hs.h, hk]) hg hx hy (by rw [← hv, Array.toArray_toList]) h1 hl (h q)
theorem al {R : Nat → Prop} (q : ∀ b, R b) {cs : List Value} {s b : Nat} [hi : Inf P t cs s b] (hg : gd L σ g = some true := by rfl) (hn : Nat.blt d n.n = true := by rfl)
    (h : ∀ b, R b → SP P n ρ ((d, .pointer (some ⟨b, 0, none⟩)) :: σ) (St w0 hA hV ps (boxO b cs t :: os)) L l Q := by exact fun b q => gg q) : SP P n ρ σ (St w0 hA hV ps os) L (⟨some d, .alloc t, tr, pos, af, g⟩ :: l) Q := SP.alloc hi.h hg hn fun b => h b (q b)
theorem cs {o : Oper} (v : Value) (q : R) (hv : ∃ v', Val P n σ A o v' ∧ v' = v := by refine ⟨_, Val.gg, ?_⟩; rfl) (hg : gd L σ o.guard = some true := by rfl) (hd : o.dst = some d := by rfl) (hn : Nat.blt d n.n = true := by rfl) (h : R → SP P n ρ ((d, v) :: σ) A L l Q := by exact fun q => gg q) : SP P n ρ σ A L (o :: l) Q := by
 obtain ⟨v', h1, rfl⟩ := hv; exact SP.val h1 hg hd hn (h q)
theorem sh {α : Type} {k : Kd α} {T : TypeId} {xs : List α} (i : Nat) (q : v.oneCell' = true → R) (se : Sees w0 hA hV := by exact see) (hi : os[i]? = some (slO k T v xs) := by rfl) (h : R → SP P n ρ σ (St w0 hA hV ps os) L l Q := by exact fun q => gg q) : SP P n ρ σ (St w0 hA hV ps os) L l Q := SP.have (fun w2 hw => slO.shape (St.own i hi se.sub se.dj hw)) fun e => h (q e)
theorem sp {α : Type} {k : Kd α} {xs : List α} (i : Nat) (q : v.oneCell' = true → R) (se : Sees w0 hA hV := by exact see) (hi : ps[i]? = some (slP k v xs) := by rfl) (h : R → SP P n ρ σ (St w0 hA hV ps os) L l Q := by exact fun q => gg q) : SP P n ρ σ (St w0 hA hV ps os) L l Q := SP.have (fun w2 hw => slR.shape (St.pers i hi se.sub se.dj hw)) fun e => h (q e)
theorem ap {k : Kd α} {xs ys : List α} {v u : Value} {c : Prop} [Decidable c] {X : Option γ} {r : γ} (i j : Nat) (ho : (if c then X else none) = some r) {R : Value → Prop} (q : ∀ v', X = some r → R v') (se : Sees w0 hA hV := by exact see) (hi : os[i]? = some (slO k e v xs) := by rfl) (hj : ps[j]? = some (slP k u ys) := by rfl) [hu : Und P t (.slice e)] {cs : List Value} {s bytes : Nat} [hin : Inf P e cs s bytes] (hss : s = k.sz := by rfl) (hz : Nat.beq cs.length k.sz = true := by rfl) (hk : Nat.blt 0 k.sz = true := by rfl)
    (hb : c = ((xs.length + ys.length) * bytes ≤ 140737488355328) := by rfl) (hb0 : Nat.blt 0 bytes = true := by rfl) (hg : gd L σ g = some true := by rfl) (hn : Nat.blt d n.n = true := by rfl) (hx : ev σ x = some v := by rfl) (hy : ev σ y = some u := by rfl)
    (h : ∀ v', R v' → SP P n ρ ((d, v') :: σ) (St w0 hA hV ps (os.set i (slO k e v' (xs ++ ys)))) L l Q := by exact fun v q => gg q) : SP P n ρ σ (St w0 hA hV ps os) L (⟨some d, .call ⟨.builtin .append, #[x, y], #[t, t]⟩, tr, pos, af, g⟩ :: l) Q := by
 subst hss; obtain ⟨h1, ho⟩ := X6 ho
 exact SP.append se i hi j hj hu.h hin.h hz hk (hb ▸ h1) hb0 hg hn hx hy fun v' => h v' (q v' ho)
theorem rn {S : Type} {F : S → Option (S ⊕ γ)} {s : S} {r : γ} (h : runF F s = some r) : ∃ m o, F s = some o ∧ next F m o = some r := by
 obtain ⟨n, h⟩ := JG.1 h; obtain ⟨m, o, -, h1, h2⟩ := Ud h; exact ⟨m, o, h1, h2⟩
def Ok (P : Program) (f : FuncId) (args : List Value) (ps : List HP) (K : Value → HO) : Prop := ∀ (w : World) (hV : Hp), Sub hV (hp w) → All ps hV → Trip P f args.toArray em hV w K
structure Base (ps : List HP) : Prop
theorem pe (ps : List HP) : Base ps := ⟨⟩
theorem oq {f : FuncId} {fn : Func} {c : Code} {args : List Value} {K : Value → HO} {R : World → Hp → Prop} (m : Nat) (hf : P.funcs[f]? = some fn) (q : ∀ w hV, Sees w em hV → Base ps → R w hV) (hb : fn.body = some c := by rfl) (hn : fn.ntmps = m := by rfl) (ha : Nat.ble args.length m = true := by rfl)
    (h : ∀ w hV, Sees w em hV → R w hV → CP P ⟨m, []⟩ none (slots 0 args) (St w em hV ps []) c (bodyPost P fn fun e w' => ∃ v, e = .returned v ∧ Since w em hV (K v).p w')   := by exact fun w hV see q => gg q) : Ok P f args ps K := fun w hV sV hall =>
 Trip.of (n := ⟨m, []⟩) hf hb ⟨hn, rfl⟩ ha (St.begin hall) (h w hV ⟨sV, Dj.XR _⟩ (q w hV ⟨sV, Dj.XR _⟩ ⟨⟩))
inductive Pks : List HP → List HP → Prop where
 | nil {ps : List HP} : Pks [] ps
 | cons {x : HP} {r ps : List HP} : (∃ i : Nat, ps[i]? = some x) → Pks r ps → Pks (x :: r) ps
theorem Pks.all {r ps : List HP} {h : Hp} (k : Pks r ps) (a : All ps h) : All r h := by
 induction k with
 | nil => exact All.nil _
 | cons e _ ih => obtain ⟨i, e⟩ := e; exact All.cons (a.get i e) (ih a)
section
variable {f : FuncId} {args caps vals : List Value} {X : Option α} {F : α → Option γ} {r : γ} {ar : Array Operand} {ats : Array TypeId}
theorem kv {V : α → Value} {T : α → Prop} (H : ∀ t, X = some t → Ok P f args ps' fun v => HO.pure (v = V t)) (ho : X.bind F = some r) (q : ∀ t, F t = some r → T t) [hfn : Fnc P f] (hg : gd L σ g = some true := by rfl) (hn : Nat.blt d n.n = true := by rfl) (hx : ev σ x = some (.func (.func f) #[] caps.toArray) := by rfl) (has : evs σ ar.toList = some vals := by rfl) (ha : vals ++ caps = args := by rfl)
    (hp : Pks ps' ps := by repeat (first | exact Pks.nil | refine Pks.cons ix ?_)) (se : Sees w0 hA hV := by exact see) (h : ∀ t, T t → SP P n ρ ((d, V t) :: σ) (St w0 hA hV ps os) L l Q := by exact fun t q => gg q) : SP P n ρ σ (St w0 hA hV ps os) L (⟨some d, .call ⟨.value x, ar, ats⟩, tr, pos, af, g⟩ :: l) Q := by
 obtain ⟨t, hc, ho⟩ := bind_some ho; subst ha
 exact SP.callV se (V t) hfn.h hg hn hx has (fun w hP _ sub ap => H t hc w hP sub (hp.all ap)) (h t (q t ho))
theorem kk {K : α → Value → HO} {T : α → Value → Prop} (H : ∀ t, X = some t → Ok P f args ps' (K t)) (ho : X.bind F = some r) (q : ∀ t, F t = some r → ∀ v, T t v) [hfn : Fnc P f] (hg : gd L σ g = some true) (hn : Nat.blt d n.n = true) (hx : ev σ x = some (.func (.func f) #[] caps.toArray)) (has : evs σ ar.toList = some vals) (ha : vals ++ caps = args)
    (hp : Pks ps' ps) (se : Sees w0 hA hV) (h : ∀ t v, T t v → SP P n ρ ((d, v) :: σ) (St w0 hA hV ps (K t v :: os)) L l Q) : SP P n ρ σ (St w0 hA hV ps os) L (⟨some d, .call ⟨.value x, ar, ats⟩, tr, pos, af, g⟩ :: l) Q := by
 obtain ⟨t, hc, ho⟩ := bind_some ho; subst ha
 exact SP.callK se (K t) hfn.h hg hn hx has (fun w hP _ sub ap => H t hc w hP sub (hp.all ap)) (fun v => h t v (q t ho v))
theorem k0 {V : α → Value} {M : α → List HO} {T : α → Prop} (H : ∀ t, X = some t → Ok P f args ps' fun v => HO.pand (v = V t) (HO.seps (M t))) (ho : X.bind F = some r) (q : ∀ t, F t = some r → T t) [hfn : Fnc P f] (hg : gd L σ g = some true := by rfl) (hn : Nat.blt d n.n = true := by rfl) (hx : ev σ x = some (.func (.func f) #[] caps.toArray) := by rfl) (has : evs σ ar.toList = some vals := by rfl) (ha : vals ++ caps = args := by rfl)
    (hp : Pks ps' ps := by repeat (first | exact Pks.nil | refine Pks.cons ix ?_)) (se : Sees w0 hA hV := by exact see) (h : ∀ t, T t → SP P n ρ ((d, V t) :: σ) (St w0 hA hV ps (M t ++ os)) L l Q := by exact fun t q => gg q) : SP P n ρ σ (St w0 hA hV ps os) L (⟨some d, .call ⟨.value x, ar, ats⟩, tr, pos, af, g⟩ :: l) Q :=
 kk H ho (fun t e _ => q t e) hg hn hx has ha hp se fun t v q => SP.k0 (h t q) v
theorem k1 {ι : Type} {V : α → ι → Value} {M : α → ι → List HO} {T : α → ι → Prop} (H : ∀ t, X = some t → Ok P f args ps' fun v => HO.ex fun u => HO.pand (v = V t u) (HO.seps (M t u))) (ho : X.bind F = some r) (q : ∀ t, F t = some r → ∀ u, T t u) [hfn : Fnc P f] (hg : gd L σ g = some true := by rfl) (hn : Nat.blt d n.n = true := by rfl) (hx : ev σ x = some (.func (.func f) #[] caps.toArray) := by rfl) (has : evs σ ar.toList = some vals := by rfl) (ha : vals ++ caps = args := by rfl)
    (hp : Pks ps' ps := by repeat (first | exact Pks.nil | refine Pks.cons ix ?_)) (se : Sees w0 hA hV := by exact see) (h : ∀ t u, T t u → SP P n ρ ((d, V t u) :: σ) (St w0 hA hV ps (M t u ++ os)) L l Q := by exact fun t u q => gg q) : SP P n ρ σ (St w0 hA hV ps os) L (⟨some d, .call ⟨.value x, ar, ats⟩, tr, pos, af, g⟩ :: l) Q :=
 kk (T := fun t _ => ∀ u, T t u) H ho (fun t e _ => q t e) hg hn hx has ha hp se fun t v q => SP.k1 (fun u => h t u (q u)) v
theorem k2 {ι κ : Type} {V : α → ι → κ → Value} {M : α → ι → κ → List HO} {T : α → ι → κ → Prop} (H : ∀ t, X = some t → Ok P f args ps' fun v => HO.ex fun u => HO.ex fun z => HO.pand (v = V t u z) (HO.seps (M t u z))) (ho : X.bind F = some r) (q : ∀ t, F t = some r → ∀ u z, T t u z) [hfn : Fnc P f] (hg : gd L σ g = some true := by rfl) (hn : Nat.blt d n.n = true := by rfl) (hx : ev σ x = some (.func (.func f) #[] caps.toArray) := by rfl) (has : evs σ ar.toList = some vals := by rfl) (ha : vals ++ caps = args := by rfl)
    (hp : Pks ps' ps := by repeat (first | exact Pks.nil | refine Pks.cons ix ?_)) (se : Sees w0 hA hV := by exact see) (h : ∀ t u z, T t u z → SP P n ρ ((d, V t u z) :: σ) (St w0 hA hV ps (M t u z ++ os)) L l Q := by exact fun t u z q => gg q) : SP P n ρ σ (St w0 hA hV ps os) L (⟨some d, .call ⟨.value x, ar, ats⟩, tr, pos, af, g⟩ :: l) Q :=
 kk (T := fun t _ => ∀ u z, T t u z) H ho (fun t e _ => q t e) hg hn hx has ha hp se fun t v q => SP.k2 (fun u z => h t u z (q u z)) v
theorem k3 {ι κ μ : Type} {V : α → ι → κ → μ → Value} {M : α → ι → κ → μ → List HO} {T : α → ι → κ → μ → Prop} (H : ∀ t, X = some t → Ok P f args ps' fun v => HO.ex fun u => HO.ex fun z => HO.ex fun y => HO.pand (v = V t u z y) (HO.seps (M t u z y))) (ho : X.bind F = some r) (q : ∀ t, F t = some r → ∀ u z y, T t u z y) [hfn : Fnc P f] (hg : gd L σ g = some true := by rfl) (hn : Nat.blt d n.n = true := by rfl) (hx : ev σ x = some (.func (.func f) #[] caps.toArray) := by rfl) (has : evs σ ar.toList = some vals := by rfl) (ha : vals ++ caps = args := by rfl)
    (hp : Pks ps' ps := by repeat (first | exact Pks.nil | refine Pks.cons ix ?_)) (se : Sees w0 hA hV := by exact see) (h : ∀ t u z y, T t u z y → SP P n ρ ((d, V t u z y) :: σ) (St w0 hA hV ps (M t u z y ++ os)) L l Q := by exact fun t u z y q => gg q) : SP P n ρ σ (St w0 hA hV ps os) L (⟨some d, .call ⟨.value x, ar, ats⟩, tr, pos, af, g⟩ :: l) Q :=
 kk (T := fun t _ => ∀ u z y, T t u z y) H ho (fun t e _ => q t e) hg hn hx has ha hp se fun t v q => SP.k3 (fun u z y => h t u z y (q u z y)) v
end
inductive CB : List Nat → List Value → List (Nat × List Value) → Prop where
 | nil : CB [] [] []
 | cons {i : Nat} {v : Value} {c : List Value} {is : List Nat} {vs : List Value} {us : List (Nat × List Value)} : v.cells.toList = c → CB is vs us → CB (i :: is) (v :: vs) ((i, c) :: us)
theorem CB.ca {is : List Nat} {vs : List Value} {us : List (Nat × List Value)} (h : CB is vs us) : CA (is.zip vs) us ∧ is.length = vs.length := by
 induction h with
 | nil => exact ⟨trivial, rfl⟩
 | cons e _ ih => exact ⟨⟨rfl, by rw [← e, Array.toArray_toList], ih.1⟩, by simp [ih.2]⟩
theorem bd {parts : Array (Nat × Operand)} {z vs : List Value} {pl : List (Nat × Nat)} {ucs : List (Nat × List Value)} (cs : List Value) (q : R) [hs : Shp P t z pl] (he : evs σ (parts.toList.map (·.2)) = some vs := by rfl) (ca : CB (parts.toList.map (·.1)) vs ucs := by repeat (first | exact CB.nil | apply CB.cons (by first | exact oneL (by assumption) | rfl))) (hf : fillC pl z ucs = some cs := by rfl) (hg : gd L σ g = some true := by rfl) (hn : Nat.blt d n.n = true := by rfl)
    (h : R → SP P n ρ ((d, .agg cs.toArray) :: σ) A L l Q := by exact fun q => gg q) : SP P n ρ σ A L (⟨some d, .build t parts, tr, pos, af, g⟩ :: l) Q := by
 refine SP.val (Val.buildC (us := (parts.toList.map (·.1)).zip vs) hs.h ?_ ?_ ca.ca.1 hf) hg rfl hn (h q)
 ·rw [List.map_fst_zip (Nat.le_of_eq ca.ca.2)]
 ·rw [List.map_snd_zip (Nat.le_of_eq ca.ca.2.symm)]; exact he
theorem li {R : Value → Prop} {len : Nat} {parts : Array (Nat × Operand)} {vs cs : List Value} {s bytes : Nat} (k : Kd α) (xs : List α) (q : ∀ v, R v) [hu : Und P t (.slice e)] [hin : Inf P e cs s bytes] (hs : s = k.sz := by rfl)
    (he : evs σ (parts.toList.map (·.2)) = some vs := by rfl) (hp : parts.toList.map (fun q => q.1) = keys 0 vs := by rfl) (hsmall : Nat.ble (len * k.sz) 1000 = true := by rfl) (hpos : Nat.blt 0 (len * k.sz) = true := by rfl) (hpk : Nat.blt 0 k.sz = true := by rfl) (hlv : vs.length = len := by rfl)
    (hz : szs k.sz vs = true := by rfl) (hxs : ∀ a, All ps a → Flat k a (flatc vs) xs := by intro _ _; repeat (first | exact rfl | refine ⟨_, _, rfl, rfl, ?_⟩)) (hl : xs.length = len := by rfl) (hg : gd L σ g = some true := by rfl) (hn : Nat.blt d n.n = true := by rfl)
    (h : ∀ v, R v → SP P n ρ ((d, v) :: σ) (St w0 hA hV ps (slO k e v xs :: os)) L l Q := by exact fun v q => gg q) : SP P n ρ σ (St w0 hA hV ps os) L (⟨some d, .buildSlice t len parts, tr, pos, af, g⟩ :: l) Q := by
 subst hs; exact SP.lit hu.h hin.h hp he hsmall hpos hpk hlv hz rfl hxs hl hg hn fun v => h v (q v)
section
variable {S : Type} {F : S → Option (S ⊕ γ)} {r : γ} {m m0 k : Nat} {o : S ⊕ γ} {s0 : S} {e : List (Nat × Value)} {ps2 : List HP} {nx : Act → World → Prop}
def LI (I : (S → List (Nat × Value) → List HO → Prop) → Prop) (F : S → Option (S ⊕ γ)) (r : γ) (m0 : Nat) (n : Fr) (w0 : World) (hA hV : Hp) (ps : List HP) : Nat → Act → World → Prop := fun c a w =>
 I fun s e os => ∃ m o, m < c ∧ c ≤ m0 ∧ F s = some o ∧ next F m o = some r ∧ Env n e a ∧ St w0 hA hV ps os w
def MI (I : (Option (S ⊕ γ) → List (Nat × Value) → List HO → Prop) → Prop) (F : S → Option (S ⊕ γ)) (r : γ) (m0 : Nat) (n : Fr) (w0 : World) (hA hV : Hp) (ps : List HP) : Act → World → Prop := fun a w =>
 I fun x e os => ∃ m o, m ≤ m0 ∧ x = some o ∧ next F m o = some r ∧ Env n e a ∧ St w0 hA hV ps os w
def MO (I : (Option γ → List (Nat × Value) → List HO → Prop) → Prop) (r : γ) (n : Fr) (w0 : World) (hA hV : Hp) (ps : List HP) : Act → World → Prop := fun a w =>
 I fun x e os => x = some r ∧ Env n e a ∧ St w0 hA hV ps os w
theorem St.pks (k : Pks ps' ps) {w : World} (h : St w0 hA hV ps os w) : St w0 hA hV ps' os w := h.imp (fun _ a => k.all a) (fun _ _ _ s => s)
theorem en {a : Act} {w : World} (h : Env n σ a ∧ A w) (q : R) (g : R → CP P n ρ σ A cx Q := by exact fun q => gg q) : cx.wpIn (FF ρ) 0 P Q a w := g q a w h.1 h.2
theorem LI.of {c : Nat} {I : (S → List (Nat × Value) → List HO → Prop) → Prop} (hr : iter F c s0 = some r) (hc : c ≤ m0) {a : Act} {w : World} (h0 : ∀ z : S → List (Nat × Value) → List HO → Prop, z s0 e os' → I z) (ha : Env n e a) (hw : St w0 hA hV ps os' w) : LI I F r m0 n w0 hA hV ps c a w := by
 obtain ⟨m', o', hm, h1, h2⟩ := Ud hr
 exact h0 _ ⟨m', o', by omega, hc, h1, h2, ha, hw⟩
theorem lo (ho : some (Sum.inl s0) = some o) (hr : next F m o = some r) (I : (S → List (Nat × Value) → List HO → Prop) → Prop) (h0 : ∀ z : S → List (Nat × Value) → List HO → Prop, z s0 e os' → I z)
    (body : ∀ c a w, LI I F r m n w0 hA hV ps' c a w → cx.wpIn (FF ρ) 0 P (Exit.then (Lower (LI I F r m n w0 hA hV ps') c) Q) a w) (h : ∀ w, A w → St w0 hA hV ps2 os' w := by exact fun _ h => h) (hb : Base ps' := by exact pb) (hp : Pks ps' ps2 := by repeat (first | exact Pks.nil | refine Pks.cons ix ?_)) (sb : SubE e σ := by repeat (first | exact trivial | refine ⟨rfl, ?_⟩)) : CP P n ρ σ A (.loop cx) Q := by
 cases Option.some.inj ho
 exact CP.loop (LI I F r m n w0 hA hV ps') m (fun a w ha hw => LI.of hr (Nat.le_refl _) h0 (ha.sub sb) (St.pks hp (h w hw))) body
theorem lw {I : (S → List (Nat × Value) → List HO → Prop) → Prop} (ho : some (Sum.inl s0) = some o) (hr : next F k o = some r) (h0 : ∀ z : S → List (Nat × Value) → List HO → Prop, z s0 e os' → I z) (h : ∀ w, A w → St w0 hA hV ps2 os' w := by exact fun _ h => h) (hp : Pks ps' ps2 := by repeat (first | exact Pks.nil | refine Pks.cons ix ?_)) (hk : k < m ∧ k ≤ m0 := by omega) (sb : SubE e σ := by repeat (first | exact trivial | refine ⟨rfl, ?_⟩)) :
    QE n σ A (Exit.then (Lower (LI I F r m0 n w0 hA hV ps') m) Q) .normal := by
 cases Option.some.inj ho
 exact QE.lower k hk.1 fun a w ha hw => LI.of hr hk.2 h0 (ha.sub sb) (St.pks hp (h w hw))
theorem ji (hr : next F m o = some r) (I : (Option (S ⊕ γ) → List (Nat × Value) → List HO → Prop) → Prop) (later : ∀ a w, MI I F r m n w0 hA hV ps' a w → cy.wpIn (FF ρ) 0 P Q a w) (now : CP P n ρ σ (St w0 hA hV ps os) cx (Exit.then (MI I F r m n w0 hA hV ps') Q)) (hb : Base ps' := by exact pb) : CP P n ρ σ (St w0 hA hV ps os) (.seq cx cy) Q := CP.join _ later now
theorem jj (hr : next F m o = some r) (I : (Option (S ⊕ γ) → List (Nat × Value) → List HO → Prop) → Prop) (later : ∀ a w, MI I F r m n w0 hA hV ps' a w → nx a w) (now : CP P n ρ σ (St w0 hA hV ps os) cx (Exit.then (MI I F r m n w0 hA hV ps') Q)) (hb : Base ps' := by exact pb) : CP P n ρ σ (St w0 hA hV ps os) cx (Exit.then nx Q) := jo _ later now
theorem oi (r : γ) (I : (Option γ → List (Nat × Value) → List HO → Prop) → Prop) (later : ∀ a w, MO I r n w0 hA hV ps' a w → cy.wpIn (FF ρ) 0 P Q a w) (now : CP P n ρ σ (St w0 hA hV ps os) cx (Exit.then (MO I r n w0 hA hV ps') Q)) (hb : Base ps' := by exact pb) : CP P n ρ σ (St w0 hA hV ps os) (.seq cx cy) Q := CP.join _ later now
theorem oj (r : γ) (I : (Option γ → List (Nat × Value) → List HO → Prop) → Prop) (later : ∀ a w, MO I r n w0 hA hV ps' a w → nx a w) (now : CP P n ρ σ (St w0 hA hV ps os) cx (Exit.then (MO I r n w0 hA hV ps') Q)) (hb : Base ps' := by exact pb) : CP P n ρ σ (St w0 hA hV ps os) cx (Exit.then nx Q) := jo _ later now
theorem mi {x : Option (S ⊕ γ)} {I : (Option (S ⊕ γ) → List (Nat × Value) → List HO → Prop) → Prop} (ho : x = some o) (hr : next F k o = some r) (h0 : ∀ z : Option (S ⊕ γ) → List (Nat × Value) → List HO → Prop, z x e os' → I z) (h : ∀ w, A w → St w0 hA hV ps2 os' w := by exact fun _ h => h) (hp : Pks ps' ps2 := by repeat (first | exact Pks.nil | refine Pks.cons ix ?_)) (hk : k ≤ m0 := by omega) (sb : SubE e σ := by repeat (first | exact trivial | refine ⟨rfl, ?_⟩)) :
    QE n σ A (Exit.then (MI I F r m0 n w0 hA hV ps') Q) .normal := QE.meet fun _ w ha hw => h0 _ ⟨k, o, hk, ho, hr, ha.sub sb, St.pks hp (h w hw)⟩
theorem mo {x : Option γ} {I : (Option γ → List (Nat × Value) → List HO → Prop) → Prop} (ho : x = some r) (h0 : ∀ z : Option γ → List (Nat × Value) → List HO → Prop, z x e os' → I z) (h : ∀ w, A w → St w0 hA hV ps2 os' w := by exact fun _ h => h) (hp : Pks ps' ps2 := by repeat (first | exact Pks.nil | refine Pks.cons ix ?_)) (sb : SubE e σ := by repeat (first | exact trivial | refine ⟨rfl, ?_⟩)) :
    QE n σ A (Exit.then (MO I r n w0 hA hV ps') Q) .normal := QE.meet fun _ w ha hw => h0 _ ⟨ho, ha.sub sb, St.pks hp (h w hw)⟩
end
section
variable {σ' : List (Nat × Value)} {A' : World → Prop} {r : γ} {X Y : Option γ} {c : Bool}
theorem jn (h : ∀ w, A w → A' w := by exact fun _ h => h) (s : SubE σ' σ := by repeat (first | exact trivial | refine ⟨rfl, ?_⟩)) : QE n σ A (Exit.then (fun a w => Env n σ' a ∧ A' w) Q) .normal := QE.jn h s
theorem jb {b b' : Bool} (e : b = b') (h : ∀ w, A w → A' w := by exact fun _ h => h) (hd : find d σ = some (.bool b) := by rfl) (s : SubE σ' σ := by repeat (first | exact trivial | refine ⟨rfl, ?_⟩)) : QE n σ A (Exit.then (fun a w => Env n ((d, .bool b') :: σ') a ∧ A' w) Q) .normal := QE.jb e h hd s
theorem bb (d : Nat) (t : c = true → R) (f : c = false → R') (hb : find d σ = some (.bool c) := by rfl) (ht : R → SP P n ρ ((d, .bool true) :: σ) A L l Q := by exact fun q => gg q) (hf : R' → SP P n ρ ((d, .bool false) :: σ) A L l Q := by exact fun q => gg q) : SP P n ρ σ A L l Q := SP.bb d (fun e => ht (t e)) (fun e => hf (f e)) hb
theorem bi {c : Prop} [Decidable c] (d : Nat) (ho : (if c then X else Y) = some r) (t : decide c = true → X = some r → R) (f : decide c = false → Y = some r → R') (hb : find d σ = some (.bool (decide c)) := by rfl) (ht : R → SP P n ρ ((d, .bool true) :: σ) A L l Q := by exact fun q => gg q) (hf : R' → SP P n ρ ((d, .bool false) :: σ) A L l Q := by exact fun q => gg q) : SP P n ρ σ A L l Q := SP.ci d ho (fun e h => ht (t e h)) (fun e h => hf (f e h)) hb
theorem bc (d : Nat) (ho : (if c = true then X else Y) = some r) (t : c = true → X = some r → R) (f : c = false → Y = some r → R') (hb : find d σ = some (.bool c) := by rfl) (ht : R → SP P n ρ ((d, .bool true) :: σ) A L l Q := by exact fun q => gg q) (hf : R' → SP P n ρ ((d, .bool false) :: σ) A L l Q := by exact fun q => gg q) : SP P n ρ σ A L l Q := SP.cb d ho (fun e h => ht (t e h)) (fun e h => hf (f e h)) hb
end
class Rd (k : Kd α) (C : outParam (α → List Value)) : Prop where
 h : ∀ h cs x, k.rd h cs x → cs = C x
instance {ik : IntKind} : Rd (kInt ik) (fun x => [.int ik x]) := ⟨fun _ _ _ h => h⟩
section
variable {k : Kd α} {xs : List α} {r : γ} {F : α → Option γ} {C : α → List Value} {x0 : α} {p : Value} {fuel : Nat} {listed : Array Bool} {T : Nat → Bool} {S : World → Prop} {o : Oper}
theorem ip {T : α → Value → Prop} {j : Int} {ik : IntKind} {s : Nat} (i : Nat) (ho : (elt xs j).bind F = some r) (q : ∀ x0, F x0 = some r → ∀ p, T x0 p) (se : Sees w0 hA hV := by exact see) (hi : ps[i]? = some (slP k v xs) := by rfl) [hu : Und P t (.slice e)] [hs : Siz P e s] (hz : s = k.sz := by rfl) (hg : gd L σ g = some true := by rfl) (hn : Nat.blt d n.n = true := by rfl) (hx : ev σ x = some v := by rfl) (hy : ev σ y = some (.int ik j) := by rfl)
    (h : ∀ x0 p, T x0 p → SP P n ρ ((d, p) :: σ) (St w0 hA hV (elP k p x0 :: ps) os) L l Q := by exact fun x0 p q => gg q) : SP P n ρ σ (St w0 hA hV ps os) L (⟨some d, .indexAddr t x y, tr, pos, af, g⟩ :: l) Q := by
 obtain ⟨x0, hx0, ho⟩ := YG ho; subst hz
 exact SP.indexP se i hi hu.h hs.h hx0.1 hx0.2 hg hn hx hy fun p => h x0 p (q x0 ho p)
theorem ld {dsc : TypeDesc} {s : Nat} (i : Nat) (q : R) [hk : Rd k C] (se : Sees w0 hA hV := by exact see) (hi : ps[i]? = some (elP k v x0) := by rfl) [hu : Und P t dsc] [hs : Siz P t s] (hz : s = k.sz := by rfl) (hd : ag dsc = true := by rfl) (hg : gd L σ g = some true := by rfl) (hn : Nat.blt d n.n = true := by rfl) (hx : ev σ x = some v := by rfl)
    (h : R → SP P n ρ ((d, .agg (C x0).toArray) :: σ) (St w0 hA hV ps os) L l Q := by exact fun q => gg q) : SP P n ρ σ (St w0 hA hV ps os) L (⟨some d, .load t x, tr, pos, af, g⟩ :: l) Q := by
 subst hz
 refine SP.loadP se i hi hu.h (by revert hd; cases dsc <;> simp [ag]) hs.h hg hn hx fun cs a w ha hw => ?_
 obtain ⟨m, fr, hN, hO, n1, n2, dj, s1, s2, ap, s⟩ := hw
 obtain rfl := hk.h _ _ _ (ap.get 0 rfl)
 exact h q a w ha ⟨m, fr, hN, hO, n1, n2, dj, s1, s2, (fun y hy => ap y (List.mem_cons_of_mem _ hy)), s⟩
theorem ge {T : α → Value → Prop} {j : Int} (i : Nat) (ho : (elt xs j).bind F = some r) (q : ∀ x0, F x0 = some r → ∀ p, IsEl v k.sz j p → T x0 p) (se : Sees w0 hA hV := by exact see) (hi : ps[i]? = some (slP k v xs) := by rfl) (h : ∀ x0 p, T x0 p → DA P n ρ σ (St w0 hA hV (elP k p x0 :: ps) os) L Q fuel listed := by exact fun _ _ q => q) : DA P n ρ σ (St w0 hA hV ps os) L Q fuel listed := by
 obtain ⟨x0, hx, ho⟩ := YG ho
 exact DA.ghost (fun w2 h => h.elem se i hi hx.1 hx.2) fun p hp => h x0 p (q x0 ho p hp)
theorem gu (i : Nat) (q : R) [hk : Rd k C] (se : Sees w0 hA hV := by exact see) (hi : ps[i]? = some (elP k p x0) := by rfl) (h : R → DA P n ρ σ (St w0 hA hV (atP p (C x0) :: ps) os) L Q fuel listed := by exact fun q => q) : DA P n ρ σ (St w0 hA hV ps os) L Q fuel listed :=
 DA.ghost (fun w2 h => h.openE se i hi (fun _ : Unit => C x0) (fun _ => []) (fun h cs e => ⟨(), hk.h _ _ _ e, All.nil _⟩)) fun _ _ => h q
theorem d1 (i : Nat) (q : R) (hi : nth L i = some o := by rfl) (hr : (Region.ready .any L.toArray listed == [i]) = true := by kernel_rfl) (h : R → SP P n ρ σ A L [o] (atA P ρ L Q fuel (listed.setIfInBounds i true)) := by exact fun q => gg q) : DA P n ρ σ A L Q (fuel + 1) listed := DA.one i hi hr (h q)
theorem tk (i : Nat) (h : DT P n ρ ((d, v) :: σ) S L Q T S fuel (listed.setIfInBounds i true)) (hi : nth L i = some o := by rfl) (hd : o.dst = some d := by rfl) (hn : Nat.blt d n.n = true := by rfl) (hg : gd L σ o.guard = some true := by rfl)
    (hf : (Region.noSelect L.toArray && UO L.toArray && freeT T L.toArray listed i && (Region.ready .any L.toArray listed).contains i) = true := by kernel_rfl)
    (hQ : ∀ c a w, Q (.panic c) (a.put o.dst v) w → Q (.panic c) a w := by exact fun _ _ _ h => h) (hv : Val P n σ S o v := by exact Val.gh) : DT P n ρ σ S L Q T S (fuel + 1) listed :=
 DT.take i hi hd hn hg hf hQ hv (fun _ h => h) h
theorem dz (q : R) (hr : (Region.ready .any L.toArray listed).isEmpty = true := by kernel_rfl) (h : R → QE n σ A Q .normal := by exact fun q => gg q) : DA P n ρ σ A L Q fuel listed := DA.done hr (h q)
theorem dn (q : DA P n ρ σ A L Q fuel listed) (hT : ((Region.ready .any L.toArray listed).all fun i => !T i) = true := by kernel_rfl) : DT P n ρ σ A L Q T S fuel listed := DT.next hT q
theorem ts {os2 : List HO} (i : Nat) (is : List Nat) (h : DT P n ρ ((d, v) :: σ) (St w0 hA hV ps os) L Q T (St w0 hA hV ps os2) fuel (listed.setIfInBounds i true)) (hi : nth L i = some o := by rfl) (hd : o.dst = some d := by rfl) (hn : Nat.blt d n.n = true := by rfl) (hg : gd L σ o.guard = some true := by rfl)
    (hf : (Region.noSelect L.toArray && UO L.toArray && freeT T L.toArray listed i && (Region.ready .any L.toArray listed).contains i) = true := by kernel_rfl)
    (hQ : ∀ c a w, Q (.panic c) (a.put o.dst v) w → Q (.panic c) a w := by exact fun _ _ _ h => h) (hs1 : nodup is = true := by rfl) (hs2 : Go.Q.sel is os = some os2 := by rfl) (hv : Val P n σ (St w0 hA hV ps os2) o v := by exact Val.gh) : DT P n ρ σ (St w0 hA hV ps os) L Q T (St w0 hA hV ps os2) (fuel + 1) listed :=
 DT.take i hi hd hn hg hf hQ hv (fun _ h => St.selO is hs1 hs2 h) h
theorem dr {id : Nat} (q : R) (hm : P.follows .mixedOrders = true := by kernel_rfl) (h : R → DA P n ρ σ (St w0 hA hV ps os) L Q L.toArray.size (Array.replicate L.toArray.size false) := by exact fun q => q) : CP P n ρ σ (St w0 hA hV ps os) (.region id L.toArray true) Q := CP.drawA hm (fun _ k h => h.drawn k) (h q)
theorem bx {R : Nat → Prop} {cs : List Value} (q : ∀ b, R b) (hg : gd L σ g = some true := by rfl) (hn : Nat.blt d n.n = true := by rfl) (hx : ev σ x = some v := by rfl) (hc : v.cells.toList = cs := by rfl)
    (h : ∀ b, R b → SP P n ρ ((d, .pointer (some ⟨b, 0, none⟩)) :: σ) (St w0 hA hV ps (boxO b cs t :: os)) L l Q := by exact fun b q => gg q) : SP P n ρ σ (St w0 hA hV ps os) L (⟨some d, .box t x, tr, pos, af, g⟩ :: l) Q := SP.box hg hn hx (by rw [← hc, Array.toArray_toList]) fun b => h b (q b)
theorem fz {T : TypeId} (i : Nat) (q : R) (se : Sees w0 hA hV := by exact see) (hi : os[i]? = some (slO k T v xs) := by rfl) (h : R → SP P n ρ σ (St w0 hA hV (slP k v xs :: ps) (os.eraseIdx i)) L l Q := by exact fun q => gg q) : SP P n ρ σ (St w0 hA hV ps os) L l Q := SP.W9 se i hi (h q)
end
theorem ex {ι : Type} {f : ι → HO} (q : ∀ u, SP P n ρ σ (St w0 hA hV ps (f u :: os)) L l Q) : SP P n ρ σ (St w0 hA hV ps (HO.ex f :: os)) L l Q := SP.ex (fun _ h => St.open h) q
theorem ss {m : List HO} (q : SP P n ρ σ (St w0 hA hV ps (m ++ os)) L l Q) : SP P n ρ σ (St w0 hA hV ps (HO.seps m :: os)) L l Q := SP.imp (fun _ h => St.seps h) q
theorem so (is : List Nat) (q : R) (hn : nodup is = true := by rfl) (hs : Go.Q.sel is os = some os' := by rfl) (h : R → SP P n ρ σ (St w0 hA hV ps os') L l Q := by exact fun q => gg q) : SP P n ρ σ (St w0 hA hV ps os) L l Q := SP.imp (fun _ => St.selO is hn hs) (h q)
theorem sn (k : Kd α) (T : TypeId) (q : SP P n ρ σ (St w0 hA hV ps (slO k T (.slice none 0 0) ([] : List α) :: os)) L l Q) : SP P n ρ σ (St w0 hA hV ps os) L l Q := SP.imp (fun _ hw => St.addO (slO.nil k T) hw) q
theorem sg (m : List HO) {os' : List HO} (q : R) (e : m ++ os' = os := by rfl) (h : R → SP P n ρ σ (St w0 hA hV ps (HO.seps m :: os')) L l Q := by exact fun q => gg q) : SP P n ρ σ (St w0 hA hV ps os) L l Q := by subst e; exact SP.imp (fun _ hw => St.group m hw) (h q)
end
end Go.Q
