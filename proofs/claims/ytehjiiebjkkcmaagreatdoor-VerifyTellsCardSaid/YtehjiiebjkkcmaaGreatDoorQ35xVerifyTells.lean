/- Words of this seat: short words, by which printed proofs are said briefly. -/
import Derived.Test.YtehjiiebjkkcmaaGreatDoorQ34xVerifyTells
set_option linter.unusedVariables false
namespace Go.Q
class Und (P : Program) (t : TypeId) (d : outParam TypeDesc) : Prop where
 h : P.underlying t = some d
class Fld (P : Program) (t : TypeId) (f : Nat) (q : outParam Nat) : Prop where
 h : ∃ fs fd s, P.underlying t = some (.struct fs) ∧ fs[f]? = some fd ∧ fd.offset = q ∧ (P.info? fd.type).map (·.size) = some (s + 1)
class Siz (P : Program) (t : TypeId) (k : outParam Nat) : Prop where
 h : (P.info? t).map (·.size) = some k
def ag (d : TypeDesc) : Bool := match d with | .struct _ | .array _ _ => true | _ => false
section
variable {P : Program} {n : Fr} {σ : List (Nat × Value)} {w0 : World} {hA hV : Hp} {ps : List HP} {os : List HO} {dd : Option Nat} {t tr : TypeId} {x : Operand} {pos : String} {af : Array Edge} {g : Option (Nat × Bool)} {v : Value}
theorem Val.f0 {b f q : Nat} (hx : ev σ x = some (.pointer (some ⟨b, 0, none⟩))) [hu : Fld P t f q] :
    Val P n σ (St w0 hA hV ps os) ⟨dd, .fieldAddr t x f, tr, pos, af, g⟩ (.pointer (some ⟨b, q, none⟩)) := by
 obtain ⟨fs, fd, s, h1, h2, h3, h4⟩ := hu.h
 have := Val.fieldAddr (dd := dd) (pos := pos) (af := af) (g := g) (tr := tr) (w0 := w0) (hA := hA) (hV := hV) (ps := ps) (os := os) (n := n) h1 h2 h4 hx
 rw [h3, Nat.zero_add] at this; exact this
theorem Val.fa {b off f q : Nat} (hx : ev σ x = some (.pointer (some ⟨b, off, none⟩))) [hu : Fld P t f q] :
    Val P n σ (St w0 hA hV ps os) ⟨dd, .fieldAddr t x f, tr, pos, af, g⟩ (.pointer (some ⟨b, off + q, none⟩)) := by
 obtain ⟨fs, fd, s, h1, h2, h3, h4⟩ := hu.h
 have := Val.fieldAddr (dd := dd) (pos := pos) (af := af) (g := g) (tr := tr) (w0 := w0) (hA := hA) (hV := hV) (ps := ps) (os := os) (n := n) h1 h2 h4 hx
 rw [h3] at this; exact this
theorem Val.l1 {b off : Nat} {cs : List Value} {T : TypeId} {dsc : TypeDesc} (hx : ev σ x = some (.pointer (some ⟨b, off, none⟩)))
    (hi : ∃ i : Nat, os[i]? = some (boxO b cs T) := by first | exact ⟨0, rfl⟩ | exact ⟨1, rfl⟩ | exact ⟨2, rfl⟩ | exact ⟨3, rfl⟩ | exact ⟨4, rfl⟩ | exact ⟨5, rfl⟩ | exact ⟨6, rfl⟩ | exact ⟨7, rfl⟩ | exact ⟨8, rfl⟩ | exact ⟨9, rfl⟩)
    [hu : Und P t dsc] (hd : ag dsc = false := by rfl) (hc : nv cs off = some v := by rfl) :
    Val P n σ (St w0 hA hV ps os) ⟨dd, .load t x, tr, pos, af, g⟩ v := let ⟨i, h⟩ := hi; Val.load1 i h hu.h (by revert hd; cases dsc <;> simp [ag]) hx hc
theorem Val.ln {α : Type} {k : Kd α} {xs : List α} {e : TypeId} (hx : ev σ x = some v) [hu : Und P t (.slice e)] (se : Sees w0 hA hV := by exact see)
    (hi : ∃ i : Nat, ps[i]? = some (slP k v xs) := by first | exact ⟨0, rfl⟩ | exact ⟨1, rfl⟩ | exact ⟨2, rfl⟩ | exact ⟨3, rfl⟩ | exact ⟨4, rfl⟩ | exact ⟨5, rfl⟩ | exact ⟨6, rfl⟩ | exact ⟨7, rfl⟩ | exact ⟨8, rfl⟩ | exact ⟨9, rfl⟩ | exact ⟨10, rfl⟩ | exact ⟨11, rfl⟩ | exact ⟨12, rfl⟩) :
    Val P n σ (St w0 hA hV ps os) ⟨dd, .call ⟨.builtin .len, #[x], #[t]⟩, tr, pos, af, g⟩ (.int .i64 (xs.length : Int)) := let ⟨i, h⟩ := hi; Val.lenP se i h hu.h hx
end
section
variable {P : Program} {n : Fr} {ρ : Option Nat} {σ : List (Nat × Value)} {A : World → Prop} {L l : List Oper} {Q : Cont} {o : Oper} {d : Nat} {v : Value}
theorem Val.go (hv : Val P n σ A o v := by first
      | exact Val.assign rfl | exact Val.move rfl | exact Val.pickT rfl rfl | exact Val.pickF rfl rfl
      | exact Val.f0 rfl | exact Val.fa rfl | exact Val.l1 rfl | exact Val.ln rfl
      | exact Val.eql rfl rfl | exact Val.lss rfl rfl | exact Val.add rfl rfl | exact Val.neq rfl rfl | exact Val.sub rfl rfl | exact Val.gtr rfl rfl | exact Val.geq rfl rfl | exact Val.leq rfl rfl | exact Val.mul rfl rfl
      | exact Val.extract rfl rfl | exact Val.notB rfl | exact Val.nilCheck rfl) : Val P n σ A o v := hv
theorem SP.op1 (h : SP P n ρ ((d, v) :: σ) A L l Q) (hd : o.dst = some d := by rfl) (hg : gd L σ o.guard = some true := by rfl) (hn : Nat.blt d n.n = true := by rfl) (hv : Val P n σ A o v := by exact Val.go) : SP P n ρ σ A L (o :: l) Q := SP.val hv hg hd hn h
section
variable {T : Nat → Bool} {S : World → Prop} {fuel : Nat} {listed : Array Bool}
theorem DA.ph (lo hi : Nat) (h : DT P n ρ σ A L Q (fun i => Nat.ble lo i && Nat.blt i hi) A fuel listed) : DA P n ρ σ A L Q fuel listed := DA.phase _ _ h
theorem DT.tk (i : Nat) (h : DT P n ρ ((d, v) :: σ) S L Q T S fuel (listed.setIfInBounds i true)) (hi : nth L i = some o := by rfl) (hd : o.dst = some d := by rfl) (hn : Nat.blt d n.n = true := by rfl) (hg : gd L σ o.guard = some true := by rfl)
    (hf : (Region.noSelect L.toArray && UO L.toArray && freeT T L.toArray listed i && (Region.ready .any L.toArray listed).contains i) = true := by kernel_rfl)
    (hQ : ∀ c a w, Q (.panic c) (a.put o.dst v) w → Q (.panic c) a w := by exact fun _ _ _ h => h) (hv : Val P n σ S o v := by exact Val.go) : DT P n ρ σ S L Q T S (fuel + 1) listed :=
 DT.take i hi hd hn hg hf hQ hv (fun _ h => h) h
theorem DT.tv (i : Nat) (hi : nth L i = some o) (hv : Val P n σ S o v) (h : DT P n ρ ((d, v) :: σ) S L Q T S fuel (listed.setIfInBounds i true)) (hd : o.dst = some d := by rfl) (hn : Nat.blt d n.n = true := by rfl) (hg : gd L σ o.guard = some true := by rfl)
    (hf : (Region.noSelect L.toArray && UO L.toArray && freeT T L.toArray listed i && (Region.ready .any L.toArray listed).contains i) = true := by kernel_rfl)
    (hQ : ∀ c a w, Q (.panic c) (a.put o.dst v) w → Q (.panic c) a w := by exact fun _ _ _ h => h) : DT P n ρ σ S L Q T S (fuel + 1) listed := DT.take i hi hd hn hg hf hQ hv (fun _ h => h) h
theorem DT.ts (i : Nat) (hi : nth L i = some o) (hv : Val P n σ S o v) (hS : ∀ w, A w → S w) (h : DT P n ρ ((d, v) :: σ) A L Q T S fuel (listed.setIfInBounds i true)) (hd : o.dst = some d := by rfl) (hn : Nat.blt d n.n = true := by rfl) (hg : gd L σ o.guard = some true := by rfl)
    (hf : (Region.noSelect L.toArray && UO L.toArray && freeT T L.toArray listed i && (Region.ready .any L.toArray listed).contains i) = true := by kernel_rfl)
    (hQ : ∀ c a w, Q (.panic c) (a.put o.dst v) w → Q (.panic c) a w := by exact fun _ _ _ h => h) : DT P n ρ σ A L Q T S (fuel + 1) listed := DT.take i hi hd hn hg hf hQ hv hS h
theorem DT.tn (i : Nat) (h : DT P n ρ ((d, undef) :: σ) S L Q T S fuel (listed.setIfInBounds i true)) (hi : nth L i = some o := by rfl) (hd : o.dst = some d := by rfl) (hn : Nat.blt d n.n = true := by rfl) (hg : gd L σ o.guard = some false := by rfl)
    (hf : (Region.noSelect L.toArray && UO L.toArray && freeT T L.toArray listed i && (Region.ready .any L.toArray listed).contains i) = true := by kernel_rfl)
    (hQ : ∀ c a w, Q (.panic c) (a.put o.dst undef) w → Q (.panic c) a w := by exact fun _ _ _ h => h) : DT P n ρ σ S L Q T S (fuel + 1) listed :=
 DT.not i hi hd hn hg hf hQ (fun _ h => h) h
end
attribute [local irreducible] CP SP QE DA DT Val St
theorem CP.seqR {id : Nat} {y : Code} (h : SP P n ρ σ A l l (Exit.then (y.wpIn (FF ρ) 0 P Q) Q)) : CP P n ρ σ A (.seq (.region id l.toArray false) y) Q := CP.seq (CP.region h)
theorem QE.tX {nx : Act → World → Prop} {k : Nat} (h : QE n σ A Q (.exit k)) : QE n σ A (Exit.then nx Q) (.exit k) := QE.thru (by intro e; cases e) h
theorem QE.tR {nx : Act → World → Prop} (h : QE n σ A Q .ret) : QE n σ A (Exit.then nx Q) .ret := QE.thru (by intro e; cases e) h
theorem QE.tG {nx : Act → World → Prop} {k : Nat} (h : QE n σ A Q (.goto k)) : QE n σ A (Exit.then nx Q) (.goto k) := QE.thru (by intro e; cases e) h
theorem QE.tP {nx : Act → World → Prop} {ch : List PanicEntry} (h : QE n σ A Q (.panic ch)) : QE n σ A (Exit.then nx Q) (.panic ch) := QE.thru (by intro e; cases e) h
theorem go {G R : Prop} (q : R) (h : R → G := by
 intro q
 repeat (first
  | refine SP.op1 ?_ | refine SP.nil ?_ | refine QE.then ?_ | refine CP.seqR ?_ | refine CP.region ?_
  | refine QE.tX ?_ | refine QE.tR ?_ | refine QE.tG ?_ | refine QE.tP ?_ | refine QE.blockP ?_ | refine SP.not rfl rfl rfl ?_
  | refine CP.ret ?_ | refine CP.skip ?_ | refine CP.block ?_ | refine CP.exit ?_ | refine QE.blockX rfl ?_ | refine QE.blockR ?_ | refine QE.blockE ?_ | refine QE.blockN ?_)
 exact q) : G := h q
end
section
variable {P : Program} {n : Fr} {ρ : Option Nat} {σ σ' : List (Nat × Value)} {A A' : World → Prop} {L l : List Oper} {Q : Cont} {d : Nat} {v : Value} {w0 : World} {hA hV : Hp} {ps : List HP} {os : List HO}
theorem sb {α : Prop} (h : α := by repeat (first | exact trivial | refine ⟨rfl, ?_⟩)) : α := h
inductive Pk (σ : List (Nat × Value)) : List Nat → List (Nat × Value) → Prop where
 | nil : Pk σ [] []
 | cons {k : Nat} {v : Value} {ks : List Nat} {r : List (Nat × Value)} : find k σ = some v → Pk σ ks r → Pk σ (k :: ks) ((k, v) :: r)
theorem wpQ {M : Act → World → Prop} {o : Oper} {a : Act} {w : World} {K : Act → World → Prop} (h : o.wpIn (FF ρ) 0 P a w K (Exit.then M Q)) : o.wpIn (FF ρ) 0 P a w K Q := by
 unfold Oper.wpIn at *
 refine ⟨h.1, ?_⟩
 have hh := h.2
 generalize (o.semAt (FF ρ).round a.eval).run P w = r at *
 unfold Oper.uponIn at *
 split at hh <;> first | exact hh | (refine ⟨hh.1, ?_⟩; exact hh.2) | skip
theorem KH {M : Act → World → Prop} {ops : Array Oper} : ∀ (k : Nat) (l : List Oper) (a : Act) (w : World), (∀ a w, M a w → wpListIn (FF ρ) 0 P ops Q (l.drop k) a w) → wpListIn (FF ρ) 0 P ops (Exit.then M Q) (l.take k) a w → wpListIn (FF ρ) 0 P ops Q l a w
 | 0, l, a, w, h1, h2 => by simpa using h1 a w h2
 | k + 1, [], a, w, h1, h2 => by simpa using h1 a w h2
 | k + 1, o :: l, a, w, h1, h2 => by
  simp only [List.take_succ_cons, List.drop_succ_cons] at h1 h2
  unfold wpListIn at h2 ⊢
  split at h2
  ·rename_i hw; rw [if_pos hw]
   exact Oper.wpIn_mono (fun a w q => KH k l a w h1 q) (wpQ h2)
  ·rename_i hw; rw [if_neg hw]
   exact ⟨h2.1, KH k l _ _ h1 h2.2⟩
theorem SP.jn (k : Nat) (ks : List Nat) (d : Nat) (v : Value) (later : SP P n ρ ((d, v) :: σ') A L (l.drop k) Q) (now : SP P n ρ σ A L (l.take k) (Exit.then (fun a w => Env n ((d, v) :: σ') a ∧ A w) Q))
    (hp : Pk σ ks σ' := by repeat (first | exact Pk.nil | apply Pk.cons rfl)) : SP P n ρ σ A L l Q := fun a w ha hw =>
 KH k l a w (fun a w ⟨ha, hw⟩ => later a w ha hw) (now a w ha hw)
theorem SP.js (k : Nat) (ks : List Nat) (d : Nat) (v : Value) (A' : World → Prop) (later : SP P n ρ ((d, v) :: σ') A' L (l.drop k) Q) (now : SP P n ρ σ A L (l.take k) (Exit.then (fun a w => Env n ((d, v) :: σ') a ∧ A' w) Q))
    (hp : Pk σ ks σ' := by repeat (first | exact Pk.nil | apply Pk.cons rfl)) : SP P n ρ σ A L l Q := fun a w ha hw =>
 KH k l a w (fun a w ⟨ha, hw⟩ => later a w ha hw) (now a w ha hw)
theorem QE.jn (h : ∀ w, A w → A' w) (s : SubE σ' σ := by repeat (first | exact trivial | refine ⟨rfl, ?_⟩)) :
    QE n σ A (Exit.then (fun a w => Env n σ' a ∧ A' w) Q) .normal := fun a w ha hw => ⟨ha.sub s, h w hw⟩
theorem QE.jb {b b' : Bool} (e : b = b') (h : ∀ w, A w → A' w) (hd : find d σ = some (.bool b) := by rfl) (s : SubE σ' σ := by repeat (first | exact trivial | refine ⟨rfl, ?_⟩)) :
    QE n σ A (Exit.then (fun a w => Env n ((d, .bool b') :: σ') a ∧ A' w) Q) .normal := fun a w ha hw => ⟨ha.sub ⟨e ▸ hd, s⟩, h w hw⟩
theorem CP.ci {c : Prop} [Decidable c] {γ : Type} {X Y : Option γ} {r : γ} {b : Operand} {x y : Code} (ho : (if c then X else Y) = some r) (t : X = some r → CP P n ρ σ A x Q) (f : Y = some r → CP P n ρ σ A y Q) (hb : ev σ b = some (.bool (decide c)) := by rfl) : CP P n ρ σ A (.cond b x y) Q := by
 rcases Ws ho with ⟨hc, ho⟩ | ⟨hc, ho⟩
 ·exact CP.condT hb (decide_eq_true hc) (t ho)
 ·exact CP.condF hb (decide_eq_false hc) (f ho)
theorem CP.cb {c : Bool} {γ : Type} {X Y : Option γ} {r : γ} {b : Operand} {x y : Code} (ho : (if c = true then X else Y) = some r) (t : X = some r → CP P n ρ σ A x Q) (f : Y = some r → CP P n ρ σ A y Q) (hb : ev σ b = some (.bool c) := by rfl) : CP P n ρ σ A (.cond b x y) Q := by
 rcases Ws ho with ⟨hc, ho⟩ | ⟨hc, ho⟩
 ·exact CP.condT hb hc (t ho)
 ·exact CP.condF hb (bf hc) (f ho)
theorem SP.ci {c : Prop} [Decidable c] {γ : Type} {X Y : Option γ} {r : γ} (d : Nat) (ho : (if c then X else Y) = some r) (t : decide c = true → X = some r → SP P n ρ ((d, .bool true) :: σ) A L l Q) (f : decide c = false → Y = some r → SP P n ρ ((d, .bool false) :: σ) A L l Q) (hb : find d σ = some (.bool (decide c)) := by rfl) : SP P n ρ σ A L l Q := by
 rcases Ws ho with ⟨hc, ho⟩ | ⟨hc, ho⟩
 ·exact SP.isT hb (decide_eq_true hc) (t (decide_eq_true hc) ho)
 ·exact SP.isF hb (decide_eq_false hc) (f (decide_eq_false hc) ho)
theorem SP.cb {c : Bool} {γ : Type} {X Y : Option γ} {r : γ} (d : Nat) (ho : (if c = true then X else Y) = some r) (t : c = true → X = some r → SP P n ρ ((d, .bool true) :: σ) A L l Q) (f : c = false → Y = some r → SP P n ρ ((d, .bool false) :: σ) A L l Q) (hb : find d σ = some (.bool c) := by rfl) : SP P n ρ σ A L l Q := by
 rcases Ws ho with ⟨hc, ho⟩ | ⟨hc, ho⟩
 ·exact SP.isT hb hc (t hc ho)
 ·exact SP.isF hb (bf hc) (f (bf hc) ho)
theorem SP.bb {c : Bool} (d : Nat) (t : c = true → SP P n ρ ((d, .bool true) :: σ) A L l Q) (f : c = false → SP P n ρ ((d, .bool false) :: σ) A L l Q) (hb : find d σ = some (.bool c) := by rfl) : SP P n ρ σ A L l Q := SP.byBool hb t f
theorem SP.k0 {f : Value} {l' : List HO} (h : SP P n ρ ((d, f) :: σ) (St w0 hA hV ps (l' ++ os)) L l Q) : ∀ vr, SP P n ρ ((d, vr) :: σ) (St w0 hA hV ps (HO.pand (vr = f) (HO.seps l') :: os)) L l Q := fun vr a w ha hw => by
 obtain ⟨e, hw2⟩ := St.pand hw; subst e; exact h a w ha (St.seps hw2)
theorem SP.k1 {ι : Type} {f : ι → Value} {l' : ι → List HO} (h : ∀ u, SP P n ρ ((d, f u) :: σ) (St w0 hA hV ps (l' u ++ os)) L l Q) : ∀ vr, SP P n ρ ((d, vr) :: σ) (St w0 hA hV ps ((HO.ex fun u => HO.pand (vr = f u) (HO.seps (l' u))) :: os)) L l Q := fun vr a w ha hw => by
 obtain ⟨u, hw⟩ := St.open hw; exact SP.k0 (h u) vr a w ha hw
theorem SP.k2 {ι κ : Type} {f : ι → κ → Value} {l' : ι → κ → List HO} (h : ∀ u v, SP P n ρ ((d, f u v) :: σ) (St w0 hA hV ps (l' u v ++ os)) L l Q) : ∀ vr, SP P n ρ ((d, vr) :: σ) (St w0 hA hV ps ((HO.ex fun u => HO.ex fun v => HO.pand (vr = f u v) (HO.seps (l' u v))) :: os)) L l Q := fun vr a w ha hw => by
 obtain ⟨u, hw⟩ := St.open hw; exact SP.k1 (h u) vr a w ha hw
theorem SP.k3 {ι κ μ : Type} {f : ι → κ → μ → Value} {l' : ι → κ → μ → List HO} (h : ∀ u v z, SP P n ρ ((d, f u v z) :: σ) (St w0 hA hV ps (l' u v z ++ os)) L l Q) : ∀ vr, SP P n ρ ((d, vr) :: σ) (St w0 hA hV ps ((HO.ex fun u => HO.ex fun v => HO.ex fun z => HO.pand (vr = f u v z) (HO.seps (l' u v z))) :: os)) L l Q := fun vr a w ha hw => by
 obtain ⟨u, hw⟩ := St.open hw; exact SP.k2 (h u) vr a w ha hw
theorem fin {S R : Type} {F : S → Option (S ⊕ R)} {m : Nat} {o : S ⊕ R} {e r : R} (ho : some (Sum.inr e) = some o) (hr : next F m o = some r) : e = r := by cases ho; exact Option.some.inj hr
theorem YG {α β : Type} {xs : List α} {i : Int} {f : α → Option β} {r : β} (h : (elt xs i).bind f = some r) : ∃ x, (0 ≤ i ∧ xs[i.toNat]? = some x) ∧ f x = some r := by
 obtain ⟨x, h1, h2⟩ := bind_some h; exact ⟨x, Z6H h1, h2⟩
theorem RVs.nil {P : Program} {n : Fr} {σ : List (Nat × Value)} {A : World → Prop} : RVs P n σ A [] [] := trivial
theorem RVs.cons {P : Program} {n : Fr} {σ : List (Nat × Value)} {A : World → Prop} {t : Nat} {v : Value} {rs : List ResultVar} {vs : List Value} (h : find t σ = some v) (hr : RVs P n σ A rs vs) : RVs P n σ A (.tmp t :: rs) (v :: vs) := ⟨RVs.tmp h, hr⟩
class Rsl (fn : Func) (rs : outParam (List ResultVar)) : Prop where
 h : fn.results = rs.toArray
theorem QE.rt {fn : Func} {rs : List ResultVar} {vs : List Value} {K : Value → HO} [hr : Rsl fn rs] (h : ∀ w, A w → St w0 hA hV ps os w) (hds : n.ds = [] := by rfl) (hv : RVs P n σ A rs vs := by repeat (first | exact RVs.nil | apply RVs.cons rfl))
    (hk : ∀ a b, All ps a → Sep a os b → (K (single vs)).p a b := by first | exact fun _ _ _ _ => rfl | exact fun _ _ _ s => ⟨_, rfl, s⟩ | exact fun _ _ _ s => ⟨_, _, rfl, s⟩ | exact fun _ _ _ s => ⟨rfl, s⟩ | exact fun _ _ _ s => ⟨_, _, _, rfl, s⟩) :
    QE n σ A (bodyPost P fn fun e w' => ∃ v, e = .returned v ∧ Since w0 hA hV (K v).p w') .ret := QE.rets hr.h hds hv fun w hw => St.done hk (h w hw)
theorem Trip.go {w : World} {f : FuncId} {fn : Func} {c : Code} {args : List Value} {K : Value → HO} (m : Nat) (hf : P.funcs[f]? = some fn) (sV : Sub hV (hp w)) (hall : All ps hV)
    (h : Sees w em hV → CP P ⟨m, []⟩ none (slots 0 args) (St w em hV ps []) c (bodyPost P fn fun e w' => ∃ v, e = .returned v ∧ Since w em hV (K v).p w')) (hb : fn.body = some c := by rfl) (hn : fn.ntmps = m := by rfl) (ha : Nat.ble args.length m = true := by rfl) : Trip P f args.toArray em hV w K :=
 Trip.of (n := ⟨m, []⟩) hf hb ⟨hn, rfl⟩ ha (St.begin hall) (h ⟨sV, Dj.XR _⟩)
theorem aS {α : Type} {k : Kd α} {v : Value} {xs : List α} {ps : List HP} {h : Hp} (p : slR k h v xs) (q : All ps h) : All (slP k v xs :: ps) h := All.cons (x := slP k v xs) p q
end
end Go.Q
