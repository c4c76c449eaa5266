/- Words of this seat: a range over a function, whose rounds are steps Y of what J tells. -/
import Derived.Test.YtpbmkaenleedoaaGreatDoorQ16v308309
set_option linter.unusedVariables false
set_option linter.unusedSimpArgs false
namespace Go.Q

/-- What a yield is handed. -/
def argE {α : Type} (k : Kd α) (agg : Bool) (x : α) (v : Value) (h : Hp) : Prop := ∃ cs, k.rd h cs x ∧ (bif agg then v = .agg cs.toArray else [v] = cs)
def E1 {α : Type} (k : Kd α) (agg : Bool) (x : α) (vals : List Value) : HP := ⟨fun h => ∃ v, vals = [v] ∧ argE k agg x v h, fun _ _ s ⟨v, e, cs, r, q⟩ => ⟨v, e, cs, k.mono _ _ _ _ s r, q⟩⟩
def E2 {α β : Type} (k : Kd α) (agg : Bool) (k' : Kd β) (agg' : Bool) (x : α × β) (vals : List Value) : HP :=
  ⟨fun h => ∃ v v', vals = [v, v'] ∧ argE k agg x.1 v h ∧ argE k' agg' x.2 v' h, fun _ _ s ⟨v, v', e, ⟨cs, r, q⟩, cs', r', q'⟩ => ⟨v, v', e, ⟨cs, k.mono _ _ _ _ s r, q⟩, cs', k'.mono _ _ _ _ s r', q'⟩⟩

section
variable {w0 w : World} {hA hV : Hp} {ps : List HP} {os : List HO}
theorem St.shut {ι : Type} {f : ι → HO} (z : ι) (h : St w0 hA hV ps (f z :: os) w) : St w0 hA hV ps (HO.ex f :: os) w := St.imp (fun _ q => q) (fun a b _ s => by
  obtain ⟨h1, h2, e, t1, t2, r, q⟩ := s
  exact ⟨h1, h2, e, t1, t2, ⟨z, r⟩, q⟩) h
theorem St.seen {z : HP} (hz : z.p hV) (h : St w0 hA hV ps os w) : St w0 hA hV (z :: ps) os w := by
  obtain ⟨m, g, hN, hO, n1, n2, d, s1, s2, p, s⟩ := h
  refine ⟨m, g, hN, hO, n1, n2, d, s1, s2, fun y hy => ?_, s⟩
  rcases List.mem_cons.1 hy with rfl | hy
  · exact y.mono _ _ (Sub.un_left _ _) hz
  · exact p y hy

/-- The record of the loop l, in its states. -/
def IsLoop (l : Nat) (LO : LoopState → HO) : Prop :=
  ∀ {w0 w : World} {hA hV : Hp} {ps : List HP} {os : List HO} (i : Nat) (st : LoopState), os[i]? = some (LO st) → St w0 hA hV ps os w →
    ∃ r : Loop, w.heap[l]? = some (.loop r) ∧ r.state = st ∧ r.pending = none ∧ ∀ st', St w0 hA hV ps (os.set i (LO st')) (w.putObj l (.loop { r with state := st', pending := none }))
theorem IsLoop.of {l m : Nat} {τ : List (Nat × Value)} {pt : Array Tmp} {as body : Code} : IsLoop l (fun st => loopO l m τ pt as body st none) := fun i st hi h => by
  obtain ⟨r, e1, e2, e3, k⟩ := h.reloop i hi
  exact ⟨r, e1, e2, e3, fun st' => k st' none⟩
/-- What a round leaves. -/
def RR (w : World) (hA hV : Hp) (b : Bool) (lo j : HO) : Ending → World → Prop := fun e w' => ∃ v, e = .returned v ∧ Since w hA hV (HO.pand (v = .bool b) (HO.and lo j)).p w'

variable {P : Program} {n : Fr} {ρ : Option Nat} {σ σ1 : List (Nat × Value)} {Q : Cont}
theorem QE.beginL {l : Nat} {LO : LoopState → HO} (hL : IsLoop l LO) {body : Code} {R : Ending → World → Prop} (i : Nat) (hi : os[i]? = some (LO .ready)) (h : CP P n (some l) σ (St w0 hA hV ps (os.set i (LO .busy))) body (roundPost P l R)) :
    QE n σ (St w0 hA hV ps os) (Exit.then (fun a w2 => ∃ w3, (Instr.beginRound l).run P w2 = .ok () w3 ∧ body.wpIn (FF (some l)) 0 P (roundPost P l R) a w3) (fun _ _ _ => False)) .normal := fun a w ha hw => by
  obtain ⟨r, hr, e1, e2, k⟩ := hL i _ hi hw
  have := k .busy
  rw [← e2] at this
  exact ⟨_, run_beginRound hr e1, h a _ ha this⟩
/-- A round is over: on. -/
theorem QE.endL {l : Nat} {LO : LoopState → HO} (hL : IsLoop l LO) {J : HO} (i : Nat) {st : LoopState} (hi : os[i]? = some (LO st)) (h : ∀ w, St w0 hA hV ps (os.set i (LO .ready)) w → St w0 hA hV [] [J, LO .ready] w) :
    QE n σ (St w0 hA hV ps os) (roundPost P l (RR w0 hA hV true (LO .ready) J)) .normal := fun a w ha hw => by
  obtain ⟨r, hr, e1, e2, k⟩ := hL i _ hi hw
  refine ⟨_, _, run_endRound none hr, _, rfl, ?_⟩
  obtain ⟨m, g, hN, hO, n1, n2, d, s1, s2, p, s⟩ := h _ (k .ready)
  obtain ⟨h1, h2, e, t1, t2, rr, h3, h4, e', t3, t4, r3, -⟩ := s
  exact ⟨m, g, hN, hO, n1, n2, d, s1, s2, rfl, h3, h1, (e.sub (Sub.refl _) t3).symm, t3.trans t2, t1, r3, rr⟩

theorem CP.rangeY {S X : Type} {J : S → HO} {Y : S → X → Option (S × Bool)} {s0 sf : S} {E : X → List Value → HP} {g : Operand} {pt : List Tmp} {as body : Code} {f : FuncId} {caps : List Value} (see : Sees w0 hA hV)
    (hfn : ((P.funcs[f]?).map fun fn => fn.body.isSome && !(fn.name == "runtime.NumGoroutine")) = some true) (hx : ev σ g = some (.func (.func f) #[] caps.toArray)) (hσ : SubE σ1 σ) (hlt : (pt.all fun p => Nat.blt p n.n) = true) (hE : ∀ x vals h, (E x vals).p h → vals.length = pt.length)
    (hf : ∀ (lY : Nat) (I : S → HO) (w : World) (hP h1 : Hp), Sub hP (hp w) → Sub h1 (hp w) → Dj hP h1 → All ps hP → (I s0).p hP h1 → Yields P lY hP Y I E → Trip P f (.func (.yield lY) #[] #[] :: caps).toArray h1 hP w (fun v => HO.pand (v = .tuple #[]) (HO.seps [I sf])))
    (hb : ∀ (lY : Nat) (LO : LoopState → HO), IsLoop lY LO → ∀ (s : S) (x : X) (t : S) (b : Bool) (vals : List Value), Y s x = some (t, b) → ∀ (w : World) (hP h1 : Hp), Sub hP (hp w) → Sub h1 (hp w) → Dj hP h1 → All ps hP → (E x vals).p hP →
      CP P ⟨n.n, []⟩ (some lY) (putAll (pt.zip vals) σ1) (St w h1 hP ps [J s, LO .ready]) as (Exit.then (fun a w2 => ∃ w3, (Instr.beginRound lY).run P w2 = .ok () w3 ∧ body.wpIn (FF (some lY)) 0 P (roundPost P lY (RR w h1 hP b (LO .ready) (J t))) a w3) (fun _ _ _ => False)))
    (h : ∀ D, QE ⟨n.n, mark D :: n.ds⟩ σ (St w0 hA hV ps (J sf :: marksO (mark D :: n.ds) :: os)) Q .normal) :
    CP P n none σ (St w0 hA hV ps (J s0 :: marksO n.ds :: os)) (.rangeFunc g pt.toArray as body) Q := by
  have hsw : ∀ {x y : HO} {w : World}, St w0 hA hV ps (x :: y :: os) w → St w0 hA hV ps (y :: x :: os) w := fun {x y w} hw => by
    refine St.imp (fun _ q => q) (fun a b _ s => ?_) hw
    obtain ⟨k1, k2, dj, t1, t2, p, k3, k4, dj2, t3, t4, p2, q⟩ := s
    exact ⟨k3, un k1 k4, Dj.un_right (dj.sub (Sub.refl _) t3).symm dj2, t3.trans t2, Sub.un_of t1 (t4.trans t2), p2, k1, k4, dj.sub (Sub.refl _) t4, Sub.un_left _ _, Sub.un_right (dj.sub (Sub.refl _) t4), p, q⟩
  refine CP.imp (fun w hw => hsw hw) (CP.rangeFunc see hfn hx hσ (K := J sf) (fun l w hP h1 sP s1 dj ap hi => ?_) (fun D => QE.imp (fun w hw => hsw hw) (h D)))
  have := hf l (fun s => HO.and (loopO l n.n σ1 pt.toArray as body .ready none) (J s)) w hP h1 sP s1 dj ap hi ?_
  · refine this.mono fun e w' he => ?_
    obtain ⟨v, rfl, m, fr, hN, hO, n1, n2, d, t1, t2, q, h3, h4, -, u1, -, p, -⟩ := he
    exact ⟨v, rfl, m, fr, hN, hO, n1, n2, d, t1, t2, HO.mono _ _ _ _ _ (Sub.refl _) u1 p⟩
  · intro s x t b vals hy w2 hP2 h2 sV sP2 s2 dj2 hE2 hi2
    have hlen := hE _ _ _ hE2
    have hz : ((pt.zip vals).all fun p => Nat.blt p.1 n.n) = true := by
      rw [List.all_eq_true] at hlt ⊢
      intro p hp
      exact hlt p.1 (List.of_mem_zip hp).1
    refine Round.of rfl hlen hz hi2 s2 (ap.mono sV) ?_
    refine CP.imp (fun w hw => ?_) (hb l (fun st => loopO l n.n σ1 pt.toArray as body st none) IsLoop.of s x t b vals hy w2 hP2 h2 sP2 s2 dj2 (ap.mono sV) hE2)
    refine St.imp (fun _ q => q) (fun a b _ s => ?_) hw
    obtain ⟨k1, k2, dj, t1, t2, p, k3, k4, dj2, t3, t4, p2, q⟩ := s
    exact ⟨k3, k1, (dj.sub (Sub.refl _) t3).symm, t3.trans t2, t1, p2, k1, em, Dj.em_right _, Sub.refl _, Sub.em _, p, trivial⟩
end
theorem E1.len {α : Type} {k : Kd α} {agg : Bool} {m : Nat} (hm : m = 1) : ∀ x vals h, (E1 k agg x vals).p h → vals.length = m := fun x vals h ⟨v, e, _⟩ => by subst e; exact hm.symm
theorem E2.len {α β : Type} {k : Kd α} {agg : Bool} {k' : Kd β} {agg' : Bool} {m : Nat} (hm : m = 2) : ∀ x vals h, (E2 k agg k' agg' x vals).p h → vals.length = m := fun x vals h ⟨v, v', e, _⟩ => by subst e; exact hm.symm
theorem QE.ex {n : Fr} {σ : List (Nat × Value)} {A : World → Prop} {Q : Cont} {ι : Type} {I : ι → World → Prop} {e : Exit} (hx : ∀ w, A w → ∃ x, I x w) (h : ∀ x, QE n σ (I x) Q e) : QE n σ A Q e := fun a w ha hw => by
  obtain ⟨x, k⟩ := hx w hw; exact h x a w ha k
section
variable {P : Program} {n : Fr} {ρ : Option Nat} {σ : List (Nat × Value)} {w0 : World} {hA hV : Hp} {ps : List HP} {os : List HO} {Q : Cont} {c : Code}
theorem CP.freezeB (see : Sees w0 hA hV) (i : Nat) {b : Nat} {cs : List Value} {T : TypeId} (hi : os[i]? = some (boxO b cs T)) (h : CP P n ρ σ (St w0 hA hV (boxP b cs T :: ps) (os.eraseIdx i)) c Q) : CP P n ρ σ (St w0 hA hV ps os) c Q :=
  CP.imp (fun w hw => hw.freeze i hi see.dj see.sub) h
theorem CP.freezeS {α : Type} {k : Kd α} {v : Value} {xs : List α} {T : TypeId} (see : Sees w0 hA hV) (i : Nat) (hi : os[i]? = some (slO k T v xs)) (h : CP P n ρ σ (St w0 hA hV (slP k v xs :: ps) (os.eraseIdx i)) c Q) : CP P n ρ σ (St w0 hA hV ps os) c Q :=
  CP.imp (fun w hw => St.freezeS hw i hi see) h
theorem CP.freezeD {α : Type} {k : Ko α} {v : Value} {xs : List α} {T : TypeId} (see : Sees w0 hA hV) (i : Nat) (hi : os[i]? = some (slD k T v xs)) (h : CP P n ρ σ (St w0 hA hV (slP k.kd v xs :: ps) (os.eraseIdx i)) c Q) : CP P n ρ σ (St w0 hA hV ps os) c Q :=
  CP.imp (fun w hw => St.freezeD hw i hi see) h
end
section
variable {P : Program} {n : Fr} {ρ : Option Nat} {σ : List (Nat × Value)} {w0 : World} {hA hV : Hp} {ps : List HP} {os : List HO}
/-- A function's end. -/
theorem QE.over {fn : Func} {rs : List ResultVar} {vs : List Value} {R : Ending → World → Prop} {A : World → Prop} (hr : fn.results = rs.toArray) (hds : n.ds = []) (hv : RVs P n σ A rs vs) (h : ∀ w, A w → R (.returned (single vs)) w) : QE n σ A (bodyPost P fn R) .normal :=
  QE.rets (P := P) hr hds hv h
theorem QE.overM {fn : Func} {rs : List ResultVar} {vs : List Value} {R : Ending → World → Prop} (i : Nat) (hi : os[i]? = some (marksO n.ds)) (hr : fn.results = rs.toArray) (hv : RVs P n σ (St w0 hA hV ps (os.set i (marksO []))) rs vs)
    (h : ∀ w, St w0 hA hV ps (os.set i (marksO [])) w → R (.returned (single vs)) w) : QE n σ (St w0 hA hV ps os) (bodyPostM (FF none) 0 P fn R) .normal := QE.retsM i hi hr hv h
end
theorem rangeO.forget {β : Type} {r b : Nat} {ik : IntKind} {kv : β → Value} {m left : List (Int × β)} {cur : Option (Int × β)} : ∀ a h, (rangeO r b ik kv m left cur).p a h → (rangeO r b ik kv m left none).p a h :=
  fun _ _ ⟨es, clock, since, seen, c0, h1, h2, h3, h4, h5, h6, h7, h8, h9, _⟩ => ⟨es, clock, since, seen, c0, h1, h2, h3, h4, h5, h6, h7, h8, h9, fun p e => by cases e⟩
end Go.Q
