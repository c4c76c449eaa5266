/- Words of this seat: ranges over functions that a round may leave by a return. -/
import Derived.Test.YtehjiiebjkkcmaaGreatDoorQ35xVerifyTells
set_option linter.unusedVariables false
set_option linter.unusedSimpArgs false
namespace Go.Q
section
variable {w0 w : World} {hA hV : Hp} {ps : List HP} {os : List HO} {P : Program} {n : Fr} {ρ : Option Nat} {σ σ1 : List (Nat × Value)} {Q : Cont}
theorem CP.Z54 {st : LoopState} {pe : Option Code} (hst : st ≠ .busy) {g : Operand} {pt : Array Tmp} {asg body : Code} {f : FuncId} {caps : List Value} {X K : HO} (see : Sees w0 hA hV) (hfn : ((P.funcs[f]?).map fun fn => fn.body.isSome && !(fn.name == "runtime.NumGoroutine")) = some true)
    (hx : ev σ g = some (.func (.func f) #[] caps.toArray)) (hσ : SubE σ1 σ)
    (hc : ∀ l w hP h1, Sub hP (hp w) → Sub h1 (hp w) → Dj hP h1 → All ps hP → (HO.and (loopO l n.n σ1 pt asg body .ready none) X).p hP h1 → Trip P f (.func (.yield l) #[] #[] :: caps).toArray h1 hP w (fun _ => HO.and (loopO l n.n σ1 pt asg body st pe) K))
    (h : ∀ D, pe = none → QE ⟨n.n, mark D :: n.ds⟩ σ (St w0 hA hV ps (marksO (mark D :: n.ds) :: K :: os)) Q .normal)
    (h' : ∀ D c, pe = some c → CP P ⟨n.n, mark D :: n.ds⟩ none σ (St w0 hA hV ps (marksO (mark D :: n.ds) :: K :: os)) c Q) :
    CP P n none σ (St w0 hA hV ps (marksO n.ds :: X :: os)) (.rangeFunc g pt asg body) Q := fun a w ha hw => by
 refine wpIn_rangeFunc fun fn hfn' => ?_
 have h1 : St w0 hA hV ps (defO w.heap.size :: marksO n.ds :: X :: os) (w.alloc (.deferred (some []))) := hw.alloc _ (by simp [defO, bk])
 have h2 : St w0 hA hV ps (marksO (mark w.heap.size :: n.ds) :: X :: os) (w.alloc (.deferred (some []))) := by
  refine St.imp (fun _ q => q) (fun a b _ s => ?_) h1
  obtain ⟨k1, k2, dj, t1, t2, p, k3, k4, dj2, t3, t4, p2, q⟩ := s
  exact ⟨un k1 k3, k4, Dj.YC (dj.sub (Sub.refl _) t4) dj2, Sub.XY t1 (t3.trans t2), t4.trans t2, Marks.cons p p2 (dj.sub (Sub.refl _) t3), q⟩
 have h3 : St w0 hA hV ps (loopO (w.heap.size + 1) n.n σ1 pt asg body .ready none :: marksO (mark w.heap.size :: n.ds) :: X :: os) ((w.alloc (.deferred (some []))).alloc (.loop { state := .ready, pending := none, fn, tmps := a.tmps, params := pt, assign := asg, body, defers := w.heap.size })) :=
  h2.alloc _ ⟨_, by simp [bk]; rfl, rfl, rfl, rfl, rfl, rfl, by
   have := ha.sub hσ
   exact ⟨this.1, rfl, this.2.2⟩⟩
 have h4 : St w0 hA hV ps (HO.and (loopO (w.heap.size + 1) n.n σ1 pt asg body .ready none) X :: marksO (mark w.heap.size :: n.ds) :: os) ((w.alloc (.deferred (some []))).alloc (.loop { state := .ready, pending := none, fn, tmps := a.tmps, params := pt, assign := asg, body, defers := w.heap.size })) := by
  refine St.imp (fun _ q => q) (fun a b _ s => ?_) h3
  obtain ⟨k1, k2, dj, t1, t2, p, k3, k4, dj2, t3, t4, p2, k5, k6, dj3, t5, t6, p3, q⟩ := s
  exact ⟨un k1 k5, un k3 k6, Dj.YC (Dj.Ye (dj.sub (Sub.refl _) t3) (dj.sub (Sub.refl _) (t6.trans t4))) (Dj.Ye (dj2.sub (Sub.refl _) t5).symm dj3), Sub.XY t1 (t5.trans (t4.trans t2)), Sub.XY (t3.trans t2) (t6.trans (t4.trans t2)),
      ⟨k1, k5, dj.sub (Sub.refl _) (t5.trans t4), Sub.YC _ _, Sub.Ye (dj.sub (Sub.refl _) (t5.trans t4)), p, p3⟩, k3, k6, dj2.sub (Sub.refl _) t6, Sub.YC _ _, Sub.Ye (dj2.sub (Sub.refl _) t6), p2, q⟩
 obtain ⟨W1, hW1⟩ : ∃ W1, (w.alloc (.deferred (some []))).alloc (.loop { state := .ready, pending := none, fn, tmps := a.tmps, params := pt, assign := asg, body, defers := w.heap.size }) = W1 := ⟨_, rfl⟩
 rw [hW1] at h4
 obtain ⟨hP, k1, sV, sP, s1, dj, ap, hi, back⟩ := h4.split see
 refine ⟨w.heap.size + 1, [mark w.heap.size], W1, { target := .fn (.func f) caps.toArray, args := #[.func (.yield (w.heap.size + 1)) #[] #[]] }, W1, f, (.func (.yield (w.heap.size + 1)) #[] #[] :: caps).toArray, W1, by rw [← hW1]; exact run_enterLoop_outer _ _ _ _ _, ?_, fun _ _ => trivial, ?_, fun e => (by cases e), Z24 ?_⟩
 ·simp only [resolve, ha.eval hx]
  simp [go_sem]
 ·simp [invoke, Z1a hfn (b := default) (fv := undef)]
 refine (hc _ _ hP k1 sP s1 dj ap hi).mono fun e w' he => ?_
 obtain ⟨v, rfl, hs⟩ := he
 have h5 := back _ _ hs
 have h6 := St.and h5
 obtain ⟨r, hr, e1, e2, kk⟩ := h6.reloop 0 rfl
 refine ⟨pe, _, by rw [run_endLoop hr (by rw [e1]; exact hst), e2], ?_⟩
 have h7 := kk .exhausted pe
 have he : Env ⟨n.n, mark w.heap.size :: n.ds⟩ σ { a with defers := [mark w.heap.size] ++ a.defers } := ⟨ha.1, by simp [ha.2.1], ha.2.2⟩
 have h8 : St w0 hA hV ps (K :: marksO (mark w.heap.size :: n.ds) :: os) (w'.putObj (w.heap.size + 1) (.loop { r with state := .exhausted, pending := pe })) := by
  have := h7.dropO 1
  simpa using this
 have h9 : St w0 hA hV ps (marksO (mark w.heap.size :: n.ds) :: K :: os) (w'.putObj (w.heap.size + 1) (.loop { r with state := .exhausted, pending := pe })) := by
  refine St.imp (fun _ q => q) (fun a b _ s => ?_) h8
  obtain ⟨k1, k2, dj, t1, t2, p, k3, k4, dj2, t3, t4, p2, q⟩ := s
  exact ⟨k3, un k1 k4, Dj.Ye (dj.sub (Sub.refl _) t3).symm dj2, t3.trans t2, Sub.XY t1 (t4.trans t2), p2, k1, k4, dj.sub (Sub.refl _) t4, Sub.YC _ _, Sub.Ye (dj.sub (Sub.refl _) t4), p, q⟩
 cases hpe : pe with
 | none => subst hpe; exact h w.heap.size rfl _ _ he h9
 | some c => subst hpe; exact h' w.heap.size c rfl _ _ he h9
theorem QE.Ky (see : Sees w0 hA hV) (i : Nat) {b : Nat} {cs : List Value} {T : TypeId} {e : Exit} (hi : os[i]? = some (boxO b cs T)) (h : QE n σ (St w0 hA hV (boxP b cs T :: ps) (os.eraseIdx i)) Q e) : QE n σ (St w0 hA hV ps os) Q e :=
 QE.imp (fun w hw => hw.freeze i hi see.dj see.sub) h
def KA (l : Nat) (LO : LoopState → Option Code → HO) : Prop :=
 ∀ {w0 w : World} {hA hV : Hp} {ps : List HP} {os : List HO} (i : Nat) (st : LoopState) (pe : Option Code), os[i]? = some (LO st pe) → St w0 hA hV ps os w →
  ∃ r : Loop, w.heap[l]? = some (.loop r) ∧ r.state = st ∧ r.pending = pe ∧ ∀ st' pe', St w0 hA hV ps (os.set i (LO st' pe')) (w.putObj l (.loop { r with state := st', pending := pe' }))
theorem KA.of {l m : Nat} {τ : List (Nat × Value)} {pt : Array Tmp} {asg body : Code} : KA l (fun st pe => loopO l m τ pt asg body st pe) := fun i st pe hi h => h.reloop i hi
theorem QE.beginR {l : Nat} {LO : LoopState → Option Code → HO} (hL : KA l LO) {body : Code} {R : Ending → World → Prop} (i : Nat) (hi : os[i]? = some (LO .ready none)) (h : CP P n (some l) σ (St w0 hA hV ps (os.set i (LO .busy none))) body (roundPost P l R)) :
    QE n σ (St w0 hA hV ps os) (Exit.then (fun a w2 => ∃ w3, (Instr.beginRound l).run P w2 = .ok () w3 ∧ body.wpIn (FF (some l)) 0 P (roundPost P l R) a w3) (fun _ _ _ => False)) .normal := fun a w ha hw => by
 obtain ⟨r, hr, e1, e2, k⟩ := hL i _ _ hi hw
 have := k .busy none
 refine ⟨_, run_beginRound hr e1, h a _ ha ?_⟩
 have e3 : ({ r with state := .busy, pending := none } : Loop) = { r with state := .busy } := by rw [← e2]
 rw [← e3]; exact this
theorem RR.of {w0 w : World} {hA hV : Hp} {b : Bool} {x y : HO} (h : St w0 hA hV [] [y, x] w) : RR w0 hA hV b x y (.returned (.bool b)) w := by
 obtain ⟨m, g, hN, hO, n1, n2, d, s1, s2, p, s⟩ := h
 obtain ⟨h1, h2, e, t1, t2, rr, h3, h4, e', t3, t4, r3, -⟩ := s
 exact ⟨_, rfl, m, g, hN, hO, n1, n2, d, s1, s2, rfl, h3, h1, (e.sub (Sub.refl _) t3).symm, t3.trans t2, t1, r3, rr⟩
theorem QE.overN {l : Nat} {LO : LoopState → Option Code → HO} (hL : KA l LO) {J : HO} (i : Nat) {st : LoopState} (hi : os[i]? = some (LO st none)) (h : ∀ w, St w0 hA hV ps (os.set i (LO .ready none)) w → St w0 hA hV [] [J, LO .ready none] w) :
    QE n σ (St w0 hA hV ps os) (roundPost P l (RR w0 hA hV true (LO .ready none) J)) .normal := fun a w ha hw => by
 obtain ⟨r, hr, e1, e2, k⟩ := hL i _ _ hi hw
 exact ⟨_, _, run_endRound none hr, RR.of (h _ (k .ready none))⟩
theorem QE.overR {l : Nat} {LO : LoopState → Option Code → HO} (hL : KA l LO) {J : HO} (i : Nat) {st : LoopState} (hi : os[i]? = some (LO st none)) (h : ∀ w, St w0 hA hV ps (os.set i (LO .done (some .ret))) w → St w0 hA hV [] [J, LO .done (some .ret)] w) :
    QE n σ (St w0 hA hV ps os) (roundPost P l (RR w0 hA hV false (LO .done (some .ret)) J)) .ret := fun a w ha hw => by
 obtain ⟨r, hr, e1, e2, k⟩ := hL i _ _ hi hw
 exact ⟨_, _, run_endRound (some .ret) hr, RR.of (h _ (k .done (some .ret)))⟩
def lst : Bool → LoopState | true => .done | false => .ready
def lpe : Bool → Option Code | true => some .ret | false => none
theorem CP.rangeR {S X γ : Type} {J : S → HO} {Y : S × Bool → X → Option ((S × Bool) × Bool)} {s0 sf : S} {lf : Bool} {E : X → List Value → HP} {g : Operand} {pt : List Tmp} {asg body : Code} {f : FuncId} {caps : List Value} {X1 X2 : Option γ} {r : γ} (see : Sees w0 hA hV)
    (hfn : ((P.funcs[f]?).map fun fn => fn.body.isSome && !(fn.name == "runtime.NumGoroutine")) = some true) (hx : ev σ g = some (.func (.func f) #[] caps.toArray)) (hσ : SubE σ1 σ) (hlt : (pt.all fun p => Nat.blt p n.n) = true) (hE : ∀ x vals h, (E x vals).p h → vals.length = pt.length)
    (hY : ∀ s x, Y (s, true) x = none)
    (hf : ∀ (lY : Nat) (I : S × Bool → HO) (w : World) (hP h1 : Hp), Sub hP (hp w) → Sub h1 (hp w) → Dj hP h1 → All ps hP → (I (s0, false)).p hP h1 → Yields P lY hP Y I E → Trip P f (.func (.yield lY) #[] #[] :: caps).toArray h1 hP w (fun v => HO.pand (v = .tuple #[]) (HO.seps [I (sf, lf)])))
    (hb : ∀ (lY : Nat) (LO : LoopState → Option Code → HO), KA lY LO → ∀ (s : S) (x : X) (t : S) (l b : Bool) (vals : List Value), Y (s, false) x = some ((t, l), b) → ∀ (w : World) (hP h1 : Hp), Sub hP (hp w) → Sub h1 (hp w) → Dj hP h1 → All ps hP → (E x vals).p hP →
     CP P ⟨n.n, []⟩ (some lY) (putAll (pt.zip vals) σ1) (St w h1 hP ps [J s, LO .ready none]) asg (Exit.then (fun a w2 => ∃ w3, (Instr.beginRound lY).run P w2 = .ok () w3 ∧ body.wpIn (FF (some lY)) 0 P (roundPost P lY (RR w h1 hP b (LO (lst l) (lpe l)) (J t))) a w3) (fun _ _ _ => False)))
    (ho : (if lf = true then X1 else X2) = some r)
    (h1 : ∀ D, X1 = some r → QE ⟨n.n, mark D :: n.ds⟩ σ (St w0 hA hV ps (J sf :: marksO (mark D :: n.ds) :: os)) Q .ret)
    (h2 : ∀ D, X2 = some r → QE ⟨n.n, mark D :: n.ds⟩ σ (St w0 hA hV ps (J sf :: marksO (mark D :: n.ds) :: os)) Q .normal) :
    CP P n none σ (St w0 hA hV ps (J s0 :: marksO n.ds :: os)) (.rangeFunc g pt.toArray asg body) Q := by
 have hsw : ∀ {x y : HO} {w : World}, St w0 hA hV ps (x :: y :: os) w → St w0 hA hV ps (y :: x :: os) w := fun {x y w} hw => by
  refine St.imp (fun _ q => q) (fun a b _ s => ?_) hw
  obtain ⟨k1, k2, dj, t1, t2, p, k3, k4, dj2, t3, t4, p2, q⟩ := s
  exact ⟨k3, un k1 k4, Dj.Ye (dj.sub (Sub.refl _) t3).symm dj2, t3.trans t2, Sub.XY t1 (t4.trans t2), p2, k1, k4, dj.sub (Sub.refl _) t4, Sub.YC _ _, Sub.Ye (dj.sub (Sub.refl _) t4), p, q⟩
 refine CP.imp (fun w hw => hsw hw) (CP.Z54 (st := lst lf) (pe := lpe lf) (by cases lf <;> simp [lst]) see hfn hx hσ (K := J sf) (fun l w hP h1 sP s1 dj ap hi => ?_) (fun D hl => QE.imp (fun w hw => hsw hw) (h2 D ?_)) (fun D c hl => ?_))
 ·have := hf l (fun s => HO.and (loopO l n.n σ1 pt.toArray asg body (lst s.2) (lpe s.2)) (J s.1)) w hP h1 sP s1 dj ap hi ?_
  ·refine this.mono fun e w' he => ?_
   obtain ⟨v, rfl, m, fr, hN, hO, n1, n2, d, t1, t2, q, h3, h4, -, u1, -, p, -⟩ := he
   exact ⟨v, rfl, m, fr, hN, hO, n1, n2, d, t1, t2, HO.mono _ _ _ _ _ (Sub.refl _) u1 p⟩
  ·rintro ⟨s, sl⟩ x ⟨t, tl⟩ b vals hy w2 hP2 h2 sV sP2 s2 dj2 hE2 hi2
   cases sl with
   | true => rw [hY] at hy; cases hy
   | false =>
    have hlen := hE _ _ _ hE2
    have hz : ((pt.zip vals).all fun p => Nat.blt p.1 n.n) = true := by
     rw [List.all_eq_true] at hlt ⊢
     intro p hp
     exact hlt p.1 (List.of_mem_zip hp).1
    refine Round.of rfl hlen hz hi2 s2 (ap.mono sV) ?_
    refine CP.imp (fun w hw => ?_) (hb l (fun st pe => loopO l n.n σ1 pt.toArray asg body st pe) KA.of s x t tl b vals hy w2 hP2 h2 sP2 s2 dj2 (ap.mono sV) hE2)
    refine St.imp (fun _ q => q) (fun a b _ s => ?_) hw
    obtain ⟨k1, k2, dj, t1, t2, p, k3, k4, dj2, t3, t4, p2, q⟩ := s
    exact ⟨k3, k1, (dj.sub (Sub.refl _) t3).symm, t3.trans t2, t1, p2, k1, em, Dj.XR _, Sub.refl _, Sub.em _, p, trivial⟩
 ·cases lf with
  | true => simp [lpe] at hl
  | false => simpa using ho
 ·cases lf with
  | false => simp [lpe] at hl
  | true =>
   simp only [lpe, Option.some.injEq] at hl
   subst hl
   exact CP.imp (fun w hw => hsw hw) (CP.ret (h1 D (by simpa using ho)))
end
end Go.Q
