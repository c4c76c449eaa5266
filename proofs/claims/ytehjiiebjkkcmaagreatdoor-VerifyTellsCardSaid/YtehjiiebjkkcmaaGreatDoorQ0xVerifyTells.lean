/- Words of this seat: heaps in parts, slots, and the rules by which a function's code is gone through. -/
import Derived.WalkKit
import Derived.KernelRfl
import Derived.Deep.LoopGhost
import Derived.ControlIn
import Derived.TacticsIn
import Derived.OrdersIn
import Derived.LoopNIn
import Derived.RangeFuncIn
set_option linter.unusedVariables false
namespace Go.Q
abbrev Hp := Nat → Option Obj
def hp (w : World) : Hp := fun b => w.heap[b]?
def Sub (h h' : Hp) : Prop := ∀ b o, h b = some o → h' b = some o
def Dj (h h' : Hp) : Prop := ∀ b, h b = none ∨ h' b = none
def un (h h' : Hp) : Hp := fun b => (h b).or (h' b)
def em : Hp := fun _ => none
theorem Sub.refl (h : Hp) : Sub h h := fun _ _ x => x
theorem Sub.trans {a b c : Hp} (h : Sub a b) (k : Sub b c) : Sub a c := fun x o e => k x o (h x o e)
theorem Sub.em (h : Hp) : Sub em h := fun _ _ x => by simp [Q.em] at x
theorem Sub.YC (a b : Hp) : Sub a (un a b) := fun x o e => by simp [un, e]
theorem Sub.Ye {a b : Hp} (d : Dj a b) : Sub b (un a b) := fun x o e => by
 rcases d x with h | h
 ·simp [un, h, e]
 ·rw [h] at e; cases e
theorem Sub.XY {a b c : Hp} (h : Sub a c) (k : Sub b c) : Sub (un a b) c := fun x o e => by
 unfold un at e
 cases ha : a x with
 | some u => rw [ha] at e; simp at e; subst e; exact h x _ ha
 | none => rw [ha] at e; simp at e; exact k x _ e
theorem Dj.symm {a b : Hp} (h : Dj a b) : Dj b a := fun x => (h x).symm
theorem Dj.Yw (a : Hp) : Dj em a := fun _ => .inl rfl
theorem Dj.XR (a : Hp) : Dj a em := fun _ => .inr rfl
theorem Dj.sub {a b c d : Hp} (h : Dj a b) (x : Sub c a) (y : Sub d b) : Dj c d := fun k => by
 cases hc : c k with
 | none => exact .inl rfl
 | some o =>
  refine .inr ?_
  rcases h k with e | e
  ·rw [x k o hc] at e; cases e
  ·cases hd : d k with
   | none => rfl
   | some u => rw [y k u hd] at e; cases e
theorem Dj.YC {a b c : Hp} (h : Dj a c) (k : Dj b c) : Dj (un a b) c := fun x => by
 rcases h x with e | e
 ·rcases k x with f | f
  ·exact .inl (by simp [un, e, f])
  ·exact .inr f
 ·exact .inr e
theorem Dj.Ye {a b c : Hp} (h : Dj a b) (k : Dj a c) : Dj a (un b c) := (Dj.YC h.symm k.symm).symm
structure HP where
 p : Hp → Prop
 mono : ∀ h h', Sub h h' → p h → p h'
structure HO where
 p : Hp → Hp → Prop
 mono : ∀ a a' b b', Sub a a' → Sub b b' → p a b → p a' b'
def HO.em : HO := ⟨fun _ _ => True, fun _ _ _ _ _ _ h => h⟩
def HO.pure (q : Prop) : HO := ⟨fun _ _ => q, fun _ _ _ _ _ _ h => h⟩
def HO.and (x y : HO) : HO := ⟨fun a b => ∃ h1 h2, Dj h1 h2 ∧ Sub h1 b ∧ Sub h2 b ∧ x.p a h1 ∧ y.p a h2,
 fun a a' b b' ha hb ⟨h1, h2, d, s1, s2, p, q⟩ => ⟨h1, h2, d, s1.trans hb, s2.trans hb, x.mono _ _ _ _ ha (Sub.refl _) p, y.mono _ _ _ _ ha (Sub.refl _) q⟩⟩
def HO.ofP (x : HP) : HO := ⟨fun a _ => x.p a, fun _ _ _ _ ha _ h => x.mono _ _ ha h⟩
def Sep (hP : Hp) : List HO → Hp → Prop
 | [], _ => True
 | x :: xs, h => ∃ h1 h2, Dj h1 h2 ∧ Sub h1 h ∧ Sub h2 h ∧ x.p hP h1 ∧ Sep hP xs h2
theorem Sep.mono : ∀ (l : List HO) {a a' b b' : Hp}, Sub a a' → Sub b b' → Sep a l b → Sep a' l b'
 | [], _, _, _, _, _, _, _ => trivial
 | x :: xs, _, _, _, _, ha, hb, ⟨h1, h2, d, s1, s2, p, q⟩ =>
  ⟨h1, h2, d, s1.trans hb, s2.trans hb, x.mono _ _ _ _ ha (Sub.refl _) p, Sep.mono xs ha (Sub.refl _) q⟩
theorem Sep.take : ∀ (i : Nat) (l : List HO) {x : HO} {a b : Hp}, l[i]? = some x → Sep a l b →
    ∃ h1 h2, Dj h1 h2 ∧ Sub h1 b ∧ Sub h2 b ∧ x.p a h1 ∧ Sep a (l.eraseIdx i) h2
 | _, [], _, _, _, h, _ => by simp at h
 | 0, y :: ys, x, a, b, h, ⟨h1, h2, d, s1, s2, p, q⟩ => by
  simp at h; subst h; exact ⟨h1, h2, d, s1, s2, p, q⟩
 | i + 1, y :: ys, x, a, b, h, ⟨h1, h2, d, s1, s2, p, q⟩ => by
  simp at h
  obtain ⟨k1, k2, e, t1, t2, r, s⟩ := Sep.take i ys h q
  refine ⟨k1, un h1 k2, Dj.Ye (d.symm.sub t1 (Sub.refl _)) e, t1.trans s2, Sub.XY s1 (t2.trans s2), r, ?_⟩
  exact ⟨h1, k2, d.sub (Sub.refl _) t2, Sub.YC _ _, Sub.Ye (d.sub (Sub.refl _) t2), p, s⟩
theorem Sep.back : ∀ (i : Nat) (l : List HO) {x : HO} {a h1 h2 : Hp}, i < l.length → Dj h1 h2 → x.p a h1 → Sep a (l.eraseIdx i) h2 → Sep a (l.set i x) (un h1 h2)
 | _, [], _, _, _, _, h, _, _, _ => by simp at h
 | 0, y :: ys, x, a, h1, h2, _, d, p, q => ⟨h1, h2, d, Sub.YC _ _, Sub.Ye d, p, q⟩
 | i + 1, y :: ys, x, a, h1, h2, hi, d, p, ⟨k1, k2, e, t1, t2, r, s⟩ => by
  have := Sep.back i ys (by simpa using hi) (d.sub (Sub.refl _) t2) p s
  exact ⟨k1, un h1 k2, Dj.Ye (d.symm.sub t1 (Sub.refl _)) e, t1.trans (Sub.Ye d), Sub.XY (Sub.YC _ _) (t2.trans (Sub.Ye d)), r, this⟩
structure Met (w0 w : World) : Prop where
 os : w.os = w0.os
 tape : w.tape = w0.tape
 output : w.output = w0.output
 size : w0.heap.size ≤ w.heap.size
theorem Met.refl (w : World) : Met w w := ⟨rfl, rfl, rfl, Nat.le_refl _⟩
theorem Met.trans {a b c : World} (h : Met a b) (k : Met b c) : Met a c := ⟨k.os.trans h.os, k.tape.trans h.tape, k.output.trans h.output, Nat.le_trans h.size k.size⟩
def Since (w0 : World) (hA hV : Hp) (F : Hp → Hp → Prop) (w : World) : Prop :=
 Met w0 w ∧ (∀ b o, hp w0 b = some o → hA b = none → hp w b = some o) ∧
 ∃ hN hO, (∀ b, b < w0.heap.size → hA b = none → hN b = none) ∧ (∀ b, b < w0.heap.size → hA b = none → hO b = none) ∧
  Dj hN hO ∧ Sub hN (hp w) ∧ Sub hO (hp w) ∧ F (un hV hN) hO
def All (ps : List HP) (h : Hp) : Prop := ∀ x ∈ ps, x.p h
theorem All.mono {ps : List HP} {h h' : Hp} (s : Sub h h') (k : All ps h) : All ps h' := fun x hx => x.mono _ _ s (k x hx)
def St (w0 : World) (hA hV : Hp) (ps : List HP) (os : List HO) : World → Prop :=
 Since w0 hA hV fun hP hO => All ps hP ∧ Sep hP os hO
def Trip (P : Program) (f : FuncId) (args : Array Value) (hA hV : Hp) (w : World) (K : Value → HO) : Prop :=
 Calls P f args w fun e w' => ∃ v, e = .returned v ∧ Since w hA hV (K v).p w'
theorem KZ {a b : Nat} (h : a ≠ b) : Nat.beq a b = false := by
 cases hb : Nat.beq a b with
 | false => rfl
 | true => exact absurd (Nat.eq_of_beq_eq_true hb) h
theorem Z7x {a b : Nat} (h : Nat.beq a b = false) : a ≠ b := fun e => by subst e; simp at h
def find (t : Nat) : List (Nat × Value) → Option Value
 | [] => none
 | (k, v) :: r => bif Nat.beq k t then some v else find t r
structure Fr where
 n : Nat
 ds : List Deferred
def Env (n : Fr) (σ : List (Nat × Value)) (a : Act) : Prop :=
 a.tmps.size = n.n ∧ a.defers = n.ds ∧ ∀ t v, find t σ = some v → a.tmps[t]? = some v
theorem Env.put {n : Fr} {σ : List (Nat × Value)} {a : Act} {d : Nat} (v : Value) (h : Env n σ a) (hd : d < n.n) : Env n ((d, v) :: σ) (a.put (some d) v) := by
 obtain ⟨h1, h2, h3⟩ := h
 refine ⟨by simp [Act.put, h1], by simp [Act.put, h2], fun t u ht => ?_⟩
 simp only [find] at ht
 by_cases e : d = t
 ·subst e
  simp at ht
  subst ht
  simp [Act.put, h1, hd]
 ·have : Nat.beq d t = false := KZ e
  rw [this] at ht
  simp only [cond_false] at ht
  simp only [Act.put]
  rw [Array.getElem?_setIfInBounds_ne e]
  exact h3 t u ht
def SubE : List (Nat × Value) → List (Nat × Value) → Prop
 | [], _ => True
 | (k, v) :: r, σ => find k σ = some v ∧ SubE r σ
theorem SubE.find : ∀ {σ' σ : List (Nat × Value)} {t : Nat} {v : Value}, SubE σ' σ → Q.find t σ' = some v → Q.find t σ = some v
 | [], _, _, _, _, h => by simp [Q.find] at h
 | (k, u) :: r, σ, t, v, ⟨h1, h2⟩, h => by
  simp only [Q.find] at h
  by_cases e : k = t
  ·subst e; simp at h; subst h; exact h1
  ·have : Nat.beq k t = false := KZ e
   rw [this] at h; exact SubE.find h2 h
theorem Env.sub {n : Fr} {σ' σ : List (Nat × Value)} {a : Act} (h : Env n σ a) (s : SubE σ' σ) : Env n σ' a :=
 ⟨h.1, h.2.1, fun t v ht => h.2.2 t v (s.find ht)⟩
def ev (σ : List (Nat × Value)) : Operand → Option Value
 | .tmp t => find t σ
 | .const v => some v
 | .global g => some (.pointer (some ⟨g, 0, none⟩))
 | .func f => some (.func (.func f) #[] #[])
theorem Env.eval {n : Fr} {σ : List (Nat × Value)} {a : Act} {x : Operand} {v : Value} (h : Env n σ a) (hx : ev σ x = some v) : a.eval x = v := by
 cases x with
 | tmp t => have := h.2.2 t v hx; simp [Act.eval, this]
 | const u => simpa [ev, Act.eval] using hx
 | global g => simpa [ev, Act.eval] using hx
 | func f => simpa [ev, Act.eval] using hx
def evs (σ : List (Nat × Value)) : List Operand → Option (List Value)
 | [] => some []
 | x :: r => match ev σ x, evs σ r with
  | some v, some vs => some (v :: vs)
  | _, _ => none
theorem Env.evals {n : Fr} {σ : List (Nat × Value)} {a : Act} (h : Env n σ a) : ∀ {l : List Operand} {vs : List Value}, evs σ l = some vs → l.map a.eval = vs
 | [], vs, he => by simp [evs] at he; simp [he]
 | x :: r, vs, he => by
  simp only [evs] at he
  cases hx : ev σ x with
  | none => rw [hx] at he; simp at he
  | some v =>
   cases hr : evs σ r with
   | none => rw [hx, hr] at he; simp at he
   | some us => rw [hx, hr] at he; simp at he; subst he; simp [h.eval hx, h.evals hr]
def nth : List Oper → Nat → Option Oper
 | [], _ => none
 | o :: _, 0 => some o
 | _ :: r, n + 1 => nth r n
theorem J7 : ∀ (l : List Oper) (i : Nat), nth l i = l[i]?
 | [], _ => by simp [nth]
 | _ :: _, 0 => by simp [nth]
 | _ :: r, n + 1 => by simp [nth, J7 r n]
def gd (L : List Oper) (σ : List (Nat × Value)) : Option (Nat × Bool) → Option Bool
 | none => some true
 | some (j, want) => match (nth L j).bind (·.dst) with
  | some d => match find d σ with
   | some (.bool b) => some (b == want)
   | some (.tuple _) => some false
   | _ => none
  | none => none
theorem Env.wanted {n : Fr} {σ : List (Nat × Value)} {a : Act} {L : List Oper} {o : Oper} {b : Bool} (h : Env n σ a) (hg : gd L σ o.guard = some b) :
    Region.wanted o (yielded L.toArray a.tmps) = b := by
 unfold gd at hg
 split at hg
 ·rename_i e; simp at hg; simp [Region.wanted, e, hg]
 ·rename_i j want e
  split at hg
  ·rename_i d hd
   rw [J7] at hd
   split at hg
   ·rename_i c hc
    simp at hg
    have h1 := h.2.2 d _ hc
    have h2 : yielded L.toArray a.tmps j = some c := by simp [yielded, hd, h1]
    simp [Region.wanted, e, h2, ← hg]
   ·rename_i vs hc
    simp at hg
    have h1 := h.2.2 d _ hc
    have h2 : yielded L.toArray a.tmps j = none := by simp [yielded, hd, h1]
    simp [Region.wanted, e, h2, ← hg]
   ·simp at hg
  ·simp at hg
abbrev FF (ρ : Option Nat) : Fence := { Fence.wide with round := ρ }
section
variable (P : Program) (n : Fr) (ρ : Option Nat)
abbrev Cont := Exit → Act → World → Prop
abbrev wl (ops : Array Oper) (Q : Cont) (l : List Oper) (a : Act) (w : World) : Prop := wpListIn (FF ρ) 0 P ops Q l a w
def CP (σ : List (Nat × Value)) (A : World → Prop) (c : Code) (Q : Cont) : Prop := ∀ a w, Env n σ a → A w → c.wpIn (FF ρ) 0 P Q a w
def SP (σ : List (Nat × Value)) (A : World → Prop) (L l : List Oper) (Q : Cont) : Prop := ∀ a w, Env n σ a → A w → wpListIn (FF ρ) 0 P L.toArray Q l a w
def QE (σ : List (Nat × Value)) (A : World → Prop) (Q : Cont) (e : Exit) : Prop := ∀ a w, Env n σ a → A w → Q e a w
end
section
variable {P : Program} {n : Fr} {ρ : Option Nat} {σ σ' : List (Nat × Value)} {A A' : World → Prop} {L l : List Oper} {Q : Cont} {c x y : Code} {id : Nat} {e : Exit}
theorem CP.seq (h : CP P n ρ σ A x (Exit.then (y.wpIn (FF ρ) 0 P Q) Q)) : CP P n ρ σ A (.seq x y) Q := fun a w ha hw => wpIn_seq (h a w ha hw)
theorem CP.region (h : SP P n ρ σ A l l Q) : CP P n ρ σ A (.region id l.toArray false) Q := fun a w ha hw => wpIn_region_lit (h a w ha hw)
theorem CP.skip (h : QE n σ A Q .normal) : CP P n ρ σ A .skip Q := fun a w ha hw => wpIn_skip (h a w ha hw)
theorem CP.ret (h : QE n σ A Q .ret) : CP P n ρ σ A .ret Q := fun a w ha hw => wpIn_ret (h a w ha hw)
theorem CP.exit (h : QE n σ A Q (.exit id)) : CP P n ρ σ A (.exit id) Q := fun a w ha hw => wpIn_exit (h a w ha hw)
theorem CP.label (h : QE n σ A Q .normal) : CP P n ρ σ A (.label id) Q := fun a w ha hw => wpIn_label (h a w ha hw)
theorem CP.block (h : CP P n ρ σ A c (Exit.inBlock id Q)) : CP P n ρ σ A (.block id c) Q := fun a w ha hw => wpIn_block (h a w ha hw)
theorem CP.cond {t : Operand} {b : Bool} (ht : ev σ t = some (.bool b)) (h1 : b = true → CP P n ρ σ A x Q) (h2 : b = false → CP P n ρ σ A y Q) : CP P n ρ σ A (.cond t x y) Q :=
 fun a w ha hw => wpIn_cond_split (ha.eval ht) (fun hb => h1 hb a w ha hw) (fun hb => h2 hb a w ha hw)
theorem SP.nil (h : QE n σ A Q .normal) : SP P n ρ σ A L [] Q := fun a w ha hw => wpListIn_nil (h a w ha hw)
theorem QE.then (h : CP P n ρ σ A y Q) : QE n σ A (Exit.then (y.wpIn (FF ρ) 0 P Q) Q) .normal := h
theorem QE.thru {nx : Act → World → Prop} (he : e ≠ .normal) (h : QE n σ A Q e) : QE n σ A (Exit.then nx Q) e := fun a w ha hw => by
 cases e <;> first | exact absurd rfl he | exact h a w ha hw
theorem QE.blockN (h : QE n σ A Q .normal) : QE n σ A (Exit.inBlock id Q) .normal := h
theorem QE.blockR (h : QE n σ A Q .ret) : QE n σ A (Exit.inBlock id Q) .ret := h
theorem QE.blockE (h : QE n σ A Q .normal) : QE n σ A (Exit.inBlock id Q) (.exit id) := fun a w ha hw => by simpa [Exit.inBlock] using h a w ha hw
theorem QE.blockP {ch : List PanicEntry} (h : QE n σ A Q (.panic ch)) : QE n σ A (Exit.inBlock id Q) (.panic ch) := fun a w ha hw => h a w ha hw
theorem QE.blockX {k : Nat} (hk : Nat.beq k id = false) (h : QE n σ A Q (.exit k)) : QE n σ A (Exit.inBlock id Q) (.exit k) := fun a w ha hw => by
 have : k ≠ id := Z7x hk
 simpa [Exit.inBlock, this] using h a w ha hw
theorem CP.weak (s : SubE σ' σ) (hA : ∀ w, A w → A' w) (h : CP P n ρ σ' A' c Q) : CP P n ρ σ A c Q := fun a w ha hw => h a w (ha.sub s) (hA w hw)
end
end Go.Q
