/- Words of this seat: where ways meet, and functions as steps between places (of plain values, with no memory). -/
import Derived.Test.YtehjiiebjkkcmaaGreatDoorQ3xVerifyTells
import Derived.OrdersHeld
set_option linter.unusedVariables false
set_option linter.unusedSimpArgs false
namespace Go.Q
def iter {S R : Type} (F : S → Option (S ⊕ R)) : Nat → S → Option R
 | 0, _ => none
 | n + 1, s => match F s with
  | none => none
  | some (.inl t) => iter F n t
  | some (.inr r) => some r
def next {S R : Type} (F : S → Option (S ⊕ R)) (n : Nat) : S ⊕ R → Option R
 | .inl t => iter F n t
 | .inr r => some r
theorem JZ {S R : Type} {F : S → Option (S ⊕ R)} : ∀ (n m : Nat) (s : S) (r : R), n ≤ m → iter F n s = some r → iter F m s = some r
 | 0, _, s, r, _, h => by simp [iter] at h
 | n + 1, 0, s, r, hm, _ => by omega
 | n + 1, m + 1, s, r, hm, h => by
  simp only [iter] at h ⊢
  cases hF : F s with
  | none => rw [hF] at h; simp at h
  | some o =>
   rw [hF] at h
   cases o with
   | inl t => exact JZ n m t r (by omega) h
   | inr r' => exact h
open Classical in
noncomputable def runF {S R : Type} (F : S → Option (S ⊕ R)) (s : S) : Option R :=
 if h : ∃ p : Nat × R, iter F p.1 s = some p.2 then some (Classical.choose h).2 else none
theorem JG {S R : Type} {F : S → Option (S ⊕ R)} {s : S} {r : R} : runF F s = some r ↔ ∃ n, iter F n s = some r := by
 unfold runF
 constructor
 ·intro h
  split at h
  ·rename_i hx
   simp at h; subst h
   exact ⟨_, Classical.choose_spec hx⟩
  ·simp at h
 ·rintro ⟨n, h⟩
  have hx : ∃ p : Nat × R, iter F p.1 s = some p.2 := ⟨(n, r), h⟩
  rw [dif_pos hx]
  have h2 := Classical.choose_spec hx
  have e1 := JZ _ (max n (Classical.choose hx).1) _ _ (Nat.le_max_right _ _) h2
  have e2 := JZ _ (max n (Classical.choose hx).1) _ _ (Nat.le_max_left _ _) h
  rw [e1] at e2
  simpa using e2
theorem Z0F {S R : Type} (F : S → Option (S ⊕ R)) (s : S) : runF F s = match F s with
    | none => none
    | some (.inl t) => runF F t
    | some (.inr r) => some r := by
 apply Option.ext
 intro r
 rw [JG]
 constructor
 ·rintro ⟨n, h⟩
  cases n with
  | zero => simp [iter] at h
  | succ n =>
   simp only [iter] at h
   cases hF : F s with
   | none => rw [hF] at h; simp at h
   | some o => rw [hF] at h; cases o with
    | inl t => exact JG.2 ⟨n, h⟩
    | inr r' => exact h
 ·intro h
  cases hF : F s with
  | none => rw [hF] at h; simp at h
  | some o => rw [hF] at h; cases o with
   | inl t => obtain ⟨n, hn⟩ := JG.1 h; exact ⟨n + 1, by simp [iter, hF, hn]⟩
   | inr r' => exact ⟨1, by simpa [iter, hF] using h⟩
theorem Ud {S R : Type} {F : S → Option (S ⊕ R)} {n : Nat} {s : S} {r : R} (h : iter F n s = some r) : ∃ m o, m + 1 = n ∧ F s = some o ∧ next F m o = some r := by
 cases n with
 | zero => simp [iter] at h
 | succ n =>
  simp only [iter] at h
  cases hF : F s with
  | none => rw [hF] at h; simp at h
  | some o => exact ⟨n, o, rfl, rfl, by rw [hF] at h; cases o <;> exact h⟩
theorem bind_some {α β : Type} {x : Option α} {f : α → Option β} {r : β} (h : x.bind f = some r) : ∃ y, x = some y ∧ f y = some r := Option.bind_eq_some_iff.1 h
theorem Ws {c : Prop} [Decidable c] {α : Type} {x y : Option α} {r : α} (h : (if c then x else y) = some r) : (c ∧ x = some r) ∨ (¬ c ∧ y = some r) := by
 by_cases hc : c
 ·exact .inl ⟨hc, by rwa [if_pos hc] at h⟩
 ·exact .inr ⟨hc, by rwa [if_neg hc] at h⟩
theorem X6 {c : Prop} [Decidable c] {α : Type} {x : Option α} {r : α} (h : (if c then x else none) = some r) : c ∧ x = some r := by
 rcases Ws h with h | h
 ·exact h
 ·simp at h
def elt {α : Type} (xs : List α) (i : Int) : Option α := if 0 ≤ i then xs[i.toNat]? else none
theorem Z6H {α : Type} {xs : List α} {i : Int} {x : α} (h : elt xs i = some x) : 0 ≤ i ∧ xs[i.toNat]? = some x := by
 unfold elt at h; exact X6 h
section
variable {P : Program} {n : Fr} {ρ : Option Nat} {σ : List (Nat × Value)} {A : World → Prop} {L l : List Oper} {Q : Cont} {x y c : Code} {M : Act → World → Prop}
theorem CP.app {a : Act} {w : World} (ha : Env n σ a) (hw : A w) (h : CP P n ρ σ A c Q) : c.wpIn (FF ρ) 0 P Q a w := h a w ha hw
theorem CP.join (M : Act → World → Prop) (later : ∀ a w, M a w → y.wpIn (FF ρ) 0 P Q a w) (now : CP P n ρ σ A x (Exit.then M Q)) : CP P n ρ σ A (.seq x y) Q := fun a w ha hw =>
 wpIn_seq (wpIn_mono (now a w ha hw) (fun e a w q => by cases e <;> first | exact q | exact later a w q))
theorem QE.meet (h : ∀ a w, Env n σ a → A w → M a w) : QE n σ A (Exit.then M Q) .normal := h
def Lower (I : Nat → Act → World → Prop) (m : Nat) : Act → World → Prop := fun a w => ∃ k, k < m ∧ I k a w
theorem CP.loop (I : Nat → Act → World → Prop) (m0 : Nat) (h0 : ∀ a w, Env n σ a → A w → I m0 a w)
    (round : ∀ m a w, I m a w → c.wpIn (FF ρ) 0 P (Exit.then (Lower I m) Q) a w) : CP P n ρ σ A (.loop c) Q := fun a w ha hw => by
 refine wpIn_loop (fun a w => ∃ n, I n a w) (fun a w => leastOf (fun n => I n a w)) ⟨m0, h0 a w ha hw⟩ fun a w hI => ?_
 refine wpIn_mono (round _ a w (leastOf_spec hI).1) fun e a' w' q => ?_
 cases e <;> first | exact q | skip
 obtain ⟨k, hlt, hI'⟩ := q
 exact show (∃ n, I n a' w') ∧ leastOf (fun n => I n a' w') < leastOf (fun n => I n a w) from ⟨⟨k, hI'⟩, Nat.lt_of_le_of_lt ((leastOf_spec ⟨k, hI'⟩).2 k hI') hlt⟩
theorem QE.lower {I : Nat → Act → World → Prop} {m : Nat} (k : Nat) (hk : k < m) (h : ∀ a w, Env n σ a → A w → I k a w) : QE n σ A (Exit.then (Lower I m) Q) .normal := fun a w ha hw => ⟨k, hk, h a w ha hw⟩
theorem CP.condT {t : Operand} {b : Bool} (ht : ev σ t = some (.bool b)) (hb : b = true) (h : CP P n ρ σ A x Q) : CP P n ρ σ A (.cond t x y) Q := CP.cond ht (fun _ => h) (fun e => by rw [hb] at e; cases e)
theorem CP.condF {t : Operand} {b : Bool} (ht : ev σ t = some (.bool b)) (hb : b = false) (h : CP P n ρ σ A y Q) : CP P n ρ σ A (.cond t x y) Q := CP.cond ht (fun e => by rw [hb] at e; cases e) (fun _ => h)
theorem SP.isT {d : Nat} {b : Bool} (hd : find d σ = some (.bool b)) (hb : b = true) (h : SP P n ρ ((d, .bool true) :: σ) A L l Q) : SP P n ρ σ A L l Q := SP.byBool hd (fun _ => h) (fun e => by rw [hb] at e; cases e)
theorem SP.isF {d : Nat} {b : Bool} (hd : find d σ = some (.bool b)) (hb : b = false) (h : SP P n ρ ((d, .bool false) :: σ) A L l Q) : SP P n ρ σ A L l Q := SP.byBool hd (fun e => by rw [hb] at e; cases e) (fun _ => h)
end
theorem All.nil (h : Hp) : All [] h := fun _ hx => by cases hx
theorem All.cons {x : HP} {ps : List HP} {h : Hp} (p : x.p h) (q : All ps h) : All (x :: ps) h := fun y hy => by
 rcases List.mem_cons.1 hy with rfl | hy
 ·exact p
 ·exact q y hy
theorem All.get {x : HP} {ps : List HP} {h : Hp} (a : All ps h) (i : Nat) (hi : ps[i]? = some x) : x.p h := a x (List.mem_of_getElem? hi)
theorem Sep.get {os : List HO} {a b : Hp} (i : Nat) {x : HO} (hi : os[i]? = some x) (h : Sep a os b) : x.p a b := by
 obtain ⟨h1, h2, e, t1, t2, r, s⟩ := Sep.take i os hi h
 exact x.mono _ _ _ _ (Sub.refl _) t1 r
theorem bf {b : Bool} (h : ¬ b = true) : b = false := Bool.eq_false_iff.2 h
theorem XT {a b c : Bool} (h : a = true) (hb : b = c) : c = (a && b) := by rw [h, hb]; rfl
theorem XU {a b : Bool} (h : a = false) : false = (a && b) := by rw [h]; rfl
theorem WL {a b : Bool} (h : a = true) : true = (a || b) := by rw [h]; rfl
theorem WM {a b c : Bool} (h : a = false) (hb : b = c) : c = (a || b) := by rw [h, hb]; rfl
section
variable {w0 w : World} {hA hV : Hp} {ps : List HP} {os : List HO}
theorem St.dropP (k : Nat) (h : St w0 hA hV ps os w) : St w0 hA hV (ps.drop k) os w := h.imp (fun _ a x hx => a x (List.mem_of_mem_drop hx)) (fun _ _ _ s => s)
theorem Sep.drop : ∀ (k : Nat) (l : List HO) {a b : Hp}, Sep a l b → Sep a (l.drop k) b
 | 0, _, _, _, h => h
 | _ + 1, [], _, _, h => h
 | k + 1, x :: xs, a, b, ⟨h1, h2, d, s1, s2, p, q⟩ => Sep.drop k xs (Sep.mono xs (Sub.refl _) s2 q)
theorem St.dropO (k : Nat) (h : St w0 hA hV ps os w) : St w0 hA hV ps (os.drop k) w := h.imp (fun _ a => a) (fun _ _ _ s => Sep.drop k os s)
theorem St.weakO (i : Nat) {x y : HO} (hi : os[i]? = some x) (hxy : ∀ a b, x.p a b → y.p a b) (h : St w0 hA hV ps os w) : St w0 hA hV ps (os.set i y) w := h.imp (fun _ a => a) (fun a b _ s => by
 obtain ⟨h1, h2, e, t1, t2, r, s⟩ := Sep.take i os hi s
 have := Sep.back i os (x := y) (by rcases Nat.lt_or_ge i os.length with g | g; exact g; rw [List.getElem?_eq_none g] at hi; cases hi) e (hxy _ _ r) s
 exact Sep.mono _ (Sub.refl _) (Sub.XY t1 t2) this)
end
section
variable {P : Program} {n : Fr} {ρ : Option Nat} {σ : List (Nat × Value)} {w0 : World} {hA hV : Hp} {ps : List HP} {os : List HO} {Q : Cont} {c : Code} {α : Type} {k : Kd α} {xs : List α} {v p u : Value} {dd : Option Nat} {t tr : TypeId} {x y : Operand} {pos : String} {af : Array Edge} {g : Option (Nat × Bool)}
def IsEl (v : Value) (sz : Nat) (j : Int) (p : Value) : Prop := ∃ b o len cap, v = .slice (some ⟨b, o, none⟩) len cap ∧ 0 ≤ j ∧ j < len ∧ p = .pointer (some ⟨b, o + j.toNat * sz, none⟩)
def atP (p : Value) (cs : List Value) : HP := ⟨fun h => ∃ b o, p = .pointer (some ⟨b, o, none⟩) ∧ At h b o cs, fun _ _ s ⟨b, o, e, q⟩ => ⟨b, o, e, q.mono s⟩⟩
theorem Val.indexE {A : World → Prop} {e : TypeId} {ik : IntKind} {j : Int} {s : Nat} (hp : IsEl v s j p) (hu : P.underlying t = some (.slice e)) (hs : (P.info? e).map (·.size) = some s) (hx : ev σ x = some v) (hy : ev σ y = some (.int ik j)) :
    Val P n σ A ⟨dd, .indexAddr t x y, tr, pos, af, g⟩ p := fun a w ha _ => by
 obtain ⟨b, o, len, cap, rfl, h0, h1, rfl⟩ := hp
 have hadd : (⟨b, o, none⟩ : Addr).add (j.toNat * s) = ⟨b, o + j.toNat * s, none⟩ := by unfold Addr.add; split <;> simp_all
 simp [execOp, ha.eval hx, ha.eval hy, run_indexAt hu hs h0 h1, hadd]
theorem CP.openE {ι : Type} (see : Sees w0 hA hV) (i : Nat) {x0 : α} (hi : ps[i]? = some (elP k p x0)) (C : ι → List Value) (F : ι → List HP) (hk : ∀ h cs, k.rd h cs x0 → ∃ z, cs = C z ∧ All (F z) h)
    (h : ∀ z, CP P n ρ σ (St w0 hA hV (atP p (C z) :: F z ++ ps) os) c Q) : CP P n ρ σ (St w0 hA hV ps os) c Q := fun a w ha hw => by
 obtain ⟨m, fr, hN, hO, n1, n2, dj, s1, s2, ap, s⟩ := hw
 obtain ⟨b, o, cs, rfl, r, q⟩ := ap _ (List.mem_of_getElem? hi)
 obtain ⟨z, rfl, f⟩ := hk _ _ r
 refine h z a w ha ⟨m, fr, hN, hO, n1, n2, dj, s1, s2, fun y hy => ?_, s⟩
 simp only [List.cons_append, List.mem_cons, List.mem_append] at hy
 rcases hy with rfl | hy | hy
 ·exact ⟨b, o, rfl, q⟩
 ·exact f y hy
 ·exact ap y hy
theorem Val.Z7y (see : Sees w0 hA hV) (i : Nat) {cs : List Value} (hi : ps[i]? = some (atP p cs)) {dsc : TypeDesc} (hu : P.underlying t = some dsc) (hd : (match dsc with | .struct _ | .array _ _ => true | _ => false) = true) (hs : (P.info? t).map (·.size) = some cs.length) (hx : ev σ x = some p) :
    Val P n σ (St w0 hA hV ps os) ⟨dd, .load t x, tr, pos, af, g⟩ (.agg cs.toArray) := fun a w ha hw => by
 obtain ⟨b, o, rfl, q⟩ := St.pers i hi see.sub see.dj hw
 have := VJ (P := P) (w := w) (a := ⟨b, o, none⟩) (cs := cs) hu hd hs (fun j u hj => q.cell hj)
 simp [execOp, ha.eval hx, Instr.loadAt, Instr.sureAddr, this]
theorem Val.Z7z (see : Sees w0 hA hV) (i : Nat) (hi : ps[i]? = some (atP p [u])) {dsc : TypeDesc} (hu : P.underlying t = some dsc) (hd : (match dsc with | .struct _ | .array _ _ => true | _ => false) = false) (hx : ev σ x = some p) :
    Val P n σ (St w0 hA hV ps os) ⟨dd, .load t x, tr, pos, af, g⟩ u := fun a w ha hw => by
 obtain ⟨b, o, rfl, q⟩ := St.pers i hi see.sub see.dj hw
 have := q.cell (j := 0) (u := u) rfl
 simp only [Addr.add, if_true] at this
 simp [execOp, ha.eval hx, Instr.loadAt, Instr.sureAddr, XC hu hd this]
end
end Go.Q
