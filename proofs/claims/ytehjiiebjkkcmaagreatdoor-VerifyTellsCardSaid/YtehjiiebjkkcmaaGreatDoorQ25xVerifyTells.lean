/- Words of this seat: tables of numbers out of what a row says of the program's variables. -/
import Derived.Test.YtehjiiebjkkcmaaGreatDoorQ24xVerifyTells
import Derived.OpenShut
import Derived.MakeChecks
set_option linter.unusedVariables false
set_option linter.unusedSimpArgs false
namespace Go.Q
mutual
def plainD {H : Type} : DataW H → Option (List Value)
 | .lit (.int k n) => some [.int k n]
 | .lit (.bool b) => some [.bool b]
 | .agg ps => Um ps
 | _ => none
def Um {H : Type} : List (DataW H) → Option (List Value)
 | [] => some []
 | d :: r => (plainD d).bind fun a => (Um r).map fun b => a ++ b
end
def tiled (P : Program) (m : Nat) : Nat → List Field → Bool
 | o, [] => o == m
 | o, f :: r => f.offset == o && tiled P m (o + P.cellsOf f.type) r
def flatT (P : Program) : Nat → TypeId → Bool
 | 0, _ => false
 | k + 1, t => match P.underlying t with
  | some (.int _) => true
  | some .bool => true
  | some (.struct fs) => tiled P (P.cellsOf t) 0 fs.toList && fs.toList.all fun f => flatT P k f.type
  | some (.array n e) => P.cellsOf t == n * P.cellsOf e && flatT P k e
  | _ => false
section
variable {P : Program} {W : World} {H : Type} {enc : TypeId × Value → H} {base : Nat} {spare : Nat → Bool} {held : Bool}
theorem Z05 {m fuel k : Nat} {cs : List Value} (ih : ∀ (t : TypeId) (cs : List Value) (d : DataW H) (ps : List MemPlace) (vs : List Value), flatT P k t = true → DataW.trod enc P W base spare held fuel t cs = some (d, ps) → plainD d = some vs → cs = vs) (hl : cs.length = m) :
    ∀ (fs : List Field) (o : Nat) (xs : List (DataW H × List MemPlace)) (vs : List Value), tiled P m o fs = true → (fs.all fun f => flatT P k f.type) = true → o ≤ m →
     (fs.mapM fun f => DataW.trod enc P W base spare held fuel f.type ((cs.drop f.offset).take (P.cellsOf f.type))) = some xs → Um (xs.map (·.1)) = some vs → cs.drop o = vs
 | [], o, xs, vs, ht, _, _, hm, hp => by
  simp at hm; subst hm
  simp [Um] at hp; subst hp
  simp [tiled] at ht
  exact List.drop_of_length_le (by omega)
 | f :: fs, o, xs, vs, ht, ha, ho, hm, hp => by
  simp only [tiled, Bool.and_eq_true, beq_iff_eq] at ht
  simp only [List.all_cons, Bool.and_eq_true] at ha
  simp only [List.mapM_cons, Option.bind_eq_bind, Option.pure_def] at hm
  cases hz : DataW.trod enc P W base spare held fuel f.type ((cs.drop f.offset).take (P.cellsOf f.type)) with
  | none => simp [hz] at hm
  | some y =>
   cases hr : fs.mapM (fun f => DataW.trod enc P W base spare held fuel f.type ((cs.drop f.offset).take (P.cellsOf f.type))) with
   | none => simp [hz, hr] at hm
   | some ys =>
    simp [hz, hr] at hm
    subst hm
    simp only [List.map_cons, Um] at hp
    cases h1 : plainD y.1 with
    | none => simp [h1] at hp
    | some a =>
     cases h2 : Um (ys.map (·.1)) with
     | none => simp [h1, h2] at hp
     | some b =>
      simp [h1, h2] at hp
      subst hp
      have e1 := ih _ _ y.1 y.2 a ha.1 (by rw [hz]) h1
      have hle : o + P.cellsOf f.type ≤ m := by
       have : ∀ (l : List Field) (q : Nat), tiled P m q l = true → q ≤ m := by
        intro l
        induction l with
        | nil => intro q h; simp [tiled] at h; omega
        | cons g l il => intro q h; simp [tiled] at h; have := il _ h.2; omega
       exact this _ _ ht.2
      have e2 := Z05 ih hl fs (o + P.cellsOf f.type) ys b ht.2 ha.2 hle hr h2
      rw [← e1, ← e2, ht.1, ← List.drop_drop, List.take_append_drop]
theorem Z11 {n c fuel k : Nat} {e : TypeId} {cs : List Value} (ih : ∀ (t : TypeId) (cs : List Value) (d : DataW H) (ps : List MemPlace) (vs : List Value), flatT P k t = true → DataW.trod enc P W base spare held fuel t cs = some (d, ps) → plainD d = some vs → cs = vs) (he : flatT P k e = true) (hl : cs.length = n * P.cellsOf e) :
    ∀ (xs : List (DataW H × List MemPlace)) (vs : List Value) (i : Nat), i + xs.length = n → (∀ j, j < xs.length → DataW.trod enc P W base spare held fuel e ((cs.drop ((i + j) * P.cellsOf e)).take (P.cellsOf e)) = xs[j]?) → Um (xs.map (·.1)) = some vs → cs.drop (i * P.cellsOf e) = vs
 | [], vs, i, hn, _, hp => by
  simp [Um] at hp; subst hp
  simp at hn; subst hn
  exact List.drop_of_length_le (by omega)
 | y :: ys, vs, i, hn, hx, hp => by
  simp only [List.map_cons, Um] at hp
  cases h1 : plainD y.1 with
  | none => simp [h1] at hp
  | some a =>
   cases h2 : Um (ys.map (·.1)) with
   | none => simp [h1, h2] at hp
   | some b =>
    simp [h1, h2] at hp
    subst hp
    have z := hx 0 (by simp)
    simp only [Nat.add_zero, List.getElem?_cons_zero] at z
    have e1 := ih _ _ y.1 y.2 a he z h1
    have e2 := Z11 (n := n) (c := c) ih he hl ys b (i + 1) (by simp at hn; omega) (fun j hj => by
     have := hx (j + 1) (by simp; omega)
     rw [List.getElem?_cons_succ] at this
     rw [← this]; congr 4; omega) h2
    rw [← e1, ← e2, Nat.succ_mul, ← List.drop_drop, List.take_append_drop]
theorem Js : ∀ (k fuel : Nat) (t : TypeId) (cs : List Value) (d : DataW H) (ps : List MemPlace) (vs : List Value), flatT P k t = true → DataW.trod enc P W base spare held fuel t cs = some (d, ps) → plainD d = some vs → cs = vs
 | 0, _, _, _, _, _, _, hf, _, _ => by simp [flatT] at hf
 | k + 1, 0, _, _, _, _, _, _, h, _ => by simp [DataW.trod] at h
 | k + 1, fuel + 1, t, cs, d, ps, vs, hf, h, hp => by
  unfold flatT at hf
  split at hf
  ·rename_i ik hu
   obtain ⟨n, rfl, e, -⟩ := DataW.trod_int hu h
   simp at e; obtain ⟨rfl, -⟩ := e
   simp [plainD] at hp; exact hp
  ·rename_i hu
   unfold DataW.trod at h
   rw [hu] at h
   split at h <;> first | (simp at *; done) | skip
   simp at h; obtain ⟨rfl, -⟩ := h
   simp [plainD] at hp; exact hp
  ·rename_i fs hu
   simp only [Bool.and_eq_true] at hf
   unfold DataW.trod at h
   rw [hu] at h
   simp only at h
   split at h
   ·rename_i hl
    cases hm : (fs.toList.mapM fun f => DataW.trod enc P W base spare held fuel f.type ((cs.drop f.offset).take (P.cellsOf f.type))) with
    | none => rw [hm] at h; simp at h
    | some xs =>
     rw [hm] at h
     simp at h
     obtain ⟨rfl, -⟩ := h
     simp only [plainD] at hp
     exact Z05 (fun t cs d ps vs => Js k fuel t cs d ps vs) hl fs.toList 0 xs vs hf.1 hf.2 (Nat.zero_le _) hm hp
   ·cases h
  ·rename_i n e hu
   simp only [Bool.and_eq_true, beq_iff_eq] at hf
   obtain ⟨xs, m, hm, hx, hl, hn, hq⟩ := DataW.trod_array hu h
   obtain rfl : fuel = m := by omega
   simp at hx
   obtain ⟨rfl, -⟩ := hx
   simp only [plainD] at hp
   have := Z11 (n := n) (c := 0) (fun t cs d ps vs => Js k fuel t cs d ps vs) hf.2 (by rw [hl, hf.1]) xs vs 0 (by omega) (fun j hj => by rw [Nat.zero_add]; exact hq j (by omega)) hp
   simpa using this
  ·cases hf
theorem Z3m {n : String} {d : DataW Unit} : ∀ (l : List (String × DataW Unit)) (ps : List MemPlace), DataW.LaidVars P W l ps → (n, d) ∈ l →
    ∃ g t cs fuel p, P.globalNamed n = some g ∧ (P.globals[g]?).map (·.type) = some t ∧ W.var? P n = some cs ∧ DataW.trod (fun _ => ()) P W 0 (fun _ => true) false fuel t cs.toList = some (d, p)
 | [], _, _, hm => by cases hm
 | (n', d') :: r, ps, h, hm => by
  obtain ⟨g, t, cs, fuel, p, q, h1, h2, h3, h4, h5, -⟩ := h
  rcases List.mem_cons.1 hm with e | e
  ·cases e; exact ⟨g, t, cs, fuel, p, h1, h2, h3, h4⟩
  ·exact Z3m r q h5 e
theorem Z51 {l : List (String × DataW Unit)} {n : String} {d : DataW Unit} {g : Nat} {t : TypeId} {k : Nat} {vs : List Value} (h : laidMetH P l W) (hh : (l.all fun x => x.2.handleName?.isNone) = true) (hm : (n, d) ∈ l)
    (hg : P.globalNamed n = some g) (ht : (P.globals[g]?).map (·.type) = some t) (hf : flatT P k t = true) (hpl : plainD d = some vs) : ∃ c T fr, hp W g = some (.cells c T fr) ∧ c.toList = vs := by
 rw [MakeChecks.laidMetH_plain _ _ _ hh] at h
 obtain ⟨ps, hl, -⟩ := h
 obtain ⟨g', t', cs, fuel, p, h1, h2, h3, h4⟩ := Z3m _ _ hl hm
 obtain rfl : g' = g := Option.some.inj (h1.symm.trans hg)
 obtain rfl : t' = t := Option.some.inj (h2.symm.trans ht)
 have e := Js k fuel t' cs.toList d p vs hf h4 hpl
 unfold World.var? at h3
 rw [h1] at h3
 simp only [Option.bind_some] at h3
 split at h3
 ·rename_i c T fr hb
  cases h3
  exact ⟨cs, T, fr, hb, e⟩
 ·cases h3
theorem flat_get {α : Type} {z : Nat} {f : α → List Value} (hz : ∀ x, (f x).length = z) : ∀ (xs : List α) (j : Nat) (x : α), xs[j]? = some x → ∀ (i : Nat) (u : Value), (f x)[i]? = some u → (xs.flatMap f)[j * z + i]? = some u
 | [], _, _, h, _, _, _ => by simp at h
 | y :: xs, 0, x, h, i, u, hu => by
  simp at h; subst h
  rw [Nat.zero_mul, Nat.zero_add, List.flatMap_cons, List.getElem?_append_left (by have := Wd hu; exact this)]; exact hu
 | y :: xs, j + 1, x, h, i, u, hu => by
  have := flat_get hz xs j x (by simpa using h) i u hu
  rw [List.flatMap_cons, List.getElem?_append_right (by rw [hz, Nat.add_mul]; omega), hz, show (j + 1) * z + i - z = j * z + i by rw [Nat.add_mul]; omega]; exact this
theorem Z7D {α : Type} {kd : Kd α} {b : Nat} {xs : List α} (f : α → List Value) (hr : ∀ h x, kd.rd h (f x) x) (h : ∃ c T fr, hp W b = some (.cells c T fr) ∧ c.toList = xs.flatMap f) : (arrP kd b xs).p (hp W) := by
 obtain ⟨c, T, fr, e, q⟩ := h
 refine ⟨c, T, fr, e, fun j x hx => ⟨f x, hr _ _, fun i u hu => ?_⟩⟩
 rw [← Array.getElem?_toList, q]
 exact flat_get (fun x => kd.len _ _ _ (hr (hp W) x)) xs j x hx i u hu
end
end Go.Q
