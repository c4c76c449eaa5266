/- Plain laws of the law VerifyTells, its first part: what the program and the chapter tell of a module's rows and costs. -/
import Derived.Test.YtehjiiebjkkcmaaGreatDoorGVerifyTells
set_option linter.unusedVariables false
set_option linter.unusedSimpArgs false
set_option linter.unusedSectionVars false
namespace Go.Proofs.YtehjiiebjkkcmaaGreatDoor
open Go.Q
namespace Zw
inductive Kn | loop | again (a : Nat) | other
deriving DecidableEq
def opn (K : Nat → Kn) : Nat → List Nat
 | 0 => []
 | i + 1 => match K i with
  | .loop => i :: opn K i
  | .again _ => (opn K i).tail
  | .other => opn K i
def good (K : Nat → Kn) (i : Nat) : Prop := match K i with
 | .loop => (opn K i).length < 4
 | .again a => (opn K i).head? = some a
 | .other => True
theorem Ub (K : Nat → Kn) : ∀ (i : Nat), (∀ j, j < i → good K j) →
    (∀ f, f ∈ opn K i ↔ (K f = .loop ∧ f < i ∧ ∀ j, f < j → j < i → K j ≠ .again f)) ∧ (opn K i).Pairwise (· > ·) ∧ (opn K i).length ≤ 4
 | 0, _ => by simp [opn]
 | i + 1, hg => by
  obtain ⟨h1, h2, h3⟩ := Ub K i (fun j hj => hg j (by omega))
  have gi := hg i (by omega)
  unfold good at gi
  unfold opn
  cases hk : K i with
  | loop =>
   rw [hk] at gi
   simp only at gi ⊢
   refine ⟨fun f => ?_, ?_, by simp; omega⟩
   ·rw [List.mem_cons, h1]
    constructor
    ·rintro (rfl | ⟨a, b, c⟩)
     ·exact ⟨hk, by omega, fun j h1 h2 => by omega⟩
     ·refine ⟨a, by omega, fun j q1 q2 => ?_⟩
      by_cases e : j = i
      ·subst e; rw [hk]; exact fun z => Kn.noConfusion z
      ·exact c j q1 (by omega)
    ·rintro ⟨a, b, c⟩
     by_cases e : f = i
     ·exact .inl e
     ·exact .inr ⟨a, by omega, fun j q1 q2 => c j q1 (by omega)⟩
   ·rw [List.pairwise_cons]
    exact ⟨fun x hx => ((h1 x).1 hx).2.1, h2⟩
  | again a =>
   rw [hk] at gi
   simp only at gi ⊢
   cases ho : opn K i with
   | nil => rw [ho] at gi; cases gi
   | cons b T =>
    rw [ho] at gi h1 h2 h3
    simp at gi
    subst gi
    rw [List.pairwise_cons] at h2
    refine ⟨fun f => ?_, h2.2, by simp at h3; simp; omega⟩
    simp only [List.tail_cons]
    constructor
    ·intro hf
     obtain ⟨p, q, r⟩ := (h1 f).1 (List.mem_cons_of_mem _ hf)
     refine ⟨p, by omega, fun j q1 q2 => ?_⟩
     by_cases e : j = i
     ·subst e; rw [hk]; intro z; cases z
      have := h2.1 _ hf; omega
     ·exact r j q1 (by omega)
    ·rintro ⟨p, q, r⟩
     have hne : f ≠ i := by rintro rfl; rw [hk] at p; cases p
     have := (h1 f).2 ⟨p, by omega, fun j q1 q2 => r j q1 (by omega)⟩
     rcases List.mem_cons.1 this with e | e
     ·subst e; exact absurd hk (r i (by omega) (by omega))
     ·exact e
  | other =>
   simp only
   refine ⟨fun f => ?_, h2, h3⟩
   rw [h1]
   constructor
   ·rintro ⟨a, b, c⟩
    refine ⟨a, by omega, fun j q1 q2 => ?_⟩
    by_cases e : j = i
    ·subst e; rw [hk]; exact fun z => Kn.noConfusion z
    ·exact c j q1 (by omega)
   ·rintro ⟨a, b, c⟩
    have hne : f ≠ i := by rintro rfl; rw [hk] at a; cases a
    exact ⟨a, by omega, fun j q1 q2 => c j q1 (by omega)⟩
theorem Z0p {α : Type} [DecidableEq α] : ∀ (l m : List α), l.Nodup → (∀ x ∈ l, x ∈ m) → l.length ≤ m.length
 | [], _, _, _ => by simp
 | x :: l, m, hn, hs => by
  rw [List.nodup_cons] at hn
  have hx := hs x (by simp)
  have := Z0p l (m.erase x) hn.2 (fun y hy => (List.mem_erase_of_ne (by rintro rfl; exact hn.1 hy)).2 (hs y (by simp [hy])))
  rw [List.length_erase_of_mem hx] at this
  have : 0 < m.length := List.length_pos_of_mem hx
  simp; omega
def Pr (K : Nat → Kn) (n f t : Nat) : Prop := f < n ∧ t < n ∧ K f = .loop ∧ K t = .again f
def Ok1 (K : Nat → Kn) (n : Nat) : Prop := ∀ f, f < n → K f = .loop → ∃ t, Pr K n f t ∧ f ≤ t ∧ ∀ t', Pr K n f t' → t' = t
def Ok2 (K : Nat → Kn) (n : Nat) : Prop := ∀ t a, t < n → K t = .again a → a < n ∧ K a = .loop
def Nest (K : Nat → Kn) (n : Nat) : Prop := ∀ f t g u, Pr K n f t → Pr K n g u → f < g → g < t → u ≤ t
def Deep (n : Nat) (R : List (Nat × Nat)) : Prop := ∀ a, a < n → (R.filter fun x => decide (x.1 < a) && decide (a ≤ x.2)).length ≤ 4
def Run (K : Nat → Kn) (n : Nat) : Prop := (∀ i, i < n → good K i) ∧ opn K n = []
theorem KQ {K : Nat → Kn} {n t f : Nat} (h : ∀ i, i < n → good K i) (ht : t < n) (hk : K t = .again f) : ∃ T, opn K t = f :: T := by
 have := h t ht
 unfold good at this
 rw [hk] at this
 simp only at this
 cases ho : opn K t with
 | nil => rw [ho] at this; cases this
 | cons b T => rw [ho] at this; simp at this; subst this; exact ⟨T, rfl⟩
theorem UC {K : Nat → Kn} {n : Nat} (h : Run K n) : Ok1 K n ∧ Ok2 K n := by
 obtain ⟨hg, hn⟩ := h
 have mem := fun i (hi : i ≤ n) => Ub K i (fun j hj => hg j (by omega))
 have back : ∀ t a, t < n → K t = .again a → K a = .loop ∧ a < t ∧ ∀ j, a < j → j < t → K j ≠ .again a := by
  intro t a ht hk
  obtain ⟨T, hT⟩ := KQ hg ht hk
  exact ((mem t (by omega)).1 a).1 (by rw [hT]; simp)
 refine ⟨fun f hf hk => ?_, fun t a ht hk => ?_⟩
 ·have : ∃ t, f < t ∧ t < n ∧ K t = .again f := by
   refine Classical.byContradiction fun hc => ?_
   have : f ∈ opn K n := ((mem n (Nat.le_refl _)).1 f).2 ⟨hk, hf, fun j q1 q2 e => hc ⟨j, q1, q2, e⟩⟩
   rw [hn] at this; cases this
  obtain ⟨t, h1, h2, h3⟩ := this
  refine ⟨t, ⟨hf, h2, hk, h3⟩, by omega, fun t' ⟨_, p2, _, p4⟩ => ?_⟩
  obtain ⟨-, q2, q3⟩ := back t' f p2 p4
  obtain ⟨-, r2, r3⟩ := back t f h2 h3
  rcases Nat.lt_trichotomy t t' with z | z | z
  ·exact absurd h3 (q3 t h1 z)
  ·exact z.symm
  ·exact absurd p4 (r3 t' q2 z)
 ·obtain ⟨a1, a2, -⟩ := back t a ht hk
  exact ⟨by omega, a1⟩
theorem J4 {K : Nat → Kn} {n i : Nat} (hi : i ≤ n) (hg : ∀ j, j < i → good K j) (h1 : Ok1 K n) (f : Nat) : f ∈ opn K i ↔ ∃ t, Pr K n f t ∧ f < i ∧ i ≤ t := by
 rw [(Ub K i hg).1]
 constructor
 ·rintro ⟨a, b, c⟩
  obtain ⟨t, h, hl, -⟩ := h1 f (by omega) a
  refine ⟨t, h, b, ?_⟩
  rcases Nat.lt_or_ge t i with z | z
  ·have : f ≠ t := by rintro rfl; have := h.2.2; rw [this.1] at this; exact Kn.noConfusion this.2
   exact absurd h.2.2.2 (c t (by omega) z)
  ·exact z
 ·rintro ⟨t, h, b, c⟩
  refine ⟨h.2.2.1, b, fun j q1 q2 e => ?_⟩
  obtain ⟨t0, _, _, hu⟩ := h1 f h.1 h.2.2.1
  have e1 := hu t h
  have e2 := hu j ⟨h.1, by omega, h.2.2.1, e⟩
  omega
theorem Z4Q {K : Nat → Kn} {n : Nat} {R : List (Nat × Nat)} (hR : Ok1 K n → (∀ x, x ∈ R ↔ Pr K n x.1 x.2) ∧ (R.map (·.1)).Nodup) : Run K n ↔ Ok1 K n ∧ Ok2 K n ∧ Nest K n ∧ Deep n R := by
 constructor
 ·intro h
  obtain ⟨h1, h2⟩ := UC h
  obtain ⟨hg, hn⟩ := h
  obtain ⟨hm, hnd⟩ := hR h1
  refine ⟨h1, h2, fun f t g u p q hfg hgt => ?_, fun a ha => ?_⟩
  ·rcases Nat.lt_or_ge t u with z | z
   ·have mg : g ∈ opn K t := (J4 (n := n) (by have := p.2.1; omega) (fun j hj => hg j (by have := p.2.1; omega)) h1 g).2 ⟨u, q, hgt, by omega⟩
    obtain ⟨T, hT⟩ := KQ hg p.2.1 p.2.2.2
    have pw := (Ub K t (fun j hj => hg j (by have := p.2.1; omega))).2.1
    rw [hT] at mg pw
    rw [List.pairwise_cons] at pw
    rcases List.mem_cons.1 mg with e | e
    ·omega
    ·have := pw.1 _ e; omega
   ·exact z
  ·have l4 := (Ub K a (fun j hj => hg j (by omega))).2.2
   have : ((R.filter fun x => decide (x.1 < a) && decide (a ≤ x.2)).map (·.1)).length ≤ (opn K a).length := by
    refine Z0p _ _ (List.Nodup.sublist (List.Sublist.map _ List.filter_sublist) hnd) (fun f hf => ?_)
    rw [List.mem_map] at hf
    obtain ⟨x, hx, rfl⟩ := hf
    rw [List.mem_filter] at hx
    simp only [Bool.and_eq_true, decide_eq_true_eq] at hx
    exact (J4 (n := n) (by omega) (fun j hj => hg j (by omega)) h1 _).2 ⟨x.2, (hm x).1 hx.1, hx.2.1, hx.2.2⟩
   rw [List.length_map] at this
   omega
 ·rintro ⟨h1, h2, h3, h4⟩
  obtain ⟨hm, hnd⟩ := hR h1
  have hg : ∀ i, i ≤ n → ∀ j, j < i → good K j := by
   intro i
   induction i with
   | zero => intro _ j hj; omega
   | succ i ih =>
    intro hi j hj
    have ih := ih (by omega)
    by_cases e : j = i
    ·subst e
     unfold good
     obtain ⟨m1, m2, m3⟩ := Ub K j ih
     cases hk : K j with
     | loop =>
      simp only
      obtain ⟨t, p, hl, -⟩ := h1 j (by omega) hk
      have hne : j ≠ t := by rintro rfl; rw [p.2.2.1] at hk; have := p.2.2.2; rw [p.2.2.1] at this; exact Kn.noConfusion this
      have d := h4 (j + 1) (by have := p.2.1; omega)
      have : (j :: opn K j).length ≤ ((R.filter fun x => decide (x.1 < j + 1) && decide (j + 1 ≤ x.2)).map (·.1)).length := by
       refine Z0p _ _ ?_ (fun f hf => ?_)
       ·rw [List.nodup_cons]
        exact ⟨fun hc => by have := ((m1 j).1 hc).2.1; omega, m2.imp (fun h => by omega)⟩
       ·rw [List.mem_map]
        rcases List.mem_cons.1 hf with e | e
        ·subst e
         exact ⟨(f, t), List.mem_filter.2 ⟨(hm _).2 p, by simp; omega⟩, rfl⟩
        ·obtain ⟨u, q, q1, q2⟩ := (J4 (n := n) (by omega) ih h1 f).1 e
         have : u ≠ j := by rintro rfl; have := q.2.2.2; rw [hk] at this; exact Kn.noConfusion this
         exact ⟨(f, u), List.mem_filter.2 ⟨(hm _).2 q, by simp; omega⟩, rfl⟩
      rw [List.length_map, List.length_cons] at this
      omega
     | again a =>
      simp only
      obtain ⟨ha, hl⟩ := h2 j a (by omega) hk
      obtain ⟨t, p, q, hu⟩ := h1 a ha hl
      have e := hu j ⟨ha, by omega, hl, hk⟩
      subst e
      have hne : a ≠ j := by rintro rfl; rw [hl] at hk; exact Kn.noConfusion hk
      have ma : a ∈ opn K j := (J4 (n := n) (by omega) ih h1 a).2 ⟨j, p, by omega, by omega⟩
      cases ho : opn K j with
      | nil => rw [ho] at ma; cases ma
      | cons b T =>
       rw [ho] at ma m2
       rcases List.mem_cons.1 ma with e | e
       ·subst e; rfl
       ·rw [List.pairwise_cons] at m2
        have hab := m2.1 _ e
        obtain ⟨u, r, r1, r2⟩ := (J4 (n := n) (by omega) ih h1 b).1 (by rw [ho]; simp)
        have := h3 a j b u p r hab r1
        have : u = j := by omega
        subst this
        have := r.2.2.2
        rw [hk] at this
        cases this
        omega
     | other => trivial
    ·exact ih j (by omega)
  have hg := hg n (Nat.le_refl _)
  refine ⟨hg, ?_⟩
  rw [List.eq_nil_iff_forall_not_mem]
  intro f hf
  obtain ⟨t, p, -, q⟩ := (J4 (n := n) (Nat.le_refl _) hg h1 f).1 hf
  have := p.2.1
  omega
def RL (K : Nat → Kn) (n : Nat) : List (Nat × Nat) := (List.range n).flatMap fun f => if K f = .loop then ((List.range n).filter fun t => decide (K t = .again f)).map fun t => (f, t) else []
def OL (K : Nat → Kn) (n : Nat) : List (Nat × Nat) := (List.range n).filterMap fun t => match K t with | .again a => some (a, t) | _ => none
theorem TA {K : Nat → Kn} {n : Nat} (x : Nat × Nat) : x ∈ RL K n ↔ Pr K n x.1 x.2 := by
 unfold RL Pr
 rw [List.mem_flatMap]
 constructor
 ·rintro ⟨f, hf, hx⟩
  split at hx
  ·rename_i hk
   rw [List.mem_map] at hx
   obtain ⟨t, ht, rfl⟩ := hx
   rw [List.mem_filter] at ht
   simp only [List.mem_range, decide_eq_true_eq] at ht hf
   exact ⟨hf, ht.1, hk, ht.2⟩
  ·cases hx
 ·rintro ⟨h1, h2, h3, h4⟩
  refine ⟨x.1, List.mem_range.2 h1, ?_⟩
  rw [if_pos h3, List.mem_map]
  exact ⟨x.2, List.mem_filter.2 ⟨List.mem_range.2 h2, by simpa using h4⟩, rfl⟩
theorem Z0q {K : Nat → Kn} {n : Nat} (h : Ok1 K n) : (RL K n).Pairwise fun x y => x.1 < y.1 := by
 unfold RL
 rw [List.pairwise_flatMap]
 refine ⟨fun f hf => ?_, ?_⟩
 ·split
  ·rename_i hk
   obtain ⟨t, -, -, hu⟩ := h f (List.mem_range.1 hf) hk
   rw [List.pairwise_map]
   refine List.Pairwise.imp_of_mem (R := fun a b => a ≠ b) (fun {a b} ha hb hne => absurd ?_ hne) (List.nodup_range.sublist List.filter_sublist)
   rw [List.mem_filter, List.mem_range, decide_eq_true_eq] at ha hb
   rw [hu a ⟨List.mem_range.1 hf, ha.1, hk, ha.2⟩, hu b ⟨List.mem_range.1 hf, hb.1, hk, hb.2⟩]
  ·exact List.Pairwise.nil
 ·refine List.pairwise_lt_range.imp fun {a b} hab x hx y hy => ?_
  have e : ∀ f, ∀ z ∈ (if K f = .loop then ((List.range n).filter fun t => decide (K t = .again f)).map fun t => (f, t) else []), z.1 = f := by
   intro f z hz
   split at hz
   ·rw [List.mem_map] at hz; obtain ⟨_, _, rfl⟩ := hz; rfl
   ·cases hz
  rw [e a x hx, e b y hy]; exact hab
theorem Z3T {K : Nat → Kn} {n : Nat} (h : Ok1 K n) : ((RL K n).map (·.1)).Nodup := by
 show List.Pairwise _ _
 rw [List.pairwise_map]
 exact (Z0q h).imp fun h => Nat.ne_of_lt h
theorem Z1S {K : Nat → Kn} {n : Nat} (h : Ok2 K n) (x : Nat × Nat) : x ∈ OL K n ↔ Pr K n x.1 x.2 := by
 unfold OL Pr
 rw [List.mem_filterMap]
 constructor
 ·rintro ⟨t, ht, hx⟩
  cases hk : K t with
  | again a =>
   rw [hk] at hx
   simp at hx
   subst hx
   obtain ⟨h1, h2⟩ := h t a (List.mem_range.1 ht) hk
   exact ⟨h1, List.mem_range.1 ht, h2, hk⟩
  | loop => rw [hk] at hx; cases hx
  | other => rw [hk] at hx; cases hx
 ·rintro ⟨h1, h2, h3, h4⟩
  exact ⟨x.2, List.mem_range.2 h2, by rw [h4]⟩
theorem Z4e {K : Nat → Kn} {n : Nat} (h1 : Ok1 K n) (h2 : Ok2 K n) : (OL K n).Pairwise fun x y => x.1 ≠ y.1 := by
 unfold OL
 rw [List.pairwise_filterMap]
 refine List.Pairwise.imp_of_mem (R := fun a b => a ≠ b) (fun {a b} ha hb hne x hx y hy => ?_) List.nodup_range
 rw [List.mem_range] at ha hb
 have key : ∀ t x, t < n → (match K t with | .again a => some (a, t) | _ => none) = some x → Pr K n x.1 t := by
  intro t x ht hx
  have := (Z1S h2 x).1 (List.mem_filterMap.2 ⟨t, List.mem_range.2 ht, hx⟩)
  have e : x.2 = t := by
   cases hk : K t with
   | again a => rw [hk] at hx; simp at hx; subst hx; rfl
   | loop => rw [hk] at hx; cases hx
   | other => rw [hk] at hx; cases hx
  rwa [e] at this
 intro e
 have p := key a x ha hx
 have q := key b y hb hy
 rw [← e] at q
 obtain ⟨t, -, -, hu⟩ := h1 _ p.1 p.2.2.1
 exact hne ((hu a p).trans (hu b q).symm)
theorem Z2F {α : Type} {key : α → Int} : ∀ (l m : List α), l.Pairwise (fun x y => key x < key y) → m.Pairwise (fun x y => key x < key y) → (∀ x, x ∈ l ↔ x ∈ m) → l = m
 | [], [], _, _, _ => rfl
 | [], y :: m, _, _, h => absurd ((h y).2 (by simp)) (by simp)
 | x :: l, [], _, _, h => absurd ((h x).1 (by simp)) (by simp)
 | x :: l, y :: m, hl, hm, h => by
  rw [List.pairwise_cons] at hl hm
  have hxy : x = y := by
   rcases List.mem_cons.1 ((h x).1 (by simp)) with e | e
   ·exact e
   ·rcases List.mem_cons.1 ((h y).2 (by simp)) with e' | e'
    ·exact e'.symm
    ·have := hl.1 _ e'; have := hm.1 _ e; omega
  subst hxy
  rw [Z2F l m hl.2 hm.2 fun z => ?_]
  constructor
  ·intro hz
   rcases List.mem_cons.1 ((h z).1 (List.mem_cons_of_mem _ hz)) with e | e
   ·subst e; have := hl.1 _ hz; omega
   ·exact e
  ·intro hz
   rcases List.mem_cons.1 ((h z).2 (List.mem_cons_of_mem _ hz)) with e | e
   ·subst e; have := hm.1 _ hz; omega
   ·exact e
theorem Z62 {α : Type} {key : α → Int} {g : Nat × Nat → α} (hkey : ∀ x, key (g x) = (x.1 : Int)) {K : Nat → Kn} {n : Nat} (h1 : Ok1 K n) (h2 : Ok2 K n) {s : List α} (hp : s.Perm ((OL K n).map g)) (hs : s.Pairwise fun x y => key x ≤ key y) : s = (RL K n).map g := by
 refine Z2F (key := key) s _ ?_ ?_ fun x => ?_
 ·have hd : s.Pairwise fun x y => key x ≠ key y := by
   refine (hp.pairwise_iff (fun {x y} h => Ne.symm h)).2 ?_
   rw [List.pairwise_map]
   refine (Z4e h1 h2).imp fun {a b} h => ?_
   rw [hkey, hkey]; omega
  exact (hs.and hd).imp fun ⟨a, b⟩ => by omega
 ·rw [List.pairwise_map]
  refine (Z0q h1).imp fun {a b} h => ?_
  rw [hkey, hkey]; omega
 ·rw [hp.mem_iff, List.mem_map, List.mem_map]
  constructor
  ·rintro ⟨a, ha, rfl⟩; exact ⟨a, (TA a).2 ((Z1S h2 a).1 ha), rfl⟩
  ·rintro ⟨a, ha, rfl⟩; exact ⟨a, (Z1S h2 a).2 ((TA a).1 ha), rfl⟩
def FL (K : Nat → Kn) (n f : Nat) : List Nat := (List.range n).filter fun t => decide (K t = .again f)
theorem Z0r {K : Nat → Kn} {n f t : Nat} : t ∈ FL K n f ↔ t < n ∧ K t = .again f := by
 unfold FL; rw [List.mem_filter, List.mem_range, decide_eq_true_eq]
theorem Z2q {K : Nat → Kn} {n : Nat} : Ok1 K n ↔ ∀ f, f < n → K f = .loop → ∃ t, FL K n f = [t] ∧ f ≤ t := by
 constructor
 ·intro h f hf hk
  obtain ⟨t, p, hl, hu⟩ := h f hf hk
  refine ⟨t, ?_, hl⟩
  have hn : (FL K n f).Nodup := List.nodup_range.sublist List.filter_sublist
  have ha : ∀ x ∈ FL K n f, x = t := fun x hx => hu x ⟨hf, (Z0r.1 hx).1, hk, (Z0r.1 hx).2⟩
  have hm : t ∈ FL K n f := Z0r.2 ⟨p.2.1, p.2.2.2⟩
  cases hF : FL K n f with
  | nil => rw [hF] at hm; cases hm
  | cons a r =>
   rw [hF] at hn ha
   obtain rfl := ha a (by simp)
   cases r with
   | nil => rfl
   | cons b r =>
    obtain rfl := ha b (by simp)
    simp at hn
 ·intro h f hf hk
  obtain ⟨t, e, hl⟩ := h f hf hk
  have hm := Z0r.1 (show t ∈ FL K n f by rw [e]; simp)
  refine ⟨t, ⟨hf, hm.1, hk, hm.2⟩, hl, fun t' p => ?_⟩
  have := Z0r.2 ⟨p.2.1, p.2.2.2⟩
  rw [e] at this
  simpa using this
end Zw
namespace Zw
theorem Z6U (d : Array Ym) : (srt73 d).toList.Perm d.toList ∧ (srt73 d).toList.Pairwise (fun x y => x.From ≤ y.From) := by
 obtain ⟨⟨h1, -, h2⟩, h3⟩ := Z13 d
 refine ⟨?_, ?_⟩
 ·have e1 : (srt73 d).extract 0 d.size = srt73 d := by rw [← h1]; simp
  have e2 : d.extract 0 d.size = d := by simp
  rw [e1, e2] at h2
  exact h2
 ·rw [List.pairwise_iff_getElem]
  intro i j hi hj hij
  have hi' : i < (srt73 d).size := by simpa using hi
  have hj' : j < (srt73 d).size := by simpa using hj
  have := h3 i j (Nat.zero_le _) hij (by omega)
  rw [lt73, getElem!_pos (srt73 d) i hi', getElem!_pos (srt73 d) j hj'] at this
  have := of_decide_eq_false this
  simp only [Array.getElem_toList]
  omega
end Zw
namespace Zw
theorem Vr {S R : Type} {F : S → Option (S ⊕ R)} {n : Nat} {b : R} (s : Nat → S) (p : Nat → Prop) (hs : ∀ k, k < n → (∀ j, j < k → p j) → p k → runF F (s k) = runF F (s (k + 1))) (hb : ∀ k, k < n → (∀ j, j < k → p j) → ¬ p k → runF F (s k) = some b) :
    ((∀ k, k < n → p k) → runF F (s 0) = runF F (s n)) ∧ (¬ (∀ k, k < n → p k) → runF F (s 0) = some b) := by
 have key : ∀ m, m ≤ n → (∀ j, j < m → p j) → runF F (s 0) = runF F (s m) := by
  intro m
  induction m with
  | zero => intro _ _; rfl
  | succ m ih => intro hm hp; rw [ih (by omega) (fun j hj => hp j (by omega)), hs m (by omega) (fun j hj => hp j (by omega)) (hp m (by omega))]
 have key2 : ∀ m, m ≤ n → (∀ j, j < m → p j) ∨ runF F (s 0) = some b := by
  intro m
  induction m with
  | zero => intro _; left; intro j hj; omega
  | succ m ih =>
   intro hm
   rcases ih (by omega) with h | h
   ·by_cases hp : p m
    ·left; intro j hj
     by_cases e : j = m
     ·subst e; exact hp
     ·exact h j (by omega)
    ·right; rw [key m (by omega) h, hb m (by omega) h hp]
   ·right; exact h
 refine ⟨key n (Nat.le_refl _), fun h => ?_⟩
 rcases key2 n (Nat.le_refl _) with h' | h'
 ·exact absurd h' h
 ·exact h'
theorem Uk {S R : Type} {F : S → Option (S ⊕ R)} {n : Nat} {b : R} {a : Nat → R} (s : Nat → S) (p : Nat → Bool) (hs : ∀ k, k < n → F (s k) = some (if p k then .inr (a k) else .inl (s (k + 1)))) (hb : F (s n) = some (.inr b)) :
    ∃ r, runF F (s 0) = some r ∧ ((∃ k, k < n ∧ p k = true ∧ r = a k) ∨ ((∀ k, k < n → p k = false) ∧ r = b)) := by
 have key : ∀ m k, k + m = n → (∀ j, j < k → p j = false) → ∃ r, runF F (s k) = some r ∧ ((∃ k, k < n ∧ p k = true ∧ r = a k) ∨ ((∀ k, k < n → p k = false) ∧ r = b)) := by
  intro m
  induction m with
  | zero => intro k e h; obtain rfl : k = n := by omega
            exact ⟨b, Zf hb, .inr ⟨h, rfl⟩⟩
  | succ m ih =>
   intro k e h
   have hk := hs k (by omega)
   cases hp : p k with
   | true => rw [hp] at hk; exact ⟨a k, Zf hk, .inl ⟨k, by omega, hp, rfl⟩⟩
   | false =>
    rw [hp] at hk
    rw [Zc hk]
    refine ih (k + 1) (by omega) fun j hj => ?_
    by_cases e : j = k
    ·subst e; exact hp
    ·exact h j (by omega)
 exact key n 0 (by omega) (fun j hj => by omega)
theorem K6 (k : Nat) (h : 0 < k) (h2 : k < 4611686018427387904) : IntKind.i64.wrap ((k : Int) - 1) = ((k - 1 : Nat) : Int) := by
 rw [Xr (by omega) (by omega)]; omega
theorem V7 {α : Type} {xs : List α} {i : Int} (h0 : 0 ≤ i) (h : i.toNat < xs.length) : elt xs i = some xs[i.toNat] := by
 unfold elt; rw [if_pos h0, List.getElem?_eq_getElem h]
theorem Z0T {i : Z7} (h : Y4 i) : 0 ≤ i.Op ∧ i.Op < 256 := by
 have := h.1
 simp [Lit.wf, IntKind.min, IntKind.max, IntKind.signed, IntKind.bits] at this
 omega
theorem Z4f (n : Fin 256) : (Wm.f (n.1 : Int)).isSome = true := by
 revert n; decide +kernel
theorem Z2G {x : Int} (h0 : 0 ≤ x) (h1 : x < 256) : ∃ b, Wm.f x = some b := by
 obtain ⟨n, rfl⟩ := Int.eq_ofNat_of_zero_le h0
 exact Option.isSome_iff_exists.1 (Z4f ⟨n, by omega⟩)
def may (i : Z7) : Bool := match Wm.f i.Op with
 | some b => ((decide (i.A ≥ b.1)) && (decide (i.A ≤ b.2))) && (decide (i.B = 0))
 | none => false
theorem Z63 {i : Z7} (h : Y4 i) : KO.f i = some (may i) := by
 obtain ⟨h0, h1⟩ := Z0T h
 obtain ⟨b, hb⟩ := Z2G h0 h1
 unfold KO.f may
 rw [hb]; rfl
theorem VZ {i : Z7} (h : may i = true) (ho : i.Op = 26 ∨ i.Op = 27 ∨ i.Op = 29) : 0 ≤ i.A ∧ i.A ≤ 199 ∧ i.B = 0 := by
 unfold may at h
 have e : Wm.f i.Op = some (0, 199) := by rcases ho with e | e | e <;> rw [e] <;> decide +kernel
 rw [e] at h
 simp at h; omega
theorem Z0s {l : List Z7} (hl : l.length < 4611686018427387904) (hw : ∀ x ∈ l, Y4 x) : X7.f l = some (l.any fun x => !may x) := by
 unfold X7.f ZO.f
 rw [Zc (t := .l1 ((0 : Nat) : Int)) rfl]
 obtain ⟨r, hr, hc⟩ := Uk (F := ZO.F l) (n := l.length) (b := -1) (a := fun k => (k : Int)) (fun k => .l1 (k : Int)) (fun k => if h : k < l.length then !may l[k] else false) (fun k hk => by
  dsimp only [ZO.F]
  rw [if_pos (by omega), Zp hk]
  simp only [Option.bind_some]
  unfold Tk.f
  rw [Z63 (hw _ (List.getElem_mem hk))]
  simp only [Option.bind_some, dif_pos hk, Zl k (by omega)]
  cases may l[k] <;> rfl) (by dsimp only [ZO.F]; rw [if_neg (by omega)])
 rw [hr]
 simp only [Option.bind_some]
 congr 1
 rw [Bool.eq_iff_iff]
 simp only [decide_eq_true_eq, List.any_eq_true]
 rcases hc with ⟨k, hk, hp, rfl⟩ | ⟨hn, rfl⟩
 ·rw [dif_pos hk] at hp
  exact ⟨fun _ => ⟨_, List.getElem_mem hk, hp⟩, fun _ => by omega⟩
 ·refine ⟨fun h => by omega, fun ⟨x, hx, hp⟩ => ?_⟩
  obtain ⟨k, hk, rfl⟩ := List.mem_iff_getElem.1 hx
  have := hn k hk
  rw [dif_pos hk, hp] at this; cases this
end Zw
namespace Zw
def KK (l : List Z7) (k : Nat) : Kn := match l[k]? with
 | some x => if x.Op = 28 then .loop else if x.Op = 29 then .again x.A.toNat else .other
 | none => .other
def turns (l : List Z7) (k : Nat) : Int := (l.getD k Z7.zero).A
def gF (l : List Z7) (x : Nat × Nat) : Ym := ⟨x.1, x.2, turns l x.1⟩
def arr (K : Nat → Kn) : Nat → List Int
 | 0 => List.replicate 4 0
 | i + 1 => match K i with
  | .loop => (arr K i).set (opn K i).length i
  | _ => arr K i
theorem Z6V (K : Nat → Kn) (i : Nat) : arr K (i + 1) = match K i with
    | .loop => (arr K i).set (opn K i).length i
    | _ => arr K i := rfl
theorem Z6W (K : Nat → Kn) (i : Nat) : opn K (i + 1) = match K i with
    | .loop => i :: opn K i
    | .again _ => (opn K i).tail
    | .other => opn K i := rfl
theorem take_set {α : Type} {v : α} : ∀ (a : List α) (m : Nat), m < a.length → (a.set m v).take (m + 1) = a.take m ++ [v]
 | [], m, h => by simp at h
 | x :: a, 0, h => by simp
 | x :: a, m + 1, h => by
  have := take_set (v := v) a m (by simpa using h)
  simp only [List.set_cons_succ, List.take_succ_cons, this, List.cons_append]
theorem Z2r (K : Nat → Kn) : ∀ i, (arr K i).length = 4
 | 0 => rfl
 | i + 1 => by unfold arr; split <;> simp [Z2r K i]
theorem Z3U (K : Nat → Kn) : ∀ (i : Nat), (∀ j, j < i → good K j) → (arr K i).take (opn K i).length = (opn K i).reverse.map fun (x : Nat) => (x : Int)
 | 0, _ => rfl
 | i + 1, hg => by
  have ih := Z3U K i (fun j hj => hg j (by omega))
  have gi := hg i (by omega)
  unfold good at gi
  rw [Z6V, Z6W]
  cases hk : K i with
  | loop =>
   rw [hk] at gi
   simp only at gi ⊢
   rw [List.length_cons, take_set _ _ (by rw [Z2r]; omega), ih]
   simp
  | again a =>
   rw [hk] at gi
   simp only at gi ⊢
   cases ho : opn K i with
   | nil => rw [ho] at gi; cases gi
   | cons b T =>
    rw [ho] at ih
    simp only [List.tail_cons]
    simp only [List.length_cons, List.reverse_cons, List.map_append, List.map_cons, List.map_nil] at ih
    have : (arr K i).take T.length = ((arr K i).take (T.length + 1)).take T.length := by
     rw [List.take_take]; congr 1; omega
    rw [this, ih, List.take_append_of_le_length (by simp), List.take_of_length_le (by simp)]
  | other => exact ih
theorem Z2s (K : Nat → Kn) (i : Nat) : OL K (i + 1) = OL K i ++ (match K i with | .again a => [(a, i)] | _ => []) := by
 unfold OL
 rw [List.range_succ, List.filterMap_append]
 congr 1
 cases h : K i <;> simp [h]
theorem Z5n (K : Nat → Kn) (i : Nat) : (OL K i).length ≤ i := by
 unfold OL
 exact Nat.le_trans (List.length_filterMap_le _ _) (by simp)
theorem Z0U {l : List Z7} {k : Nat} (h : k < l.length) : KK l k = if l[k].Op = 28 then .loop else if l[k].Op = 29 then .again l[k].A.toNat else .other := by
 unfold KK; rw [List.getElem?_eq_getElem h]
theorem Z3V {l : List Z7} {k : Nat} (h : k < l.length) : turns l k = l[k].A := by
 unfold turns; rw [List.getD_eq_getElem?_getD, List.getElem?_eq_getElem h]; rfl
theorem Jl {l : List Z7} {k f : Nat} (hk : k < l.length) (hm : ∀ x ∈ l, may x = true) : KK l k = .again f ↔ (l[k].Op = 29 ∧ l[k].A = f) := by
 rw [Z0U hk]
 constructor
 ·intro h
  split at h
  ·cases h
  ·split at h
   ·rename_i h28 h29
    have := VZ (hm _ (List.getElem_mem hk)) (.inr (.inr h29))
    cases h
    exact ⟨h29, by omega⟩
   ·cases h
 ·rintro ⟨h29, hA⟩
  rw [if_neg (by omega), if_pos h29, hA]; rfl
theorem KG {l : List Z7} {k : Nat} (hk : k < l.length) : KK l k = .loop ↔ l[k].Op = 28 := by
 rw [Z0U hk]
 constructor
 ·intro h
  split at h
  ·assumption
  ·split at h <;> cases h
 ·intro h; rw [if_pos h]
def RLp (K : Nat → Kn) (n m : Nat) : List (Nat × Nat) := (List.range m).flatMap fun f => if K f = .loop then (FL K n f).map fun t => (f, t) else []
theorem Z8d (K : Nat → Kn) (n : Nat) : RLp K n n = RL K n := rfl
theorem Z1m (K : Nat → Kn) (n m : Nat) : RLp K n (m + 1) = RLp K n m ++ (if K m = .loop then (FL K n m).map fun t => (m, t) else []) := by
 unfold RLp
 rw [List.range_succ, List.flatMap_append]
 simp
def p1 (K : Nat → Kn) (n k : Nat) : Prop := K k = .loop → ∃ t, FL K n k = [t] ∧ k ≤ t
def p2 (K : Nat → Kn) (n k : Nat) : Prop := ∀ a, K k = .again a → a < n ∧ K a = .loop
theorem Z0t {K : Nat → Kn} {n : Nat} : ∀ (m : Nat), (∀ j, j < m → p1 K n j) → (RLp K n m).length ≤ m
 | 0, _ => by simp [RLp]
 | m + 1, h => by
  have ih := Z0t m (fun j hj => h j (by omega))
  rw [Z1m, List.length_append]
  split
  ·rename_i hk
   obtain ⟨t, ht, -⟩ := h m (by omega) hk
   rw [ht]; simp; omega
  ·simp; omega
theorem Z0u {l : List Z7} (h1 : Ok1 (KK l) l.length) : (RL (KK l) l.length).length ≤ l.length := by
 rw [← Z8d]; exact Z0t _ (Z2q.1 h1)
def st (l : List Z7) (k : Nat) : Y5.S := .l1 (arr (KK l) k) (opn (KK l) k).length ((OL (KK l) k).map (gF l)) k
theorem Z4g {l : List Z7} (hl : l.length ≤ 200) (hm : ∀ x ∈ l, may x = true) :
    ((∀ k, k < l.length → good (KK l) k) → runF (Y5.F l) (st l 0) = runF (Y5.F l) (st l l.length)) ∧ (¬ (∀ k, k < l.length → good (KK l) k) → runF (Y5.F l) (st l 0) = some ([], 90)) := by
 refine Vr (F := Y5.F l) (st l) (good (KK l)) (fun k hk hg hp => Zc ?_) (fun k hk hg hp => Zf ?_)
 all_goals
  have hkk := Z0U hk
  have m4 := (Ub (KK l) k hg).2.2
  have hat := Z3U (KK l) k hg
  have hal := Z2r (KK l) k
  dsimp only [st, Y5.F]
  rw [if_pos (by omega), Zp hk]
  simp only [Option.bind_some]
 ·-- goes on
  by_cases h28 : l[k].Op = 28
  ·rw [if_pos h28] at hkk
   unfold good at hp
   rw [hkk] at hp
   simp only at hp
   rw [if_pos h28]
   unfold Vw.f
   rw [if_neg (by omega), Zp (by omega)]
   simp only [Option.bind_some]
   rw [if_neg (by simp)]
   unfold Y5.j2
   rw [Zl _ (by omega), Zl _ (by omega), Z2s, hkk]
   simp only [arr, opn, hkk, List.length_cons, Int.toNat_natCast, List.append_nil]
  ·rw [if_neg h28] at hkk
   rw [if_neg h28]
   by_cases h29 : l[k].Op = 29
   ·rw [if_pos h29] at hkk
    rw [if_pos h29]
    have hA := VZ (hm _ (List.getElem_mem hk)) (.inr (.inr h29))
    unfold good at hp
    rw [hkk] at hp
    simp only at hp
    cases ho : opn (KK l) k with
    | nil => rw [ho] at hp; cases hp
    | cons b T =>
     rw [ho] at hp hat m4
     simp only [List.head?_cons, Option.some.injEq] at hp
     have hb : b < k := ((Ub (KK l) k hg).1 b).1 (by rw [ho]; simp) |>.2.1
     have hbl : b < l.length := by omega
     have hel : elt (arr (KK l) k) (IntKind.i64.wrap (((b :: T).length : Int) - 1)) = some (b : Int) := by
      simp only [List.length_cons] at hat m4 ⊢
      rw [K6 _ (by omega) (by omega), Ju]
      have := congrArg (fun z => z[T.length]?) hat
      simp only [List.reverse_cons, List.map_append, List.map_cons, List.map_nil] at this
      rw [List.getElem?_take_of_lt (by omega), List.getElem?_append_right (by simp)] at this
      simpa using this
     unfold XL.f
     rw [if_neg (by simp; omega), hel]
     simp only [Option.bind_some]
     have hbA : l[k].A = (b : Int) := by omega
     rw [← hp] at hkk
     unfold XL.j1
     rw [if_neg (by simp [hbA])]
     simp only [Option.bind_some, Bool.not_true, Bool.false_eq_true, if_false]
     rw [hbA, Zp hbl]
     simp only [Option.bind_some]
     rw [if_pos (by have := Z5n (KK l) k; simp; omega)]
     unfold Y5.j2
     rw [Zl _ (by omega), Z2s, hkk]
     simp only [List.length_cons] at m4 ⊢
     rw [K6 _ (by omega) (by omega)]
     simp only [arr, opn, hkk, ho, List.tail_cons, List.map_append, List.map_cons, List.map_nil, gF, Z3V hbl, Nat.add_sub_cancel]
   ·rw [if_neg h29] at hkk
    rw [if_neg h29]
    unfold Y5.j2
    rw [Zl _ (by omega), Z2s, hkk]
    simp only [arr, opn, hkk, List.append_nil]
 ·-- stops
  by_cases h28 : l[k].Op = 28
  ·rw [if_pos h28] at hkk
   unfold good at hp
   rw [hkk] at hp
   simp only at hp
   rw [if_pos h28]
   unfold Vw.f
   rw [if_pos (by omega)]
   rfl
  ·rw [if_neg h28] at hkk
   rw [if_neg h28]
   by_cases h29 : l[k].Op = 29
   ·rw [if_pos h29] at hkk
    rw [if_pos h29]
    have hA := VZ (hm _ (List.getElem_mem hk)) (.inr (.inr h29))
    unfold good at hp
    rw [hkk] at hp
    simp only at hp
    unfold XL.f
    cases ho : opn (KK l) k with
    | nil => rw [if_pos (by simp)]; rfl
    | cons b T =>
     rw [ho] at hp hat m4
     simp only [List.head?_cons, Option.some.injEq] at hp
     have hel : elt (arr (KK l) k) (IntKind.i64.wrap (((b :: T).length : Int) - 1)) = some (b : Int) := by
      simp only [List.length_cons] at hat m4 ⊢
      rw [K6 _ (by omega) (by omega), Ju]
      have := congrArg (fun z => z[T.length]?) hat
      simp only [List.reverse_cons, List.map_append, List.map_cons, List.map_nil] at this
      rw [List.getElem?_take_of_lt (by omega), List.getElem?_append_right (by simp)] at this
      simpa using this
     rw [if_neg (by simp; omega), hel]
     simp only [Option.bind_some]
     unfold XL.j1
     rw [if_pos (by simp; omega)]
     rfl
   ·rw [if_neg h29] at hkk
    unfold good at hp
    rw [hkk] at hp
    exact absurd trivial hp
end Zw
namespace Zw
def hasB (x : Ym) (a : Int) : Bool := (decide (a > x.From)) && (decide (a ≤ x.To))
theorem Z1n {x : Ym} {a : Int} : hasB x a = true ↔ x.From < a ∧ a ≤ x.To := by
 unfold hasB; rw [Bool.and_eq_true, decide_eq_true_eq, decide_eq_true_eq]
theorem Z4R {x : Ym} {a : Int} : hasB x a = false ↔ ¬ (x.From < a ∧ a ≤ x.To) := by
 rw [← Z1n, Bool.not_eq_true]
theorem Z2Y {s : List Ym} {a b c d : Int} (hl : s.length < 4611686018427387904) : Yp.f s a b c d = some (s.any fun x => hasB x b && !hasB x d) := by
 unfold Yp.f ZP.f
 rw [Zc (t := .l1 ((0 : Nat) : Int)) rfl]
 obtain ⟨r, hr, hc⟩ := Uk (F := ZP.F s a b c d) (n := s.length) (b := -1) (a := fun k => (k : Int)) (fun k => .l1 (k : Int)) (fun k => if h : k < s.length then hasB s[k] b && !hasB s[k] d else false) (fun k hk => by
  dsimp only [ZP.F]
  rw [if_pos (by omega), Zp hk]
  simp only [Option.bind_some]
  have : VN.f s[k] a b c d = some (hasB s[k] b && !hasB s[k] d) := by
   unfold VN.f VO.f
   simp only [Option.bind_some]
   show ((if hasB s[k] b = true then some (!hasB s[k] d) else some false).bind fun t15 => some t15) = _
   cases hasB s[k] b <;> rfl
  rw [this]
  simp only [Option.bind_some, dif_pos hk, Zl k (by omega)]
  cases hasB s[k] b && !hasB s[k] d <;> rfl) (by dsimp only [ZP.F]; rw [if_neg (by omega)])
 rw [hr]
 simp only [Option.bind_some]
 congr 1
 rw [Bool.eq_iff_iff]
 simp only [decide_eq_true_eq]
 rw [List.any_eq_true]
 rcases hc with ⟨k, hk, hp, rfl⟩ | ⟨hn, rfl⟩
 ·rw [dif_pos hk] at hp
  exact ⟨fun _ => ⟨_, List.getElem_mem hk, hp⟩, fun _ => by omega⟩
 ·refine ⟨fun h => by omega, fun ⟨x, hx, hp⟩ => ?_⟩
  obtain ⟨k, hk, rfl⟩ := List.mem_iff_getElem.1 hx
  have := hn k hk
  rw [dif_pos hk] at this
  rw [this] at hp; cases hp
def Jk (l : List Z7) (R : Nat × Nat → Prop) (k : Nat) : Prop := ∀ x, l[k]? = some x → (x.Op = 26 ∨ x.Op = 27) → (k : Int) < x.A ∧ x.A < l.length ∧ ∀ y, R y → (y.1 : Int) < x.A → x.A ≤ y.2 → y.1 < k ∧ k ≤ y.2
def Jm (l : List Z7) (R : Nat × Nat → Prop) : Prop := ∀ k, k < l.length → Jk l R k
theorem Z5o {l : List Z7} {O : List (Nat × Nat)} {R : Nat × Nat → Prop} (hl : l.length ≤ 200) (ho : O.length ≤ 200) (hR : ∀ x, x ∈ O ↔ R x) :
    (Jm l R → XA.f l (O.map (gF l)) = some true) ∧ (¬ Jm l R → XA.f l (O.map (gF l)) = some false) := by
 unfold XA.f
 rw [Zc (t := .l1 ((0 : Nat) : Int)) rfl]
 have val : ∀ k (hk : k < l.length), (l[k].Op = 26 ∨ l[k].Op = 27) → (((if ((decide (l[k].A ≤ (k : Int))) || (decide (l[k].A ≥ (l.length : Int)))) = true then (some true) else ((Yp.f (O.map (gF l)) l[k].Op l[k].A l[k].B k).bind fun t49 => some t49)) = some true ∧ ¬ Jk l R k) ∨ ((if ((decide (l[k].A ≤ (k : Int))) || (decide (l[k].A ≥ (l.length : Int)))) = true then (some true) else ((Yp.f (O.map (gF l)) l[k].Op l[k].A l[k].B k).bind fun t49 => some t49)) = some false ∧ Jk l R k)) := by
  intro k hk hop
  by_cases hA : l[k].A ≤ (k : Int) ∨ l[k].A ≥ (l.length : Int)
  ·left
   rw [if_pos (by simpa using hA)]
   refine ⟨rfl, fun h => ?_⟩
   have := h l[k] (List.getElem?_eq_getElem hk) hop
   omega
  ·rw [if_neg (by simpa using hA), Z2Y (by simp; omega)]
   simp only [Option.bind_some]
   cases hb : (O.map (gF l)).any fun x => hasB x l[k].A && !hasB x (k : Int) with
   | true =>
    left
    refine ⟨rfl, fun h => ?_⟩
    rw [List.any_eq_true] at hb
    obtain ⟨z, hz, hb⟩ := hb
    rw [List.mem_map] at hz
    obtain ⟨y, hy, rfl⟩ := hz
    have := (h l[k] (List.getElem?_eq_getElem hk) hop).2.2 y ((hR y).1 hy)
    rw [Bool.and_eq_true, Bool.not_eq_true', Z1n, Z4R] at hb
    dsimp only [gF] at hb
    omega
   | false =>
    right
    refine ⟨rfl, fun x hx _ => ?_⟩
    rw [List.getElem?_eq_getElem hk] at hx
    cases hx
    refine ⟨by omega, by omega, fun y hy h1 h2 => ?_⟩
    have := List.any_eq_false.1 hb _ (List.mem_map_of_mem (f := gF l) ((hR y).2 hy))
    rw [Bool.and_eq_true, Bool.not_eq_true', Z1n, Z4R] at this
    dsimp only [gF] at this
    omega
 have key := Vr (F := XA.F l (O.map (gF l))) (n := l.length) (b := false) (fun k => .l1 (k : Int)) (Jk l R) (fun k hk _ hp => Zc (by
  dsimp only [XA.F]
  rw [if_pos (by omega), Zp hk]
  simp only [Option.bind_some]
  unfold XA.j1
  rw [Zl k (by omega)]
  by_cases hop : l[k].Op = 26 ∨ l[k].Op = 27
  ·rw [if_neg (by simp; omega)]
   rcases val k hk hop with ⟨-, h⟩ | ⟨h, -⟩
   ·exact absurd hp h
   ·rw [h]; rfl
  ·rw [if_pos (by simp; omega)])) (fun k hk _ hp => Zf (by
  dsimp only [XA.F]
  rw [if_pos (by omega), Zp hk]
  simp only [Option.bind_some]
  by_cases hop : l[k].Op = 26 ∨ l[k].Op = 27
  ·rw [if_neg (by simp; omega)]
   rcases val k hk hop with ⟨h, -⟩ | ⟨-, h⟩
   ·rw [h]; rfl
   ·exact absurd h hp
  ·refine absurd (fun x hx h => absurd h ?_) hp
   rw [List.getElem?_eq_getElem hk] at hx
   cases hx; exact hop))
 refine ⟨fun h => ?_, fun h => key.2 h⟩
 refine (key.1 h).trans (Zf ?_)
 dsimp only [XA.F]
 rw [if_neg (by omega)]
def lastOk (l : List Z7) : Prop := ∀ x, l[l.length - 1]? = some x → x.Op = 31 ∨ x.Op = 32
def Known (l : List Z7) : Prop := 1 ≤ l.length ∧ l.length ≤ 200 ∧ ∀ x ∈ l, may x = true
def Fine (l : List Z7) : Prop := Run (KK l) l.length ∧ lastOk l ∧ Jm l fun x => Pr (KK l) l.length x.1 x.2
theorem Kt {l : List Z7} (hlen : l.length < 4611686018427387904) (hw : ∀ x ∈ l, Y4 x) :
    (¬ Known l → Y5.f l = some ([], 40)) ∧ (Known l → Fine l → Y5.f l = some ((RL (KK l) l.length).map (gF l), 0)) ∧ (Known l → ¬ Fine l → Y5.f l = some ([], 90)) := by
 unfold Y5.f
 refine ⟨fun hk => Zf ?_, ?_⟩
 ·dsimp only [Y5.F]
  by_cases hn : l.length = 0 ∨ l.length > 200
  ·rw [if_pos (by rw [Bool.or_eq_true, decide_eq_true_eq, decide_eq_true_eq]; omega)]; rfl
  ·rw [if_neg (by rw [Bool.or_eq_true, decide_eq_true_eq, decide_eq_true_eq]; omega), Z0s hlen hw]
   have : (l.any fun x => !may x) = true := by
    refine Classical.byContradiction fun hc => hk ⟨by omega, by omega, fun x hx => ?_⟩
    have := List.any_eq_false.1 (Bool.eq_false_iff.2 hc) x hx
    simpa using this
   rw [this]; rfl
 suffices hs : Known l → (Fine l → runF (Y5.F l) .start = some ((RL (KK l) l.length).map (gF l), 0)) ∧ (¬ Fine l → runF (Y5.F l) .start = some ([], 90)) from ⟨fun a b => (hs a).1 b, fun a b => (hs a).2 b⟩
 rintro ⟨n1, n2, hm⟩
 have e0 : runF (Y5.F l) .start = runF (Y5.F l) (st l 0) := Zc (by
  dsimp only [Y5.F]
  rw [if_neg (by rw [Bool.or_eq_true, decide_eq_true_eq, decide_eq_true_eq]; omega), Z0s hlen hw]
  have : (l.any fun x => !may x) = false := by
   rw [List.any_eq_false]; intro x hx; simp [hm x hx]
  rw [this]; rfl)
 rw [e0]
 obtain ⟨h1, h2⟩ := Z4g n2 hm
 by_cases hg : ∀ k, k < l.length → good (KK l) k
 case neg => exact ⟨fun h => absurd h.1.1 hg, fun _ => h2 hg⟩
 rw [h1 hg]
 have hlast : l.length - 1 < l.length := by omega
 have wl : IntKind.i64.wrap ((l.length : Int) - 1) = ((l.length - 1 : Nat) : Int) := K6 _ (by omega) (by omega)
 have m4 := (Ub (KK l) l.length hg).2.2
 have e1 : Y5.F l (st l l.length) = ((if ((opn (KK l) l.length).length : Int) > 0 then (some true) else some (!((decide (l[l.length - 1].Op = 31)) || (decide (l[l.length - 1].Op = 32))))).bind fun t92 => (if t92 = true then (some true) else ((XA.f l ((OL (KK l) l.length).map (gF l))).bind fun t95 => some (!t95))).bind fun t96 => if t96 = true then (Y5.j1 l) else (some (.inr ((srt73 ((OL (KK l) l.length).map (gF l)).toArray).toList, 0)))) := by
  dsimp only [Y5.F, st]
  rw [if_neg (by omega), wl, Zp hlast, if_pos (show ((OL (KK l) l.length).map (gF l)).length < 4611686018427387904 by have := Z5n (KK l) l.length; simp; omega)]
  simp only [Option.bind_some, KP.f]
 have lasteq : lastOk l ↔ (l[l.length - 1].Op = 31 ∨ l[l.length - 1].Op = 32) := by
  unfold lastOk
  constructor
  ·intro h; exact h _ (List.getElem?_eq_getElem hlast)
  ·intro h x hx; rw [List.getElem?_eq_getElem hlast] at hx; cases hx; exact h
 by_cases hS : opn (KK l) l.length = []
 case neg =>
  refine ⟨fun h => absurd h.1.2 hS, fun _ => Zf ?_⟩
  rw [e1, if_pos (by cases ho : opn (KK l) l.length with | nil => exact absurd ho hS | cons => simp)]
  rfl
 have hrun : Run (KK l) l.length := ⟨hg, hS⟩
 obtain ⟨o1, o2⟩ := UC hrun
 rw [hS] at e1
 rw [if_neg (by simp)] at e1
 simp only [Option.bind_some] at e1
 by_cases hL : lastOk l
 case neg =>
  refine ⟨fun h => absurd h.2.1 hL, fun _ => Zf ?_⟩
  rw [e1, if_pos (by have := mt lasteq.2 hL; simp; omega)]
  rfl
 rw [if_neg (by have := lasteq.1 hL; simp; omega)] at e1
 obtain ⟨j1, j2⟩ := Z5o (R := fun x => Pr (KK l) l.length x.1 x.2) n2 (Nat.le_trans (Z5n _ _) n2) (Z1S o2)
 by_cases hJ : Jm l fun x => Pr (KK l) l.length x.1 x.2
 ·refine ⟨fun _ => Zf ?_, fun h => absurd ⟨hrun, hL, hJ⟩ h⟩
  rw [e1, j1 hJ]
  simp only [Option.bind_some, Bool.not_true, Bool.false_eq_true, if_false]
  obtain ⟨sp, ss⟩ := Z6U ((OL (KK l) l.length).map (gF l)).toArray
  rw [Z62 (key := fun x : Ym => x.From) (g := gF l) (fun _ => rfl) o1 o2 sp ss]
 ·refine ⟨fun h => absurd h.2.2 hJ, fun _ => Zf ?_⟩
  rw [e1, j2 hJ]
  rfl
end Zw
namespace Zw
theorem ms2 (x y : Int) : ([x, y].mergeSort fun x y => decide (x ≤ y)) = if x ≤ y then [x, y] else [y, x] := by
 by_cases h : x ≤ y
 ·rw [if_pos h]
  exact List.mergeSort_of_pairwise (by simp [h])
 ·rw [if_neg h]
  have hp : [x, y].mergeSort (fun x y => decide (x ≤ y)) = [y, x].mergeSort (fun x y => decide (x ≤ y)) := by
   have p1 := (List.mergeSort_perm [x, y] fun x y => decide (x ≤ y)).trans ((List.Perm.swap y x []).trans (List.mergeSort_perm [y, x] fun x y => decide (x ≤ y)).symm)
   refine List.Perm.eq_of_pairwise (le := fun a b => a ≤ b) (fun a b _ _ h1 h2 => Int.le_antisymm h1 h2) ?_ ?_ p1
   ·exact (List.pairwise_mergeSort (le := fun x y => decide (x ≤ y)) (fun a b c h1 h2 => by simp at *; omega) (fun a b => by simp; omega) _).imp fun h => by simpa using h
   ·exact (List.pairwise_mergeSort (le := fun x y => decide (x ≤ y)) (fun a b c h1 h2 => by simp at *; omega) (fun a b => by simp; omega) _).imp fun h => by simpa using h
  rw [hp]
  exact List.mergeSort_of_pairwise (by simp; omega)
theorem ct2 (x y : Int) : Lib.compact [x, y] = if x = y then [x] else [x, y] := by
 by_cases h : x = y
 ·subst h; simp [Lib.compact, Lib.compactUpTo, Lib.keeps, List.range_succ]
 ·simp [Lib.compact, Lib.compactUpTo, Lib.keeps, List.range_succ, h, Ne.symm h]
theorem ct1 (x : Int) : Lib.compact [x] = [x] := by simp [Lib.compact, Lib.compactUpTo, Lib.keeps, List.range_succ]
theorem ct0 : Lib.compact ([] : List Int) = [] := by simp [Lib.compact, Lib.compactUpTo]
def ways (l : List Z7) (a : Nat) : List Int := match l[a]? with
 | none => []
 | some x => if x.Op = 31 ∨ x.Op = 32 then [] else if x.Op = 26 then [x.A] else if x.Op = 27 then (if x.A = ((a + 1 : Nat) : Int) then [x.A] else [((a + 1 : Nat) : Int), x.A]) else if x.Op = 29 then [x.A + 1, ((a + 1 : Nat) : Int)] else [((a + 1 : Nat) : Int)]
theorem JB (l : List Z7) (a : Int) (s : List Int) (h : s.length < 4611686018427387904) : XW.j2 l a s = some (Lib.compact (s.mergeSort fun x y => decide (x ≤ y)), 0) := by
 unfold XW.j2
 rw [if_pos h, if_pos (by rw [List.length_mergeSort]; exact h)]
theorem Z6X (n : Fin 33) : KF.f (n.1 : Int) = some (decide (n.1 = 26 ∨ n.1 = 27 ∨ n.1 = 29)) := by
 revert n; decide +kernel
theorem Z1T {i : Z7} (hw : Y4 i) (h : may i = true) : 0 ≤ i.Op ∧ i.Op < 33 := by
 obtain ⟨h0, h1⟩ := Z0T hw
 refine ⟨h0, ?_⟩
 rcases Int.lt_or_le i.Op 33 with z | z
 ·exact z
 ·unfold may Wm.f Tj.f at h
  rw [Xr (by omega) (by omega)] at h
  simp only [Option.bind_some] at h
  rw [if_pos (by simp; omega)] at h
  simp at h
  omega
theorem Z64 {l : List Z7} (hlen : l.length < 4611686018427387904) (hw : ∀ x ∈ l, Y4 x) :
    (∀ a, ¬ Known l → XW.f l a = some ([], 40)) ∧ (∀ a, Known l → ¬ Fine l → XW.f l a = some ([], 90)) ∧ (∀ a : Int, Known l → Fine l → (a < 0 ∨ a ≥ l.length) → XW.f l a = some ([], 2)) ∧ (∀ a : Nat, Known l → Fine l → a < l.length → XW.f l a = some (ways l a, 0)) := by
 obtain ⟨a1, a2, a3⟩ := Kt hlen hw
 unfold XW.f Ve.f
 refine ⟨fun a h => ?_, fun a h hf => ?_, fun a h hf ha => ?_, fun a h hf ha => ?_⟩
 ·rw [a1 h]; rfl
 ·rw [a3 h hf]; rfl
 ·rw [a2 h hf]
  simp only [Option.bind_some]
  rw [if_neg (by simp), if_pos (by rw [Bool.or_eq_true, decide_eq_true_eq, decide_eq_true_eq]; exact ha)]
 ·rw [a2 h hf]
  simp only [Option.bind_some]
  rw [if_neg (by simp), if_neg (by rw [Bool.or_eq_true, decide_eq_true_eq, decide_eq_true_eq]; omega), Zp ha]
  simp only [Option.bind_some]
  have hm := h.2.2 _ (List.getElem_mem ha)
  have hop := Z1T (hw _ (List.getElem_mem ha)) hm
  have hJ := hf.2.2 a ha
  have hn := h.2.1
  unfold ways
  rw [List.getElem?_eq_getElem ha]
  dsimp only
  generalize hx : l[a] = x at hm hop
  have hgoes : J3.f x.Op = some (decide (x.Op ≠ 26 ∧ x.Op ≠ 31 ∧ x.Op ≠ 32)) := by
   unfold J3.f Tj.f
   rw [Xr (by omega) (by omega)]
   simp only [Option.bind_some]
   congr 1
   rw [Bool.eq_iff_iff]
   simp only [Bool.and_eq_true, decide_eq_true_eq]
   omega
  have hleads : KF.f x.Op = some (decide (x.Op = 26 ∨ x.Op = 27 ∨ x.Op = 29)) := by
   obtain ⟨n, hn⟩ := Int.eq_ofNat_of_zero_le hop.1
   have := Z6X ⟨n, by omega⟩
   dsimp only at this
   rw [hn]
   have e : (n : Int) = (Int.ofNat n) := rfl
   rw [this]
   congr 1
   rw [Bool.eq_iff_iff, decide_eq_true_eq, decide_eq_true_eq]
   omega
  have wa : IntKind.i64.wrap ((a : Int) + 1) = ((a + 1 : Nat) : Int) := Zl a (by omega)
  rw [hgoes]
  simp only [Option.bind_some]
  rw [wa, if_pos (show (([] : List Int).length + [((a + 1 : Nat) : Int)].length) * 8 ≤ 140737488355328 by simp)]
  unfold XW.j1
  rw [hleads]
  simp only [Option.bind_some, List.nil_append]
  by_cases h31 : x.Op = 31 ∨ x.Op = 32
  ·rw [if_neg (by rw [decide_eq_true_eq]; omega), if_neg (by omega), if_neg (by rw [decide_eq_true_eq]; omega), if_pos h31, JB _ _ _ (by simp)]
   simp [ct0]
  ·rw [if_neg h31]
   by_cases h26 : x.Op = 26
   ·have hp := VZ hm (.inl h26)
    rw [if_neg (by rw [decide_eq_true_eq]; omega), if_neg (by omega), if_pos (by rw [decide_eq_true_eq]; omega), if_pos h26, if_pos (by simp), JB _ _ _ (by simp)]
    simp [ct1]
   ·rw [if_pos (by rw [decide_eq_true_eq]; omega), if_neg h26]
    by_cases h29 : x.Op = 29
    ·have hp := VZ hm (.inr (.inr h29))
     have hA : x.A < a := by
      have hk : KK l a = .again x.A.toNat := by rw [Z0U ha, hx, if_neg (by omega), if_pos h29]
      obtain ⟨T, hT⟩ := KQ hf.1.1 ha hk
      have := ((Ub (KK l) a fun j hj => hf.1.1 j (by omega)).1 x.A.toNat).1 (by rw [hT]; simp)
      omega
     have wA : IntKind.i64.wrap (x.A + 1) = x.A + 1 := Xr (by omega) (by omega)
     rw [if_pos h29, if_pos (by simp), if_neg (by omega), if_pos h29, wA, JB _ _ _ (by simp)]
     simp only [List.singleton_append]
     rw [ms2, if_neg (by omega), ct2, if_neg (by omega)]
    ·rw [if_neg h29, if_neg h29]
     by_cases h27 : x.Op = 27
     ·have hj := (hJ x (by rw [List.getElem?_eq_getElem ha, hx]) (.inr h27)).1
      rw [if_pos (by rw [decide_eq_true_eq]; omega), if_pos h27, if_pos (by simp), JB _ _ _ (by simp)]
      simp only [List.singleton_append]
      rw [ms2, if_pos (by omega), ct2]
      by_cases e : x.A = ((a + 1 : Nat) : Int)
      ·rw [if_pos e.symm, if_pos e, e]
      ·rw [if_neg (Ne.symm e), if_neg e]
     ·rw [if_neg (by rw [decide_eq_true_eq]; omega), if_neg h27, JB _ _ _ (by simp)]
      simp [ct1]
end Zw
namespace Zw
instance (x : Z7) : Decidable (Y4 x) := by unfold Y4; infer_instance
end Zw
namespace Zw
def WF (l : List Z7) (a : Nat) (x : Z7) (W : List Int) : Prop :=
 (W.length = 0 ↔ (x.Op = 31 ∨ x.Op = 32)) ∧ W.length ≤ 2 ∧ ∀ i (hi : i < W.length), 0 ≤ W[i] ∧ W[i] < l.length ∧ (W[i] ≤ a → x.Op = 29 ∧ W[i] = x.A + 1) ∧ (∀ h : 0 < i, W[i - 1] < W[i]) ∧
     ∀ y : Nat × Nat, Pr (KK l) l.length y.1 y.2 → (y.1 : Int) < W[i] → W[i] ≤ y.2 → y.1 ≤ a ∧ a ≤ y.2
theorem KX {l : List Z7} (hk : Known l) (hf : Fine l) {a : Nat} (ha : a < l.length) : WF l a l[a] (ways l a) := by
 obtain ⟨o1, o2⟩ := UC hf.1
 obtain ⟨-, -, hN, -⟩ := (Z4Q (R := RL (KK l) l.length) fun h => ⟨fun x => TA x, Z3T h⟩).1 hf.1
 have hJ := hf.2.2 a ha
 have hm := hk.2.2 _ (List.getElem_mem ha)
 have hlast : ¬ (l[a].Op = 31 ∨ l[a].Op = 32) → a + 1 < l.length := by
  intro h
  rcases Nat.lt_or_ge (a + 1) l.length with z | z
  ·exact z
  ·have e : l.length - 1 = a := by omega
   have := hf.2.1 l[a] (by rw [e, List.getElem?_eq_getElem ha])
   exact absurd this h
 have hag : l[a].Op = 29 → 0 ≤ l[a].A ∧ l[a].A < a ∧ KK l a = .again l[a].A.toNat := by
  intro h29
  have hp := VZ hm (.inr (.inr h29))
  have hkk : KK l a = .again l[a].A.toNat := by rw [Z0U ha, if_neg (by omega), if_pos h29]
  obtain ⟨T, hT⟩ := KQ hf.1.1 ha hkk
  have := ((Ub (KK l) a fun j hj => hf.1.1 j (by omega)).1 l[a].A.toNat).1 (by rw [hT]; simp)
  exact ⟨hp.1, by omega, hkk⟩
 have hnext : ∀ x : Nat × Nat, Pr (KK l) l.length x.1 x.2 → (x.1 : Int) < ((a + 1 : Nat) : Int) → ((a + 1 : Nat) : Int) ≤ x.2 → x.1 ≤ a ∧ a ≤ x.2 := fun x _ h1 h2 => by omega
 have hjmp : (l[a].Op = 26 ∨ l[a].Op = 27) → (a : Int) < l[a].A ∧ l[a].A < l.length ∧ ∀ x : Nat × Nat, Pr (KK l) l.length x.1 x.2 → (x.1 : Int) < l[a].A → l[a].A ≤ x.2 → x.1 ≤ a ∧ a ≤ x.2 := by
  intro h
  have := hJ _ (List.getElem?_eq_getElem ha) h
  exact ⟨this.1, this.2.1, fun x hx h1 h2 => by have := this.2.2 x hx h1 h2; omega⟩
 have hback : l[a].Op = 29 → ∀ x : Nat × Nat, Pr (KK l) l.length x.1 x.2 → (x.1 : Int) < l[a].A + 1 → l[a].A + 1 ≤ x.2 → x.1 ≤ a ∧ a ≤ x.2 := by
  intro h29 x hx h1 h2
  obtain ⟨q1, q2, q3⟩ := hag h29
  obtain ⟨b1, b2⟩ := o2 a _ ha q3
  have pa : Pr (KK l) l.length l[a].A.toNat a := ⟨b1, ha, b2, q3⟩
  refine ⟨by omega, ?_⟩
  by_cases e : x.1 = l[a].A.toNat
  ·obtain ⟨t0, -, -, hu⟩ := o1 _ pa.1 b2
   have e1 := hu _ pa
   have e2 := hu x.2 (by rw [← e]; exact hx)
   omega
  ·exact hN _ _ _ _ hx pa (by omega) (by omega)
 have hway : ways l a = if l[a].Op = 31 ∨ l[a].Op = 32 then [] else if l[a].Op = 26 then [l[a].A] else if l[a].Op = 27 then (if l[a].A = ((a + 1 : Nat) : Int) then [l[a].A] else [((a + 1 : Nat) : Int), l[a].A]) else if l[a].Op = 29 then [l[a].A + 1, ((a + 1 : Nat) : Int)] else [((a + 1 : Nat) : Int)] := by
  unfold ways
  rw [List.getElem?_eq_getElem ha]
 rw [hway]
 clear hway
 generalize l[a] = x at *
 by_cases h31 : x.Op = 31 ∨ x.Op = 32
 ·rw [if_pos h31]
  exact ⟨by simpa using h31, by simp, fun i hi => by simp at hi⟩
 ·have hl := hlast h31
  rw [if_neg h31]
  have one : ∀ w : Int, (0 ≤ w ∧ w < l.length ∧ (w ≤ a → x.Op = 29 ∧ w = x.A + 1) ∧ ∀ y : Nat × Nat, Pr (KK l) l.length y.1 y.2 → (y.1 : Int) < w → w ≤ y.2 → y.1 ≤ a ∧ a ≤ y.2) → WF l a x [w] := by
   intro w hw
   refine ⟨by simpa using h31, by simp, fun i hi => ?_⟩
   obtain rfl : i = 0 := by simpa using hi
   exact ⟨hw.1, hw.2.1, hw.2.2.1, fun h => absurd h (by omega), hw.2.2.2⟩
  have two : ∀ v w : Int, v < w → (0 ≤ v ∧ v < l.length ∧ (v ≤ a → x.Op = 29 ∧ v = x.A + 1) ∧ ∀ y : Nat × Nat, Pr (KK l) l.length y.1 y.2 → (y.1 : Int) < v → v ≤ y.2 → y.1 ≤ a ∧ a ≤ y.2) → (0 ≤ w ∧ w < l.length ∧ (w ≤ a → x.Op = 29 ∧ w = x.A + 1) ∧ ∀ y : Nat × Nat, Pr (KK l) l.length y.1 y.2 → (y.1 : Int) < w → w ≤ y.2 → y.1 ≤ a ∧ a ≤ y.2) → WF l a x [v, w] := by
   intro v w hlt hv hw
   refine ⟨by simpa using h31, by simp, fun i hi => ?_⟩
   rcases i with _ | _ | i
   ·exact ⟨hv.1, hv.2.1, hv.2.2.1, fun h => absurd h (by omega), hv.2.2.2⟩
   ·exact ⟨hw.1, hw.2.1, hw.2.2.1, fun _ => hlt, hw.2.2.2⟩
   ·simp at hi; omega
  by_cases h26 : x.Op = 26
  ·rw [if_pos h26]
   obtain ⟨j1, j2, j3⟩ := hjmp (.inl h26)
   exact one _ ⟨by omega, j2, fun h => by omega, j3⟩
  ·rw [if_neg h26]
   by_cases h27 : x.Op = 27
   ·rw [if_pos h27]
    obtain ⟨j1, j2, j3⟩ := hjmp (.inr h27)
    by_cases e : x.A = ((a + 1 : Nat) : Int)
    ·rw [if_pos e]
     exact one _ ⟨by omega, j2, fun h => by omega, j3⟩
    ·rw [if_neg e]
     exact two _ _ (by omega) ⟨by omega, by omega, fun h => by omega, hnext⟩ ⟨by omega, j2, fun h => by omega, j3⟩
   ·rw [if_neg h27]
    by_cases h29 : x.Op = 29
    ·rw [if_pos h29]
     obtain ⟨q1, q2, q3⟩ := hag h29
     exact two _ _ (by omega) ⟨by omega, by omega, fun _ => ⟨h29, rfl⟩, hback h29⟩ ⟨by omega, by omega, fun h => by omega, hnext⟩
    ·rw [if_neg h29]
     exact one _ ⟨by omega, by omega, fun h => by omega, hnext⟩
end Zw
namespace Y7
open Zw
theorem Z0V {x y : List Int} (h : x.length + y.length ≤ 140737488355328) : ZA.f [x, y] = some (x ++ y) := by
 unfold ZA.f
 have w1 : IntKind.i64.wrap ((0 : Int) + (x.length : Int)) = x.length := by rw [Xr (by omega) (by omega)]; omega
 have w2 : IntKind.i64.wrap ((x.length : Int) + (y.length : Int)) = ((x.length + y.length : Nat) : Int) := by rw [Xr (by omega) (by omega)]; omega
 have i1 : IntKind.i64.wrap ((0 : Int) + 1) = 1 := by decide
 have i2 : IntKind.i64.wrap ((1 : Int) + 1) = 2 := by decide
 rw [Zc (t := .l1 0 0) rfl, Zc (t := .l1 (x.length : Int) 1), Zc (t := .l1 ((x.length + y.length : Nat) : Int) 2), Zc (t := .l2 [] 0), Zc (t := .l2 x 1), Zc (t := .l2 (x ++ y) 2), Zf]
 ·dsimp only [ZA.F]; rw [if_neg (by simp)]
 ·dsimp only [ZA.F]; rw [if_pos (by simp), show elt [x, y] 1 = some y from rfl]; simp only [Option.bind_some]; rw [if_pos (by omega), i2]
 ·dsimp only [ZA.F]; rw [if_pos (by simp), show elt [x, y] 0 = some x from rfl]; simp only [Option.bind_some]; rw [if_pos (by simp; omega), i1]; rfl
 ·dsimp only [ZA.F]; rw [if_neg (by simp), if_pos (by omega)]
 ·dsimp only [ZA.F]; rw [if_pos (by simp), show elt [x, y] 1 = some y from rfl]; simp only [Option.bind_some]; rw [w2, if_neg (by omega)]; unfold ZA.j1; rw [w2, i2]
 ·dsimp only [ZA.F]; rw [if_pos (by simp), show elt [x, y] 0 = some x from rfl]; simp only [Option.bind_some]; rw [w1, if_neg (by omega)]; unfold ZA.j1; rw [w1, i1]
theorem clone8 {x : List Int} (h : x.length ≤ 140737488355328) : XG.f x = some x := by
 unfold XG.f
 rw [Z1x (by rintro rfl; rfl), if_pos (by simp; omega)]; rfl
theorem Z65 {x : List Ze} (h : x.length ≤ 200) : XD.f x = some x := by
 unfold XD.f
 rw [Z1x (by rintro rfl; rfl), if_pos (by simp; omega)]; rfl
theorem Z8e (a : Int) : ZF.f [a] 2 = some [a, a] := by
 unfold ZF.f
 have m : WZ.f (IntKind.u64.wrap (([a] : List Int).length : Int)) (IntKind.u64.wrap 2) = some (0, 2) := by show WZ.f (IntKind.u64.wrap 1) (IntKind.u64.wrap 2) = some (0, 2); decide +kernel
 have w2 : IntKind.i64.wrap 2 = 2 := by decide
 rw [Zc (t := .l1 [a, 0] 1), Zc (t := .l1 [a, a] 2), Zf]
 ·dsimp only [ZF.F]; rw [if_neg (by simp)]
 ·dsimp only [ZF.F]; rw [if_pos (by simp), if_pos (by simp), if_pos (by simp)]; rfl
 ·dsimp only [ZF.F]
  rw [if_neg (by omega)]
  unfold ZF.j1
  rw [m]
  simp only [Option.bind_some]
  rw [if_neg (by decide)]
  unfold ZF.j2
  dsimp only
  rw [w2, if_pos (by omega)]; rfl
theorem same8 {x y : List Int} (h : x.length < 4611686018427387904) : Zv.f x y = some (decide (x = y)) := by
 unfold Zv.f
 by_cases hl : x.length = y.length
 ·rw [Zc (t := .l1 ((0 : Nat) : Int)) (by dsimp only [Zv.F]; rw [if_neg (by omega)]; rfl)]
  obtain ⟨r, hr, hc⟩ := Uk (F := Zv.F x y) (n := x.length) (b := true) (a := fun _ => false) (fun k => .l1 (k : Int)) (fun k => decide (x[k]? ≠ y[k]?)) (fun k hk => by
   have hk' : k < y.length := by omega
   dsimp only [Zv.F]
   rw [if_pos (by omega), Zp hk, Zp hk', List.getElem?_eq_getElem hk, List.getElem?_eq_getElem hk']
   simp only [Option.bind_some, Option.some.injEq, ne_eq, Zl k (by omega), decide_eq_true_eq]
   by_cases e : x[k] = y[k]
   ·rw [if_neg (by simpa using e), if_neg (by simpa using e)]
   ·rw [if_pos (by simpa using e), if_pos (by simpa using e)]) (by dsimp only [Zv.F]; rw [if_neg (by omega)])
  rw [hr]
  congr 1
  rcases hc with ⟨k, hk, hp, rfl⟩ | ⟨hn, rfl⟩
  ·rw [eq_comm, decide_eq_false_iff_not]
   rintro rfl; simp at hp
  ·rw [eq_comm, decide_eq_true_eq]
   refine List.ext_getElem? fun k => ?_
   rcases Nat.lt_or_ge k x.length with z | z
   ·have := hn k z; simpa using this
   ·rw [List.getElem?_eq_none z, List.getElem?_eq_none (by omega)]
 ·rw [Zf (r := false) (by dsimp only [Zv.F]; rw [if_pos (by omega)])]
  congr 1
  rw [eq_comm, decide_eq_false_iff_not]
  rintro rfl; exact hl rfl
structure TE where
 G : List Zn
 P : List Zn
 M : List Zb
 res : Int
 K : List Int
def there (E : TE) (i : Z7) : Bool := if i.Op = 1 then decide (i.A < E.P.length) else if i.Op = 2 ∨ i.Op = 3 then decide (i.A < E.K.length) else if i.Op = 4 ∨ i.Op = 5 then decide (i.A < E.G.length) else if i.Op = 30 then decide (i.A < E.M.length) else true
theorem Z6Y (E : TE) (mig : Int) (ar lo : List Int) (re : Bool) (fu sta he : Int) (co : List Z7) (i : Z7) : Y8.f E.G E.P E.M mig ar lo E.res re fu sta he co E.K i = some (there E i) := by
 unfold Y8.f Y8.j2 Y8.j3 Y8.j1 there
 by_cases h1 : i.Op = 1
 ·simp [h1]
 ·by_cases h2 : i.Op = 2
  ·simp [h2]
  ·by_cases h3 : i.Op = 3
   ·simp [h3]
   ·by_cases h4 : i.Op = 4
    ·simp [h4]
    ·by_cases h5 : i.Op = 5
     ·simp [h5]
     ·by_cases h6 : i.Op = 30
      ·simp [h6]
      ·simp [h1, h2, h3, h4, h5, h6]
theorem JC {E : TE} {mig : Int} {ar lo : List Int} {re : Bool} {fu sta he : Int} {co l : List Z7} (hl : l.length < 4611686018427387904) : Yq.f l E.G E.P E.M mig ar lo E.res re fu sta he co E.K = some (l.any fun x => !there E x) := by
 unfold Yq.f ZQ.f
 rw [Zc (t := .l1 ((0 : Nat) : Int)) rfl]
 obtain ⟨r, hr, hc⟩ := Uk (F := ZQ.F l E.G E.P E.M mig ar lo E.res re fu sta he co E.K) (n := l.length) (b := -1) (a := fun k => (k : Int)) (fun k => .l1 (k : Int)) (fun k => if h : k < l.length then !there E l[k] else false) (fun k hk => by
  dsimp only [ZQ.F]
  rw [if_pos (by omega), Zp hk]
  simp only [Option.bind_some]
  unfold Ui.f
  rw [Z6Y]
  simp only [Option.bind_some, dif_pos hk, Zl k (by omega)]
  cases there E l[k] <;> rfl) (by dsimp only [ZQ.F]; rw [if_neg (by omega)])
 rw [hr]
 simp only [Option.bind_some]
 congr 1
 rw [Bool.eq_iff_iff]
 simp only [decide_eq_true_eq, List.any_eq_true]
 rcases hc with ⟨k, hk, hp, rfl⟩ | ⟨hn, rfl⟩
 ·rw [dif_pos hk] at hp
  exact ⟨fun _ => ⟨_, List.getElem_mem hk, hp⟩, fun _ => by omega⟩
 ·refine ⟨fun h => by omega, fun ⟨x, hx, hp⟩ => ?_⟩
  obtain ⟨k, hk, rfl⟩ := List.mem_iff_getElem.1 hx
  have := hn k hk
  rw [dif_pos hk, hp] at this; cases this
theorem UD {i : Z7} (hw : Y4 i) (h : may i = true) (ho : i.Op = 1 ∨ i.Op = 2 ∨ i.Op = 3 ∨ i.Op = 4 ∨ i.Op = 5 ∨ i.Op = 30) : 0 ≤ i.A := by
 unfold may at h
 have e : (Wm.f i.Op).map (·.1) = some 0 := by rcases ho with e | e | e | e | e | e <;> rw [e] <;> decide +kernel
 cases hb : Wm.f i.Op with
 | none => rw [hb] at e; cases e
 | some b =>
  rw [hb] at e h
  simp at e h; omega
def At {α : Type} (xs : List α) (d : α) (a : Int) : α := xs[a.toNat]?.getD d
theorem Uw {α : Type} {xs : List α} {a : Int} (d : α) (h0 : 0 ≤ a) (h1 : a < xs.length) : elt xs a = some (At xs d a) := by
 have : a.toNat < xs.length := by omega
 rw [V7 h0 this]
 simp [At, this]
def named (E : TE) (i : Z7) : Int := if i.Op = 1 then (At E.P Zn.zero i.A).Kind else if i.Op = 4 ∨ i.Op = 5 then (At E.G Zn.zero i.A).Kind else At E.K 0 i.A
theorem Z3W {E : TE} {mig : Int} {ar lo : List Int} {re : Bool} {fu sta he : Int} {co : List Z7} {rows : List Ze} {i : Z7} (hw : Y4 i) (hm : may i = true) (ht : there E i = true) (ho : i.Op = 1 ∨ i.Op = 2 ∨ i.Op = 3 ∨ i.Op = 4 ∨ i.Op = 5) :
    Xn.f E.G E.P E.M mig ar lo E.res re fu sta he co E.K rows i = some (named E i, rows) := by
 have h0 := UD hw hm (by omega)
 unfold Xn.f Xn.j1 named
 unfold there at ht
 rcases ho with e | e | e | e | e
 ·simp only [e, if_true, decide_eq_true_eq] at ht ⊢
  rw [Uw Zn.zero h0 ht]; rfl
 ·simp [e] at ht ⊢
  rw [Uw 0 h0 ht]; rfl
 ·simp [e] at ht ⊢
  rw [Uw 0 h0 ht]; rfl
 ·simp [e] at ht ⊢
  rw [Uw Zn.zero h0 ht]; rfl
 ·simp [e] at ht ⊢
  rw [Uw Zn.zero h0 ht]; rfl
end Y7
namespace Y7
open Zw
def ofOk (n : Nat) (o : Option (XF × Bool)) : Bool := match o with
 | none => false
 | some s => if s.2 = true then decide (s.1.Takes.length ≤ 3 ∧ s.1.Gives.length ≤ 2) && decide (n ≠ 31) else decide (s.1.Takes = [] ∧ s.1.Gives = []) && decide (n = 1 ∨ n = 2 ∨ n = 3 ∨ n = 4 ∨ n = 5 ∨ n = 7 ∨ n = 8 ∨ n = 30 ∨ n = 31)
theorem Z9u (n : Fin 33) : ofOk n.1 (Xe.f (n.1 : Int)) = true := by revert n; decide +kernel
theorem Z0W {x : Int} (h0 : 0 ≤ x) (h1 : x < 33) : ∃ s : XF × Bool, Xe.f x = some s ∧ ((s.2 = true ∧ s.1.Takes.length ≤ 3 ∧ s.1.Gives.length ≤ 2 ∧ x ≠ 31) ∨ (s = (⟨[], []⟩, false) ∧ (x = 1 ∨ x = 2 ∨ x = 3 ∨ x = 4 ∨ x = 5 ∨ x = 7 ∨ x = 8 ∨ x = 30 ∨ x = 31))) := by
 obtain ⟨n, rfl⟩ := Int.eq_ofNat_of_zero_le h0
 have := Z9u ⟨n, by omega⟩
 dsimp only at this
 cases ho : Xe.f (n : Int) with
 | none => rw [ho] at this; cases this
 | some s =>
  rw [ho] at this
  refine ⟨s, rfl, ?_⟩
  unfold ofOk at this
  dsimp only at this
  by_cases hs : s.2 = true
  ·rw [if_pos hs, Bool.and_eq_true, decide_eq_true_eq, decide_eq_true_eq] at this
   exact .inl ⟨hs, this.1.1, this.1.2, by omega⟩
  ·rw [if_neg hs, Bool.and_eq_true, decide_eq_true_eq, decide_eq_true_eq] at this
   obtain ⟨⟨t, g⟩, b⟩ := s
   obtain ⟨⟨rfl, rfl⟩, h⟩ := this
   simp only [Bool.not_eq_true] at hs
   subst hs
   exact .inr ⟨rfl, by omega⟩
def two (row : List Int) : List Int := row.drop (row.length - 2)
def shapeC (E : TE) (i : Z7) (row : List Int) : List Int × List Int := match Xe.f i.Op with
 | none => ([], [])
 | some s => if s.2 = true then (s.1.Takes, s.1.Gives)
  else if i.Op = 1 ∨ i.Op = 2 ∨ i.Op = 4 then ([], [named E i])
  else if i.Op = 3 ∨ i.Op = 5 then ([named E i], [])
  else if i.Op = 30 then ((At E.M Zb.zero i.A).Args, [(At E.M Zb.zero i.A).Result])
  else if i.Op = 31 then ([E.res], [])
  else if i.Op = 8 then ([0, 0], (two row).reverse)
  else ([0], if row = [] then [] else [row.getLastD 0, row.getLastD 0])
theorem Z2t (row : List Int) : (two row).length ≤ 2 := by unfold two; simp; omega
theorem Z6Z {row : List Int} (h : row ≠ []) : (two row).drop ((two row).length - 1) = [row.getLastD 0] := by
 have hp : 0 < row.length := List.length_pos_iff.2 h
 have e : row = row.dropLast ++ [row.getLast h] := (List.dropLast_concat_getLast h).symm
 have hl : row.getLastD 0 = row.getLast h := by rw [List.getLastD_eq_getLast?, List.getLast?_eq_some_getLast h]; rfl
 unfold two
 rw [List.drop_drop, List.length_drop, hl]
 have : row.length - 2 + (row.length - (row.length - 2) - 1) = row.dropLast.length := by rw [List.length_dropLast]; omega
 rw [this]
 conv => lhs; rw [e]
 rw [List.drop_left' (by simp)]
theorem Z70 {E : TE} {mig : Int} {ar lo : List Int} {re : Bool} {fu sta he : Int} {co : List Z7} {rows : List Ze} {i : Z7} {row : List Int} (hw : Y4 i) (hm : may i = true) (ht : there E i = true) (hrow : row.length ≤ 100000) :
    ZE.f E.G E.P E.M mig ar lo E.res re fu sta he co E.K rows i row = some (⟨(shapeC E i row).1, (shapeC E i row).2⟩, rows) := by
 obtain ⟨o0, o1⟩ := Z1T hw hm
 obtain ⟨s, hs, h⟩ := Z0W o0 o1
 unfold ZE.f shapeC
 rw [hs]
 simp only [Option.bind_some]
 rcases h with ⟨h2, -, -, -⟩ | ⟨rfl, ho⟩
 ·rw [if_pos h2, if_pos h2]
 ·simp only [Bool.false_eq_true, if_false]
  have w : IntKind.i64.wrap ((row.length : Int) - 2) = (row.length : Int) - 2 := Xr (by omega) (by omega)
  have e : (if (IntKind.i64.wrap ((row.length : Int) - 2)) > 0 then IntKind.i64.wrap ((row.length : Int) - 2) else 0 : Int) = ((row.length - 2 : Nat) : Int) := by rw [w]; split <;> omega
  rw [e, if_pos (by omega)]
  have et : ((row.length - 2 : Nat) : Int).toNat = row.length - 2 := by omega
  rw [et, clone8 (by simp; omega)]
  simp only [Option.bind_some]
  change (if i.Op = 1 then ZE.j3 _ _ _ _ _ _ _ _ _ _ _ _ _ _ _ _ _ (two row) _ else _) = _
  have hj : ∀ b : Bool, b = decide (i.Op = 1 ∨ i.Op = 2 ∨ i.Op = 4) → ZE.j3 E.G E.P E.M mig ar lo E.res re fu sta he co E.K rows i row (⟨[], []⟩, false) (two row) b = some (⟨(if i.Op = 1 ∨ i.Op = 2 ∨ i.Op = 4 then ([], [named E i])
   else if i.Op = 3 ∨ i.Op = 5 then ([named E i], [])
   else if i.Op = 30 then ((At E.M Zb.zero i.A).Args, [(At E.M Zb.zero i.A).Result])
   else if i.Op = 31 then ([E.res], [])
   else if i.Op = 8 then ([0, 0], (two row).reverse)
   else ([0], if row = [] then [] else [row.getLastD 0, row.getLastD 0]) : List Int × List Int).1, (if i.Op = 1 ∨ i.Op = 2 ∨ i.Op = 4 then ([], [named E i])
   else if i.Op = 3 ∨ i.Op = 5 then ([named E i], [])
   else if i.Op = 30 then ((At E.M Zb.zero i.A).Args, [(At E.M Zb.zero i.A).Result])
   else if i.Op = 31 then ([E.res], [])
   else if i.Op = 8 then ([0, 0], (two row).reverse)
   else ([0], if row = [] then [] else [row.getLastD 0, row.getLastD 0]) : List Int × List Int).2⟩, rows) := by
   rintro b rfl
   unfold ZE.j3
   by_cases h124 : i.Op = 1 ∨ i.Op = 2 ∨ i.Op = 4
   ·rw [if_pos (by simpa using h124), Z3W hw hm ht (by omega), if_pos h124]; rfl
   ·rw [if_neg (by simpa using h124), if_neg h124]
    have hj4 : ∀ b : Bool, b = decide (i.Op = 3 ∨ i.Op = 5) → ZE.j4 E.G E.P E.M mig ar lo E.res re fu sta he co E.K rows i row (⟨[], []⟩, false) (two row) b = some (⟨(if i.Op = 3 ∨ i.Op = 5 then ([named E i], [])
     else if i.Op = 30 then ((At E.M Zb.zero i.A).Args, [(At E.M Zb.zero i.A).Result])
     else if i.Op = 31 then ([E.res], [])
     else if i.Op = 8 then ([0, 0], (two row).reverse)
     else ([0], if row = [] then [] else [row.getLastD 0, row.getLastD 0]) : List Int × List Int).1, (if i.Op = 3 ∨ i.Op = 5 then ([named E i], [])
     else if i.Op = 30 then ((At E.M Zb.zero i.A).Args, [(At E.M Zb.zero i.A).Result])
     else if i.Op = 31 then ([E.res], [])
     else if i.Op = 8 then ([0, 0], (two row).reverse)
     else ([0], if row = [] then [] else [row.getLastD 0, row.getLastD 0]) : List Int × List Int).2⟩, rows) := by
     rintro b rfl
     unfold ZE.j4
     by_cases h35 : i.Op = 3 ∨ i.Op = 5
     ·rw [if_pos (by simpa using h35), Z3W hw hm ht (by omega), if_pos h35]; rfl
     ·rw [if_neg (by simpa using h35), if_neg h35]
      by_cases h30 : i.Op = 30
      ·have a0 := UD hw hm (by omega)
       have a1 : i.A < E.M.length := by simpa [there, h30] using ht
       rw [if_pos h30, if_pos h30, Uw Zb.zero a0 a1]; rfl
      ·rw [if_neg h30, if_neg h30]
       by_cases h31 : i.Op = 31
       ·rw [if_pos h31, if_pos h31]; rfl
       ·rw [if_neg h31, if_neg h31]
        by_cases h8 : i.Op = 8
        ·have := Z2t row
         rw [if_pos h8, if_pos h8, if_pos (by omega), if_pos (by simp)]; rfl
        ·rw [if_neg h8, if_neg h8]
         by_cases h7 : i.Op = 7
         ·rw [if_pos h7]
          by_cases hr : row = []
          ·subst hr; rfl
          ·have hp : 0 < row.length := List.length_pos_iff.2 hr
           have t1 := Z2t row
           have t2 : 0 < (two row).length := by unfold two; simp; omega
           have w1 : IntKind.i64.wrap (((two row).length : Int) - 1) = (((two row).length - 1 : Nat) : Int) := by rw [Xr (by omega) (by omega)]; omega
           rw [if_pos (by omega), w1, if_pos (by omega), if_neg hr]
           have et : (((two row).length - 1 : Nat) : Int).toNat = (two row).length - 1 := by omega
           rw [et, Z6Z hr, Z8e]; rfl
         ·omega
    by_cases h3 : i.Op = 3
    ·rw [if_pos h3]; exact hj4 _ (by simp [h3])
    ·rw [if_neg h3]; exact hj4 _ (by simp [h3])
  by_cases h1 : i.Op = 1
  ·rw [if_pos h1]; exact hj _ (by simp [h1])
  ·rw [if_neg h1]
   by_cases h2 : i.Op = 2
   ·rw [if_pos h2]; exact hj _ (by simp [h2])
   ·rw [if_neg h2]; exact hj _ (by simp [h1, h2])
theorem Z0v {E : TE} {i : Z7} {row : List Int} (hw : Y4 i) (hm : may i = true) : (shapeC E i row).2.length ≤ 2 := by
 obtain ⟨o0, o1⟩ := Z1T hw hm
 obtain ⟨s, hs, h⟩ := Z0W o0 o1
 have := Z2t row
 unfold shapeC
 rw [hs]
 dsimp only
 rcases h with ⟨h2, -, h3, -⟩ | ⟨rfl, ho⟩
 ·rw [if_pos h2]; exact h3
 ·rw [if_neg (by simp)]
  split
  ·simp
  ·split
   ·simp
   ·split
    ·simp
    ·split
     ·simp
     ·split
      ·simpa using this
      ·dsimp only; split <;> simp
theorem Z2H {E : TE} {i : Z7} {row : List Int} (hw : Y4 i) (hm : may i = true) (hM : ∀ m ∈ E.M, m.Args.length < 4611686018427387904) : (shapeC E i row).1.length < 4611686018427387904 := by
 obtain ⟨o0, o1⟩ := Z1T hw hm
 obtain ⟨s, hs, h⟩ := Z0W o0 o1
 unfold shapeC
 rw [hs]
 dsimp only
 rcases h with ⟨h2, h3, -, -⟩ | ⟨rfl, ho⟩
 ·rw [if_pos h2]; dsimp only; omega
 ·rw [if_neg (by simp)]
  split
  ·simp
  ·split
   ·simp
   ·split
    ·unfold At
     dsimp only
     rcases Nat.lt_or_ge i.A.toNat E.M.length with z | z
     ·rw [List.getElem?_eq_getElem z]; exact hM _ (List.getElem_mem z)
     ·rw [List.getElem?_eq_none z]; simp [Zb.zero]
    ·split
     ·simp
     ·split
      ·simp
      ·simp
def takesB (t row : List Int) : Bool := (t.zip (row.drop (row.length - t.length))).all fun x => decide (x.1 = 0 ∨ x.1 = x.2)
def afterC (E : TE) (i : Z7) (row : List Int) : List Int × Int := if row.length < (shapeC E i row).1.length then ([], 101) else if takesB (shapeC E i row).1 row = true then (row.take (row.length - (shapeC E i row).1.length) ++ (shapeC E i row).2, 0) else ([], 100)
theorem Z71 {E : TE} {mig : Int} {ar lo : List Int} {re : Bool} {fu sta he : Int} {co : List Z7} {rows : List Ze} {i : Z7} {row : List Int} (hw : Y4 i) (hm : may i = true) (ht : there E i = true) (hrow : row.length ≤ 100000) (hM : ∀ m ∈ E.M, m.Args.length < 4611686018427387904) :
    YP.f E.G E.P E.M mig ar lo E.res re fu sta he co E.K rows i row = some (afterC E i row, rows) := by
 have hg := Z0v (E := E) (row := row) hw hm
 have htk := Z2H (E := E) (row := row) hw hm hM
 unfold YP.f afterC
 have hs := Z70 (mig := mig) (ar := ar) (lo := lo) (re := re) (fu := fu) (sta := sta) (he := he) (co := co) (rows := rows) hw hm ht hrow
 generalize shapeC E i row = sh at hg htk hs ⊢
 obtain ⟨t, g⟩ := sh
 dsimp only at hg htk hs ⊢
 have w : IntKind.i64.wrap ((row.length : Int) - (t.length : Int)) = (row.length : Int) - t.length := Xr (by omega) (by omega)
 by_cases hlt : row.length < t.length
 ·rw [if_pos hlt, Zf]
  dsimp only [YP.F]
  rw [hs]
  simp only [Option.bind_some]
  rw [w, if_pos (by omega)]
 ·rw [if_neg hlt, Zc (t := .l1 (⟨t, g⟩, rows) ((0 : Nat) : Int))]
  ·obtain ⟨r, hr, hc⟩ := Uk (F := YP.F E.G E.P E.M mig ar lo E.res re fu sta he co E.K rows i row) (n := t.length) (b := ((row.take (row.length - t.length) ++ g, 0), rows)) (a := fun _ => (([], 100), rows)) (fun k => .l1 (⟨t, g⟩, rows) (k : Int)) (fun k => match (t.zip (row.drop (row.length - t.length)))[k]? with | some x => !decide (x.1 = 0 ∨ x.1 = x.2) | none => false) (fun k hk => by
    dsimp only [YP.F]
    have hk2 : row.length - t.length + k < row.length := by omega
    have w2 : IntKind.i64.wrap ((row.length : Int) - t.length + k) = ((row.length - t.length + k : Nat) : Int) := by rw [Xr (by omega) (by omega)]; omega
    rw [if_pos (by omega), Zp hk, w, w2, Zp hk2]
    simp only [Option.bind_some, Zl k (by omega)]
    rw [List.getElem?_eq_getElem (by simp; omega), List.getElem_zip, List.getElem_drop]
    dsimp only
    by_cases h0 : t[k] = 0
    ·simp [h0]
    ·by_cases h1 : t[k] = row[row.length - t.length + k]
     ·simp [h1]
     ·simp [h0, h1]) (by
    dsimp only [YP.F]
    have et : ((row.length : Int) - t.length).toNat = row.length - t.length := by omega
    rw [if_neg (by omega), w, if_pos (by omega), et, Z0V (by simp; omega)]; rfl)
   rw [hr]
   congr 1
   unfold takesB
   rcases hc with ⟨k, hk, hp, rfl⟩ | ⟨hn, rfl⟩
   ·rw [if_neg]
    intro hall
    rw [List.all_eq_true] at hall
    split at hp
    ·rename_i x hx
     have := hall x (List.mem_of_getElem? hx)
     rw [this] at hp; cases hp
    ·cases hp
   ·rw [if_pos]
    rw [List.all_eq_true]
    intro x hx
    obtain ⟨k, hk, hx⟩ := List.mem_iff_getElem.1 hx
    have h2 := hn k (by simp at hk; omega)
    rw [List.getElem?_eq_getElem hk, hx] at h2
    dsimp only at h2
    rw [Bool.not_eq_false'] at h2
    exact h2
  ·dsimp only [YP.F]
   rw [hs]
   simp only [Option.bind_some]
   rw [w, if_neg (by omega)]; rfl
theorem Z0w {E : TE} {i : Z7} {row : List Int} (hw : Y4 i) (hm : may i = true) : (afterC E i row).1.length ≤ row.length + 2 := by
 have hg := Z0v (E := E) (row := row) hw hm
 unfold afterC
 split
 ·simp
 ·split
  ·simp; omega
  ·simp
end Y7
namespace Y7
open Zw
def R0 : Ze := Ze.zero
def put (next : List Int) : List Ze → List Int → Int × List Ze
 | rows, [] => (0, rows)
 | rows, w :: ws => if (At rows R0 w).Reached = true ∧ (At rows R0 w).Kinds ≠ next then (100, rows) else put next (rows.set w.toNat ⟨true, next⟩) ws
def placeC (E : TE) (l : List Z7) (rows : List Ze) (a : Nat) : Int × List Ze :=
 if (At rows R0 a).Reached = true then (if (afterC E (At l Z7.zero a) (At rows R0 a).Kinds).2 ≠ 0 then ((afterC E (At l Z7.zero a) (At rows R0 a).Kinds).2, rows) else put (afterC E (At l Z7.zero a) (At rows R0 a).Kinds).1 rows (Zw.ways l a)) else (0, rows)
theorem Jf {α : Type} {xs : List α} {d : α} {a : Nat} (h : a < xs.length) : At xs d (a : Int) = xs[a] := by
 unfold At
 rw [show ((a : Int).toNat) = a from by omega, List.getElem?_eq_getElem h]; rfl
structure Well (E : TE) (l : List Z7) : Prop where
 known : Known l
 fine : Fine l
 wf : ∀ x ∈ l, Y4 x
 th : ∀ x ∈ l, there E x = true
 M : ∀ m ∈ E.M, m.Args.length < 4611686018427387904
def Sz (k : Nat) (rows : List Ze) : Prop := rows.length = 200 ∧ ∀ r ∈ rows, r.Kinds.length ≤ 2 * k
theorem Z66 {k : Nat} {next : List Int} (hn : next.length ≤ 2 * k) : ∀ (ws : List Int) (rows : List Ze), Sz k rows → Sz k (put next rows ws).2
 | [], rows, h => h
 | w :: ws, rows, h => by
  unfold put
  split
  ·exact h
  ·refine Z66 hn ws _ ⟨by rw [List.length_set]; exact h.1, fun r hr => ?_⟩
   rcases List.mem_or_eq_of_mem_set hr with hr | rfl
   ·exact h.2 r hr
   ·exact hn
theorem Z3X {α : Type} {xs : List α} {d : α} {a : Int} {p : α → Prop} (hd : p d) (h : ∀ x ∈ xs, p x) : p (At xs d a) := by
 unfold At
 rcases Nat.lt_or_ge a.toNat xs.length with z | z
 ·rw [List.getElem?_eq_getElem z]; exact h _ (List.getElem_mem z)
 ·rw [List.getElem?_eq_none z]; exact hd
theorem Z72 {E : TE} {l : List Z7} (W : Well E l) {k : Nat} (hk : k < l.length) {rows : List Ze} (h : Sz k rows) : Sz (k + 1) (placeC E l rows k).2 := by
 have h' : Sz (k + 1) rows := ⟨h.1, fun r hr => by have := h.2 r hr; omega⟩
 unfold placeC
 split
 ·split
  ·exact h'
  ·refine Z66 ?_ _ _ h'
   have hm := W.known.2.2 _ (List.getElem_mem hk)
   have hw := W.wf _ (List.getElem_mem hk)
   rw [Jf hk]
   have := Z0w (E := E) (row := (At rows R0 (k : Int)).Kinds) hw hm
   have h2 : (At rows R0 (k : Int)).Kinds.length ≤ 2 * k := Z3X (p := fun r : Ze => r.Kinds.length ≤ 2 * k) (by simp [R0, Ze.zero]) h.2
   omega
 ·exact h'
theorem Z73 {E : TE} {mig : Int} {ar lo : List Int} {re : Bool} {fu sta he : Int} {l : List Z7} (W : Well E l) {rows : List Ze} {k : Nat} (hk : k < l.length) (h : Sz k rows) :
    Yo.f E.G E.P E.M mig ar lo E.res re fu sta he l E.K rows (k : Int) = some (placeC E l rows k) := by
 have hn : l.length ≤ 200 := W.known.2.1
 have hm := W.known.2.2 _ (List.getElem_mem hk)
 have hw := W.wf _ (List.getElem_mem hk)
 have ht := W.th _ (List.getElem_mem hk)
 have hk2 : k < rows.length := by rw [h.1]; omega
 have hr : rows[k].Kinds.length ≤ 2 * k := h.2 _ (List.getElem_mem hk2)
 have ha := Z71 (mig := mig) (ar := ar) (lo := lo) (re := re) (fu := fu) (sta := sta) (he := he) (co := l) (rows := rows) hw hm ht (row := rows[k].Kinds) (by omega) W.M
 have hl := Z0w (E := E) (row := rows[k].Kinds) hw hm
 have hws := (Z64 (by omega) W.wf).2.2.2 k W.known W.fine hk
 unfold Yo.f placeC
 rw [Jf hk2, Jf hk]
 by_cases hre : rows[k].Reached = true
 ·rw [if_pos hre]
  by_cases hq : (afterC E l[k] rows[k].Kinds).2 ≠ 0
  ·rw [if_pos hq, Zf]
   dsimp only [Yo.F]
   rw [Zp hk2]
   simp only [Option.bind_some]
   rw [if_neg (by simp [hre]), Zp hk]
   simp only [Option.bind_some]
   rw [ha]
   simp only [Option.bind_some]
   rw [if_pos hq]
  ·rw [if_neg hq, Zc (t := .l1 (afterC E l[k] rows[k].Kinds, rows) (Zw.ways l k, 0) rows ((0 : Nat) : Int)) (by
    dsimp only [Yo.F]
    rw [Zp hk2]
    simp only [Option.bind_some]
    rw [if_neg (by simp [hre]), Zp hk]
    simp only [Option.bind_some]
    rw [ha]
    simp only [Option.bind_some]
    rw [if_neg hq, hws]; rfl)]
   have hf := KX W.known W.fine hk
   have key : ∀ (ws : List Int) (j : Nat) (rs : List Ze), (Zw.ways l k).drop j = ws → rs.length = 200 → (∀ r ∈ rs, r.Kinds.length ≤ 2 * k + 2) → runF (Yo.F E.G E.P E.M mig ar lo E.res re fu sta he l E.K rows k) (.l1 (afterC E l[k] rows[k].Kinds, rows) (Zw.ways l k, 0) rs (j : Int)) = some (put (afterC E l[k] rows[k].Kinds).1 rs ws) := by
    intro ws
    induction ws with
    | nil =>
     intro j rs hd hrs _
     have hj : (Zw.ways l k).length ≤ j := by simpa using hd
     refine Zf ?_
     dsimp only [Yo.F]
     rw [if_neg (by omega)]; rfl
    | cons w ws ih =>
     intro j rs hd hrs hsz
     have hj : j < (Zw.ways l k).length := by
      rcases Nat.lt_or_ge j (Zw.ways l k).length with z | z
      ·exact z
      ·rw [List.drop_eq_nil_of_le z] at hd; cases hd
     have hw' : (Zw.ways l k)[j] = w := by
      have := congrArg (fun z => z[0]?) hd
      simp [List.getElem?_eq_getElem hj] at this
      exact this
     obtain ⟨w0, w1, -⟩ := hf.2.2 j hj
     rw [hw'] at w0 w1
     have hle := hf.2.1
     unfold put
     have hel : elt rs w = some (At rs R0 w) := Uw R0 w0 (by rw [hrs]; omega)
     have hs8 : Zv.f (At rs R0 w).Kinds (afterC E l[k] rows[k].Kinds).1 = some (decide ((At rs R0 w).Kinds = (afterC E l[k] rows[k].Kinds).1)) := same8 (by
      have : (At rs R0 w).Kinds.length ≤ 2 * k + 2 := Z3X (p := fun r : Ze => r.Kinds.length ≤ 2 * k + 2) (by simp [R0, Ze.zero]) hsz
      omega)
     have step : ∀ b : Bool, b = decide ((At rs R0 w).Reached = true ∧ (At rs R0 w).Kinds ≠ (afterC E l[k] rows[k].Kinds).1) → Yo.F E.G E.P E.M mig ar lo E.res re fu sta he l E.K rows k (.l1 (afterC E l[k] rows[k].Kinds, rows) (Zw.ways l k, 0) rs (j : Int)) = if b = true then some (.inr (100, rs)) else some (.inl (.l1 (afterC E l[k] rows[k].Kinds, rows) (Zw.ways l k, 0) (rs.set w.toNat ⟨true, (afterC E l[k] rows[k].Kinds).1⟩) ((j + 1 : Nat) : Int))) := by
      rintro b rfl
      dsimp only [Yo.F]
      rw [if_pos (by omega), Zp hj, hw']
      simp only [Option.bind_some]
      rw [hel]
      simp only [Option.bind_some, Zl j (by omega)]
      rw [hs8]
      by_cases q1 : (At rs R0 w).Reached = true
      ·by_cases q2 : (At rs R0 w).Kinds = (afterC E l[k] rows[k].Kinds).1
       ·simp [q1, q2]
       ·simp [q1, q2]
      ·simp [q1]
     by_cases hc : (At rs R0 w).Reached = true ∧ (At rs R0 w).Kinds ≠ (afterC E l[k] rows[k].Kinds).1
     ·rw [if_pos hc, Zf (r := (100, rs))]
      rw [step true (by rw [eq_comm, decide_eq_true_eq]; exact hc), if_pos rfl]
     ·rw [if_neg hc, Zc (t := .l1 (afterC E l[k] rows[k].Kinds, rows) (Zw.ways l k, 0) (rs.set w.toNat ⟨true, (afterC E l[k] rows[k].Kinds).1⟩) ((j + 1 : Nat) : Int))]
      ·refine ih (j + 1) _ ?_ (by rw [List.length_set]; exact hrs) fun r hr => ?_
       ·rw [← List.drop_drop, hd]; rfl
       ·rcases List.mem_or_eq_of_mem_set hr with hr | rfl
        ·exact hsz r hr
        ·dsimp only; omega
      ·rw [step false (by rw [eq_comm, decide_eq_false_iff_not]; exact hc), if_neg (by simp)]
   exact key _ 0 rows rfl h.1 fun r hr => by have := h.2 r hr; omega
 ·rw [if_neg hre, Zf]
  dsimp only [Yo.F]
  rw [Zp hk2]
  simp only [Option.bind_some]
  rw [if_pos (by simpa using hre)]
def rows0 : List Ze := (List.replicate 200 Ze.zero).set 0 ⟨true, []⟩
def rowsAt (E : TE) (l : List Z7) : Nat → Int × List Ze
 | 0 => (0, rows0)
 | k + 1 => if (rowsAt E l k).1 ≠ 0 then rowsAt E l k else placeC E l (rowsAt E l k).2 k
def rowsC (E : TE) (l : List Z7) : List Ze × Int := if (rowsAt E l l.length).1 ≠ 0 then ([], (rowsAt E l l.length).1) else ((rowsAt E l l.length).2.take l.length, 0)
theorem K7 {E : TE} {l : List Z7} (W : Well E l) : ∀ k, k ≤ l.length → Sz k (rowsAt E l k).2
 | 0, _ => ⟨by show rows0.length = 200; unfold rows0; rw [List.length_set, List.length_replicate], fun r hr => by
  unfold rowsAt rows0 at hr
  rcases List.mem_or_eq_of_mem_set hr with hr | rfl
  ·rw [List.eq_of_mem_replicate hr]; exact Nat.zero_le _
  ·exact Nat.zero_le _⟩
 | k + 1, hk => by
  have ih := K7 W k (by omega)
  unfold rowsAt
  split
  ·exact ⟨ih.1, fun r hr => by have := ih.2 r hr; omega⟩
  ·exact Z72 W hk ih
def envOf (m : Z9) (x : Zb) : TE := ⟨m.Zj, m.Pool, m.Methods, x.Result, x.Args ++ x.Locals⟩
end Y7
namespace Y7
open Zw
def l2s (rows : List Ze) : Yd.S := .l2 rows rows 0
theorem clones {m : Z9} {k : Int} {rows : List Ze} (h : rows.length ≤ 200) (hs : ∀ r ∈ rows, r.Kinds.length ≤ 1000) : runF (Yd.F m k) (l2s rows) = some (rows, 0) := by
 refine (Vs (F := Yd.F m k) (n := rows.length) (fun j => .l2 rows rows (j : Int)) (fun j hj => ?_)).trans (Zf ?_)
 ·dsimp only [Yd.F]
  have := hs _ (List.getElem_mem hj)
  rw [if_pos (by omega), Zp hj]
  simp only [Option.bind_some]
  rw [clone8 (by omega)]
  simp only [Option.bind_some, Zl j (by omega)]
  have e : rows.set (j : Int).toNat ({ rows[j] with Kinds := rows[j].Kinds } : Ze) = rows := by
   rw [show (j : Int).toNat = j from by omega]
   exact List.set_getElem_self hj
  rw [e]
 ·dsimp only [Yd.F]
  rw [if_neg (by omega)]
end Y7
namespace Y7
open Zw
theorem Z0x {m : Z9} {k : Int} {x : Zb} (h0 : 0 ≤ k) (h1 : k < m.Methods.length) (hx : elt m.Methods k = some x) (W : Well (envOf m x) x.Code) (hlen : x.Args.length + x.Locals.length ≤ 140737488355328) :
    Yd.f m k = some (rowsC (envOf m x) x.Code) := by
 have hn : x.Code.length ≤ 200 := W.known.2.1
 have hp : 1 ≤ x.Code.length := W.known.1
 unfold Yd.f
 have hck : Ve.f x.Code = some 0 := by
  unfold Ve.f
  rw [(Kt (by omega) W.wf).2.1 W.known W.fine]; rfl
 have hth : Yq.f x.Code m.Zj m.Pool m.Methods m.Zd x.Args x.Locals x.Result x.Reads x.Fuel x.Stack x.Heap x.Code (x.Args ++ x.Locals) = some false := by
  refine (JC (E := envOf m x) (l := x.Code) (by omega)).trans ?_
  congr 1
  rw [List.any_eq_false]
  intro y hy
  rw [W.th y hy]; simp
 rw [Zc (t := .l1 x (x.Args ++ x.Locals) rows0 ((0 : Nat) : Int)) (by
  dsimp only [Yd.F]
  rw [if_neg (by simp; omega), hx]
  simp only [Option.bind_some]
  rw [hck]
  simp only [Option.bind_some]
  rw [if_neg (by simp), Z0V hlen]
  simp only [Option.bind_some]
  rw [hth]
  simp only [Option.bind_some]
  rfl)]
 have key : ∀ j, j ≤ x.Code.length → runF (Yd.F m k) (.l1 x (x.Args ++ x.Locals) rows0 ((0 : Nat) : Int)) = if (rowsAt (envOf m x) x.Code j).1 ≠ 0 then some ([], (rowsAt (envOf m x) x.Code j).1) else runF (Yd.F m k) (.l1 x (x.Args ++ x.Locals) (rowsAt (envOf m x) x.Code j).2 (j : Int)) := by
  intro j
  induction j with
  | zero => intro _; rfl
  | succ j ih =>
   intro hj
   rw [ih (by omega)]
   have hz := K7 W j (by omega)
   by_cases he : (rowsAt (envOf m x) x.Code j).1 ≠ 0
   ·have e1 : rowsAt (envOf m x) x.Code (j + 1) = rowsAt (envOf m x) x.Code j := by rw [rowsAt, if_pos he]
    rw [e1, if_pos he, if_pos he]
   ·have e1 : rowsAt (envOf m x) x.Code (j + 1) = placeC (envOf m x) x.Code (rowsAt (envOf m x) x.Code j).2 j := by rw [rowsAt, if_neg he]
    rw [e1, if_neg he]
    have hpl := Z73 (mig := m.Zd) (ar := x.Args) (lo := x.Locals) (re := x.Reads) (fu := x.Fuel) (sta := x.Stack) (he := x.Heap) W (k := j) (by omega) hz
    have hpl : Yo.f m.Zj m.Pool m.Methods m.Zd x.Args x.Locals x.Result x.Reads x.Fuel x.Stack x.Heap x.Code (x.Args ++ x.Locals) (rowsAt (envOf m x) x.Code j).2 (j : Int) = _ := hpl
    generalize placeC (envOf m x) x.Code (rowsAt (envOf m x) x.Code j).2 j = pr at hpl ⊢
    by_cases hq : pr.1 ≠ 0
    ·rw [if_pos hq, Zf]
     dsimp only [Yd.F]
     rw [if_pos (by omega), hpl]
     simp only [Option.bind_some]
     rw [if_pos hq]
    ·rw [if_neg hq]
     refine Zc ?_
     dsimp only [Yd.F]
     rw [if_pos (by omega), hpl]
     simp only [Option.bind_some]
     rw [if_neg hq, Zl j (by omega)]
 rw [key _ (Nat.le_refl _)]
 unfold rowsC
 by_cases he : (rowsAt (envOf m x) x.Code x.Code.length).1 ≠ 0
 ·rw [if_pos he, if_pos he]
 ·rw [if_neg he, if_neg he]
  have hz := K7 W _ (Nat.le_refl _)
  have hl : ((rowsAt (envOf m x) x.Code x.Code.length).2.take x.Code.length).length ≤ 200 := by rw [List.length_take]; omega
  rw [Zc (t := l2s ((rowsAt (envOf m x) x.Code x.Code.length).2.take x.Code.length)) (by
   dsimp only [Yd.F]
   rw [if_neg (by omega), if_pos (by omega), show ((x.Code.length : Int)).toNat = x.Code.length from by omega, Z65 hl]; rfl)]
  exact clones hl fun r hr => by have := hz.2 r (List.mem_of_mem_take hr); omega
theorem Z0y {m : Z9} {k : Int} {x : Zb} (h0 : 0 ≤ k) (h1 : k < m.Methods.length) (hx : elt m.Methods k = some x) (hl : x.Code.length < 4611686018427387904) (hw : ∀ i ∈ x.Code, Y4 i) (hlen : x.Args.length + x.Locals.length ≤ 140737488355328) :
    (¬ Known x.Code → Yd.f m k = some ([], 40)) ∧ (Known x.Code → ¬ Fine x.Code → Yd.f m k = some ([], 90)) ∧ (Known x.Code → Fine x.Code → (∃ i ∈ x.Code, there (envOf m x) i = false) → Yd.f m k = some ([], 100)) := by
 obtain ⟨a1, a2, a3⟩ := Kt hl hw
 unfold Yd.f
 refine ⟨fun h => ?_, fun h hf => ?_, fun h hf ht => ?_⟩
 ·rw [Zf]
  dsimp only [Yd.F]
  rw [if_neg (by simp; omega), hx]
  simp only [Option.bind_some]
  unfold Ve.f
  rw [a1 h]; rfl
 ·rw [Zf]
  dsimp only [Yd.F]
  rw [if_neg (by simp; omega), hx]
  simp only [Option.bind_some]
  unfold Ve.f
  rw [a3 h hf]; rfl
 ·have hth : Yq.f x.Code m.Zj m.Pool m.Methods m.Zd x.Args x.Locals x.Result x.Reads x.Fuel x.Stack x.Heap x.Code (x.Args ++ x.Locals) = some true := by
   refine (JC (E := envOf m x) (l := x.Code) (by omega)).trans ?_
   congr 1
   rw [List.any_eq_true]
   obtain ⟨i, hi, ht⟩ := ht
   exact ⟨i, hi, by rw [ht]; rfl⟩
  rw [Zf]
  dsimp only [Yd.F]
  rw [if_neg (by simp; omega), hx]
  simp only [Option.bind_some]
  unfold Ve.f
  rw [a2 h hf]
  simp only [Option.bind_some]
  rw [if_neg (by simp), Z0V hlen]
  simp only [Option.bind_some]
  rw [hth]
  simp only [Option.bind_some]
  rfl
end Y7
namespace Y7
open Zw
def g (rows : List Ze) (p : Nat) : Ze := rows[p]?.getD R0
theorem Z9v (rows : List Ze) (w : Int) : At rows R0 w = g rows w.toNat := rfl
theorem Z7v {rows : List Ze} {k p : Nat} {v : Ze} (h : k < rows.length) : g (rows.set k v) p = if p = k then v else g rows p := by
 unfold g
 by_cases e : p = k
 ·subst e; rw [if_pos rfl, List.getElem?_set_self h]; rfl
 ·rw [if_neg e, List.getElem?_set_ne (by omega)]
structure Put (next : List Int) (rows : List Ze) (ws : List Int) (rows' : List Ze) : Prop where
 len : rows'.length = rows.length
 keep : ∀ p, (g rows p).Reached = true → g rows' p = g rows p
 ways : ∀ w ∈ ws, g rows' w.toNat = ⟨true, next⟩
 new : ∀ p, (g rows' p).Reached = true → (g rows p).Reached = true ∨ ∃ w ∈ ws, w.toNat = p
 old : ∀ p, ¬ (g rows' p).Reached = true → g rows' p = g rows p
theorem Z67 {next : List Int} : ∀ (ws : List Int) (rows : List Ze), (∀ w ∈ ws, w.toNat < rows.length) → (put next rows ws).1 = 0 → Put next rows ws (put next rows ws).2
 | [], rows, _, _ => ⟨rfl, fun _ _ => rfl, fun w hw => by simp at hw, fun p h => .inl h, fun _ _ => rfl⟩
 | w :: ws, rows, hl, h => by
  unfold put at h ⊢
  by_cases hc : (At rows R0 w).Reached = true ∧ (At rows R0 w).Kinds ≠ next
  ·rw [if_pos hc] at h; cases h
  ·rw [if_neg hc] at h ⊢
   have hw : w.toNat < rows.length := hl w (by simp)
   have ih := Z67 ws _ (fun u hu => by rw [List.length_set]; exact hl u (by simp [hu])) h
   have same : (g rows w.toNat).Reached = true → g rows w.toNat = ⟨true, next⟩ := by
    intro hr
    rw [Z9v] at hc
    generalize g rows w.toNat = r at hc hr
    obtain ⟨a, b⟩ := r
    dsimp only at hr hc
    subst hr
    have : b = next := by
     refine Classical.byContradiction fun hb => hc ⟨rfl, hb⟩
    rw [this]
   have hs := fun p => Z7v (rows := rows) (p := p) (v := (⟨true, next⟩ : Ze)) hw
   refine ⟨by rw [ih.len, List.length_set], fun p hp => ?_, fun u hu => ?_, fun p hp => ?_, fun p hp => ?_⟩
   ·have e : g (rows.set w.toNat ⟨true, next⟩) p = g rows p := by
     rw [hs]
     by_cases e : p = w.toNat
     ·subst e; rw [if_pos rfl, same hp]
     ·rw [if_neg e]
    rw [ih.keep p (by rw [e]; exact hp), e]
   ·rcases List.mem_cons.1 hu with rfl | hu
    ·have e : g (rows.set u.toNat ⟨true, next⟩) u.toNat = ⟨true, next⟩ := by rw [hs, if_pos rfl]
     rw [ih.keep _ (by rw [e]), e]
    ·exact ih.ways u hu
   ·rcases ih.new p hp with h1 | ⟨u, hu, e⟩
    ·rw [hs] at h1
     by_cases e : p = w.toNat
     ·exact .inr ⟨w, by simp, e.symm⟩
     ·rw [if_neg e] at h1; exact .inl h1
    ·exact .inr ⟨u, by simp [hu], e⟩
   ·have h1 := ih.old p hp
    rw [hs] at h1
    by_cases e : p = w.toNat
    ·rw [if_pos e] at h1; rw [h1] at hp; exact absurd rfl hp
    ·rw [if_neg e] at h1; exact h1
structure Inv (E : TE) (l : List Z7) (t : Nat) (rows : List Ze) : Prop where
 len : rows.length = 200
 r0 : g rows 0 = ⟨true, []⟩
 un : ∀ p, ¬ (g rows p).Reached = true → (g rows p).Kinds = []
 top : ∀ p, (g rows p).Reached = true → p < l.length
 led : ∀ p, (g rows p).Reached = true → p = 0 ∨ ∃ q, q < p ∧ q < t ∧ (g rows q).Reached = true ∧ (p : Int) ∈ Zw.ways l q
 done : ∀ q (hq : q < l.length), q < t → (g rows q).Reached = true → (afterC E l[q] (g rows q).Kinds).2 = 0 ∧ ∀ w ∈ Zw.ways l q, g rows w.toNat = ⟨true, (afterC E l[q] (g rows q).Kinds).1⟩
theorem Z68 {l : List Z7} (hk : Known l) (hf : Fine l) {a : Nat} (ha : a < l.length) (h29 : l[a].Op = 29) : 0 ≤ l[a].A ∧ l[a].A < a ∧ Pr (KK l) l.length l[a].A.toNat a ∧ KK l l[a].A.toNat = .loop := by
 obtain ⟨o1, o2⟩ := UC hf.1
 have hm := hk.2.2 _ (List.getElem_mem ha)
 have hp := VZ hm (.inr (.inr h29))
 have hkk : KK l a = .again l[a].A.toNat := by rw [Z0U ha, if_neg (by omega), if_pos h29]
 obtain ⟨T, hT⟩ := KQ hf.1.1 ha hkk
 have := ((Ub (KK l) a fun j hj => hf.1.1 j (by omega)).1 l[a].A.toNat).1 (by rw [hT]; simp)
 obtain ⟨b1, b2⟩ := o2 a _ ha hkk
 exact ⟨hp.1, by omega, ⟨b1, ha, b2, hkk⟩, b2⟩
theorem Z69 {l : List Z7} {a : Nat} (ha : a < l.length) (h : l[a].Op = 28) : Zw.ways l a = [((a + 1 : Nat) : Int)] := by
 unfold Zw.ways
 rw [List.getElem?_eq_getElem ha]
 dsimp only
 rw [if_neg (by omega), if_neg (by omega), if_neg (by omega), if_neg (by omega)]
theorem inv_zero {E : TE} {l : List Z7} (hl : 1 ≤ l.length) : Inv E l 0 rows0 := by
 have h0 : (0 : Nat) < (List.replicate 200 Ze.zero).length := by rw [List.length_replicate]; omega
 have hs := fun p => Z7v (p := p) (v := (⟨true, []⟩ : Ze)) h0
 have hz : ∀ p, g (List.replicate 200 Ze.zero) p = R0 := by
  intro p
  unfold g
  rcases Nat.lt_or_ge p 200 with z | z
  ·rw [List.getElem?_eq_getElem (by rw [List.length_replicate]; exact z), List.getElem_replicate]; rfl
  ·rw [List.getElem?_eq_none (by rw [List.length_replicate]; exact z)]; rfl
 have hg : ∀ p, g rows0 p = if p = 0 then ⟨true, []⟩ else R0 := fun p => by unfold rows0; rw [hs, hz]
 have hr : ∀ p, (g rows0 p).Reached = true → p = 0 := by
  intro p hp
  rw [hg] at hp
  by_cases e : p = 0
  ·exact e
  ·rw [if_neg e] at hp; cases hp
 refine ⟨by unfold rows0; rw [List.length_set, List.length_replicate], by rw [hg, if_pos rfl], fun p hp => ?_, fun p hp => by have := hr p hp; omega, fun p hp => .inl (hr p hp), fun q _ hq => by omega⟩
 rw [hg]; split <;> rfl
theorem Z74 {E : TE} {l : List Z7} (W : Well E l) {t : Nat} (ht : t < l.length) {rows : List Ze} (I : Inv E l t rows) (h : (placeC E l rows t).1 = 0) : Inv E l (t + 1) (placeC E l rows t).2 := by
 have hn : l.length ≤ 200 := W.known.2.1
 unfold placeC at h ⊢
 rw [Z9v, show ((t : Int)).toNat = t from by omega, Jf ht] at h ⊢
 by_cases hre : (g rows t).Reached = true
 ·rw [if_pos hre] at h ⊢
  by_cases he : (afterC E l[t] (g rows t).Kinds).2 ≠ 0
  ·rw [if_pos he] at h; exact absurd h he
  ·rw [if_neg he] at h ⊢
   have he : (afterC E l[t] (g rows t).Kinds).2 = 0 := Classical.not_not.1 he
   have hf := KX W.known W.fine ht
   have hin : ∀ w ∈ Zw.ways l t, 0 ≤ w ∧ w < l.length := by
    intro w hw
    obtain ⟨i, hi, rfl⟩ := List.mem_iff_getElem.1 hw
    have := hf.2.2 i hi
    exact ⟨this.1, this.2.1⟩
   have P := Z67 (next := (afterC E l[t] (g rows t).Kinds).1) (Zw.ways l t) rows (fun w hw => by have := hin w hw; rw [I.len]; omega) h
   generalize (put (afterC E l[t] (g rows t).Kinds).1 rows (Zw.ways l t)).2 = rows' at P ⊢
   -- what a way back leads to was reached
   have back : ∀ w ∈ Zw.ways l t, w.toNat ≤ t → (g rows w.toNat).Reached = true := by
    intro w hw hle
    obtain ⟨i, hi, rfl⟩ := List.mem_iff_getElem.1 hw
    obtain ⟨w0, w1, w2, -, -⟩ := hf.2.2 i hi
    obtain ⟨h29, e⟩ := w2 (by omega)
    obtain ⟨a0, a1, pr, kl⟩ := Z68 W.known W.fine ht h29
    have desc : ∀ r, r ≤ t → l[t].A.toNat < r → (g rows r).Reached = true → (g rows l[t].A.toNat).Reached = true := by
     intro r
     induction r using Nat.strongRecOn with
     | _ r ih =>
      intro hr hA hg
      rcases I.led r hg with e0 | ⟨q, q1, q2, q3, q4⟩
      ·omega
      ·have hq : q < l.length := by omega
       obtain ⟨j, hj, ej⟩ := List.mem_iff_getElem.1 q4
       obtain ⟨-, -, -, -, hy⟩ := (KX W.known W.fine hq).2.2 j hj
       have := hy (l[t].A.toNat, t) pr (by rw [ej]; dsimp only; omega) (by rw [ej]; dsimp only; omega)
       dsimp only at this
       by_cases eq : q = l[t].A.toNat
       ·rw [← eq]; exact q3
       ·exact ih q q1 (by omega) (by omega) q3
    have hA := desc t (Nat.le_refl _) (by omega) hre
    have hAl : l[t].A.toNat < l.length := by omega
    have hop : l[l[t].A.toNat].Op = 28 := (KG hAl).1 kl
    have := (I.done _ hAl (by omega) hA).2 ((l[t].A.toNat + 1 : Nat) : Int) (by rw [Z69 hAl hop]; simp)
    have e2 : (Zw.ways l t)[i].toNat = (((l[t].A.toNat + 1 : Nat) : Int)).toNat := by rw [e]; omega
    rw [e2, this]
   have was : ∀ p, p ≤ t → (g rows' p).Reached = true → (g rows p).Reached = true := by
    intro p hp hr
    rcases P.new p hr with h1 | ⟨w, hw, rfl⟩
    ·exact h1
    ·exact back w hw hp
   refine ⟨by rw [P.len, I.len], by rw [P.keep 0 (by rw [I.r0]), I.r0], fun p hp => ?_, fun p hp => ?_, fun p hp => ?_, fun q hq hqt hr => ?_⟩
   ·have e := P.old p hp
    rw [e] at hp ⊢; exact I.un p hp
   ·rcases P.new p hp with h1 | ⟨w, hw, rfl⟩
    ·exact I.top p h1
    ·have := hin w hw; omega
   ·have carry : (g rows p).Reached = true → p = 0 ∨ ∃ q, q < p ∧ q < t + 1 ∧ (g rows' q).Reached = true ∧ (p : Int) ∈ Zw.ways l q := by
     intro h1
     rcases I.led p h1 with e | ⟨q, q1, q2, q3, q4⟩
     ·exact .inl e
     ·exact .inr ⟨q, q1, by omega, by rw [P.keep q q3]; exact q3, q4⟩
    rcases P.new p hp with h1 | ⟨w, hw, e⟩
    ·exact carry h1
    ·rcases Nat.lt_or_ge t p with z | z
     ·have := hin w hw
      have ep : (p : Int) = w := by omega
      exact .inr ⟨t, z, by omega, by rw [P.keep t hre]; exact hre, by rw [ep]; exact hw⟩
     ·exact carry (was p z hp)
   ·have h1 := was q (by omega) hr
    rw [P.keep q h1]
    by_cases e : q = t
    ·subst e; exact ⟨he, P.ways⟩
    ·obtain ⟨d1, d2⟩ := I.done q hq (by omega) h1
     refine ⟨d1, fun w hw => ?_⟩
     rw [P.keep _ (by rw [d2 w hw]), d2 w hw]
 ·rw [if_neg hre]
  refine ⟨I.len, I.r0, I.un, I.top, fun p hp => ?_, fun q hq hqt hr => ?_⟩
  ·rcases I.led p hp with e | ⟨q, q1, q2, q3, q4⟩
   ·exact .inl e
   ·exact .inr ⟨q, q1, by omega, q3, q4⟩
  ·by_cases e : q = t
   ·subst e; exact absurd hr hre
   ·exact I.done q hq (by omega) hr
theorem Z1U {E : TE} {l : List Z7} (W : Well E l) : ∀ k, k ≤ l.length → (rowsAt E l k).1 = 0 → Inv E l k (rowsAt E l k).2
 | 0, _, _ => inv_zero W.known.1
 | k + 1, hk, h => by
  unfold rowsAt at h ⊢
  by_cases he : (rowsAt E l k).1 ≠ 0
  ·rw [if_pos he] at h; exact absurd h he
  ·rw [if_neg he] at h ⊢
   exact Z74 W hk (Z1U W k (by omega) (Classical.not_not.1 he)) h
structure Told (E : TE) (l : List Z7) (rows : List Ze) : Prop where
 len : rows.length = l.length
 r0 : g rows 0 = ⟨true, []⟩
 un : ∀ p, ¬ (g rows p).Reached = true → (g rows p).Kinds = []
 led : ∀ p, (g rows p).Reached = true → p = 0 ∨ ∃ q, q < p ∧ (g rows q).Reached = true ∧ (p : Int) ∈ Zw.ways l q
 done : ∀ q (hq : q < l.length), (g rows q).Reached = true → (afterC E l[q] (g rows q).Kinds).2 = 0 ∧ ∀ w ∈ Zw.ways l q, g rows w.toNat = ⟨true, (afterC E l[q] (g rows q).Kinds).1⟩
 sz : ∀ r ∈ rows, r.Kinds.length ≤ 400
theorem Z9w {rows : List Ze} {n : Nat} (hu : ∀ p, n ≤ p → g rows p = R0) (p : Nat) : g (rows.take n) p = g rows p := by
 rcases Nat.lt_or_ge p n with z | z
 ·unfold g; rw [List.getElem?_take_of_lt z]
 ·rw [hu p z]; unfold g; rw [List.getElem?_eq_none (by rw [List.length_take]; omega)]; rfl
theorem Jo {E : TE} {l : List Z7} (W : Well E l) (h : (rowsC E l).2 = 0) : Told E l (rowsC E l).1 := by
 have hn : l.length ≤ 200 := W.known.2.1
 unfold rowsC at h ⊢
 by_cases he : (rowsAt E l l.length).1 ≠ 0
 ·rw [if_pos he] at h; exact absurd h he
 ·rw [if_neg he]
  have I := Z1U W _ (Nat.le_refl _) (Classical.not_not.1 he)
  have S := K7 W _ (Nat.le_refl _)
  generalize (rowsAt E l l.length).2 = rows at I S ⊢
  have hu : ∀ p, l.length ≤ p → g rows p = R0 := by
   intro p hp
   have hr : ¬ (g rows p).Reached = true := fun h => by have := I.top p h; omega
   have hk := I.un p hr
   generalize g rows p = r at hr hk ⊢
   obtain ⟨a, b⟩ := r
   dsimp only at hr hk
   subst hk
   rw [Bool.not_eq_true] at hr
   subst hr; rfl
  have e := Z9w hu
  refine ⟨by rw [List.length_take, I.len]; omega, by rw [e, I.r0], fun p hp => by rw [e] at hp ⊢; exact I.un p hp, fun p hp => ?_, fun q hq hr => ?_, fun r hr => by have := S.2 r (List.mem_of_mem_take hr); omega⟩
  ·rw [e] at hp
   rcases I.led p hp with e0 | ⟨q, q1, -, q3, q4⟩
   ·exact .inl e0
   ·exact .inr ⟨q, q1, by rw [e]; exact q3, q4⟩
  ·rw [e] at hr ⊢
   obtain ⟨d1, d2⟩ := I.done q hq hq hr
   exact ⟨d1, fun w hw => by rw [e]; exact d2 w hw⟩
end Y7
deriving instance DecidableEq for Ze
namespace Y7
open Zw
def greatM (x : Zb) : Bool := decide ((x.Args.length : Int) > 100) || decide ((x.Locals.length : Int) > 100) || decide ((x.Code.length : Int) > 300)
def greatB (m : Z9) : Bool := ((decide ((m.Zj.length : Int) > 100) || decide ((m.Pool.length : Int) > 100)) || decide ((m.Methods.length : Int) > 40)) || m.Methods.any greatM
theorem Z3Y (m : Z9) : YU.f m = some (greatB m) := by
 unfold YU.f greatB
 by_cases h : ((decide ((m.Zj.length : Int) > 100) || decide ((m.Pool.length : Int) > 100)) || decide ((m.Methods.length : Int) > 40)) = true
 ·rw [h, Zf (r := true)]; rfl
  dsimp only [YU.F]; rw [if_pos h]
 ·rw [Zc (t := .l1 ((0 : Nat) : Int)) (by dsimp only [YU.F]; rw [if_neg h]; rfl)]
  have hlen : m.Methods.length ≤ 40 := by
   simp only [Bool.not_eq_true, Bool.or_eq_false_iff, decide_eq_false_iff_not] at h; omega
  have h' := h
  rw [Bool.not_eq_true] at h
  rw [h, Bool.false_or]
  obtain ⟨r, hr, hc⟩ := Uk (F := YU.F m) (n := m.Methods.length) (b := false) (a := fun _ => true) (fun k => .l1 (k : Int)) (fun k => if h : k < m.Methods.length then greatM m.Methods[k] else false) (fun k hk => by
   dsimp only [YU.F]
   rw [if_pos (by omega), Zp hk]
   simp only [Option.bind_some]
   unfold VF.f
   simp only [Option.bind_some, dif_pos hk, Zl k (by omega)]
   unfold greatM
   cases decide ((m.Methods[k].Args.length : Int) > 100) <;> cases decide ((m.Methods[k].Locals.length : Int) > 100) <;> simp <;> split <;> rfl) (by dsimp only [YU.F]; rw [if_neg (by omega)])
  rw [hr]
  congr 1
  rcases hc with ⟨k, hk, hp, rfl⟩ | ⟨hn, rfl⟩
  ·rw [dif_pos hk] at hp
   rw [eq_comm, List.any_eq_true]
   exact ⟨_, List.getElem_mem hk, hp⟩
  ·rw [eq_comm, List.any_eq_false]
   intro x hx
   obtain ⟨k, hk, rfl⟩ := List.mem_iff_getElem.1 hx
   have := hn k hk
   rw [dif_pos hk] at this
   rw [this]; simp
structure Small (m : Z9) : Prop where
 G : m.Zj.length ≤ 100
 P : m.Pool.length ≤ 100
 M : m.Methods.length ≤ 40
 x : ∀ x ∈ m.Methods, x.Args.length ≤ 100 ∧ x.Locals.length ≤ 100 ∧ x.Code.length ≤ 300
theorem Z75 {m : Z9} (h : greatB m = false) : Small m := by
 unfold greatB at h
 simp only [Bool.or_eq_false_iff, decide_eq_false_iff_not, List.any_eq_false] at h
 obtain ⟨⟨⟨h1, h2⟩, h3⟩, h4⟩ := h
 refine ⟨by omega, by omega, by omega, fun x hx => ?_⟩
 have := h4 x hx
 unfold greatM at this
 simp only [Bool.not_eq_true, Bool.or_eq_false_iff, decide_eq_false_iff_not] at this
 omega
def H (rows : List Ze) : Nat → Int
 | 0 => 0
 | k + 1 => if ((g rows k).Kinds.length : Int) > H rows k then ((g rows k).Kinds.length : Int) else H rows k
theorem Z1o (rows : List Ze) : ∀ k, 0 ≤ H rows k
 | 0 => by simp [H]
 | k + 1 => by have := Z1o rows k; unfold H; split <;> omega
theorem Z5p {rows : List Ze} {k : Nat} (h : k < rows.length) : g rows k = rows[k] := by unfold g; rw [List.getElem?_eq_getElem h]; rfl
theorem Z2I {rows : List Ze} (h : rows.length < 4611686018427387904) : Wp.f rows = some (H rows rows.length) := by
 unfold Wp.f
 rw [Zc (t := .l1 (H rows 0) ((0 : Nat) : Int)) rfl]
 refine (Vs (F := Wp.F rows) (n := rows.length) (fun k => .l1 (H rows k) (k : Int)) (fun k hk => ?_)).trans (Zf ?_)
 ·dsimp only [Wp.F]
  rw [if_pos (by omega), Zp hk]
  simp only [Option.bind_some, Zl k (by omega)]
  rw [show H rows (k + 1) = if ((g rows k).Kinds.length : Int) > H rows k then ((g rows k).Kinds.length : Int) else H rows k from rfl, Z5p hk]
 ·dsimp only [Wp.F]
  rw [if_neg (by omega)]
end Y7
namespace Y7
open Zw
end Y7
namespace Zw
def tm (l : List Z7) (R : List (Nat × Nat)) (a : Nat) : Int := R.foldl (fun n x => if x.1 < a ∧ a ≤ x.2 then IntKind.i64.wrap (n * turns l x.1) else n) 1
theorem Z4S (l : List Z7) (R : List (Nat × Nat)) (x : Nat × Nat) (a : Nat) : tm l (R ++ [x]) a = if x.1 < a ∧ a ≤ x.2 then IntKind.i64.wrap (tm l R a * turns l x.1) else tm l R a := by
 unfold tm; rw [List.foldl_append]; rfl
def tms (l : List Z7) : List Int := (List.range l.length).map fun a => tm l (RL (KK l) l.length) a
theorem Z2Z {g : Nat → Int} {n m : Nat} {v : Int} : ((List.range n).map g).set m v = (List.range n).map fun a => if a = m then v else g a := by
 apply List.ext_getElem?
 intro i
 rw [List.getElem?_set]
 by_cases h : m = i
 ·subst h
  rw [if_pos rfl]
  by_cases hm : m < n
  ·rw [if_pos (by simpa using hm)]; simp [hm]
  ·rw [if_neg (by simpa using hm)]; simp [hm]
 ·rw [if_neg h]
  by_cases hm : i < n
  ·simp [hm, Ne.symm h]
  ·simp [hm]
theorem Z5q {n : Nat} (h1 : 1 ≤ n) (h2 : n ≤ 200) : ZK.f [1] n = some (List.replicate n 1) := by
 unfold ZK.f
 have wu : IntKind.u64.wrap (n : Int) = n := by
  simp only [IntKind.wrap, IntKind.bits, IntKind.signed]; simp; omega
 have w1 : IntKind.u64.wrap ((([1] : List Int).length : Nat) : Int) = 1 := by
  simp [IntKind.wrap, IntKind.bits, IntKind.signed]
 have hs : ZK.F [1] n .start = some (.inl (.l1 (List.replicate 1 1 ++ List.replicate (n - 1) 0) ((1 : Nat) : Int))) := by
  dsimp only [ZK.F]
  rw [if_neg (by omega)]
  unfold ZK.j1 WZ.f
  rw [w1, wu, if_pos (by omega)]
  simp only [Option.bind_some]
  have e1 : (1 * (n : Int) / 18446744073709551616) = 0 := by omega
  have e2 : (1 * (n : Int) % 18446744073709551616) = n := by omega
  rw [e1, e2, if_neg (by rw [Bool.or_eq_true, decide_eq_true_eq, decide_eq_true_eq]; omega)]
  unfold ZK.j2
  dsimp only
  rw [Xr (by omega) (by omega), if_pos (by omega)]
  have e3 : ((n : Int)).toNat = n := rfl
  rw [e3]
  obtain ⟨m, rfl⟩ : ∃ m, n = m + 1 := ⟨n - 1, by omega⟩
  simp [List.replicate_succ]
 rw [Zc hs]
 have key : ∀ d x, 1 ≤ x → x + d = n → runF (ZK.F [1] n) (.l1 (List.replicate x 1 ++ List.replicate (n - x) 0) (x : Int)) = some (List.replicate n 1) := by
  intro d
  induction d using Nat.strongRecOn with
  | ind d ih =>
   intro x hx hd
   by_cases hz : d = 0
   ·subst hz
    obtain rfl : x = n := by omega
    refine Zf ?_
    dsimp only [ZK.F]
    rw [if_neg (by simp)]
    simp
   ·have hlen : (List.replicate x (1 : Int) ++ List.replicate (n - x) 0).length = n := by simp; omega
    rw [Zc (t := .l1 (List.replicate (x + min x (n - x)) 1 ++ List.replicate (n - (x + min x (n - x))) 0) ((x + min x (n - x) : Nat) : Int)) ?_]
    ·exact ih (n - (x + min x (n - x))) (by omega) _ (by omega) (by omega)
    ·dsimp only [ZK.F]
     rw [hlen, if_pos (by omega), if_pos (by omega), if_pos (by omega)]
     have e3 : ((x : Int)).toNat = x := rfl
     rw [e3, Xr (by omega) (by omega)]
     have hc : min x (n - x) ≤ x := Nat.min_le_left _ _
     have hc2 : min x (n - x) ≤ n - x := Nat.min_le_right _ _
     generalize min x (n - x) = c at hc hc2 ⊢
     have t1 : (List.replicate x (1 : Int) ++ List.replicate (n - x) 0).take x = List.replicate x 1 := by
      rw [List.take_append_of_le_length (by simp)]; simp
     have t2 : (List.replicate x (1 : Int) ++ List.replicate (n - x) 0).take c = List.replicate c 1 := by
      rw [List.take_append_of_le_length (by simp; omega)]; simp; omega
     have t3 : (List.replicate x (1 : Int) ++ List.replicate (n - x) 0).drop (x + c) = List.replicate (n - (x + c)) 0 := by
      rw [List.drop_append]; simp; omega
     rw [t1, t2, t3, List.replicate_append_replicate]
     rfl
 exact key (n - 1) 1 (by omega) (by omega)
theorem JO {l : List Z7} (hlen : l.length < 4611686018427387904) (hw : ∀ x ∈ l, Y4 x) :
    (¬ Known l → Xp.f l = some ([], 40)) ∧ (Known l → Fine l → Xp.f l = some (tms l, 0)) ∧ (Known l → ¬ Fine l → Xp.f l = some ([], 90)) := by
 obtain ⟨a1, a2, a3⟩ := Kt hlen hw
 unfold Xp.f
 refine ⟨fun h => Zf ?_, fun h hf => ?_, fun h hf => Zf ?_⟩
 ·dsimp only [Xp.F]; rw [a1 h]; rfl
 ·obtain ⟨o1, o2⟩ := UC hf.1
  have hR := Z0u o1
  obtain ⟨n1, n2, hm⟩ := h
  rw [Zc (t := .l1 ((RL (KK l) l.length).map (gF l), 0) (List.replicate l.length 1) ((0 : Nat) : Int)) (by
   dsimp only [Xp.F]
   rw [a2 ⟨n1, n2, hm⟩ hf]
   simp only [Option.bind_some]
   rw [if_neg (by simp), Z5q n1 n2]; rfl)]
  have key := Vr (F := Xp.F l) (n := (RL (KK l) l.length).length) (b := ([], 0)) (fun q => .l1 ((RL (KK l) l.length).map (gF l), 0) ((List.range l.length).map fun a => tm l ((RL (KK l) l.length).take q) a) (q : Int)) (fun _ => True) (fun q hq _ _ => by
   have hp := (TA _).1 (List.getElem_mem hq)
   obtain ⟨t0, h0, hle, hu⟩ := o1 _ hp.1 hp.2.2.1
   have := hu _ hp
   have e : elt ((RL (KK l) l.length).map (gF l)) (q : Int) = some (gF l (RL (KK l) l.length)[q]) := by rw [Zp (by simpa using hq), List.getElem_map]
   generalize hx : (RL (KK l) l.length)[q] = x at hp h0 hle hu this e
   have htl : x.2 < l.length := hp.2.1
   rw [Zc (t := .l2 ((RL (KK l) l.length).map (gF l), 0) q (gF l x) ((List.range l.length).map fun a => tm l ((RL (KK l) l.length).take q) a) ((x.1 + 1 : Nat) : Int)) (by
    dsimp only [Xp.F]
    rw [if_pos (by simp; omega), e]
    simp only [Option.bind_some]
    have : IntKind.i64.wrap ((gF l x).From + 1) = ((x.1 + 1 : Nat) : Int) := Zl x.1 (by omega)
    rw [this])]
   have inner := Vs (F := Xp.F l) (n := x.2 - x.1) (fun j => .l2 ((RL (KK l) l.length).map (gF l), 0) q (gF l x) ((List.range l.length).map fun a => if x.1 < a ∧ a < x.1 + 1 + j then IntKind.i64.wrap (tm l ((RL (KK l) l.length).take q) a * turns l x.1) else tm l ((RL (KK l) l.length).take q) a) ((x.1 + 1 + j : Nat) : Int)) (fun j hj => by
    have e2 : elt ((List.range l.length).map fun a => if x.1 < a ∧ a < x.1 + 1 + j then IntKind.i64.wrap (tm l ((RL (KK l) l.length).take q) a * turns l x.1) else tm l ((RL (KK l) l.length).take q) a) ((x.1 + 1 + j : Nat) : Int) = some (tm l ((RL (KK l) l.length).take q) (x.1 + 1 + j)) := by
     rw [Zp (by simp; omega)]
     simp
    dsimp only [Xp.F]
    rw [if_pos (by dsimp only [gF]; omega), e2]
    simp only [Option.bind_some]
    have e3 : ((x.1 + 1 + j : Nat) : Int).toNat = x.1 + 1 + j := rfl
    rw [Zl _ (by omega), e3, Z2Z]
    refine congrArg some (congrArg Sum.inl ?_)
    have : ∀ (u v : List Int), u = v → (Xp.S.l2 ((RL (KK l) l.length).map (gF l), 0) (q : Int) (gF l x) u ((x.1 + 1 + j + 1 : Nat) : Int)) = .l2 ((RL (KK l) l.length).map (gF l), 0) (q : Int) (gF l x) v ((x.1 + 1 + (j + 1) : Nat) : Int) := by
     rintro u v rfl; rfl
    refine this _ _ (List.map_congr_left fun a ha => ?_)
    by_cases hz : a = x.1 + 1 + j
    ·subst hz
     rw [if_pos rfl, if_pos (by omega)]; rfl
    ·rw [if_neg hz]
     by_cases hz2 : x.1 < a ∧ a < x.1 + 1 + j
     ·rw [if_pos hz2, if_pos (by omega)]
     ·rw [if_neg hz2, if_neg (by omega)])
   have i0 : ((List.range l.length).map fun a => tm l ((RL (KK l) l.length).take q) a) = (List.range l.length).map fun a => if x.1 < a ∧ a < x.1 + 1 + 0 then IntKind.i64.wrap (tm l ((RL (KK l) l.length).take q) a * turns l x.1) else tm l ((RL (KK l) l.length).take q) a := by
    refine List.map_congr_left fun a _ => ?_
    rw [if_neg (by omega)]
   rw [i0]
   refine inner.trans (Zc ?_)
   dsimp only [Xp.F]
   rw [if_neg (by dsimp only [gF]; omega), Zl _ (by omega)]
   refine congrArg some (congrArg Sum.inl ?_)
   have : ∀ (u v : List Int), u = v → (Xp.S.l1 ((RL (KK l) l.length).map (gF l), 0) u ((q + 1 : Nat) : Int)) = .l1 ((RL (KK l) l.length).map (gF l), 0) v ((q + 1 : Nat) : Int) := by
    rintro u v rfl; rfl
   refine this _ _ (List.map_congr_left fun a ha => ?_)
   rw [take_succ _ _ hq, Z4S, hx]
   by_cases hz : x.1 < a ∧ a ≤ x.2
   ·rw [if_pos hz, if_pos (by omega)]
   ·rw [if_neg hz, if_neg (by omega)]) (fun q _ _ h => absurd trivial h)
  have e0 : List.replicate l.length (1 : Int) = (List.range l.length).map fun a => tm l ((RL (KK l) l.length).take 0) a := by
   apply List.ext_getElem?
   intro i
   by_cases hi : i < l.length
   ·simp [hi, tm]
   ·simp [hi]
  rw [e0]
  refine (key.1 fun _ _ => trivial).trans (Zf ?_)
  dsimp only [Xp.F]
  rw [if_neg (by simp), List.take_length]; rfl
 ·dsimp only [Xp.F]; rw [a3 h hf]; rfl
end Zw
namespace Xx
def nm (c : List Z7) : List Int := (c.filter fun i => decide (i.Op = 30)).map fun i => i.A
def badN (n : Nat) (a : Int) : Bool := decide (a < 0) || decide (a ≥ (n : Int))
def whomL (n : Nat) (c : List Z7) : List Int := ((List.range n).map fun k : Nat => (k : Int)).filter fun a => decide (a ∈ nm c)
theorem Ux (i : Z7) (c : List Z7) : nm (i :: c) = if i.Op = 30 then i.A :: nm c else nm c := by
 unfold nm
 by_cases h : i.Op = 30
 ·rw [List.filter_cons_of_pos (by simpa using h), if_pos h]; rfl
 ·rw [List.filter_cons_of_neg (by simpa using h), if_neg h]
theorem Z6a (c : List Z7) : (nm c).length ≤ c.length := by unfold nm; rw [List.length_map]; exact List.length_filter_le _ _
theorem JX {zs : List Int} (hs : zs.Pairwise (· ≤ ·)) : ∀ m, m ≤ zs.length → (Lib.compactUpTo zs.toArray m).Pairwise (· < ·) ∧ ∀ a, a ∈ Lib.compactUpTo zs.toArray m ↔ a ∈ zs.take m
 | 0, _ => ⟨by simp [Lib.compactUpTo], by simp [Lib.compactUpTo]⟩
 | m + 1, hm => by
  obtain ⟨i1, i2⟩ := JX hs m (by omega)
  have hg : ∀ q, q < zs.length → zs.toArray[q]! = zs[q]! := fun q hq => by simp [hq]
  have hm0 : zs.toArray[m]! = zs[m] := by simp [show m < zs.length by omega]
  rw [Lib.compactUpTo_succ, hm0]
  have ht : zs.take (m + 1) = zs.take m ++ [zs[m]] := by rw [List.take_succ_eq_append_getElem (by omega)]
  by_cases hk : Lib.keeps zs.toArray m = true
  ·rw [if_pos hk]
   refine ⟨List.pairwise_append.2 ⟨i1, by simp, fun a ha b hb => ?_⟩, fun a => by rw [ht, List.mem_append, List.mem_append, i2]⟩
   rw [List.mem_singleton] at hb; subst hb
   have ha' := (i2 a).1 ha
   obtain ⟨q, hq, rfl⟩ := List.mem_iff_getElem.1 ha'
   rw [List.length_take] at hq
   rw [List.getElem_take]
   have hq' : q < m := by omega
   have h1 : zs[q] ≤ zs[m - 1] := by
    by_cases e : q = m - 1
    ·subst e; exact Int.le_refl _
    ·exact List.pairwise_iff_getElem.1 hs q (m - 1) (by omega) (by omega) (by omega)
   have h2 : zs[m - 1] ≤ zs[m] := List.pairwise_iff_getElem.1 hs (m - 1) m (by omega) (by omega) (by omega)
   have h3 : zs[m] ≠ zs[m - 1] := by
    simp only [Lib.keeps, decide_eq_true_eq] at hk
    rcases hk with e | e
    ·omega
    ·rw [hm0] at e
     simpa [show m - 1 < zs.length by omega] using e
   omega
  ·rw [if_neg hk, List.append_nil]
   refine ⟨i1, fun a => ?_⟩
   rw [i2, ht, List.mem_append, List.mem_singleton]
   refine ⟨.inl, fun h => h.elim id fun e => ?_⟩
   simp only [Lib.keeps, decide_eq_true_eq] at hk
   have hmp : 0 < m := by omega
   have e2 : zs[m] = zs[m - 1] := by
    have : ¬ zs.toArray[m]! ≠ zs.toArray[m - 1]! := fun h => hk (.inr h)
    rw [hm0] at this
    simpa [show m - 1 < zs.length by omega] using this
   subst e
   rw [e2]
   exact List.mem_iff_getElem.2 ⟨m - 1, by rw [List.length_take]; omega, List.getElem_take⟩
theorem Z76 {a b : List Int} (h1 : a.Pairwise (· < ·)) (h2 : b.Pairwise (· < ·)) (h : ∀ x, x ∈ a ↔ x ∈ b) : a = b := by
 have n1 : a.Nodup := h1.imp fun h => Int.ne_of_lt h
 have n2 : b.Nodup := h2.imp fun h => Int.ne_of_lt h
 exact List.Perm.eq_of_pairwise (le := fun a b : Int => a < b) (fun x y _ _ h3 h4 => absurd h3 (by omega)) h1 h2 ((List.perm_ext_iff_of_nodup n1 n2).2 h)
theorem Z15 (n : Nat) : ((List.range n).map fun k : Nat => (k : Int)).Pairwise (· < ·) := List.pairwise_map.2 (List.pairwise_lt_range.imp fun h => by omega)
theorem Z3Z {n : Nat} {c : List Z7} (hb : (nm c).any (badN n) = false) : Lib.compact ((nm c).mergeSort fun x y => decide (x ≤ y)) = whomL n c := by
 have hs : ((nm c).mergeSort fun x y => decide (x ≤ y)).Pairwise (· ≤ ·) := by
  have := List.pairwise_mergeSort (le := fun x y : Int => decide (x ≤ y)) (fun a b c h1 h2 => by simp at *; omega) (fun a b => by simp; omega) (nm c)
  exact this.imp fun h => by simpa using h
 obtain ⟨h1, h2⟩ := JX hs _ (Nat.le_refl _)
 refine Z76 h1 ((Z15 n).filter _) fun a => ?_
 rw [show Lib.compact ((nm c).mergeSort fun x y => decide (x ≤ y)) = Lib.compactUpTo _ _ from rfl, h2, List.take_length, List.mem_mergeSort, whomL, List.mem_filter, decide_eq_true_eq]
 refine ⟨fun h => ⟨?_, h⟩, fun h => h.2⟩
 have := List.any_eq_false.1 hb a h
 simp only [badN, Bool.or_eq_true, decide_eq_true_eq, not_or] at this
 exact List.mem_map.2 ⟨a.toNat, List.mem_range.2 (by omega), by omega⟩
theorem Z0z {m : Z9} {k : Int} {x : Zb} {G P : List Zn} {M : List Zb} {mg k0 : Int} (hc : x.Code.length ≤ 300) : ∀ (c pre : List Z7) (l : List Int), x.Code = pre ++ c → l.length ≤ pre.length →
    runF (Xj.F (fun s x => bif s.2 then none else Wz.y1 m k s.1.1 s.1.2 x) (([], 0), false) G P M mg k0) (.l1 x ((l, 0), false) (pre.length : Int)) =
     some (if (nm c).any (badN m.Methods.length) = true then ((l ++ (nm c).takeWhile fun a => !badN m.Methods.length a, 2), true) else ((l ++ nm c, 0), false))
 | [], pre, l, he, hl => by
  refine Zf ?_
  dsimp only [Xj.F]
  rw [if_neg (by rw [he]; simp)]
  simp [nm]
 | i :: c, pre, l, he, hl => by
  have hlen : pre.length < x.Code.length := by rw [he]; simp
  have hi : x.Code[pre.length] = i := by simp [he]
  have hn := Z6a (i :: c)
  by_cases ho : i.Op = 30
  ·by_cases hb : badN m.Methods.length i.A = true
   ·refine Zf ?_
    dsimp only [Xj.F]
    rw [if_pos (by omega), Zp hlen, hi]
    simp only [Option.bind_some]
    rw [if_pos ho]
    dsimp only [cond_false, Wz.y1]
    have hb2 : (decide (i.A < 0) || decide (i.A ≥ (m.Methods.length : Int))) = true := hb
    rw [if_pos hb2]
    simp only [Option.bind_some]
    rw [Ux, if_pos ho, if_pos (by simp), if_pos (by simp [hb])]
    simp [hb]
   ·rw [Zc (t := .l1 x ((l ++ [i.A], 0), false) ((pre ++ [i]).length : Int)) (by
     dsimp only [Xj.F]
     rw [if_pos (by omega), Zp hlen, hi]
     simp only [Option.bind_some]
     rw [if_pos ho]
     dsimp only [cond_false, Wz.y1]
     have hb2 : ¬ (decide (i.A < 0) || decide (i.A ≥ (m.Methods.length : Int))) = true := hb
     rw [if_neg hb2, if_pos (by simp; omega)]
     simp only [Option.bind_some]
     rw [if_neg (by simp), Zl pre.length (by omega), List.length_append]; rfl)]
    rw [Z0z hc c (pre ++ [i]) (l ++ [i.A]) (by rw [he]; simp) (by simp; omega)]
    have hb' : badN m.Methods.length i.A = false := by simpa using hb
    rw [Ux, if_pos ho, List.any_cons, hb', Bool.false_or, List.takeWhile_cons, hb']
    simp
  ·rw [Zc (t := .l1 x ((l, 0), false) ((pre ++ [i]).length : Int)) (by
    dsimp only [Xj.F]
    rw [if_pos (by omega), Zp hlen, hi]
    simp only [Option.bind_some]
    rw [if_neg ho]
    simp only [Option.bind_some]
    rw [if_neg (by simp), Zl pre.length (by omega), List.length_append]; rfl)]
   rw [Z0z hc c (pre ++ [i]) l (by rw [he]; simp) (by simp; omega), Ux, if_neg ho]
def whomC (n : Nat) (c : List Z7) : List Int × Int := if (nm c).any (badN n) = true then ([], 2) else (whomL n c, 0)
theorem Z2J {m : Z9} {k : Nat} (hk : k < m.Methods.length) (hc : m.Methods[k].Code.length ≤ 300) : Wz.f m k = some (whomC m.Methods.length m.Methods[k].Code) := by
 unfold Wz.f TQ.f Xj.f
 have hn := Z6a m.Methods[k].Code
 rw [if_neg (by simp; omega)]
 simp only [Option.bind_some]
 rw [Zc (t := .l1 m.Methods[k] (([], 0), false) (([] : List Z7).length : Int)) (by
  dsimp only [Xj.F]; rw [Zp hk]; rfl), Z0z hc m.Methods[k].Code [] [] rfl (by simp)]
 unfold whomC
 by_cases hb : (nm m.Methods[k].Code).any (badN m.Methods.length) = true
 ·rw [if_pos hb, if_pos hb]; rfl
 ·rw [if_neg hb, if_neg hb]
  simp only [Option.bind_some, List.nil_append]
  rw [if_neg (by simp), if_pos (by omega), if_pos (by rw [List.length_mergeSort]; omega), Z3Z (by simpa using hb)]
end Xx
namespace Xx
def whoms (m : Z9) : List (List Int) := m.Methods.map fun x => whomL m.Methods.length x.Code
def anyBad (m : Z9) : Bool := m.Methods.any fun x => (nm x.Code).any (badN m.Methods.length)
structure Fit (m : Z9) : Prop where
 M : m.Methods.length ≤ 40
 x : ∀ x ∈ m.Methods, x.Code.length ≤ 300
theorem Z40 {m : Z9} (S : Fit m) : WX.f m = some (if anyBad m = true then ([], 2) else (whoms m, 0)) := by
 unfold WX.f
 rw [Zc (t := .l1 [] ((0 : Nat) : Int)) rfl]
 have : ∀ (c pre : List Zb), m.Methods = pre ++ c → runF (WX.F m) (.l1 (pre.map fun x => whomL m.Methods.length x.Code) (pre.length : Int)) = some (if (c.any fun x => (nm x.Code).any (badN m.Methods.length)) = true then ([], 2) else (whoms m, 0)) := by
  intro c
  induction c with
  | nil =>
   intro pre he
   refine Zf ?_
   dsimp only [WX.F]
   rw [if_neg (by rw [he]; simp)]
   simp [whoms, he]
  | cons x c ih =>
   intro pre he
   have hlen : pre.length < m.Methods.length := by rw [he]; simp
   have hx : m.Methods[pre.length] = x := by simp [he]
   have hw := Z2J hlen (S.x _ (List.getElem_mem hlen))
   rw [hx] at hw
   have hM := S.M
   by_cases hb : (nm x.Code).any (badN m.Methods.length) = true
   ·rw [List.any_cons, hb, Bool.true_or, if_pos rfl]
    refine Zf ?_
    dsimp only [WX.F]
    rw [if_pos (by omega), hw]
    simp only [Option.bind_some, whomC]
    rw [if_pos hb, if_pos (by simp)]
   ·have hb' : (nm x.Code).any (badN m.Methods.length) = false := by simpa using hb
    rw [List.any_cons, hb', Bool.false_or, ← ih (pre ++ [x]) (by rw [he]; simp)]
    refine Zc ?_
    dsimp only [WX.F]
    rw [if_pos (by omega), hw]
    simp only [Option.bind_some, whomC]
    rw [if_neg hb, if_neg (by simp), if_pos (by simp; omega), Zl pre.length (by omega), List.length_append, List.map_append]; rfl
 exact this _ [] rfl
def ready (W : List (List Int)) (out : List Int) (k : Nat) : Bool := decide (¬ (k : Int) ∈ out) && (W.getD k []).all fun a => decide (a ∈ out)
def nextOf (W : List (List Int)) (out : List Int) : Option Nat := (List.range W.length).find? (ready W out)
def ordN (W : List (List Int)) : Nat → List Int → List Int × Int
 | 0, out => (out, 0)
 | f + 1, out => match nextOf W out with
  | none => ([], 110)
  | some k => ordN W f (out ++ [(k : Int)])
theorem TB {m : Z9} {k : Nat} (hk : k < m.Methods.length) : (whoms m).getD k [] = whomL m.Methods.length m.Methods[k].Code := by
 simp [whoms, List.getD_eq_getElem?_getD, hk]
theorem Jp (n : Nat) (c : List Z7) : (whomL n c).length ≤ n := by unfold whomL; exact Nat.le_trans (List.length_filter_le _ _) (by simp)
end Xx
namespace Xx
theorem Z77 {l : List (Int × Int)} {k v : Int} : (∀ p ∈ l, p.1 ≠ k) → mset l k v = l ++ [(k, v)] := by
 induction l with
 | nil => intro _; rfl
 | cons p l ih =>
  intro h
  rw [mset, if_neg (h p (by simp)), ih fun q hq => h q (List.mem_cons_of_mem _ hq)]; rfl
theorem Z1p {g : Nat → Int} {q : Nat} : ∀ {S : List Nat}, q ∈ S → mget (S.map fun a : Nat => ((a : Int), g a)) q = some (g q)
 | s :: S, h => by
  rw [List.map_cons, mget]
  by_cases e : s = q
  ·subst e; rw [if_pos rfl]
  ·rw [if_neg (by simp; omega)]
   exact Z1p ((List.mem_cons.1 h).resolve_left (Ne.symm e))
theorem Z41 {g : Nat → Int} {q : Nat} : ∀ {S : List Nat}, S.Nodup → mdel (S.map fun a : Nat => ((a : Int), g a)) q = (S.filter fun a => decide (a ≠ q)).map fun a : Nat => ((a : Int), g a)
 | [], _ => rfl
 | s :: S, h => by
  rw [List.map_cons, mdel]
  by_cases e : s = q
  ·subst e
   rw [if_pos rfl, List.filter_cons_of_neg (by simp), List.filter_eq_self.2]
   intro a ha
   have := (List.nodup_cons.1 h).1
   simp; intro e; subst e; exact this ha
  ·rw [if_neg (by simp; omega), List.filter_cons_of_pos (by simpa using e), List.map_cons, Z41 (List.nodup_cons.1 h).2]
theorem Z4T {g : Nat → Int} {q : Nat} {u : Int} {S : List Nat} : mup (S.map fun a : Nat => ((a : Int), g a)) q u = S.map fun a : Nat => ((a : Int), if a = q then u else g a) := by
 unfold mup
 rw [List.map_map]
 refine List.map_congr_left fun a _ => ?_
 by_cases e : a = q
 ·subst e; simp
 ·have e2 : ¬ (a : Int) = (q : Int) := by omega
  simp [e, e2]
theorem contains_eq {l : List Int} {n : Int} (hl : l.length ≤ 100) : Wy.f l n = some (decide (n ∈ l)) := by
 unfold Wy.f
 have : ∀ (c pre : List Int), l = pre ++ c → ∃ i : Int, runF (X5.F l n) (.l1 (pre.length : Int)) = some i ∧ decide (i ≥ 0) = decide (n ∈ c) := by
  intro c
  induction c with
  | nil =>
   intro pre he
   refine ⟨-1, Zf ?_, by simp⟩
   dsimp only [X5.F]; rw [if_neg (by rw [he]; simp)]
  | cons i c ih =>
   intro pre he
   have hlen : pre.length < l.length := by rw [he]; simp
   have hi : l[pre.length] = i := by simp [he]
   by_cases h : n = i
   ·refine ⟨(pre.length : Int), Zf ?_, by simp [h]⟩
    dsimp only [X5.F]
    rw [if_pos (by omega), Zp hlen, hi]
    simp only [Option.bind_some]
    rw [if_pos h]
   ·obtain ⟨r, h1, h2⟩ := ih (pre ++ [i]) (by rw [he]; simp)
    refine ⟨r, ?_, by rw [h2]; simp [h]⟩
    rw [← h1]
    refine Zc ?_
    dsimp only [X5.F]
    rw [if_pos (by omega), Zp hlen, hi]
    simp only [Option.bind_some]
    rw [if_neg h, Zl pre.length (by omega), List.length_append]; rfl
 obtain ⟨i, h1, h2⟩ := this l [] rfl
 unfold X5.f
 rw [Zc (t := .l1 ((([] : List Int).length : Nat) : Int)) rfl, h1]
 simp only [Option.bind_some]
 rw [h2]
def cnt (W : List (List Int)) (out : List Int) (k : Nat) : Nat := ((W.getD k []).filter fun a => decide (¬ a ∈ out)).length
def rest (W : List (List Int)) (out : List Int) : List Nat := (List.range W.length).filter fun k => decide (¬ (k : Int) ∈ out)
def leftM (W : List (List Int)) (out : List Int) : List (Int × Int) := (rest W out).map fun k : Nat => ((k : Int), (cnt W out k : Int))
theorem Ku (W : List (List Int)) (out : List Int) : (rest W out).Nodup := List.nodup_range.filter _
theorem Z1q {W : List (List Int)} {out : List Int} {k : Nat} : k ∈ rest W out ↔ k < W.length ∧ ¬ (k : Int) ∈ out := by unfold rest; rw [List.mem_filter, List.mem_range, decide_eq_true_eq]
theorem Z78 (W : List (List Int)) (out : List Int) : (rest W out).length ≤ W.length := Nat.le_trans (List.length_filter_le _ _) (by simp)
theorem Z9x {g : Nat → Int} {S : List Nat} (h : S.Nodup) (hl : ∀ a ∈ S, a < 100) (hs : S.length ≤ 100) : okKeys (S.map fun a : Nat => ((a : Int), g a)) = true := by
 simp only [okKeys, Bool.and_eq_true, decide_eq_true_eq, List.all_eq_true]
 refine ⟨⟨?_, ?_⟩, by rw [List.length_map]; omega⟩
 ·rw [List.map_map]
  exact h.map _ fun a b hab e => hab (by simp only [Function.comp] at e; omega)
 ·intro p hp
  obtain ⟨a, ha, rfl⟩ := List.mem_map.1 hp
  have := hl a ha
  simp; omega
theorem nodup_keys {g : Nat → Int} {S : List Nat} (h : S.Nodup) : ((S.map fun a : Nat => ((a : Int), g a)).map fun p => p.1).Nodup := by
 rw [List.map_map]; exact h.map _ fun a b hab e => hab (by simp only [Function.comp] at e; omega)
theorem Jt (W : List (List Int)) (out : List Int) : VR (leftM W out) = (rest W out).map fun k : Nat => (k : Int) := by
 unfold VR leftM
 rw [List.map_map]
 have : (rest W out).Pairwise (· < ·) := List.pairwise_lt_range.filter _
 refine List.mergeSort_of_pairwise ?_
 refine List.pairwise_map.2 (this.imp fun h => ?_)
 simp; omega
theorem Z79 {W : List (List Int)} {out : List Int} {k : Nat} : cnt W out k = 0 ↔ ((W.getD k []).all fun a => decide (a ∈ out)) = true := by
 unfold cnt
 rw [List.length_eq_zero_iff, List.filter_eq_nil_iff, List.all_eq_true]
 exact ⟨fun h a ha => by simpa using h a ha, fun h a ha => by simpa using h a ha⟩
theorem Z6b (W : List (List Int)) (out : List Int) : nextOf W out = (rest W out).find? fun k => decide (cnt W out k = 0) := by
 unfold nextOf rest
 rw [List.find?_filter]
 congr 1
 funext k
 unfold ready
 rw [Bool.eq_iff_iff]
 simp only [Bool.and_eq_true, decide_eq_true_eq, Z79]
theorem Z7a {W : List (List Int)} {out : List Int} {k q : Nat} (hn : (W.getD q []).Nodup) (hk : ¬ (k : Int) ∈ out) : cnt W (out ++ [(k : Int)]) q = if (k : Int) ∈ W.getD q [] then cnt W out q - 1 else cnt W out q := by
 unfold cnt
 generalize W.getD q [] = l at hn
 have e : ∀ l : List Int, l.Nodup → (l.filter fun a => decide (¬ a ∈ out ++ [(k : Int)])).length = if (k : Int) ∈ l then (l.filter fun a => decide (¬ a ∈ out)).length - 1 else (l.filter fun a => decide (¬ a ∈ out)).length := by
  intro l
  induction l with
  | nil => intro _; simp
  | cons a l ih =>
   intro hn
   obtain ⟨h1, h2⟩ := List.nodup_cons.1 hn
   have ih := ih h2
   by_cases ha : a = (k : Int)
   ·subst ha
    rw [if_neg h1] at ih
    rw [List.filter_cons_of_neg (by simp), ih, if_pos (by simp), List.filter_cons_of_pos (by simpa using hk), List.length_cons, Nat.add_sub_cancel]
   ·have hm : ((k : Int) ∈ a :: l) ↔ (k : Int) ∈ l := by simp [Ne.symm ha]
    by_cases hao : a ∈ out
    ·rw [List.filter_cons_of_neg (by simp [hao]), List.filter_cons_of_neg (by simpa using hao), ih]
     simp only [hm]
    ·rw [List.filter_cons_of_pos (by simp [hao, ha]), List.filter_cons_of_pos (by simpa using hao), List.length_cons, ih, List.length_cons]
     simp only [hm]
     by_cases hkl : (k : Int) ∈ l
     ·rw [if_pos hkl, if_pos hkl]
      have : 0 < (l.filter fun a => decide (¬ a ∈ out)).length := List.length_pos_of_mem (List.mem_filter.2 ⟨hkl, by simpa using hk⟩)
      omega
     ·rw [if_neg hkl, if_neg hkl]
 exact e l hn
theorem Z2K (W : List (List Int)) (out : List Int) (k : Nat) : rest W (out ++ [(k : Int)]) = (rest W out).filter fun a => decide (a ≠ k) := by
 unfold rest
 rw [List.filter_filter]
 refine List.filter_congr fun a _ => ?_
 rw [Bool.eq_iff_iff]
 simp only [Bool.and_eq_true, decide_eq_true_eq, List.mem_append, List.mem_singleton, not_or]
 exact ⟨fun h => ⟨by have := h.2; omega, h.1⟩, fun h => ⟨h.2, by have := h.1; omega⟩⟩
theorem Z6c {m : Z9} {W : List (List Int)} {out : List Int} {k : Nat} (hW : ∀ q, (W.getD q []).Nodup) (hWl : ∀ q, (W.getD q []).length ≤ 40) (hk : ¬ (k : Int) ∈ out) (hout : (out.length + 1) * 8 ≤ 140737488355328) : ∀ (f : Nat) (R : List Nat), R.length = f → R.Nodup → (∀ q ∈ R, q ∈ rest W (out ++ [(k : Int)])) → ∀ r,
    runD (Y3.F m) (.l2 (W, 0) (leftM W (out ++ [(k : Int)])) (out ++ [(k : Int)])) = some r →
    runD (Y3.F m) (.l4 (W, 0) out (k : Int) ((rest W (out ++ [(k : Int)])).map fun q : Nat => ((q : Int), if q ∈ R then (cnt W out q : Int) else (cnt W (out ++ [(k : Int)]) q : Int))) (R.map fun q : Nat => ((q : Int), (cnt W out q : Int)))) = some r := by
 intro f
 induction f with
 | zero =>
  intro R hR _ _ r hr
  obtain rfl := List.eq_nil_of_length_eq_zero hR
  refine Uy ?_ hr
  dsimp only [Y3.F]
  rw [if_pos (by simp), if_pos (by simpa using hout)]
  simp [leftM]
 | succ f ih =>
  intro R hR hn hsub r hr
  have hne : R ≠ [] := fun e => by rw [e] at hR; cases hR
  generalize hl : (R.map fun q : Nat => ((q : Int), (cnt W out q : Int))) = l
  have hlne : l ≠ [] := fun e => hne (by rw [e] at hl; simpa using hl)
  refine Z6N (l := (picks l).map fun z => .p5 (W, 0) out (k : Int) ((rest W (out ++ [(k : Int)])).map fun q : Nat => ((q : Int), if q ∈ R then (cnt W out q : Int) else (cnt W (out ++ [(k : Int)]) q : Int))) z.1.1 z.1.2 z.2) ?_ (by simpa using Z6P hlne) fun t ht => ?_
  ·dsimp only [Y3.F]
   rw [if_neg (by simpa using hlne)]
  ·obtain ⟨⟨⟨z1, z2⟩, z3⟩, hz, rfl⟩ := List.mem_map.1 ht
   obtain ⟨j, h1, h2⟩ := Z6O hz
   dsimp only at h1 h2
   rw [← hl, List.getElem?_map, Option.map_eq_some_iff] at h1
   obtain ⟨q, h3, h4⟩ := h1
   obtain ⟨rfl, rfl⟩ : (q : Int) = z1 ∧ (cnt W out q : Int) = z2 := by simpa using h4
   have hjl : j < R.length := (List.getElem?_eq_some_iff.1 h3).1
   have hqR : q ∈ R := List.mem_of_getElem? h3
   have hq := hsub q hqR
   obtain ⟨hq1, hq2⟩ := Z1q.1 hq
   have hmem : ∀ a, a ∈ R.eraseIdx j ↔ a ∈ R ∧ a ≠ q := by
    intro a
    rw [List.mem_eraseIdx_iff_getElem]
    have hRj : R[j] = q := by rw [List.getElem?_eq_getElem hjl] at h3; simpa using h3
    constructor
    ·rintro ⟨i, hi, hij, rfl⟩
     exact ⟨List.getElem_mem hi, fun e => hij ((List.getElem_inj hn).1 (e.trans hRj.symm))⟩
    ·rintro ⟨ha, hne⟩
     obtain ⟨i, hi, rfl⟩ := List.mem_iff_getElem.1 ha
     exact ⟨i, hi, fun e => hne (by subst e; exact hRj), rfl⟩
   have hz3 : z3 = (R.eraseIdx j).map fun q : Nat => ((q : Int), (cnt W out q : Int)) := by rw [h2, ← hl, U7]
   have IH := ih (R.eraseIdx j) (by rw [List.length_eraseIdx_of_lt hjl]; omega) (hn.eraseIdx j) (fun a ha => hsub a ((hmem a).1 ha).1) r hr
   refine Uy ?_ IH
   dsimp only [Y3.F]
   have hel : elt W (q : Int) = some (W.getD q []) := by rw [Zp hq1]; simp [List.getD_eq_getElem?_getD, hq1]
   have hc : cnt W out q ≤ 40 := Nat.le_trans (List.length_filter_le _ _) (hWl q)
   rw [hel]
   simp only [Option.bind_some]
   rw [contains_eq (by have := hWl q; omega)]
   simp only [Option.bind_some]
   have hmore := Z7a (hW q) hk
   by_cases hkq : (k : Int) ∈ W.getD q []
   ·rw [if_pos hkq] at hmore
    have hpos : 0 < cnt W out q := List.length_pos_of_mem (List.mem_filter.2 ⟨hkq, by simpa using hk⟩)
    have hg : mget ((rest W (out ++ [(k : Int)])).map fun q : Nat => ((q : Int), if q ∈ R then (cnt W out q : Int) else (cnt W (out ++ [(k : Int)]) q : Int))) (q : Int) = some (cnt W out q : Int) := by
     rw [Z1p (g := fun q => if q ∈ R then (cnt W out q : Int) else (cnt W (out ++ [(k : Int)]) q : Int)) hq, if_pos hqR]
    rw [if_pos (by simpa using hkq), hg, if_pos ⟨nodup_keys (Ku _ _), rfl⟩, Option.getD_some, Xr (by omega) (by omega), Z4T, hz3, Z4T]
    congr 4
    ·refine List.map_congr_left fun a _ => ?_
     by_cases e : a = q
     ·subst e
      rw [if_pos rfl, if_neg (fun h => ((hmem a).1 h).2 rfl), hmore]
      congr 1; omega
     ·rw [if_neg e]
      simp only [hmem, e, ne_eq, not_false_eq_true, and_true]
    ·refine List.map_congr_left fun a ha => ?_
     rw [if_neg ((hmem a).1 ha).2]
   ·rw [if_neg hkq] at hmore
    rw [if_neg (by simpa using hkq), hz3]
    congr 4
    refine List.map_congr_left fun a _ => ?_
    by_cases e : a = q
    ·subst e
     rw [if_pos hqR, if_neg (fun h => ((hmem a).1 h).2 rfl), hmore]
    ·simp only [hmem, e, ne_eq, not_false_eq_true, and_true]
theorem Z6d {m : Z9} {W : List (List Int)} (hW : ∀ q, (W.getD q []).Nodup) (hWl : ∀ q, (W.getD q []).length ≤ 40) (hl : W.length ≤ 40) : ∀ (f : Nat) (out : List Int), out.length + f ≤ 40 → (rest W out).length = f → runD (Y3.F m) (.l2 (W, 0) (leftM W out) out) = some (ordN W f out) := by
 intro f
 induction f with
 | zero =>
  intro out ho hr
  refine Z1d ?_
  dsimp only [Y3.F]
  rw [if_neg (by unfold leftM; rw [List.length_map]; omega)]; rfl
 | succ f ih =>
  intro out ho hr
  have hlt : ∀ a ∈ rest W out, a < 100 := fun a ha => by have := (Z1q.1 ha).1; omega
  have hrl := Z78 W out
  unfold ordN
  rw [Z6b]
  have scan : ∀ (c pre : List Nat), rest W out = pre ++ c → runD (Y3.F m) (.l3 (W, 0) (leftM W out) out (pre.length : Int)) = some (match c.find? (fun k => decide (cnt W out k = 0)) with | none => ([], 110) | some k => ordN W f (out ++ [(k : Int)])) := by
   intro c
   induction c with
   | nil =>
    intro pre he
    refine Z1d ?_
    dsimp only [Y3.F]
    rw [Jt, List.length_map, if_neg (by rw [he]; simp)]
    unfold Y3.j1
    rw [if_pos (by omega)]; rfl
   | cons k c ihc =>
    intro pre he
    have hlen : pre.length < (rest W out).length := by rw [he]; simp
    have hi : (rest W out)[pre.length] = k := by simp [he]
    have hkm : k ∈ rest W out := by rw [he]; simp
    obtain ⟨hk1, hk2⟩ := Z1q.1 hkm
    have hel : elt ((rest W out).map fun k : Nat => (k : Int)) (pre.length : Int) = some (k : Int) := by
     rw [Zp (by rw [List.length_map]; exact hlen), List.getElem_map, hi]
    have hg : mget (leftM W out) (k : Int) = some (cnt W out k : Int) := Z1p (g := fun k => (cnt W out k : Int)) hkm
    by_cases hc : cnt W out k = 0
    ·rw [List.find?_cons_of_pos (by simpa using hc)]
     have hlr : (rest W (out ++ [(k : Int)])).length = f := by
      rw [Z2K]
      have h2 : (rest W out).length = ((rest W out).filter fun a => decide (a ≠ k)).length + 1 := by
       have e : ∀ l : List Nat, l.Nodup → k ∈ l → l.length = (l.filter fun a => decide (a ≠ k)).length + 1 := by
        intro l
        induction l with
        | nil => intro _ h; cases h
        | cons a l ih2 =>
         intro hn hm
         obtain ⟨n1, n2⟩ := List.nodup_cons.1 hn
         by_cases ea : a = k
         ·subst ea
          rw [List.filter_cons_of_neg (by simp), List.filter_eq_self.2, List.length_cons]
          intro b hb
          simp; intro e; subst e; exact n1 hb
         ·rw [List.filter_cons_of_pos (by simpa using ea), List.length_cons, List.length_cons, ih2 n2 ((List.mem_cons.1 hm).resolve_left (Ne.symm ea))]
       exact e _ (Ku W out) hkm
      omega
     have IH := ih (out ++ [(k : Int)]) (by simp; omega) hlr
     refine Uy (t := .l4 (W, 0) out (k : Int) ((rest W (out ++ [(k : Int)])).map fun q : Nat => ((q : Int), if q ∈ rest W (out ++ [(k : Int)]) then (cnt W out q : Int) else (cnt W (out ++ [(k : Int)]) q : Int))) ((rest W (out ++ [(k : Int)])).map fun q : Nat => ((q : Int), (cnt W out q : Int)))) ?_ (Z6c hW hWl hk2 (by omega) _ _ rfl (Ku _ _) (fun q h => h) _ IH)
     dsimp only [Y3.F]
     rw [Jt, List.length_map, if_pos (by omega), hel]
     simp only [Option.bind_some]
     rw [hg, Option.getD_some, if_pos (by omega)]
     unfold Y3.j1 leftM
     rw [if_neg (by omega), Z41 (g := fun k => (cnt W out k : Int)) (Ku W out), ← Z2K]
     congr 4
     refine List.map_congr_left fun a ha => ?_
     rw [if_pos ha]
    ·rw [List.find?_cons_of_neg (by simpa using hc), ← ihc (pre ++ [k]) (by rw [he]; simp)]
     have : runD (Y3.F m) (.l3 (W, 0) (leftM W out) out ((pre ++ [k]).length : Int)) = some _ := ihc (pre ++ [k]) (by rw [he]; simp)
     rw [this]
     refine Uy ?_ this
     dsimp only [Y3.F]
     rw [Jt, List.length_map, if_pos (by omega), hel]
     simp only [Option.bind_some]
     rw [hg, Option.getD_some, if_neg (by omega), Zl pre.length (by omega), List.length_append]; rfl
  refine Uy ?_ (scan (rest W out) [] rfl)
  dsimp only [Y3.F]
  have hok : okKeys (leftM W out) = true := Z9x (g := fun k => (cnt W out k : Int)) (Ku W out) hlt (by omega)
  rw [if_pos (by unfold leftM; rw [List.length_map]; omega), if_pos hok]; rfl
theorem Z4h (n : Nat) (c : List Z7) : (whomL n c).Nodup := ((Z15 n).imp fun h => Int.ne_of_lt h).filter _
theorem JQ {m : Z9} (S : Fit m) : Y3.f m = some (if anyBad m = true then ([], 2) else ordN (whoms m) m.Methods.length []) := by
 have hM := S.M
 have hWl : (whoms m).length = m.Methods.length := by simp [whoms]
 have hat : ∀ q, (whoms m).getD q [] = [] ∨ ∃ c, (whoms m).getD q [] = whomL m.Methods.length c := by
  intro q
  by_cases hq : q < m.Methods.length
  ·exact .inr ⟨_, TB hq⟩
  ·exact .inl (by simp [List.getD_eq_getElem?_getD, List.getElem?_eq_none (show (whoms m).length ≤ q by omega)])
 unfold Y3.f
 by_cases hb : anyBad m = true
 ·rw [if_pos hb]
  refine Z1d ?_
  dsimp only [Y3.F]
  rw [Z40 S, if_pos hb]
  simp only [Option.bind_some]
  rw [if_pos (by simp)]
 ·rw [if_neg hb]
  refine Uy (t := .l1 (whoms m, 0) ((List.range 0).map fun k : Nat => ((k : Int), (((whoms m).getD k []).length : Int))) ((0 : Nat) : Int)) (by
   dsimp only [Y3.F]
   rw [Z40 S, if_neg hb]
   simp only [Option.bind_some]
   rw [if_neg (by simp)]; rfl) ?_
  have lay : ∀ (j k : Nat), k + j = m.Methods.length → runD (Y3.F m) (.l1 (whoms m, 0) ((List.range k).map fun k : Nat => ((k : Int), (((whoms m).getD k []).length : Int))) (k : Int)) = some (ordN (whoms m) m.Methods.length []) := by
   intro j
   induction j with
   | zero =>
    intro k hk
    obtain rfl : k = m.Methods.length := by omega
    have hr : rest (whoms m) [] = List.range m.Methods.length := by unfold rest; rw [hWl]; exact List.filter_eq_self.2 fun a _ => by simp
    have hm : leftM (whoms m) [] = (List.range m.Methods.length).map fun k : Nat => ((k : Int), (((whoms m).getD k []).length : Int)) := by
     unfold leftM; rw [hr]
     refine List.map_congr_left fun a _ => ?_
     unfold cnt
     rw [List.filter_eq_self.2 fun a _ => by simp]
    refine Uy (t := .l2 (whoms m, 0) (leftM (whoms m) []) []) (by
     dsimp only [Y3.F]
     rw [if_neg (by omega), hm]) (Z6d (fun q => ?_) (fun q => ?_) (by omega) _ _ (by simp; omega) (by rw [hr, List.length_range]))
    ·rcases hat q with e | ⟨c, e⟩
     ·rw [e]; exact List.nodup_nil
     ·rw [e]; exact Z4h _ _
    ·rcases hat q with e | ⟨c, e⟩
     ·rw [e]; simp
     ·rw [e]; exact Nat.le_trans (Jp _ _) hM
   | succ j ih =>
    intro k hk
    refine Uy ?_ (ih (k + 1) (by omega))
    have hkl : k < (whoms m).length := by omega
    dsimp only [Y3.F]
    rw [if_pos (by omega), Zp hkl]
    simp only [Option.bind_some]
    rw [Z77, Zl k (by omega), List.range_succ, List.map_append]
    ·congr 4
     simp [List.getD_eq_getElem?_getD, hkl]
    ·intro p hp
     obtain ⟨a, ha, rfl⟩ := List.mem_map.1 hp
     have := List.mem_range.1 ha
     simp; omega
  exact lay m.Methods.length 0 (by omega)
end Xx
namespace XI
open Zw Y7 Xx
def In (x : Int) : Prop := -9223372036854775808 ≤ x ∧ x < 9223372036854775808
theorem Z38 {x : Int} (h : In x) : IntKind.i64.wrap x = x := Xr h.1 h.2
theorem TM (x : Int) : In (IntKind.i64.wrap x) := by
 unfold In
 simp only [IntKind.wrap, IntKind.bits, IntKind.signed]
 first | omega | (split <;> omega) | (simp; omega)
theorem Za3 (l : List Z7) (R : List (Nat × Nat)) (a : Nat) : In (tm l R a) := by
 unfold tm
 have : ∀ (R : List (Nat × Nat)) (n : Int), In n → In (R.foldl (fun n x => if x.1 < a ∧ a ≤ x.2 then IntKind.i64.wrap (n * turns l x.1) else n) n) := by
  intro R
  induction R with
  | nil => intro n h; exact h
  | cons x R ih =>
   intro n h
   rw [List.foldl_cons]
   refine ih _ ?_
   split
   ·exact TM _
   ·exact h
 exact this R 1 ⟨by omega, by omega⟩
theorem Z4U (l : List Z7) : (tms l).length = l.length := by simp [tms]
theorem Z6e (l : List Z7) (i : Nat) (h : i < (tms l).length) : In (tms l)[i] := by
 have : (tms l)[i] = tm l (RL (KK l) l.length) i := by simp [tms]
 rw [this]; exact Za3 _ _ _
theorem Z7b {rows : List Ze} (h : ∀ r ∈ rows, r.Kinds.length ≤ 400) : ∀ k, H rows k ≤ 400
 | 0 => by unfold H; omega
 | k + 1 => by
  have i := Z7b h k
  have : (g rows k).Kinds.length ≤ 400 := by
   by_cases hk : k < rows.length
   ·rw [Z5p hk]; exact h _ (List.getElem_mem hk)
   ·unfold g; simp [List.getElem?_eq_none (show rows.length ≤ k by omega), R0, Ze.zero]
  unfold H; split <;> omega
end XI
namespace XI
open Zw Y7 Xx
theorem rows_ok {m : Z9} {k : Nat} (hm : YM m) (S : Small m) (hk : k < m.Methods.length) : ∃ rows e, Yd.f m k = some (rows, e) ∧
    (e = 0 → rows.length = m.Methods[k].Code.length ∧ Known m.Methods[k].Code ∧ Fine m.Methods[k].Code ∧ ∀ r ∈ rows, r.Kinds.length ≤ 400) := by
 have h0 : (0 : Int) ≤ (k : Int) := by omega
 have h1 : (k : Int) < m.Methods.length := by omega
 have hx := Zp hk
 generalize hxe : m.Methods[k] = x at hx
 have hxm : x ∈ m.Methods := by rw [← hxe]; exact List.getElem_mem hk
 have hs := S.x x hxm
 have hwx : ∀ i ∈ x.Code, Y4 i := ((hm.2.2.1.2 x hxm).2.2.2.2.2.2.2).2
 obtain ⟨e1, e2, e3⟩ := Z0y (m := m) (k := k) (x := x) h0 h1 hx (by omega) hwx (by omega)
 by_cases hkn : Known x.Code
 ·by_cases hf : Fine x.Code
  ·by_cases hth : ∃ i ∈ x.Code, there (envOf m x) i = false
   ·exact ⟨[], 100, e3 hkn hf hth, by omega⟩
   ·have W : Well (envOf m x) x.Code := ⟨hkn, hf, hwx, fun i hi => by
     cases ht : there (envOf m x) i
     ·exact absurd ⟨i, hi, ht⟩ hth
     ·rfl, fun y hy => by have := S.x y hy; omega⟩
    exact ⟨_, _, Z0x h0 h1 hx W (by omega), fun he => ⟨(Jo W he).len, hkn, hf, (Jo W he).sz⟩⟩
  ·exact ⟨[], 90, e2 hkn hf, by omega⟩
 ·exact ⟨[], 40, e1 hkn, by omega⟩
def highC (x : Zb) (r : Ze) (al : Nat) (oc : Zq) : Int := IntKind.i64.wrap (IntKind.i64.wrap (IntKind.i64.wrap (IntKind.i64.wrap ((x.Args.length : Int) + (x.Locals.length : Int)) + (r.Kinds.length : Int)) - (al : Int)) + oc.Stack)
def stepC (al : List Nat) (kn : List Zq) (x : Zb) (t : Int) (r : Ze) (o : Z7) (s : Zq) : Zq :=
 if o.Op = 30 then ⟨IntKind.i64.wrap (IntKind.i64.wrap (s.Fuel + t) + IntKind.i64.wrap (t * (kn.getD o.A.toNat Zq.zero).Fuel)),
  if r.Reached = true ∧ highC x r (al.getD o.A.toNat 0) (kn.getD o.A.toNat Zq.zero) > s.Stack then highC x r (al.getD o.A.toNat 0) (kn.getD o.A.toNat Zq.zero) else s.Stack,
  IntKind.i64.wrap ((if o.Op = 22 then IntKind.i64.wrap (s.Heap + IntKind.i64.wrap (t * o.A)) else s.Heap) + IntKind.i64.wrap (t * (kn.getD o.A.toNat Zq.zero).Heap))⟩
 else ⟨IntKind.i64.wrap (s.Fuel + t), s.Stack, if o.Op = 22 then IntKind.i64.wrap (s.Heap + IntKind.i64.wrap (t * o.A)) else s.Heap⟩
def runC (al : List Nat) (kn : List Zq) (x : Zb) (rows : List Ze) (ts : List Int) : List Z7 → Nat → Zq → Zq
 | [], _, s => s
 | o :: c, i, s => runC al kn x rows ts c (i + 1) (stepC al kn x (ts.getD i 0) (g rows i) o s)
def oneC (al : List Nat) (kn : List Zq) (x : Zb) (rows : List Ze) : Zq := runC al kn x rows (tms x.Code) x.Code 0 ⟨0, (x.Args.length : Int) + (x.Locals.length : Int) + H rows rows.length, 0⟩
def alens (m : Z9) : List Nat := m.Methods.map fun x => x.Args.length
theorem Z7c {m : Z9} {k : Nat} {kn : List Zq} (hm : YM m) (S : Small m) (hk : k < m.Methods.length) (hb : (nm m.Methods[k].Code).any (badN m.Methods.length) = false) (hkn : kn.length = m.Methods.length)
    {rows : List Ze} (hr : Yd.f m k = some (rows, 0)) : Yn.f m k kn = some (oneC (alens m) kn m.Methods[k] rows) := by
 obtain ⟨rows', e', g1, g3⟩ := rows_ok hm S hk
 rw [hr] at g1
 obtain ⟨rfl, rfl⟩ : rows = rows' ∧ (0 : Int) = e' := by simpa using g1
 obtain ⟨hlen, hK, hF, hsz⟩ := g3 rfl
 have hx := Zp hk
 have hxm := List.getElem_mem hk
 generalize m.Methods[k] = x at hx hxm hb hlen hK hF
 have hs := S.x x hxm
 have hwx : ∀ i ∈ x.Code, Y4 i := ((hm.2.2.1.2 x hxm).2.2.2.2.2.2.2).2
 have hl300 : x.Code.length ≤ 300 := hs.2.2
 have t1 := (JO (l := x.Code) (by omega) hwx).2.1 hK hF
 have hH0 := Z1o rows rows.length
 have hH1 := Z7b hsz rows.length
 have hn0 : IntKind.i64.wrap (IntKind.i64.wrap ((x.Args.length : Int) + (x.Locals.length : Int)) + H rows rows.length) = (x.Args.length : Int) + (x.Locals.length : Int) + H rows rows.length := by
  rw [Xr (x := (x.Args.length : Int) + (x.Locals.length : Int)) (by omega) (by omega), Xr (by omega) (by omega)]
 have main : ∀ (c pre : List Z7), x.Code = pre ++ c → (nm c).any (badN m.Methods.length) = false → ∀ f s h : Int, In f → In h → runF (Yn.F m k kn) (.l1 x (tms x.Code, 0) (pre.length : Int) f s h x.Result x.Reads x.Fuel x.Stack x.Heap rows) = some (runC (alens m) kn x rows (tms x.Code) c pre.length ⟨f, s, h⟩) := by
  intro c
  induction c with
  | nil =>
   intro pre he _ f s h _ _
   refine Zf ?_
   dsimp only [Yn.F]; rw [if_neg (by rw [he]; simp)]; rfl
  | cons i c ih =>
   intro pre he hb f s h hf hh
   have hpl : pre.length < x.Code.length := by rw [he]; simp
   have hi : x.Code[pre.length] = i := by simp [he]
   have htl : pre.length < (tms x.Code).length := by rw [Z4U]; exact hpl
   have ht := Zp htl
   have hti := Z6e x.Code pre.length htl
   have htd : (tms x.Code).getD pre.length 0 = (tms x.Code)[pre.length] := by simp [List.getD_eq_getElem?_getD, htl]
   generalize (tms x.Code)[pre.length] = t at ht hti htd
   have hrl : pre.length < rows.length := by omega
   have hrw := Zp hrl
   have hgr := Z5p hrl
   generalize rows[pre.length] = rw_ at hrw hgr
   have hnx : ((pre ++ [i]).length : Int) = IntKind.i64.wrap ((pre.length : Int) + 1) := by rw [Zl pre.length (by omega), List.length_append]; rfl
   have hheap : ∀ v : Int, v = (if i.Op = 22 then i.A else 0) → IntKind.i64.wrap (h + IntKind.i64.wrap (t * v)) = if i.Op = 22 then IntKind.i64.wrap (h + IntKind.i64.wrap (t * i.A)) else h := by
    intro v hv
    by_cases h22 : i.Op = 22
    ·rw [if_pos h22] at hv ⊢; rw [hv]
    ·rw [if_neg h22] at hv ⊢; rw [hv, Int.mul_zero, show IntKind.i64.wrap 0 = 0 from rfl, Int.add_zero, Z38 hh]
   have hfuel : IntKind.i64.wrap (f + IntKind.i64.wrap (t * 1)) = IntKind.i64.wrap (f + t) := by rw [Int.mul_one, Z38 hti]
   have hpstep : ∀ q, Yn.j2 m k kn x (tms x.Code, 0) (pre.length : Int) f s h x.Result x.Reads x.Fuel x.Stack x.Heap rows i (if i.Op = 22 then i.A else 0) = some (.inl q) → runF (Yn.F m k kn) (.l1 x (tms x.Code, 0) (pre.length : Int) f s h x.Result x.Reads x.Fuel x.Stack x.Heap rows) = runF (Yn.F m k kn) q := by
    intro q hq
    refine Zc ?_
    dsimp only [Yn.F]
    rw [if_pos (by omega), Zp hpl, hi]
    simp only [Option.bind_some]
    by_cases h22 : i.Op = 22
    ·rw [if_pos h22] at hq ⊢; exact hq
    ·rw [if_neg h22] at hq ⊢; exact hq
   rw [runC, htd, hgr, ← List.length_singleton (a := i), ← List.length_append]
   generalize hh' : (if i.Op = 22 then IntKind.i64.wrap (h + IntKind.i64.wrap (t * i.A)) else h) = h' at hheap
   have hih' : In h' := by rw [← hh']; split; exact TM _; exact hh
   by_cases h30 : i.Op = 30
   ·rw [Ux, if_pos h30, List.any_cons, Bool.or_eq_false_iff] at hb
    have hA := hb.1
    simp only [badN, Bool.or_eq_false_iff, decide_eq_false_iff_not] at hA
    have hA1 : i.A.toNat < m.Methods.length := by omega
    have e1 := V7 (xs := m.Methods) (by omega) hA1
    have e2 := V7 (xs := kn) (by omega) (by omega : i.A.toNat < kn.length)
    have d1 : (alens m).getD i.A.toNat 0 = m.Methods[i.A.toNat].Args.length := by simp [alens, List.getD_eq_getElem?_getD, hA1]
    have d2 : kn.getD i.A.toNat Zq.zero = kn[i.A.toNat] := by simp [List.getD_eq_getElem?_getD, (by omega : i.A.toNat < kn.length)]
    rw [stepC, if_pos h30, d1, d2]
    dsimp only
    rw [hh']
    generalize m.Methods[i.A.toNat] = om at e1
    generalize kn[i.A.toNat] = oc at e2
    rw [← ih (pre ++ [i]) (by rw [he]; simp) hb.2 _ _ _ (TM _) (TM _)]
    refine hpstep _ ?_
    unfold Yn.j2 XE.f
    rw [ht]
    simp only [Option.bind_some]
    rw [if_pos h30, e1]
    simp only [Option.bind_some]
    rw [e2]
    simp only [Option.bind_some]
    unfold Vj.f XE.f VB.f
    simp only [Option.bind_some]
    rw [hrw]
    simp only [Option.bind_some]
    rw [hfuel, hheap _ rfl]
    unfold Yn.j1
    rw [hnx]
    by_cases hre : rw_.Reached = true
    ·rw [if_pos hre]
     simp only [Option.bind_some, hre, true_and]; rfl
    ·rw [if_neg hre]
     simp only [Option.bind_some]
     rw [if_neg (fun h => hre h.1)]
   ·rw [Ux, if_neg h30] at hb
    rw [stepC, if_neg h30]
    dsimp only
    rw [hh', ← ih (pre ++ [i]) (by rw [he]; simp) hb _ _ _ (TM _) hih']
    refine hpstep _ ?_
    unfold Yn.j2 XE.f
    rw [ht]
    simp only [Option.bind_some]
    rw [if_neg h30, hfuel, hheap _ rfl]
    unfold Yn.j1
    rw [hnx]
 unfold Yn.f oneC
 refine Eq.trans ?_ (main x.Code [] rfl hb 0 ((x.Args.length : Int) + (x.Locals.length : Int) + H rows rows.length) 0 ⟨by omega, by omega⟩ ⟨by omega, by omega⟩)
 refine Zc ?_
 dsimp only [Yn.F]
 rw [hx]
 simp only [Option.bind_some]
 rw [hr]
 simp only [Option.bind_some]
 rw [t1]
 simp only [Option.bind_some]
 rw [Z2I (by omega)]
 simp only [Option.bind_some]
 unfold VA.f
 simp only [Option.bind_some]
 rw [hn0]
 congr 2
 by_cases h0 : (x.Args.length : Int) + (x.Locals.length : Int) + H rows rows.length > 0
 ·rw [if_pos h0]; rfl
 ·rw [if_neg h0, show (x.Args.length : Int) + (x.Locals.length : Int) + H rows rows.length = 0 by omega]; rfl
end XI
namespace XI
open Zw Y7 Xx
theorem Z2u {W : List (List Int)} : ∀ (f : Nat) (out : List Int), (∀ a ∈ out, 0 ≤ a ∧ a < W.length) → (ordN W f out).2 = 0 → (ordN W f out).1.length = out.length + f ∧ ∀ a ∈ (ordN W f out).1, 0 ≤ a ∧ a < W.length
 | 0, out, h, _ => ⟨rfl, h⟩
 | f + 1, out, h, h0 => by
  unfold ordN at h0 ⊢
  cases hn : nextOf W out with
  | none => rw [hn] at h0; simp at h0
  | some k =>
   rw [hn] at h0
   have hk : k < W.length := List.mem_range.1 (List.mem_of_find?_eq_some hn)
   obtain ⟨i1, i2⟩ := Z2u f (out ++ [(k : Int)]) (fun a ha => by
    rcases List.mem_append.1 ha with h1 | h1
    ·exact h a h1
    ·rw [List.mem_singleton] at h1; subst h1; omega) h0
   refine ⟨?_, i2⟩
   dsimp only; rw [i1]; simp; omega
end XI
namespace XI
open Zw Y7 Xx
def fitB (c : Zq) (x : Zb) : Bool := decide (((0 ≤ c.Fuel ∧ c.Fuel ≤ x.Fuel ∧ c.Fuel ≤ 1048576) ∧ 0 ≤ c.Stack ∧ c.Stack ≤ x.Stack ∧ c.Stack ≤ 256) ∧ 0 ≤ c.Heap ∧ c.Heap ≤ x.Heap ∧ c.Heap ≤ 1024)
theorem Z42 (b y : Bool) : (if b = true then some y else some false) = some (b && y) := by cases b <;> rfl
theorem Z6f (c : Zq) (x : Zb) : UA.f c x = some (fitB c x) := by
 unfold UA.f Vk.f fitB
 simp only [Option.bind_some, Z42]
 congr 1
 rw [Bool.eq_iff_iff]
 simp
 omega
noncomputable def rowsM (m : Z9) (k : Nat) : List Ze × Int := (Yd.f m k).getD ([], 0)
noncomputable def errM (m : Z9) : Int := (((List.range m.Methods.length).map fun k => (rowsM m k).2).find? fun e => decide (e ≠ 0)).getD 0
def methM (m : Z9) (k : Nat) : Zb := m.Methods.getD k Zb.zero
noncomputable def oneM (m : Z9) (kn : List Zq) (k : Nat) : Zq := oneC (alens m) kn (methM m k) (rowsM m k).1
def certsC (one : List Zq → Nat → Zq) (fit : Nat → Zq → Bool) : List Int → List Zq → Option (List Zq)
 | [], l => some l
 | a :: o, l => if fit a.toNat (one l a.toNat) = true then certsC one fit o (l.set a.toNat (one l a.toNat)) else none
noncomputable def costsC (m : Z9) : List Zq × Int :=
 if anyBad m = true then ([], 2) else
 if (ordN (whoms m) m.Methods.length []).2 ≠ 0 then ([], (ordN (whoms m) m.Methods.length []).2) else
 if errM m ≠ 0 then ([], errM m) else
 match certsC (oneM m) (fun k c => fitB c (methM m k)) (ordN (whoms m) m.Methods.length []).1 (List.replicate m.Methods.length Zq.zero) with
 | none => ([], 120)
 | some l => (l, 0)
theorem TD {m : Z9} {k : Nat} (h : k < m.Methods.length) : methM m k = m.Methods[k] := by simp [methM, List.getD_eq_getElem?_getD, h]
theorem Z6g {m : Z9} (h : errM m = 0) : ∀ k, k < m.Methods.length → (rowsM m k).2 = 0 := by
 intro k hk
 unfold errM at h
 cases hf : ((List.range m.Methods.length).map fun k => (rowsM m k).2).find? fun e => decide (e ≠ 0) with
 | none =>
  have := List.find?_eq_none.1 hf _ (List.mem_map.2 ⟨k, List.mem_range.2 hk, rfl⟩)
  simpa using this
 | some e =>
  rw [hf] at h
  have := List.find?_some hf
  simp at this h
  exact absurd h this
theorem JR {m : Z9} (hm : YM m) (S : Small m) : Yi.f m = some (costsC m) := by
 have hM := S.M
 have F : Fit m := ⟨S.M, fun x hx => (S.x x hx).2.2⟩
 have p0 := JQ F
 unfold Yi.f costsC
 by_cases hb : anyBad m = true
 ·rw [if_pos hb] at p0 ⊢
  refine Zf ?_
  dsimp only [Yi.F]; rw [p0]; simp only [Option.bind_some]; rw [if_pos (by simp)]
 ·rw [if_neg hb] at p0 ⊢
  have hok := Z2u (W := whoms m) m.Methods.length [] (by simp)
  have hWl : (whoms m).length = m.Methods.length := by simp [whoms]
  generalize ordN (whoms m) m.Methods.length [] = oe at p0 hok
  obtain ⟨o, e⟩ := oe
  dsimp only
  by_cases he : e = 0
  ·subst he
   obtain ⟨ho1, ho2⟩ := hok rfl
   have hol : o.length = m.Methods.length := by simpa using ho1
   rw [if_neg (by simp), Zc (t := .l1 (o, 0) ((0 : Nat) : Int)) (by dsimp only [Yi.F]; rw [p0]; simp only [Option.bind_some]; rw [if_neg (by simp)]; rfl)]
   have hrow : ∀ k, k < m.Methods.length → Yd.f m k = some (rowsM m k) := by
    intro k hk
    obtain ⟨rows, e, g1, -⟩ := rows_ok hm S hk
    unfold rowsM; rw [g1]; rfl
   have go : errM m = 0 → ∀ (c pre : List Int) (l : List Zq), o = pre ++ c → l.length = m.Methods.length → runF (Yi.F m) (.l2 (o, 0) l (pre.length : Int)) = some (match certsC (oneM m) (fun k c => fitB c (methM m k)) c l with | none => ([], 120) | some l => (l, 0)) := by
    intro he0 c
    induction c with
    | nil =>
     intro pre l hp hl
     refine Zf ?_
     dsimp only [Yi.F]; rw [if_neg (by rw [hp]; simp)]; rfl
    | cons a c ih =>
     intro pre l hp hl
     have hpl : pre.length < o.length := by rw [hp]; simp
     have hi : o[pre.length] = a := by simp [hp]
     obtain ⟨a0, a1⟩ := ho2 a (by rw [hp]; simp)
     have hk : a.toNat < m.Methods.length := by omega
     have hak : ((a.toNat : Nat) : Int) = a := by omega
     have hbk : (nm m.Methods[a.toNat].Code).any (badN m.Methods.length) = false := by
      have := List.any_eq_false.1 (show (m.Methods.any fun x => (nm x.Code).any (badN m.Methods.length)) = false by simpa [anyBad] using hb) _ (List.getElem_mem hk)
      simpa using this
     have hr2 : Yd.f m a.toNat = some ((rowsM m a.toNat).1, 0) := by rw [hrow _ hk, ← Z6g he0 _ hk]
     have c1 := Z7c (kn := l) hm S hk hbk hl hr2
     rw [hak, ← TD hk] at c1
     have c1 : Yn.f m a l = some (oneM m l a.toNat) := c1
     have f1 := Z6f (oneM m l a.toNat) (methM m a.toNat)
     have e1 := V7 (xs := l) a0 (by omega)
     have e2 : elt (l.set a.toNat (oneM m l a.toNat)) a = some (oneM m l a.toNat) := by
      rw [V7 (xs := l.set a.toNat (oneM m l a.toNat)) a0 (by rw [List.length_set]; omega)]; simp
     have e3 := V7 (xs := m.Methods) a0 hk
     rw [← TD hk] at e3
     rw [certsC]
     by_cases hf : fitB (oneM m l a.toNat) (methM m a.toNat) = true
     ·rw [if_pos hf, ← ih (pre ++ [a]) _ (by rw [hp]; simp) (by rw [List.length_set]; exact hl)]
      refine Zc ?_
      dsimp only [Yi.F]
      rw [if_pos (by omega), Zp hpl, hi]; simp only [Option.bind_some]
      rw [c1]; simp only [Option.bind_some]
      rw [e1]; simp only [Option.bind_some]
      rw [e2]; simp only [Option.bind_some]
      rw [e3]; simp only [Option.bind_some]
      rw [f1]; simp only [Option.bind_some]
      rw [if_neg (by simp [hf]), Zl pre.length (by omega), List.length_append]; rfl
     ·rw [if_neg hf]
      refine Zf ?_
      dsimp only [Yi.F]
      rw [if_pos (by omega), Zp hpl, hi]; simp only [Option.bind_some]
      rw [c1]; simp only [Option.bind_some]
      rw [e1]; simp only [Option.bind_some]
      rw [e2]; simp only [Option.bind_some]
      rw [e3]; simp only [Option.bind_some]
      rw [f1]; simp only [Option.bind_some]
      rw [if_pos (by simpa using hf)]
   have scan : ∀ (j k : Nat), k + j = m.Methods.length → runF (Yi.F m) (.l1 (o, 0) (k : Int)) = match ((List.range' k j).map fun k => (rowsM m k).2).find? (fun e => decide (e ≠ 0)) with
       | some e => some ([], e)
       | none => runF (Yi.F m) (.l1 (o, 0) (m.Methods.length : Int)) := by
    intro j
    induction j with
    | zero => intro k hk; simp at hk; subst hk; simp
    | succ j ihj =>
     intro k hk
     have hr := hrow k (by omega)
     rw [List.range'_succ, List.map_cons, List.find?_cons]
     by_cases he : (rowsM m k).2 = 0
     ·rw [show decide ((rowsM m k).2 ≠ 0) = false by simpa using he]
      dsimp only
      rw [← ihj (k + 1) (by omega)]
      refine Zc ?_
      dsimp only [Yi.F]
      unfold V3.f
      rw [if_pos (by omega), hr]; simp only [Option.bind_some]
      rw [if_neg (by simpa using he), Zl k (by omega)]
     ·rw [show decide ((rowsM m k).2 ≠ 0) = true by simpa using he]
      refine Zf ?_
      dsimp only [Yi.F]
      unfold V3.f
      rw [if_pos (by omega), hr]; simp only [Option.bind_some]
      rw [if_pos he]
   rw [scan m.Methods.length 0 (by omega), ← List.range_eq_range']
   have hE : errM m = (((List.range m.Methods.length).map fun k => (rowsM m k).2).find? fun e => decide (e ≠ 0)).getD 0 := rfl
   cases hf : ((List.range m.Methods.length).map fun k => (rowsM m k).2).find? fun e => decide (e ≠ 0) with
   | some e =>
    rw [hf] at hE
    have hne : e ≠ 0 := by have := List.find?_some hf; simpa using this
    rw [hE, Option.getD_some, if_pos hne]
   | none =>
    rw [hf] at hE
    have hE : errM m = 0 := hE
    rw [if_neg (by simpa using hE)]
    have := go hE o [] (List.replicate o.length Zq.zero) rfl (by rw [List.length_replicate]; exact hol)
    rw [hol] at this
    rw [← this]
    refine Zc ?_
    dsimp only [Yi.F]
    rw [if_neg (by omega), if_pos (by omega)]
    simp [hol]
  ·rw [if_pos he]
   refine Zf ?_
   dsimp only [Yi.F]; rw [p0]; simp only [Option.bind_some]; rw [if_pos he]
end XI
namespace Zw
theorem Z6h (n : Fin 256) : Wm.f (n.1 : Int) = Yb.f (n.1 : Int) ∧ (Wm.f (n.1 : Int)).isSome = true := by
 revert n; decide +kernel
theorem Z16 {x : Int} (h0 : 0 ≤ x) (h1 : x < 256) : ∃ b, Wm.f x = some b ∧ Yb.f x = some b := by
 obtain ⟨n, rfl⟩ := Int.eq_ofNat_of_zero_le h0
 obtain ⟨e, s⟩ := Z6h ⟨n, by omega⟩
 dsimp only at e s
 obtain ⟨b, hb⟩ := Option.isSome_iff_exists.1 s
 exact ⟨b, hb, e ▸ hb⟩
theorem Z0X {i : Z7} (h : Y4 i) : WU.f i = some (may i) := by
 obtain ⟨h0, h1⟩ := Z0T h
 obtain ⟨b, hb, hb'⟩ := Z16 h0 h1
 unfold WU.f may
 rw [hb, hb']
 simp only [Option.bind_some]
 congr 1
 rw [Bool.eq_iff_iff]
 simp only [Bool.and_eq_true, decide_eq_true_eq]
 omega
end Zw
namespace Zw
def gR (l : List Z7) (x : Nat × Nat) : Zr := ⟨x.1, x.2, turns l x.1⟩
def FLp (K : Nat → Kn) (f m : Nat) : List Nat := (List.range m).filter fun t => decide (K t = .again f)
theorem Z7d (K : Nat → Kn) (f m : Nat) : FLp K f (m + 1) = FLp K f m ++ (if K m = .again f then [m] else []) := by
 unfold FLp
 rw [List.range_succ, List.filter_append]
 congr 1
 by_cases h : K m = .again f <;> simp [h]
theorem Z9y (K : Nat → Kn) (f m : Nat) : (FLp K f m).length ≤ m := by
 unfold FLp
 exact Nat.le_trans (List.length_filter_le _ _) (by simp)
theorem Z2L {l : List Z7} (hl : l.length ≤ 200) (hm : ∀ x ∈ l, may x = true) {f : Nat} (hf : f < l.length) {out : List Zr} (ho : out.length ≤ 200) :
    runF (Zy.F l) (.l2 f out 0 0) = runF (Zy.F l) (.l2 f (out ++ ((FL (KK l) l.length f).map fun t => gR l (f, t))) (FL (KK l) l.length f).length l.length) := by
 have key := Vs (F := Zy.F l) (n := l.length) (fun m => .l2 f (out ++ ((FLp (KK l) f m).map fun t => gR l (f, t))) (FLp (KK l) f m).length m) (fun k hk => by
  have hle := Z9y (KK l) f k
  dsimp only [Zy.F]
  rw [if_pos (by omega), Zp hk, Zp hf]
  simp only [Option.bind_some]
  rw [Z7d]
  have ha := Jl (f := f) hk hm
  by_cases h29 : l[k].Op = 29
  ·rw [if_pos h29]
   simp only [Option.bind_some]
   by_cases hA : l[k].A = (f : Int)
   ·rw [if_pos (by simpa using hA), if_pos (by simp; omega), if_pos (ha.2 ⟨h29, hA⟩)]
    unfold Zy.j2
    rw [Zl _ (by omega), Zl _ (by omega)]
    simp only [List.map_append, List.map_cons, List.map_nil, List.append_assoc, List.length_append, List.length_cons, List.length_nil, gR, Z3V hf, Nat.zero_add]
   ·rw [if_neg (by simpa using hA), if_neg (fun h => hA (ha.1 h).2)]
    unfold Zy.j2
    rw [Zl _ (by omega)]
    simp only [List.append_nil]
  ·rw [if_neg h29]
   simp only [Option.bind_some]
   rw [if_neg (by simp), if_neg (fun h => h29 (ha.1 h).1)]
   unfold Zy.j2
   rw [Zl _ (by omega)]
   simp only [List.append_nil])
 have e : (FLp (KK l) f 0) = [] := rfl
 simp only [e, List.map_nil, List.append_nil] at key
 exact key
theorem Z8f {l : List Z7} (hl : l.length ≤ 200) (hm : ∀ x ∈ l, may x = true) :
    (Ok1 (KK l) l.length ∧ Ok2 (KK l) l.length → Zy.f l = some ((RL (KK l) l.length).map (gR l), true)) ∧ (¬ (Ok1 (KK l) l.length ∧ Ok2 (KK l) l.length) → Zy.f l = some ([], false)) := by
 unfold Zy.f
 rw [Zc (t := .l1 [] ((0 : Nat) : Int)) rfl]
 have inner : ∀ k (hk : k < l.length), (∀ j, j < k → p1 (KK l) l.length j) → KK l k = .loop → ((p1 (KK l) l.length k → Zy.F l (.l2 k ((RLp (KK l) l.length k).map (gR l) ++ ((FL (KK l) l.length k).map fun t => gR l (k, t))) (FL (KK l) l.length k).length l.length) = some (.inl (.l1 ((RLp (KK l) l.length (k + 1)).map (gR l)) ((k + 1 : Nat) : Int)))) ∧
     (¬ p1 (KK l) l.length k → Zy.F l (.l2 k ((RLp (KK l) l.length k).map (gR l) ++ ((FL (KK l) l.length k).map fun t => gR l (k, t))) (FL (KK l) l.length k).length l.length) = some (.inr ([], false)))) := by
  intro k hk hj hK
  have hle := Z0t k hj
  have e0 : ∀ t, FL (KK l) l.length k = [t] → elt ((RLp (KK l) l.length k).map (gR l) ++ ((FL (KK l) l.length k).map fun t => gR l (k, t))) (IntKind.i64.wrap ((((RLp (KK l) l.length k).map (gR l) ++ ((FL (KK l) l.length k).map fun t => gR l (k, t))).length : Int) - 1)) = some (gR l (k, t)) := by
   intro t ht
   rw [ht, K6 _ (by simp) (by simp; omega), Ju]
   simp
  dsimp only [Zy.F]
  rw [if_neg (by omega)]
  refine ⟨fun h => ?_, fun h => ?_⟩
  ·obtain ⟨t, ht, hkt⟩ := h hK
   rw [e0 t ht, if_neg (by rw [ht]; simp)]
   simp only [Option.bind_some]
   rw [if_neg (by rw [decide_eq_true_eq]; dsimp only [gR]; omega)]
   unfold Zy.j1
   rw [Zl _ (by omega), Z1m, if_pos hK]
   simp only [List.map_append, List.map_map]
   rfl
  ·by_cases h1 : (FL (KK l) l.length k).length = 1
   ·obtain ⟨t, ht⟩ := List.length_eq_one_iff.1 h1
    rw [e0 t ht, if_neg (by omega)]
    simp only [Option.bind_some]
    rw [if_pos (by
     rw [decide_eq_true_eq]; dsimp only [gR]
     rcases Nat.lt_or_ge t k with z | z
     ·omega
     ·exact absurd (fun _ => ⟨t, ht, z⟩) h)]
   ·rw [if_pos (by omega)]
    rfl
 have key := Vr (F := Zy.F l) (n := l.length) (b := ([], false)) (fun k => .l1 ((RLp (KK l) l.length k).map (gR l)) (k : Int)) (p1 (KK l) l.length) (fun k hk hj hp => by
  have hle := Z0t k hj
  by_cases h28 : l[k].Op = 28
  ·rw [Zc (t := .l2 k ((RLp (KK l) l.length k).map (gR l)) 0 0) (by
    dsimp only [Zy.F]
    rw [if_pos (by omega), Zp hk]
    simp only [Option.bind_some]
    rw [if_neg (by simpa using h28)])]
   rw [Z2L hl hm hk (by simp; omega)]
   exact Zc ((inner k hk hj ((KG hk).2 h28)).1 hp)
  ·refine Zc ?_
   dsimp only [Zy.F]
   rw [if_pos (by omega), Zp hk]
   simp only [Option.bind_some]
   rw [if_pos h28]
   unfold Zy.j1
   rw [Zl _ (by omega), Z1m, if_neg (fun h => h28 ((KG hk).1 h)), List.append_nil]) (fun k hk hj hp => by
  have hle := Z0t k hj
  have hK : KK l k = .loop := Classical.byContradiction fun hc => hp fun h => absurd h hc
  rw [Zc (t := .l2 k ((RLp (KK l) l.length k).map (gR l)) 0 0) (by
      dsimp only [Zy.F]
      rw [if_pos (by omega), Zp hk]
      simp only [Option.bind_some]
      rw [if_neg (by simpa using (KG hk).1 hK)])]
  rw [Z2L hl hm hk (by simp; omega)]
  exact Zf ((inner k hk hj hK).2 hp))
 have key2 := Vr (F := Zy.F l) (n := l.length) (b := ([], false)) (fun k => .l3 ((RL (KK l) l.length).map (gR l)) (k : Int)) (p2 (KK l) l.length) (fun k hk hj hp => Zc (by
  dsimp only [Zy.F]
  rw [if_pos (by omega), Zp hk]
  simp only [Option.bind_some]
  rw [Zl _ (by omega)]
  by_cases h29 : l[k].Op = 29
  ·have hA := VZ (hm _ (List.getElem_mem hk)) (.inr (.inr h29))
   obtain ⟨q1, q2⟩ := hp l[k].A.toNat ((Jl hk hm).2 ⟨h29, by omega⟩)
   rw [if_pos h29, if_neg (by omega), V7 hA.1 q1]
   simp only [Option.bind_some]
   rw [if_neg (by rw [decide_eq_true_eq]; exact fun h => h ((KG q1).1 q2))]
  ·rw [if_neg h29]
   simp only [Option.bind_some]
   rw [if_neg (by simp)])) (fun k hk hj hp => Zf (by
  dsimp only [Zy.F]
  rw [if_pos (by omega), Zp hk]
  simp only [Option.bind_some]
  by_cases h29 : l[k].Op = 29
  ·have hA := VZ (hm _ (List.getElem_mem hk)) (.inr (.inr h29))
   rw [if_pos h29]
   by_cases hn : l[k].A ≥ l.length
   ·rw [if_pos hn]; rfl
   ·rw [if_neg hn, V7 hA.1 (by omega)]
    simp only [Option.bind_some]
    rw [if_pos (by
     rw [decide_eq_true_eq]
     intro h
     refine hp fun a ha => ?_
     have := (Jl hk hm).1 ha
     have e : a = l[k].A.toNat := by omega
     subst e
     exact ⟨by omega, (KG (by omega)).2 h⟩)]
  ·refine absurd (fun a ha => ?_) hp
   exact absurd ((Jl hk hm).1 ha).1 h29))
 have mid : runF (Zy.F l) (.l1 ((RLp (KK l) l.length l.length).map (gR l)) (l.length : Int)) = runF (Zy.F l) (.l3 ((RL (KK l) l.length).map (gR l)) ((0 : Nat) : Int)) := Zc (by
  dsimp only [Zy.F]
  rw [if_neg (by omega)]; rfl)
 have h0 : runF (Zy.F l) (.l1 [] ((0 : Nat) : Int)) = runF (Zy.F l) (.l1 ((RLp (KK l) l.length 0).map (gR l)) ((0 : Nat) : Int)) := rfl
 rw [h0]
 by_cases q1 : ∀ k, k < l.length → p1 (KK l) l.length k
 ·have hO1 : Ok1 (KK l) l.length := Z2q.2 q1
  rw [key.1 q1, mid]
  by_cases q2 : ∀ k, k < l.length → p2 (KK l) l.length k
  ·refine ⟨fun _ => (key2.1 q2).trans (Zf ?_), fun h => absurd ⟨hO1, fun t a ht hk => q2 t ht a hk⟩ h⟩
   dsimp only [Zy.F]
   rw [if_neg (by omega)]
  ·exact ⟨fun h => absurd (fun k hk a ha => h.2 k a hk ha) q2, fun _ => key2.2 q2⟩
 ·exact ⟨fun h => absurd (Z2q.1 h.1) q1, fun _ => key.2 q1⟩
end Zw
namespace Zw
def wiB (x : Zr) (a : Int) : Bool := (decide (x.From < a)) && (decide (a ≤ x.To))
theorem VD {x : Zr} {a : Int} : wiB x a = true ↔ x.From < a ∧ a ≤ x.To := by
 unfold wiB; rw [Bool.and_eq_true, decide_eq_true_eq, decide_eq_true_eq]
theorem Z2v (x : Zr) (a : Int) : X3.f x a = some (wiB x a) := rfl
theorem Zas (x y : Zr) : Wu.f x y = some (wiB y x.From && wiB y x.To) := by
 unfold Wu.f
 rw [Z2v, Z2v]
 simp only [Option.bind_some]
 cases wiB y x.From <;> rfl
def bad (x y : Zr) : Prop := (x.From < y.To ∧ y.From < x.To) ∧ ¬ ((y.From < x.From ∧ x.From ≤ y.To) ∧ (y.From < x.To ∧ x.To ≤ y.To)) ∧ ¬ ((x.From < y.From ∧ y.From ≤ x.To) ∧ (x.From < y.To ∧ y.To ≤ x.To))
def deepAt (s : List Zr) (a : Nat) : Nat := (s.filter fun x => wiB x a).length
theorem Z0A {s : List Zr} {n : Int} (hs : s.length ≤ 400) {i : Nat} (hi : i < s.length) :
    ((∀ k (hk : k < i), ¬ bad s[i] s[k]) → runF (Zk.F s n) (.l2 i 0) = runF (Zk.F s n) (.l1 ((i + 1 : Nat) : Int))) ∧ (¬ (∀ k (hk : k < i), ¬ bad s[i] s[k]) → runF (Zk.F s n) (.l2 i 0) = some false) := by
 have val : ∀ k (hk : k < i), (bad s[i] s[k] → Zk.F s n (.l2 i k) = some (.inr false)) ∧ (¬ bad s[i] s[k] → Zk.F s n (.l2 i k) = some (.inl (.l2 i ((k + 1 : Nat) : Int)))) := by
  intro k hk
  have e : Zk.F s n (.l2 i k) = if ((decide (s[i].From < s[k].To)) && (decide (s[k].From < s[i].To))) = true then (if (!(wiB s[k] s[i].From && wiB s[k] s[i].To)) = true then (Zk.j1 s n i k (!(wiB s[i] s[k].From && wiB s[i] s[k].To))) else (Zk.j1 s n i k false)) else (Zk.j1 s n i k false) := by
   dsimp only [Zk.F]
   rw [if_pos (by omega), Zp hi, Zp (show k < s.length by omega)]
   simp only [Option.bind_some, Zas, Vy.f]
  rw [e]
  have go : Zk.j1 s n i k false = some (.inl (.l2 i ((k + 1 : Nat) : Int))) := by
   unfold Zk.j1
   rw [if_neg (by simp), Zl _ (by omega)]
  have i1 : ∀ b c d : Bool, (b && c) = d ↔ (if b = true then c else false) = d := by intro b c d; cases b <;> simp
  unfold bad
  by_cases hc : s[i].From < s[k].To ∧ s[k].From < s[i].To
  ·rw [if_pos (by rw [Bool.and_eq_true, decide_eq_true_eq, decide_eq_true_eq]; exact hc)]
   by_cases h1 : (s[k].From < s[i].From ∧ s[i].From ≤ s[k].To) ∧ (s[k].From < s[i].To ∧ s[i].To ≤ s[k].To)
   ·rw [if_neg (by rw [Bool.not_eq_true', ← Bool.not_eq_true, Bool.and_eq_true, VD, VD]; exact fun h => h h1), go]
    exact ⟨fun h => absurd h1 h.2.1, fun _ => rfl⟩
   ·rw [if_pos (by rw [Bool.not_eq_true', ← Bool.not_eq_true, Bool.and_eq_true, VD, VD]; exact h1)]
    by_cases h2 : (s[i].From < s[k].From ∧ s[k].From ≤ s[i].To) ∧ (s[i].From < s[k].To ∧ s[k].To ≤ s[i].To)
    ·have : (!(wiB s[i] s[k].From && wiB s[i] s[k].To)) = false := by
      rw [Bool.not_eq_false', Bool.and_eq_true, VD, VD]; exact h2
     rw [this, go]
     exact ⟨fun h => absurd h2 h.2.2, fun _ => rfl⟩
    ·have : (!(wiB s[i] s[k].From && wiB s[i] s[k].To)) = true := by
      rw [Bool.not_eq_true', ← Bool.not_eq_true, Bool.and_eq_true, VD, VD]; exact h2
     rw [this]
     exact ⟨fun _ => rfl, fun h => absurd ⟨hc, h1, h2⟩ h⟩
  ·rw [if_neg (by rw [Bool.and_eq_true, decide_eq_true_eq, decide_eq_true_eq]; exact hc), go]
   exact ⟨fun h => absurd h.1 hc, fun _ => rfl⟩
 have key := Vr (F := Zk.F s n) (n := i) (b := false) (fun k => .l2 i (k : Int)) (fun k => ∀ hk : k < i, ¬ bad s[i] s[k]) (fun k hk _ hp => Zc ((val k hk).2 (hp hk))) (fun k hk _ hp => Zf ((val k hk).1 (Classical.byContradiction fun hc => hp fun _ => hc)))
 refine ⟨fun h => (key.1 fun k _ hk => h k hk).trans (Zc ?_), fun h => key.2 fun hc => h fun k hk => hc k hk hk⟩
 dsimp only [Zk.F]
 rw [if_neg (by omega), Zl _ (by omega)]
theorem Z4i {s : List Zr} {n : Int} (hs : s.length ≤ 400) {a : Nat} :
    runF (Zk.F s n) (.l4 a 0 0) = runF (Zk.F s n) (.l4 a (deepAt s a) s.length) := by
 have key := Vs (F := Zk.F s n) (n := s.length) (fun k => .l4 a ((s.take k).filter fun x => wiB x a).length k) (fun k hk => by
  have hle : ((s.take k).filter fun x => wiB x a).length ≤ k := Nat.le_trans (List.length_filter_le _ _) (by simp; omega)
  dsimp only [Zk.F]
  rw [if_pos (by omega), Zp hk]
  simp only [Option.bind_some, Z2v]
  rw [take_succ _ _ hk, List.filter_append]
  unfold Zk.j2
  cases hb : wiB s[k] a with
  | true => rw [if_pos rfl, Zl _ (by omega), Zl _ (by omega)]; simp [hb]
  | false => rw [if_neg (by simp), Zl _ (by omega)]; simp [hb])
 rw [List.take_length] at key
 exact key
theorem Z5r {s : List Zr} {n : Nat} (hs : s.length ≤ 400) (hn : n ≤ 200) :
    ((∀ i (hi : i < s.length) k (hk : k < i), ¬ bad s[i] s[k]) ∧ (∀ a, a < n → deepAt s a ≤ 4) → Zk.f s n = some true) ∧ (¬ ((∀ i (hi : i < s.length) k (hk : k < i), ¬ bad s[i] s[k]) ∧ (∀ a, a < n → deepAt s a ≤ 4)) → Zk.f s n = some false) := by
 unfold Zk.f
 rw [Zc (t := .l1 ((0 : Nat) : Int)) rfl]
 have st2 : ∀ i, i < s.length → runF (Zk.F s n) (.l1 i) = runF (Zk.F s n) (.l2 i 0) := fun i hi => Zc (by
  dsimp only [Zk.F]; rw [if_pos (by omega)])
 have key := Vr (F := Zk.F s n) (n := s.length) (b := false) (fun i => .l1 (i : Int)) (fun i => ∀ (hi : i < s.length) k (hk : k < i), ¬ bad s[i] s[k]) (fun i hi _ hp => (st2 i hi).trans ((Z0A hs hi).1 (hp hi))) (fun i hi _ hp => (st2 i hi).trans ((Z0A hs hi).2 (fun hc => hp fun _ => hc)))
 have st4 : ∀ a, a < n → runF (Zk.F s n) (.l3 a) = runF (Zk.F s n) (.l4 a (deepAt s a) s.length) := fun a ha => (Zc (by
  dsimp only [Zk.F]; rw [if_pos (by omega)])).trans (Z4i hs)
 have key2 := Vr (F := Zk.F s n) (n := n) (b := false) (fun a => .l3 (a : Int)) (fun a => deepAt s a ≤ 4) (fun a ha _ hp => (st4 a ha).trans (Zc (by
  dsimp only [Zk.F]; rw [if_neg (by omega), if_neg (by omega), Zl _ (by omega)]))) (fun a ha _ hp => (st4 a ha).trans (Zf (by
  dsimp only [Zk.F]; rw [if_neg (by omega), if_pos (by omega)])))
 have mid : runF (Zk.F s n) (.l1 (s.length : Int)) = runF (Zk.F s n) (.l3 ((0 : Nat) : Int)) := Zc (by
  dsimp only [Zk.F]; rw [if_neg (by omega)]; rfl)
 by_cases q1 : ∀ i (hi : i < s.length) k (hk : k < i), ¬ bad s[i] s[k]
 ·have e1 := (key.1 fun i _ hi => q1 i hi).trans mid
  by_cases q2 : ∀ a, a < n → deepAt s a ≤ 4
  ·refine ⟨fun _ => (e1.trans (key2.1 q2)).trans (Zf ?_), fun h => absurd ⟨q1, q2⟩ h⟩
   dsimp only [Zk.F]; rw [if_neg (by omega)]
  ·exact ⟨fun h => absurd h.2 q2, fun _ => e1.trans (key2.2 q2)⟩
 ·exact ⟨fun h => absurd h.1 q1, fun _ => key.2 fun hc => q1 fun i hi => hc i hi hi⟩
theorem Z5s {l : List Z7} (h1 : Ok1 (KK l) l.length) :
    ((∀ i (hi : i < ((RL (KK l) l.length).map (gR l)).length) k (hk : k < i), ¬ bad ((RL (KK l) l.length).map (gR l))[i] ((RL (KK l) l.length).map (gR l))[k]) ∧ (∀ a, a < l.length → deepAt ((RL (KK l) l.length).map (gR l)) a ≤ 4)) ↔ (Nest (KK l) l.length ∧ Deep l.length (RL (KK l) l.length)) := by
 have hd : ∀ a, deepAt ((RL (KK l) l.length).map (gR l)) a = ((RL (KK l) l.length).filter fun x => decide (x.1 < a) && decide (a ≤ x.2)).length := by
  intro a
  unfold deepAt
  rw [List.filter_map, List.length_map]
  congr 2
  funext x
  show wiB (gR l x) a = _
  rw [Bool.eq_iff_iff, VD, Bool.and_eq_true, decide_eq_true_eq, decide_eq_true_eq]
  dsimp only [gR]; omega
 have hs := Z0q h1
 rw [List.pairwise_iff_getElem] at hs
 have hb : (∀ i (hi : i < ((RL (KK l) l.length).map (gR l)).length) k (hk : k < i), ¬ bad ((RL (KK l) l.length).map (gR l))[i] ((RL (KK l) l.length).map (gR l))[k]) ↔ Nest (KK l) l.length := by
  constructor
  ·intro h f t g u p q hfg hgt
   obtain ⟨k, hk, ek⟩ := List.mem_iff_getElem.1 ((TA (f, t)).2 p)
   obtain ⟨i, hi, ei⟩ := List.mem_iff_getElem.1 ((TA (g, u)).2 q)
   have hki : k < i := by
    rcases Nat.lt_trichotomy k i with z | z | z
    ·exact z
    ·subst z; rw [ek] at ei; cases ei; omega
    ·have := hs i k hi hk z; rw [ek, ei] at this; simp only at this; omega
   have := h i (by simpa using hi) k hki
   simp only [List.getElem_map, ek, ei] at this
   obtain ⟨u', q', hu', hq'⟩ := h1 g q.1 q.2.2.1
   have := hq' u q
   unfold bad at *
   dsimp only [gR] at *
   omega
  ·intro h i hi k hk hbad
   simp only [List.length_map] at hi
   simp only [List.getElem_map] at hbad
   have hlt := hs k i (by omega) hi hk
   have pk := (TA _).1 (List.getElem_mem (show k < (RL (KK l) l.length).length by omega))
   have pi := (TA _).1 (List.getElem_mem hi)
   have := h _ _ _ _ pk pi hlt
   unfold bad at hbad
   dsimp only [gR] at hbad
   omega
 rw [hb]
 refine and_congr Iff.rfl ?_
 unfold Deep
 constructor
 ·intro h a ha; rw [← hd]; exact h a ha
 ·intro h a ha; rw [hd]; exact h a ha
end Zw
namespace Zw
theorem Z43 {l : List Z7} (hl : l.length ≤ 200) (h1 : Ok1 (KK l) l.length) {k : Nat} (hk : k < l.length) (hop : l[k].Op = 26 ∨ l[k].Op = 27) (hA : (k : Int) < l[k].A ∧ l[k].A < l.length) :
    (Jk l (fun x => Pr (KK l) l.length x.1 x.2) k → runF (Zi.F l) (.l3 ((RL (KK l) l.length).map (gR l)) k 0) = runF (Zi.F l) (.l2 ((RL (KK l) l.length).map (gR l)) ((k + 1 : Nat) : Int))) ∧
    (¬ Jk l (fun x => Pr (KK l) l.length x.1 x.2) k → runF (Zi.F l) (.l3 ((RL (KK l) l.length).map (gR l)) k 0) = some ([], 90)) := by
 have hlen := Z0u h1
 have key := Vr (F := Zi.F l) (n := (RL (KK l) l.length).length) (b := ([], 90)) (fun q => .l3 ((RL (KK l) l.length).map (gR l)) k (q : Int)) (fun q => ∀ hq : q < (RL (KK l) l.length).length, ((RL (KK l) l.length)[q].1 : Int) < l[k].A → l[k].A ≤ (RL (KK l) l.length)[q].2 → (RL (KK l) l.length)[q].1 < k ∧ k ≤ (RL (KK l) l.length)[q].2) (fun q hq _ hp => Zc (by
  have e : elt ((RL (KK l) l.length).map (gR l)) (q : Int) = some (gR l (RL (KK l) l.length)[q]) := by rw [Zp (by simpa using hq), List.getElem_map]
  dsimp only [Zi.F]
  rw [if_pos (by simp; omega), e, Zp hk]
  simp only [Option.bind_some, Z2v]
  have go : Zi.j2 l ((RL (KK l) l.length).map (gR l)) k q false = some (.inl (.l3 ((RL (KK l) l.length).map (gR l)) k ((q + 1 : Nat) : Int))) := by
   unfold Zi.j2
   rw [if_neg (by simp), Zl _ (by omega)]
  by_cases hw : wiB (gR l (RL (KK l) l.length)[q]) l[k].A = true
  ·rw [if_pos hw]
   rw [VD] at hw
   have := hp hq hw.1 hw.2
   have hw2 : wiB (gR l (RL (KK l) l.length)[q]) k = true := by rw [VD]; dsimp only [gR]; omega
   rw [hw2]; exact go
  ·rw [if_neg hw]; exact go)) (fun q hq _ hp => Zf (by
  have e : elt ((RL (KK l) l.length).map (gR l)) (q : Int) = some (gR l (RL (KK l) l.length)[q]) := by rw [Zp (by simpa using hq), List.getElem_map]
  dsimp only [Zi.F]
  rw [if_pos (by simp; omega), e, Zp hk]
  simp only [Option.bind_some, Z2v]
  have hx : ((RL (KK l) l.length)[q].1 : Int) < l[k].A ∧ l[k].A ≤ (RL (KK l) l.length)[q].2 ∧ ¬ ((RL (KK l) l.length)[q].1 < k ∧ k ≤ (RL (KK l) l.length)[q].2) := by
   refine Classical.byContradiction fun hc => hp fun _ a b => Classical.byContradiction fun hd => hc ⟨a, b, hd⟩
  rw [if_pos (by rw [VD]; exact ⟨hx.1, hx.2.1⟩)]
  have hw2 : wiB (gR l (RL (KK l) l.length)[q]) k = false := by rw [← Bool.not_eq_true, VD]; clear hp; dsimp only [gR]; omega
  rw [hw2]; rfl))
 refine ⟨fun h => (key.1 fun q hq _ a b => ?_).trans (Zc ?_), fun h => key.2 fun hc => h fun x hx _ => ?_⟩
 ·exact (h _ (List.getElem?_eq_getElem hk) hop).2.2 _ ((TA _).1 (List.getElem_mem hq)) a b
 ·dsimp only [Zi.F]
  rw [if_neg (by simp)]
  unfold Zi.j1
  rw [Zl _ (by omega)]
 ·rw [List.getElem?_eq_getElem hk] at hx
  cases hx
  refine ⟨hA.1, hA.2, fun y hy a b => ?_⟩
  obtain ⟨q, hq, rfl⟩ := List.mem_iff_getElem.1 ((TA y).2 hy)
  exact hc q hq hq a b
theorem Jq {l : List Z7} (hlen : l.length < 4611686018427387904) (hw : ∀ x ∈ l, Y4 x) :
    (¬ Known l → Zi.f l = some ([], 40)) ∧ (Known l → Fine l → Zi.f l = some ((RL (KK l) l.length).map (gR l), 0)) ∧ (Known l → ¬ Fine l → Zi.f l = some ([], 90)) := by
 unfold Zi.f
 by_cases hn : 1 ≤ l.length ∧ l.length ≤ 200
 case neg =>
  refine ⟨fun _ => Zf ?_, fun h => absurd ⟨h.1, h.2.1⟩ hn, fun h => absurd ⟨h.1, h.2.1⟩ hn⟩
  dsimp only [Zi.F]
  rw [if_pos (by rw [Bool.or_eq_true, decide_eq_true_eq, decide_eq_true_eq]; omega)]
 obtain ⟨n1, n2⟩ := hn
 rw [Zc (t := .l1 ((0 : Nat) : Int)) (by
  dsimp only [Zi.F]
  rw [if_neg (by rw [Bool.or_eq_true, decide_eq_true_eq, decide_eq_true_eq]; omega)]; rfl)]
 have key := Vr (F := Zi.F l) (n := l.length) (b := ([], 40)) (fun k => .l1 (k : Int)) (fun k => ∀ hk : k < l.length, may l[k] = true) (fun k hk _ hp => Zc (by
  dsimp only [Zi.F]
  rw [if_pos (by omega), Zp hk]
  simp only [Option.bind_some]
  rw [Z0X (hw _ (List.getElem_mem hk)), hp hk]
  simp only [Option.bind_some]
  rw [if_neg (by simp), Zl _ (by omega)])) (fun k hk _ hp => Zf (by
  dsimp only [Zi.F]
  rw [if_pos (by omega), Zp hk]
  simp only [Option.bind_some]
  rw [Z0X (hw _ (List.getElem_mem hk))]
  simp only [Option.bind_some]
  rw [if_pos (by cases h : may l[k] with | false => rfl | true => exact absurd (fun _ => h) hp)]))
 by_cases hm : ∀ x ∈ l, may x = true
 case neg =>
  have : ¬ (∀ k, k < l.length → ∀ hk : k < l.length, may l[k] = true) := fun h => hm fun x hx => by
   obtain ⟨k, hk, rfl⟩ := List.mem_iff_getElem.1 hx
   exact h k hk hk
  exact ⟨fun _ => key.2 this, fun h => absurd h.2.2 hm, fun h => absurd h.2.2 hm⟩
 have hK : Known l := ⟨n1, n2, hm⟩
 refine ⟨fun h => absurd hK h, ?_⟩
 suffices hs : (Fine l → runF (Zi.F l) (.l1 ((0 : Nat) : Int)) = some ((RL (KK l) l.length).map (gR l), 0)) ∧ (¬ Fine l → runF (Zi.F l) (.l1 ((0 : Nat) : Int)) = some ([], 90)) from ⟨fun _ => hs.1, fun _ => hs.2⟩
 rw [key.1 fun k hk _ => hm _ (List.getElem_mem hk)]
 have hlast : l.length - 1 < l.length := by omega
 have wl : IntKind.i64.wrap ((l.length : Int) - 1) = ((l.length - 1 : Nat) : Int) := K6 _ (by omega) (by omega)
 have lasteq : lastOk l ↔ (l[l.length - 1].Op = 31 ∨ l[l.length - 1].Op = 32) := by
  unfold lastOk
  constructor
  ·intro h; exact h _ (List.getElem?_eq_getElem hlast)
  ·intro h x hx; rw [List.getElem?_eq_getElem hlast] at hx; cases hx; exact h
 obtain ⟨a1, a2⟩ := Z8f n2 hm
 by_cases hO : Ok1 (KK l) l.length ∧ Ok2 (KK l) l.length
 case neg =>
  refine ⟨fun h => absurd (UC h.1) hO, fun _ => Zf ?_⟩
  dsimp only [Zi.F]
  rw [if_neg (by omega), a2 hO, wl, Zp hlast]
  simp only [Option.bind_some]
  rfl
 obtain ⟨o1, o2⟩ := hO
 have hRL := Z0u o1
 obtain ⟨b1, b2⟩ := Z5r (s := (RL (KK l) l.length).map (gR l)) (n := l.length) (by simp; omega) n2
 have hrun : Run (KK l) l.length ↔ ((∀ i (hi : i < ((RL (KK l) l.length).map (gR l)).length) k (hk : k < i), ¬ bad ((RL (KK l) l.length).map (gR l))[i] ((RL (KK l) l.length).map (gR l))[k]) ∧ (∀ a, a < l.length → deepAt ((RL (KK l) l.length).map (gR l)) a ≤ 4)) := by
  rw [Z5s o1, Z4Q (R := RL (KK l) l.length) fun h => ⟨fun x => TA x, Z3T h⟩]
  exact ⟨fun h => h.2.2, fun h => ⟨o1, o2, h⟩⟩
 by_cases hR : Run (KK l) l.length
 case neg =>
  refine ⟨fun h => absurd h.1 hR, fun _ => Zf ?_⟩
  dsimp only [Zi.F]
  rw [if_neg (by omega), a1 ⟨o1, o2⟩, wl, Zp hlast]
  simp only [Option.bind_some, Bool.not_true, Bool.false_eq_true, if_false]
  rw [b2 (mt hrun.2 hR)]
  rfl
 by_cases hL : lastOk l
 case neg =>
  refine ⟨fun h => absurd h.2.1 hL, fun _ => Zf ?_⟩
  dsimp only [Zi.F]
  rw [if_neg (by omega), a1 ⟨o1, o2⟩, wl, Zp hlast]
  simp only [Option.bind_some, Bool.not_true, Bool.false_eq_true, if_false]
  rw [b1 (hrun.1 hR)]
  simp only [Option.bind_some, Bool.not_true, Bool.false_or]
  rw [if_pos (by rw [Bool.and_eq_true, decide_eq_true_eq, decide_eq_true_eq]; have := mt lasteq.2 hL; omega)]
 have e2 : runF (Zi.F l) (.l1 (l.length : Int)) = runF (Zi.F l) (.l2 ((RL (KK l) l.length).map (gR l)) ((0 : Nat) : Int)) := Zc (by
  dsimp only [Zi.F]
  rw [if_neg (by omega), a1 ⟨o1, o2⟩, wl, Zp hlast]
  simp only [Option.bind_some, Bool.not_true, Bool.false_eq_true, if_false]
  rw [b1 (hrun.1 hR)]
  simp only [Option.bind_some, Bool.not_true, Bool.false_or]
  rw [if_neg (by rw [Bool.and_eq_true, decide_eq_true_eq, decide_eq_true_eq]; have := lasteq.1 hL; omega)]
  rfl)
 rw [e2]
 have opb : ∀ k (hk : k < l.length), (if l[k].Op ≠ 26 then ((elt l (k : Int)).bind fun x349 => some (decide (x349.Op ≠ 27))) else (some false)) = some (decide (¬ (l[k].Op = 26 ∨ l[k].Op = 27))) := by
  intro k hk
  rw [Zp hk]
  simp only [Option.bind_some]
  by_cases h : l[k].Op = 26
  ·rw [if_neg (by simpa using h)]; simp [h]
  ·rw [if_pos h]; simp [h]
 have fin := Vr (F := Zi.F l) (n := l.length) (b := ([], 90)) (fun k => .l2 ((RL (KK l) l.length).map (gR l)) (k : Int)) (Jk l fun x => Pr (KK l) l.length x.1 x.2) (fun k hk _ hp => by
  by_cases hop : l[k].Op = 26 ∨ l[k].Op = 27
  ·have hA := hp _ (List.getElem?_eq_getElem hk) hop
   rw [Zc (t := .l3 ((RL (KK l) l.length).map (gR l)) k 0) (by
    dsimp only [Zi.F]
    rw [if_pos (by omega), Zp hk]
    simp only [Option.bind_some]
    have := opb k hk
    rw [Zp hk] at this
    simp only [Option.bind_some] at this
    rw [this]
    simp only [Option.bind_some]
    rw [if_neg (by rw [decide_eq_true_eq]; exact fun h => h hop), if_neg (by omega)]
    simp only [Option.bind_some]
    rw [if_neg (by rw [decide_eq_true_eq]; omega)])]
   exact (Z43 n2 o1 hk hop ⟨hA.1, hA.2.1⟩).1 hp
  ·refine Zc ?_
   dsimp only [Zi.F]
   rw [if_pos (by omega), Zp hk]
   simp only [Option.bind_some]
   have := opb k hk
   rw [Zp hk] at this
   simp only [Option.bind_some] at this
   rw [this]
   simp only [Option.bind_some]
   rw [if_pos (by rw [decide_eq_true_eq]; exact hop)]
   unfold Zi.j1
   rw [Zl _ (by omega)]) (fun k hk _ hp => by
  have hop : l[k].Op = 26 ∨ l[k].Op = 27 := Classical.byContradiction fun hc => hp fun x hx h => by
   rw [List.getElem?_eq_getElem hk] at hx; cases hx; exact absurd h hc
  have pre : ∀ (r : Option (Zi.S ⊕ ((List Zr) × Int))), (((if l[k].A ≤ (k : Int) then (some true) else some (decide (l[k].A ≥ (l.length : Int)))).bind fun t365 => if t365 = true then (some (.inr ([], 90))) else (some (.inl (.l3 ((RL (KK l) l.length).map (gR l)) k 0)))) = r) → Zi.F l (.l2 ((RL (KK l) l.length).map (gR l)) k) = r := by
   intro r hr
   dsimp only [Zi.F]
   rw [if_pos (by omega), Zp hk]
   simp only [Option.bind_some]
   have := opb k hk
   rw [Zp hk] at this
   simp only [Option.bind_some] at this
   rw [this]
   simp only [Option.bind_some]
   rw [if_neg (by rw [decide_eq_true_eq]; exact fun h => h hop)]
   exact hr
  by_cases hA : (k : Int) < l[k].A ∧ l[k].A < l.length
  ·rw [Zc (t := .l3 ((RL (KK l) l.length).map (gR l)) k 0) (pre _ (by
    rw [if_neg (by omega)]
    simp only [Option.bind_some]
    rw [if_neg (by rw [decide_eq_true_eq]; omega)]))]
   exact (Z43 n2 o1 hk hop hA).2 hp
  ·refine Zf (pre _ ?_)
   by_cases h : l[k].A ≤ (k : Int)
   ·rw [if_pos h]; rfl
   ·rw [if_neg h]
    simp only [Option.bind_some]
    rw [if_pos (by rw [decide_eq_true_eq]; omega)])
 by_cases hJ : Jm l fun x => Pr (KK l) l.length x.1 x.2
 ·refine ⟨fun _ => (fin.1 hJ).trans (Zf ?_), fun h => absurd ⟨hR, hL, hJ⟩ h⟩
  dsimp only [Zi.F]
  rw [if_neg (by omega)]
 ·exact ⟨fun h => absurd h.2.2 hJ, fun _ => fin.2 hJ⟩
end Zw
namespace Zw
theorem Z7e {l : List Z7} (hlen : l.length < 4611686018427387904) (hw : ∀ x ∈ l, Y4 x) :
    (∀ a, ¬ Known l → Xq.f l a = some ([], 40)) ∧ (∀ a, Known l → ¬ Fine l → Xq.f l a = some ([], 90)) ∧ (∀ a : Int, Known l → Fine l → (a < 0 ∨ a ≥ l.length) → Xq.f l a = some ([], 2)) ∧ (∀ a : Nat, Known l → Fine l → a < l.length → Xq.f l a = some (ways l a, 0)) := by
 obtain ⟨a1, a2, a3⟩ := Jq hlen hw
 unfold Xq.f
 refine ⟨fun a h => ?_, fun a h hf => ?_, fun a h hf ha => ?_, fun a h hf ha => ?_⟩
 ·rw [a1 h]; rfl
 ·rw [a3 h hf]; rfl
 ·rw [a2 h hf]
  simp only [Option.bind_some]
  rw [if_neg (by simp), if_pos (by rw [Bool.or_eq_true, decide_eq_true_eq, decide_eq_true_eq]; exact ha)]
 ·rw [a2 h hf]
  simp only [Option.bind_some]
  rw [if_neg (by simp), if_neg (by rw [Bool.or_eq_true, decide_eq_true_eq, decide_eq_true_eq]; omega), Zp ha]
  simp only [Option.bind_some]
  have hm := h.2.2 _ (List.getElem_mem ha)
  have hn := h.2.1
  unfold ways
  rw [List.getElem?_eq_getElem ha]
  dsimp only
  generalize hx : l[a] = x at hm
  have wa : IntKind.i64.wrap ((a : Int) + 1) = ((a + 1 : Nat) : Int) := Zl a (by omega)
  unfold Xq.j1
  rw [wa]
  by_cases h31 : x.Op = 31
  ·rw [if_pos h31, if_pos (by rw [decide_eq_true_eq]; exact h31), if_pos (.inl h31)]
  ·rw [if_neg h31]
   by_cases h32 : x.Op = 32
   ·rw [if_pos (by rw [decide_eq_true_eq]; exact h32), if_pos (.inr h32)]
   ·rw [if_neg (by rw [decide_eq_true_eq]; exact h32), if_neg (show ¬ (x.Op = 31 ∨ x.Op = 32) by omega)]
    by_cases h26 : x.Op = 26
    ·rw [if_pos h26, if_pos h26]
    ·rw [if_neg h26, if_neg h26]
     by_cases h27 : x.Op = 27
     ·rw [if_pos h27, if_pos h27]
      by_cases e : x.A = ((a + 1 : Nat) : Int)
      ·rw [if_pos e, if_pos e]
      ·rw [if_neg e, if_neg e]
     ·rw [if_neg h27, if_neg h27]
      by_cases h29 : x.Op = 29
      ·have hp := VZ hm (.inr (.inr h29))
       have wA : IntKind.i64.wrap (x.A + 1) = x.A + 1 := Xr (by omega) (by omega)
       rw [if_pos h29, if_pos h29, wA]
      ·rw [if_neg h29, if_neg h29]
end Zw
namespace Y7
open Zw
theorem JU {x y : List Int} (h : x.length < 4611686018427387904) : ZB.f x y = some (decide (x = y)) := by
 rw [← same8 h]
 have e : ∀ s, Zv.F x y (match s with | .start => .start | .l1 a => .l1 a) = (ZB.F x y s).map (fun r => match r with | .inl (.start) => .inl (.start) | .inl (.l1 a) => .inl (.l1 a) | .inr b => .inr b) := by
  intro s
  cases s with
  | start => dsimp only [Zv.F, ZB.F]; split <;> rfl
  | l1 a =>
   dsimp only [Zv.F, ZB.F]
   split
   ·cases elt x a with
    | none => rfl
    | some u =>
     cases elt y a with
     | none => rfl
     | some v => simp only [Option.bind_some]; split <;> rfl
   ·rfl
 unfold Zv.f ZB.f
 by_cases hl : x.length = y.length
 ·rw [Zc (F := ZB.F x y) (t := .l1 ((0 : Nat) : Int)) (by dsimp only [ZB.F]; rw [if_neg (by omega)]; rfl)]
  rw [Zc (F := Zv.F x y) (t := .l1 ((0 : Nat) : Int)) (by dsimp only [Zv.F]; rw [if_neg (by omega)]; rfl)]
  have key : ∀ n k, x.length - k = n → runF (ZB.F x y) (.l1 (k : Int)) = runF (Zv.F x y) (.l1 (k : Int)) := by
   intro n
   induction n with
   | zero =>
    intro k hk
    rw [Zf (F := ZB.F x y) (r := true) (by dsimp only [ZB.F]; rw [if_neg (by omega)]), Zf (F := Zv.F x y) (r := true) (by dsimp only [Zv.F]; rw [if_neg (by omega)])]
   | succ n ih =>
    intro k hk
    have h1 : k < x.length := by omega
    have h2 : k < y.length := by omega
    by_cases e : x[k] = y[k]
    ·rw [Zc (F := ZB.F x y) (t := .l1 ((k + 1 : Nat) : Int)) (by dsimp only [ZB.F]; rw [if_pos (by omega), Zp h1, Zp h2]; simp only [Option.bind_some]; rw [if_neg (by simpa using e), Zl k (by omega)]), Zc (F := Zv.F x y) (t := .l1 ((k + 1 : Nat) : Int)) (by dsimp only [Zv.F]; rw [if_pos (by omega), Zp h1, Zp h2]; simp only [Option.bind_some]; rw [if_neg (by simpa using e), Zl k (by omega)])]
     exact ih (k + 1) (by omega)
    ·rw [Zf (F := ZB.F x y) (r := false) (by dsimp only [ZB.F]; rw [if_pos (by omega), Zp h1, Zp h2]; simp only [Option.bind_some]; rw [if_pos (by simpa using e)]), Zf (F := Zv.F x y) (r := false) (by dsimp only [Zv.F]; rw [if_pos (by omega), Zp h1, Zp h2]; simp only [Option.bind_some]; rw [if_pos (by simpa using e)])]
  exact key _ 0 rfl
 ·rw [Zf (F := ZB.F x y) (r := false) (by dsimp only [ZB.F]; rw [if_pos (by omega)]), Zf (F := Zv.F x y) (r := false) (by dsimp only [Zv.F]; rw [if_pos (by omega)])]
end Y7
namespace Y7
open Zw
theorem copy_eq {m : Z9} (S : Small m) : Xg.f m = some m := by
 have h1 := S.G
 have h2 := S.P
 have h3 := S.M
 unfold Xg.f
 have c3 : ∀ l : List Zn, l.length ≤ 100 → Wj.f l = some l := by
  intro l hl
  unfold Wj.f
  rw [if_pos (by simp; omega)]; rfl
 rw [Zc (t := .l1 m.Zj m.Pool ((0 : Nat) : Int) (m.Methods.take 0)) (by
  dsimp only [Xg.F]
  rw [c3 _ h1]
  simp only [Option.bind_some]
  rw [c3 _ h2]
  rfl)]
 refine (Vs (F := Xg.F m) (n := m.Methods.length) (fun k => .l1 m.Zj m.Pool (k : Int) (m.Methods.take k)) (fun k hk => ?_)).trans (Zf ?_)
 ·have hs := S.x _ (List.getElem_mem hk)
  dsimp only [Xg.F]
  rw [if_pos (by omega), Zp hk]
  simp only [Option.bind_some]
  rw [if_pos (by simp; omega), if_pos (by simp; omega)]
  have c5 : Vt.f m.Methods[k].Code = some m.Methods[k].Code := by
   unfold Vt.f
   rw [if_pos (by simp; omega)]; rfl
  rw [c5]
  simp only [Option.bind_some]
  rw [if_pos (by simp; omega), Zl k (by omega), take_succ _ k hk]
  rfl
 ·dsimp only [Xg.F]
  rw [if_neg (by omega), List.take_length]
structure Alike (E E' : TE) : Prop where
 G : E'.G.length = E.G.length
 G1 : ∀ a, (At E'.G Zn.zero a).Kind = (At E.G Zn.zero a).Kind
 P : E'.P.length = E.P.length
 P1 : ∀ a, (At E'.P Zn.zero a).Kind = (At E.P Zn.zero a).Kind
 M : E'.M.length = E.M.length
 M1 : ∀ a, (At E'.M Zb.zero a).Args = (At E.M Zb.zero a).Args ∧ (At E'.M Zb.zero a).Result = (At E.M Zb.zero a).Result
 res : E'.res = E.res
 K : E'.K = E.K
theorem Alike.named {E E' : TE} (h : Alike E E') (i : Z7) : named E' i = named E i := by
 unfold Y7.named
 rw [h.G1, h.P1, h.K]
theorem Alike.shape {E E' : TE} (h : Alike E E') (i : Z7) (row : List Int) : shapeC E' i row = shapeC E i row := by
 unfold shapeC
 rw [h.named, (h.M1 i.A).1, (h.M1 i.A).2, h.res]
theorem Alike.after {E E' : TE} (h : Alike E E') (i : Z7) (row : List Int) : afterC E' i row = afterC E i row := by
 unfold afterC
 rw [h.shape]
theorem Alike.place {E E' : TE} (h : Alike E E') (l : List Z7) (rows : List Ze) (k : Nat) : placeC E' l rows k = placeC E l rows k := by
 unfold placeC
 rw [h.after]
theorem Alike.at {E E' : TE} (h : Alike E E') (l : List Z7) : ∀ k, rowsAt E' l k = rowsAt E l k
 | 0 => rfl
 | k + 1 => by unfold rowsAt; rw [h.at l k, h.place]
theorem Alike.rows {E E' : TE} (h : Alike E E') (l : List Z7) : rowsC E' l = rowsC E l := by
 unfold rowsC
 rw [h.at]
end Y7
namespace Y7
open Zw
theorem K8 {s : List Int} {k : Int} (h : s.length ≤ 100000) : YB.f s k = some (s ++ [k]) := by
 unfold YB.f
 rw [if_pos (by simp; omega), if_pos (by simp; omega)]; rfl
theorem rkinds {x : Zb} (h : x.Args.length + x.Locals.length ≤ 1000) : Vi.f x = some (x.Args ++ x.Locals) := by
 unfold Vi.f
 rw [if_pos (by simp; omega), if_pos (by simp; omega)]; rfl
theorem Z6i {m : Z9} {x : Zb} (i : Z7) (h : x.Args.length + x.Locals.length ≤ 1000) : YV.f m x i = some (there (envOf m x) i) := by
 have w : IntKind.i64.wrap ((x.Args.length : Int) + (x.Locals.length : Int)) = ((x.Args ++ x.Locals).length : Int) := by rw [Xr (by omega) (by omega), List.length_append]; omega
 unfold YV.f YV.j1 YV.j2 there
 rw [w]
 by_cases h1 : i.Op = 1
 ·simp [h1, envOf]; rfl
 ·by_cases h2 : i.Op = 2
  ·simp [h2, envOf]
  ·by_cases h3 : i.Op = 3
   ·simp [h3, envOf]
   ·by_cases h4 : i.Op = 4
    ·simp [h4, envOf]; rfl
    ·by_cases h5 : i.Op = 5
     ·simp [h5, envOf]; rfl
     ·by_cases h6 : i.Op = 30
      ·simp [h6, envOf]; rfl
      ·simp [h1, h2, h3, h4, h5, h6]
theorem Z44 {row : List Int} {k : Int} (hl : row.length ≤ 100000) : Xl.f row k = some (if h : row.length = 0 then ([], 101) else if k = 0 ∨ k = row[row.length - 1]'(by omega) then (row.take (row.length - 1), 0) else ([], 100)) := by
 unfold Xl.f
 by_cases h : row.length = 0
 ·rw [if_pos (by omega), dif_pos h]
 ·rw [if_neg (by omega), dif_neg h]
  have w1 : IntKind.i64.wrap ((row.length : Int) - 1) = ((row.length - 1 : Nat) : Int) := by rw [Xr (by omega) (by omega)]; omega
  rw [w1, Zp (by omega)]
  simp only [Option.bind_some]
  have et : ((row.length - 1 : Nat) : Int).toNat = row.length - 1 := by omega
  by_cases h0 : k = 0
  ·rw [if_neg (by simpa using h0), if_pos (show k = 0 ∨ k = row[row.length - 1]'(by omega) from .inl h0)]
   simp only [Option.bind_some]
   rw [if_neg (by simp), if_pos (by omega), et]
  ·rw [if_pos h0]
   simp only [Option.bind_some]
   by_cases h1 : k = row[row.length - 1]'(by omega)
   ·rw [if_neg (by simp [← h1]), if_pos (show k = 0 ∨ k = row[row.length - 1]'(by omega) from .inr h1), if_pos (by omega), et]
   ·rw [if_pos (by simpa using fun e => h1 e.symm), if_neg (show ¬ (k = 0 ∨ k = row[row.length - 1]'(by omega)) from fun h => h.elim h0 h1)]
theorem JV {t row : List Int} (h : t.length ≤ row.length) : takesB t row = true ↔ ∀ k (hk : k < t.length), t[t.length - 1 - k]'(by omega) = 0 ∨ t[t.length - 1 - k]'(by omega) = row[row.length - 1 - k]'(by omega) := by
 unfold takesB
 rw [List.all_eq_true]
 constructor
 ·intro ha k hk
  have hz : t.length - 1 - k < (t.zip (row.drop (row.length - t.length))).length := by simp; omega
  have := ha _ (List.getElem_mem hz)
  rw [List.getElem_zip, List.getElem_drop, decide_eq_true_eq] at this
  have e : row.length - t.length + (t.length - 1 - k) = row.length - 1 - k := by omega
  simp only [e] at this
  exact this
 ·intro ha z hz
  obtain ⟨q, hq, rfl⟩ := List.mem_iff_getElem.1 hz
  have hq' : q < t.length := by simp at hq; omega
  rw [List.getElem_zip, List.getElem_drop, decide_eq_true_eq]
  have := ha (t.length - 1 - q) (by omega)
  have e1 : t.length - 1 - (t.length - 1 - q) = q := by omega
  have e2 : row.length - 1 - (t.length - 1 - q) = row.length - t.length + q := by omega
  simp only [e1, e2] at this
  exact this
def takeC (t row : List Int) : List Int × Int := if row.length < t.length then ([], 101) else if takesB t row = true then (row.take (row.length - t.length), 0) else ([], 100)
theorem Z4j {row : List Int} {k : Int} (hl : row.length ≤ 100000) : Xl.f row k = some (takeC [k] row) := by
 rw [Z44 hl]
 unfold takeC
 by_cases h : row.length = 0
 ·rw [dif_pos h, if_pos (by rw [List.length_singleton]; omega)]
 ·rw [dif_neg h, if_neg (show ¬ row.length < ([k] : List Int).length by rw [List.length_singleton]; omega)]
  have hb := JV (t := [k]) (row := row) (by rw [List.length_singleton]; omega)
  by_cases h1 : k = 0 ∨ k = row[row.length - 1]'(by omega)
  ·rw [if_pos h1, if_pos (hb.2 fun j hj => by
    obtain rfl : j = 0 := by simpa using hj
    simpa using h1)]
   rfl
  ·rw [if_neg h1, if_neg (fun h => h1 (by simpa using hb.1 h 0 (by simp)))]
theorem Z6j {t row : List Int} (hl : row.length ≤ 100000) (ht : t.length < 4611686018427387904) : Yl.f row t = some (takeC t row) := by
 unfold Yl.f takeC
 by_cases hlt : row.length < t.length
 ·rw [if_pos hlt, Zf]
  dsimp only [Yl.F]
  rw [if_pos (by omega)]
 ·rw [if_neg hlt, Zc (t := .l1 (row.take (row.length - 0)) ((t.length : Int) - 1 - ((0 : Nat) : Int))) (by
   dsimp only [Yl.F]
   rw [if_neg (by omega), Xr (by omega) (by omega), Nat.sub_zero, List.take_length]; simp)]
  have step : ∀ k (hk : k < t.length), Yl.F row t (.l1 (row.take (row.length - k)) ((t.length : Int) - 1 - (k : Int))) = if t[t.length - 1 - k]'(by omega) = 0 ∨ t[t.length - 1 - k]'(by omega) = row[row.length - 1 - k]'(by omega) then some (.inl (.l1 (row.take (row.length - (k + 1))) ((t.length : Int) - 1 - ((k + 1 : Nat) : Int)))) else some (.inr ([], 100)) := by
   intro k hk
   dsimp only [Yl.F]
   have e1 : (t.length : Int) - 1 - (k : Int) = ((t.length - 1 - k : Nat) : Int) := by omega
   rw [if_pos (by omega), e1, Zp (by omega)]
   simp only [Option.bind_some]
   have hlen : (row.take (row.length - k)).length = row.length - k := by rw [List.length_take]; omega
   rw [Z44 (by rw [hlen]; omega)]
   simp only [Option.bind_some]
   rw [dif_neg (by rw [hlen]; omega)]
   have e2 : (row.take (row.length - k))[(row.take (row.length - k)).length - 1]'(by rw [hlen]; omega) = row[row.length - 1 - k]'(by omega) := by
    rw [List.getElem_take]
    have : (row.take (row.length - k)).length - 1 = row.length - 1 - k := by rw [hlen]; omega
    simp only [this]
   rw [e2]
   have e3 : (row.take (row.length - k)).take ((row.take (row.length - k)).length - 1) = row.take (row.length - (k + 1)) := by
    rw [hlen, List.take_take]
    congr 1; omega
   rw [e3]
   have e4 : IntKind.i64.wrap (((t.length - 1 - k : Nat) : Int) - 1) = (t.length : Int) - 1 - ((k + 1 : Nat) : Int) := by rw [Xr (by omega) (by omega)]; omega
   rw [e4]
   by_cases hc : t[t.length - 1 - k]'(by omega) = 0 ∨ t[t.length - 1 - k]'(by omega) = row[row.length - 1 - k]'(by omega)
   ·rw [if_pos hc, if_pos hc]; rfl
   ·rw [if_neg hc, if_neg hc]; rfl
  obtain ⟨a1, a2⟩ := Vr (F := Yl.F row t) (n := t.length) (b := ([], 100)) (fun k => .l1 (row.take (row.length - k)) ((t.length : Int) - 1 - (k : Int))) (fun k => ∀ hk : k < t.length, t[t.length - 1 - k]'(by omega) = 0 ∨ t[t.length - 1 - k]'(by omega) = row[row.length - 1 - k]'(by omega)) (fun k hk _ hp => by
   refine Zc ?_
   rw [step k hk, if_pos (hp hk)]) (fun k hk _ hp => by
   refine Zf ?_
   rw [step k hk, if_neg (fun h => hp fun _ => h)])
  have hb := JV (t := t) (row := row) (by omega)
  by_cases hall : takesB t row = true
  ·rw [if_pos hall]
   refine (a1 fun k hk _ => hb.1 hall k hk).trans (Zf ?_)
   dsimp only [Yl.F]
   rw [if_neg (by omega)]
  ·rw [if_neg hall]
   exact a2 fun h => hall (hb.2 fun k hk => h k hk hk)
def Z2w (c : Int) : Int := if c = 110 then 1 else if c = 112 then 2 else if c = 114 then 3 else 0
theorem letter_eq (c : Int) : V6.f c = some (Z2w c) := by
 unfold V6.f Z2w
 split
 ·rfl
 ·split
  ·rfl
  ·split <;> rfl
def kindsC (s : ByteArray) : List Int := (List.range s.size).map fun (k : Nat) => Z2w ((strAt s (k : Int)).getD 0)
theorem Z1V {s : ByteArray} (h : s.size ≤ 1000) : YW.f s = some (kindsC s) := by
 unfold YW.f
 rw [Zc (t := .l1 ((kindsC s).take 0) ((0 : Nat) : Int)) rfl]
 have hl : (kindsC s).length = s.size := by simp [kindsC]
 refine (Vs (F := YW.F s) (n := s.size) (fun k => .l1 ((kindsC s).take k) (k : Int)) (fun k hk => ?_)).trans (Zf ?_)
 ·dsimp only [YW.F]
  have hs : strAt s (k : Int) = some ((strAt s (k : Int)).getD 0) := by
   unfold strAt
   rw [dif_pos ⟨by omega, by omega⟩]; rfl
  rw [if_pos (by omega), hs]
  simp only [Option.bind_some]
  rw [letter_eq]
  simp only [Option.bind_some]
  rw [if_pos (by simp; omega), Zl k (by omega), take_succ _ k (by omega)]
  simp [kindsC]
 ·dsimp only [YW.F]
  rw [if_neg (by omega), List.take_of_length_le (by omega)]
def ofBoth (n : Nat) : Bool := match ZL.f (n : Int), Xe.f (n : Int) with
 | some t, some s => decide (t.1.size ≤ 10 ∧ t.2.size ≤ 10) && (if (t.1.toList == (⟨#[63]⟩ : ByteArray).toList) = true then !s.2 else s.2 && decide (kindsC t.1 = s.1.Takes ∧ kindsC t.2 = s.1.Gives))
 | _, _ => false
theorem Z4k (n : Fin 33) : ofBoth n.1 = true := by revert n; decide +kernel
theorem Z9z {x : Int} (h0 : 0 ≤ x) (h1 : x < 33) {s : XF × Bool} (hs : Xe.f x = some s) (h2 : s.2 = true) : VK.f x = some (s.1.Takes, s.1.Gives, true) := by
 obtain ⟨n, rfl⟩ := Int.eq_ofNat_of_zero_le h0
 have hb := Z4k ⟨n, by omega⟩
 unfold ofBoth at hb
 dsimp only at hb
 rw [hs] at hb
 unfold VK.f
 cases ht : ZL.f (n : Int) with
 | none => rw [ht] at hb; cases hb
 | some t =>
  rw [ht] at hb
  dsimp only at hb
  rw [Bool.and_eq_true, decide_eq_true_eq] at hb
  obtain ⟨⟨b1, b2⟩, hb⟩ := hb
  simp only [Option.bind_some]
  by_cases hq : (t.1.toList == (⟨#[63]⟩ : ByteArray).toList) = true
  ·rw [if_pos hq, h2] at hb; cases hb
  ·rw [if_neg hq, h2, Bool.true_and, decide_eq_true_eq] at hb
   rw [if_neg hq, Z1V (by omega)]
   simp only [Option.bind_some]
   rw [Z1V (by omega)]
   simp only [Option.bind_some]
   rw [hb.1, hb.2]
end Y7
namespace Y7
open Zw
theorem after_take (E : TE) (i : Z7) (row : List Int) : afterC E i row = if (takeC (shapeC E i row).1 row).2 ≠ 0 then ([], (takeC (shapeC E i row).1 row).2) else ((takeC (shapeC E i row).1 row).1 ++ (shapeC E i row).2, 0) := by
 unfold afterC takeC
 by_cases h1 : row.length < (shapeC E i row).1.length
 ·rw [if_pos h1, if_pos h1]; rfl
 ·rw [if_neg h1, if_neg h1]
  by_cases h2 : takesB (shapeC E i row).1 row = true
  ·rw [if_pos h2, if_pos h2]; rfl
  ·rw [if_neg h2, if_neg h2]; rfl
theorem Z0B (row : List Int) : takeC [] row = (row, 0) := by
 unfold takeC
 rw [if_neg (by simp), if_pos (by rfl)]; simp
theorem Z17 {t row : List Int} (h : ∀ z ∈ t, z = 0) : takeC t row = if row.length < t.length then ([], 101) else (row.take (row.length - t.length), 0) := by
 unfold takeC
 by_cases h1 : row.length < t.length
 ·rw [if_pos h1, if_pos h1]
 ·rw [if_neg h1, if_neg h1, if_pos ((JV (by omega)).2 fun k hk => .inl (h _ (List.getElem_mem _)))]
theorem Z6k {t row : List Int} : (takeC t row).1.length ≤ row.length := by
 unfold takeC
 split
 ·simp
 ·split
  ·rw [List.length_take]; omega
  ·simp
theorem Z6l {m : Z9} {x : Zb} {i : Z7} {s : List Int} (hw : Y4 i) (hm : may i = true) (ht : there (envOf m x) i = true) (hM : ∀ y ∈ m.Methods, y.Args.length < 4611686018427387904) (hs : s.length ≤ 1000) (hl : x.Args.length + x.Locals.length ≤ 1000) :
    ZT.f m x i s = some (afterC (envOf m x) i s) := by
 obtain ⟨o0, o1⟩ := Z1T hw hm
 obtain ⟨sh, hsh, hc⟩ := Z0W o0 o1
 have hg := Z0v (E := envOf m x) (row := s) hw hm
 have htk := Z2H (E := envOf m x) (row := s) hw hm hM
 have ha := after_take (envOf m x) i s
 generalize hshape : shapeC (envOf m x) i s = shp at ha hg htk
 obtain ⟨t, v⟩ := shp
 dsimp only at ha hg htk
 rw [ha]
 have htake := Z6j (row := s) (t := t) (by omega) htk
 have htl := Z6k (t := t) (row := s)
 unfold shapeC at hshape
 rw [hsh] at hshape
 dsimp only at hshape
 unfold ZT.f
 have one : ∀ k : Int, t = [k] → v = [] → ∀ r, ZT.F m x i s .start = r → r = ((Xl.f s k).bind fun t27 => some (.inr (t27.1, t27.2))) → runF (ZT.F m x i s) .start = some (if (takeC t s).2 ≠ 0 then ([], (takeC t s).2) else ((takeC t s).1 ++ v, 0)) := by
  rintro k rfl rfl r h1 h2
  refine Zf ?_
  rw [h1, h2, Z4j (by omega)]
  simp only [Option.bind_some]
  congr 2
  by_cases he : (takeC [k] s).2 ≠ 0
  ·rw [if_pos he]
   have : (takeC [k] s).1 = [] := by
    unfold takeC at he ⊢
    split
    ·rfl
    ·rename_i q1
     rw [if_neg q1] at he
     split
     ·rename_i q2
      rw [if_pos q2] at he; exact absurd rfl he
     ·rfl
   rw [this]
  ·rw [if_neg he, List.append_nil]
   have := Classical.not_not.1 he
   rw [this]
 rcases hc with ⟨h2, hc1, hc2, hc3⟩ | ⟨rfl, ho⟩
 ·rw [if_pos h2] at hshape
  obtain ⟨rfl, rfl⟩ := Prod.mk.inj hshape
  have hno : i.Op ≠ 1 ∧ i.Op ≠ 2 ∧ i.Op ≠ 3 ∧ i.Op ≠ 4 ∧ i.Op ≠ 5 ∧ i.Op ≠ 7 ∧ i.Op ≠ 8 ∧ i.Op ≠ 30 := by
   refine ⟨?_, ?_, ?_, ?_, ?_, ?_, ?_, ?_⟩ <;> intro e <;> rw [e] at hsh <;> have hz := congrArg (fun o => o.map (·.2)) hsh <;> revert hz <;> simp only [Option.map_some, h2] <;> decide +kernel
  obtain ⟨n1, n2, n3, n4, n5, n7, n8, n30⟩ := hno
  have hstart : ZT.F m x i s .start = if (takeC sh.1.Takes s).2 ≠ 0 then some (.inr ([], (takeC sh.1.Takes s).2)) else some (.inl (.l1 (sh.1.Takes, sh.1.Gives, true) (takeC sh.1.Takes s).1 0)) := by
   dsimp only [ZT.F]
   rw [if_neg n1, if_neg n2, if_neg n3, if_neg n4, if_neg n5, if_neg n7, if_neg n8, if_neg n30, if_neg hc3, Z9z o0 o1 hsh h2]
   simp only [Option.bind_some]
   rw [htake]
   simp only [Option.bind_some]
  by_cases he : (takeC sh.1.Takes s).2 ≠ 0
  ·rw [if_pos he] at hstart ⊢
   exact Zf hstart
  ·rw [if_neg he] at hstart ⊢
   rw [Zc hstart]
   generalize (takeC sh.1.Takes s).1 = left at htl
   have e0 : left = left ++ sh.1.Gives.take 0 := by simp
   have key := Vs (F := ZT.F m x i s) (n := sh.1.Gives.length) (fun k => .l1 (sh.1.Takes, sh.1.Gives, true) (left ++ sh.1.Gives.take k) (k : Int)) (fun k hk => by
    dsimp only [ZT.F]
    rw [if_pos (by omega), Zp hk]
    simp only [Option.bind_some]
    rw [K8 (by rw [List.length_append, List.length_take]; omega)]
    simp only [Option.bind_some]
    rw [Zl k (by omega), take_succ _ k hk, List.append_assoc])
   rw [List.take_zero, List.append_nil, List.take_length] at key
   refine Eq.trans key (Zf ?_)
   dsimp only [ZT.F]
   rw [if_neg (by omega)]
 ·simp only [Bool.false_eq_true, if_false] at hshape
  by_cases h1 : i.Op = 1
  ·rw [if_pos (.inl h1)] at hshape
   obtain ⟨rfl, rfl⟩ := Prod.mk.inj hshape
   have a0 := UD hw hm (by omega)
   have a1 : i.A < m.Pool.length := by have := ht; simp only [there, h1, envOf, if_true] at this; exact of_decide_eq_true this
   rw [Z0B]
   refine Zf ?_
   dsimp only [ZT.F]
   rw [if_pos h1, Uw Zn.zero a0 a1]
   simp only [Option.bind_some]
   rw [K8 (by omega)]
   simp [named, h1, envOf]
  ·by_cases h2 : i.Op = 2
   ·rw [if_pos (.inr (.inl h2))] at hshape
    obtain ⟨rfl, rfl⟩ := Prod.mk.inj hshape
    have a0 := UD hw hm (by omega)
    have a1 : i.A < (x.Args ++ x.Locals).length := by have := ht; simp [there, h2, envOf] at this; simpa using this
    rw [Z0B]
    refine Zf ?_
    dsimp only [ZT.F]
    unfold Ww.f
    rw [if_neg h1, if_pos h2, rkinds hl]
    simp only [Option.bind_some]
    rw [Uw 0 a0 a1]
    simp only [Option.bind_some]
    rw [K8 (by omega)]
    simp [named, h2, envOf]
   ·by_cases h4 : i.Op = 4
    ·rw [if_pos (.inr (.inr h4))] at hshape
     obtain ⟨rfl, rfl⟩ := Prod.mk.inj hshape
     have a0 := UD hw hm (by omega)
     have a1 : i.A < m.Zj.length := by have := ht; simp [there, h4, envOf] at this; exact of_decide_eq_true this
     rw [Z0B]
     refine Zf ?_
     dsimp only [ZT.F]
     rw [if_neg h1, if_neg h2, if_neg (by omega), if_pos h4, Uw Zn.zero a0 a1]
     simp only [Option.bind_some]
     rw [K8 (by omega)]
     simp [named, h4, envOf]
    ·rw [if_neg (by omega)] at hshape
     by_cases h3 : i.Op = 3
     ·rw [if_pos (.inl h3)] at hshape
      obtain ⟨rfl, rfl⟩ := Prod.mk.inj hshape
      have a0 := UD hw hm (by omega)
      have a1 : i.A < (x.Args ++ x.Locals).length := by have := ht; simp [there, h3, envOf] at this; simpa using this
      refine one (named (envOf m x) i) rfl rfl _ rfl ?_
      dsimp only [ZT.F]
      unfold Ww.f
      rw [if_neg h1, if_neg h2, if_pos h3, rkinds hl]
      simp only [Option.bind_some]
      rw [Uw 0 a0 a1]
      simp only [Option.bind_some]
      have e : named (envOf m x) i = At (x.Args ++ x.Locals) 0 i.A := by simp [named, h3, envOf]
      rw [e]
     ·by_cases h5 : i.Op = 5
      ·rw [if_pos (.inr h5)] at hshape
       obtain ⟨rfl, rfl⟩ := Prod.mk.inj hshape
       have a0 := UD hw hm (by omega)
       have a1 : i.A < m.Zj.length := by have := ht; simp [there, h5, envOf] at this; exact of_decide_eq_true this
       refine one (named (envOf m x) i) rfl rfl _ rfl ?_
       dsimp only [ZT.F]
       rw [if_neg h1, if_neg h2, if_neg h3, if_neg h4, if_pos h5, Uw Zn.zero a0 a1]
       simp only [Option.bind_some]
       have e : named (envOf m x) i = (At m.Zj Zn.zero i.A).Kind := by simp [named, h5, envOf]
       rw [e]
      ·rw [if_neg (by omega)] at hshape
       by_cases h30 : i.Op = 30
       ·rw [if_pos h30] at hshape
        obtain ⟨rfl, rfl⟩ := Prod.mk.inj hshape
        have a0 := UD hw hm (by omega)
        have a1 : i.A < m.Methods.length := by have := ht; simp [there, h30, envOf] at this; exact of_decide_eq_true this
        have htake : Yl.f s (At m.Methods Zb.zero i.A).Args = some (takeC (At m.Methods Zb.zero i.A).Args s) := htake
        show _ = some (if (takeC (At m.Methods Zb.zero i.A).Args s).2 ≠ 0 then ([], (takeC (At m.Methods Zb.zero i.A).Args s).2) else ((takeC (At m.Methods Zb.zero i.A).Args s).1 ++ [(At m.Methods Zb.zero i.A).Result], 0))
        refine Zf ?_
        dsimp only [ZT.F]
        rw [if_neg h1, if_neg h2, if_neg h3, if_neg h4, if_neg h5, if_neg (by omega), if_neg (by omega), if_pos h30, Uw Zb.zero a0 a1]
        simp only [Option.bind_some]
        rw [htake]
        simp only [Option.bind_some]
        have htl : (takeC (At m.Methods Zb.zero i.A).Args s).1.length ≤ s.length := htl
        by_cases he : (takeC (At m.Methods Zb.zero i.A).Args s).2 ≠ 0
        ·rw [if_pos he, if_pos he]
        ·rw [if_neg he, if_neg he, K8 (by omega)]; rfl
       ·rw [if_neg h30] at hshape
        by_cases h31 : i.Op = 31
        ·rw [if_pos h31] at hshape
         obtain ⟨rfl, rfl⟩ := Prod.mk.inj hshape
         refine one x.Result rfl rfl _ rfl ?_
         dsimp only [ZT.F]
         rw [if_neg h1, if_neg h2, if_neg h3, if_neg h4, if_neg h5, if_neg (by omega), if_neg (by omega), if_neg (by omega), if_pos h31]
        ·rw [if_neg h31] at hshape
         by_cases h8 : i.Op = 8
         ·rw [if_pos h8] at hshape
          obtain ⟨rfl, rfl⟩ := Prod.mk.inj hshape
          rw [Z17 (by simp)]
          refine Zf ?_
          dsimp only [ZT.F]
          rw [if_neg h1, if_neg h2, if_neg h3, if_neg h4, if_neg h5, if_neg (by omega), if_pos h8]
          by_cases hlen : s.length < 2
          ·rw [if_pos (by omega), if_pos (show s.length < ([0, 0] : List Int).length from hlen)]; rfl
          ·rw [if_neg (by omega), if_neg (show ¬ s.length < ([0, 0] : List Int).length from hlen)]
           have w1 : IntKind.i64.wrap ((s.length : Int) - 1) = ((s.length - 1 : Nat) : Int) := by rw [Xr (by omega) (by omega)]; omega
           have w2 : IntKind.i64.wrap ((s.length : Int) - 2) = ((s.length - 2 : Nat) : Int) := by rw [Xr (by omega) (by omega)]; omega
           have hrev : two s = [s[s.length - 2]'(by omega), s[s.length - 1]'(by omega)] := by
            unfold two
            rw [List.drop_eq_getElem_cons (by omega), List.drop_eq_getElem_cons (by omega), List.drop_eq_nil_of_le (by omega)]
            have : s.length - 2 + 1 = s.length - 1 := by omega
            simp only [this]
           rw [w1, w2, Zp (by omega), Zp (by omega)]
           simp only [Option.bind_some]
           rw [if_pos (by omega), show ((s.length - 2 : Nat) : Int).toNat = s.length - 2 from by omega, K8 (by rw [List.length_take]; omega)]
           simp only [Option.bind_some]
           rw [K8 (by rw [List.length_append, List.length_take]; simp; omega)]
           simp only [Option.bind_some]
           rw [hrev]
           simp
         ·rw [if_neg h8] at hshape
          have h7 : i.Op = 7 := by omega
          obtain ⟨rfl, rfl⟩ := Prod.mk.inj hshape
          rw [Z17 (by simp)]
          refine Zf ?_
          dsimp only [ZT.F]
          rw [if_neg h1, if_neg h2, if_neg h3, if_neg h4, if_neg h5, if_pos h7]
          by_cases hlen : s.length < 1
          ·rw [if_pos (by omega), if_pos (show s.length < ([0] : List Int).length from hlen)]; rfl
          ·rw [if_neg (by omega), if_neg (show ¬ s.length < ([0] : List Int).length from hlen)]
           have hne : s ≠ [] := by rintro rfl; simp at hlen
           have w1 : IntKind.i64.wrap ((s.length : Int) - 1) = ((s.length - 1 : Nat) : Int) := by rw [Xr (by omega) (by omega)]; omega
           have hlast : s.getLastD 0 = s[s.length - 1]'(by omega) := by
            rw [List.getLastD_eq_getLast?, List.getLast?_eq_getElem?, List.getElem?_eq_getElem (by omega)]; rfl
           have hs2 : ∀ e, s[s.length - 1]'(by omega) = e → s = s.take (s.length - 1) ++ [e] := by
            rintro e rfl
            have := take_succ s (s.length - 1) (by omega)
            rw [show s.length - 1 + 1 = s.length from by omega, List.take_length] at this
            exact this
           rw [w1, Zp (by omega)]
           simp only [Option.bind_some]
           rw [K8 (by omega)]
           simp only [Option.bind_some]
           rw [if_neg hne, hlast]
           have h9 := hs2 _ rfl
           generalize s[s.length - 1]'(by omega) = e at h9 ⊢
           have : s ++ [e] = s.take (s.length - ([0] : List Int).length) ++ [e, e] := by
            conv => lhs; rw [h9]
            simp
           rw [this]; rfl
end Y7
namespace Y7
open Zw
def conv (r : Ze) : Zx := ⟨r.Reached, r.Kinds⟩
def cv (rows : List Ze) (n : Nat) : List Zx := (rows.take n).map conv
theorem Z1W {rows : List Ze} {n : Nat} (h : n ≤ rows.length) : (cv rows n).length = n := by unfold cv; rw [List.length_map, List.length_take]; omega
theorem Z6m {rows : List Ze} {n : Nat} {w : Int} (h0 : 0 ≤ w) (h1 : w < n) (h : n ≤ rows.length) : elt (cv rows n) w = some (conv (At rows R0 w)) := by
 have hr : w.toNat < rows.length := by omega
 have e : elt (cv rows n) ((w.toNat : Nat) : Int) = (cv rows n)[w.toNat]? := Ju _ _
 rw [show ((w.toNat : Nat) : Int) = w from by omega] at e
 rw [e]
 unfold cv At
 rw [List.getElem?_map, List.getElem?_take_of_lt (by omega), List.getElem?_eq_getElem hr]; rfl
theorem Z6n (rows : List Ze) (n : Nat) (w : Nat) (v : Ze) : (cv rows n).set w (conv v) = cv (rows.set w v) n := by
 unfold cv
 rw [List.take_set, List.map_set]
theorem Z8g {m : Z9} {k : Int} {x : Zb} {a : Nat} (W : Well (envOf m x) x.Code) (ha : a < x.Code.length) {t : (List Int) × Int} (htl : t.1.length ≤ 1000) : ∀ (ws : List Int) (j : Nat) (rs : List Ze), (Zw.ways x.Code a).drop j = ws → rs.length = 200 → (∀ r ∈ rs, r.Kinds.length ≤ 1000) →
    runF (Zo.F m k) (.l3 x (a : Int) t (Zw.ways x.Code a, 0) (cv rs x.Code.length) (j : Int)) = if (put t.1 rs ws).1 ≠ 0 then some ([], (put t.1 rs ws).1) else runF (Zo.F m k) (.l2 x (cv (put t.1 rs ws).2 x.Code.length) ((a + 1 : Nat) : Int)) := by
 have hn : x.Code.length ≤ 200 := W.known.2.1
 have hf := KX W.known W.fine ha
 intro ws
 induction ws with
 | nil =>
  intro j rs hd hrs _
  have hj : (Zw.ways x.Code a).length ≤ j := by simpa using hd
  rw [show put t.1 rs [] = (0, rs) from rfl, if_neg (by simp)]
  refine Zc ?_
  dsimp only [Zo.F]
  rw [if_neg (by omega)]
  unfold Zo.j1
  rw [Zl a (by omega)]
 | cons w ws ih =>
  intro j rs hd hrs hsz
  have hj : j < (Zw.ways x.Code a).length := by
   rcases Nat.lt_or_ge j (Zw.ways x.Code a).length with z | z
   ·exact z
   ·rw [List.drop_eq_nil_of_le z] at hd; cases hd
  have hw' : (Zw.ways x.Code a)[j] = w := by
   have := congrArg (fun z => z[0]?) hd
   simp [List.getElem?_eq_getElem hj] at this
   exact this
  obtain ⟨w0, w1, -⟩ := hf.2.2 j hj
  rw [hw'] at w0 w1
  have hle := hf.2.1
  have hlen : x.Code.length ≤ rs.length := by rw [hrs]; exact hn
  have hel : elt (cv rs x.Code.length) w = some (conv (At rs R0 w)) := Z6m w0 w1 hlen
  have hks : ZB.f (At rs R0 w).Kinds t.1 = some (decide ((At rs R0 w).Kinds = t.1)) := JU (by
   have : (At rs R0 w).Kinds.length ≤ 1000 := Z3X (p := fun r : Ze => r.Kinds.length ≤ 1000) (by simp [R0, Ze.zero]) hsz
   omega)
  have step : ∀ b : Bool, b = decide ((At rs R0 w).Reached = true ∧ (At rs R0 w).Kinds ≠ t.1) → Zo.F m k (.l3 x (a : Int) t (Zw.ways x.Code a, 0) (cv rs x.Code.length) (j : Int)) = if b = true then some (.inr ([], 100)) else some (.inl (.l3 x (a : Int) t (Zw.ways x.Code a, 0) (cv (rs.set w.toNat ⟨true, t.1⟩) x.Code.length) ((j + 1 : Nat) : Int))) := by
   rintro b rfl
   dsimp only [Zo.F]
   rw [if_pos (by omega), Zp hj, hw']
   simp only [Option.bind_some]
   rw [hel]
   simp only [Option.bind_some]
   have tail : (if (([] : List Int).length + t.1.length) * 1 ≤ 140737488355328 then ((elt ((cv rs x.Code.length).set w.toNat ({ conv (At rs R0 w) with Reached := true } : Zx)) w).bind fun x400 => some (.inl (.l3 x (a : Int) t (Zw.ways x.Code a, 0) (((cv rs x.Code.length).set w.toNat ({ conv (At rs R0 w) with Reached := true } : Zx)).set w.toNat ({ x400 with Kinds := ([] : List Int) ++ t.1 } : Zx)) (IntKind.i64.wrap ((j : Int) + 1))))) else none) = (some (.inl (.l3 x (a : Int) t (Zw.ways x.Code a, 0) (cv (rs.set w.toNat ⟨true, t.1⟩) x.Code.length) ((j + 1 : Nat) : Int))) : Option (Zo.S ⊕ ((List Zx) × Int))) := by
    have hwl : w.toNat < ((cv rs x.Code.length).set w.toNat ({ conv (At rs R0 w) with Reached := true } : Zx)).length := by rw [List.length_set, Z1W hlen]; omega
    rw [if_pos (by simp; omega), V7 w0 hwl, List.getElem_set_self]
    simp only [Option.bind_some]
    rw [List.set_set, Zl j (by omega), ← Z6n]
    rfl
   by_cases q1 : (At rs R0 w).Reached = true
   ·rw [if_pos (show (conv (At rs R0 w)).Reached = true from q1)]
    show ((ZB.f (At rs R0 w).Kinds t.1).bind fun t388 => some (!t388)).bind _ = _
    rw [hks]
    simp only [Option.bind_some]
    by_cases q2 : (At rs R0 w).Kinds = t.1
    ·rw [if_neg (by simp [q2]), tail, if_neg (by simp [q2])]
    ·rw [if_pos (by simp [q2]), if_pos (by simp [q1, q2])]
   ·rw [if_neg (show ¬ (conv (At rs R0 w)).Reached = true from q1)]
    simp only [Option.bind_some]
    rw [if_neg (by simp), tail, if_neg (by simp [q1])]
  unfold put
  by_cases hc : (At rs R0 w).Reached = true ∧ (At rs R0 w).Kinds ≠ t.1
  ·rw [if_pos hc, if_pos (show (100 : Int) ≠ 0 by omega)]
   refine Zf ?_
   rw [step true (by rw [eq_comm, decide_eq_true_eq]; exact hc), if_pos rfl]
  ·rw [if_neg hc]
   rw [Zc (t := .l3 x (a : Int) t (Zw.ways x.Code a, 0) (cv (rs.set w.toNat ⟨true, t.1⟩) x.Code.length) ((j + 1 : Nat) : Int)) (by rw [step false (by rw [eq_comm, decide_eq_false_iff_not]; exact hc), if_neg (by simp)])]
   refine ih (j + 1) _ ?_ (by rw [List.length_set]; exact hrs) fun r hr => ?_
   ·rw [← List.drop_drop, hd]; rfl
   ·rcases List.mem_or_eq_of_mem_set hr with hr | rfl
    ·exact hsz r hr
    ·exact htl
theorem Z6o {m : Z9} {k : Int} {x : Zb} {a : Nat} (W : Well (envOf m x) x.Code) (ha : a < x.Code.length) (hl : x.Args.length + x.Locals.length ≤ 1000) {rows : List Ze} (h : Sz a rows) :
    runF (Zo.F m k) (.l2 x (cv rows x.Code.length) (a : Int)) = if (placeC (envOf m x) x.Code rows a).1 ≠ 0 then some ([], (placeC (envOf m x) x.Code rows a).1) else runF (Zo.F m k) (.l2 x (cv (placeC (envOf m x) x.Code rows a).2 x.Code.length) ((a + 1 : Nat) : Int)) := by
 have hn : x.Code.length ≤ 200 := W.known.2.1
 have hm := W.known.2.2 _ (List.getElem_mem ha)
 have hw := W.wf _ (List.getElem_mem ha)
 have ht := W.th _ (List.getElem_mem ha)
 have hlen : x.Code.length ≤ rows.length := by rw [h.1]; exact hn
 have ha2 : a < rows.length := by omega
 have hr : rows[a].Kinds.length ≤ 2 * a := h.2 _ (List.getElem_mem ha2)
 have hel : elt (cv rows x.Code.length) (a : Int) = some (conv rows[a]) := by
  rw [Z6m (by omega) (by omega) hlen, Jf ha2]
 have hwy := (Z7e (by omega) W.wf).2.2.2 a W.known W.fine ha
 have hal := Z0w (E := envOf m x) (row := rows[a].Kinds) hw hm
 unfold placeC
 rw [Jf ha2, Jf ha]
 by_cases hre : rows[a].Reached = true
 ·rw [if_pos hre]
  have haf := Z6l (m := m) (x := x) (s := rows[a].Kinds) hw hm ht W.M (by omega) hl
  have hstart : Zo.F m k (.l2 x (cv rows x.Code.length) (a : Int)) = if (afterC (envOf m x) x.Code[a] rows[a].Kinds).2 ≠ 0 then some (.inr ([], (afterC (envOf m x) x.Code[a] rows[a].Kinds).2)) else some (.inl (.l3 x (a : Int) (afterC (envOf m x) x.Code[a] rows[a].Kinds) (Zw.ways x.Code a, 0) (cv rows x.Code.length) ((0 : Nat) : Int))) := by
   dsimp only [Zo.F]
   rw [if_pos (by rw [Z1W hlen]; omega), hel]
   simp only [Option.bind_some]
   rw [if_neg (by simp [conv, hre]), Zp ha]
   simp only [Option.bind_some]
   have haf : ZT.f m x x.Code[a] (conv rows[a]).Kinds = some (afterC (envOf m x) x.Code[a] rows[a].Kinds) := haf
   rw [haf]
   simp only [Option.bind_some]
   rw [hwy]; rfl
  by_cases he : (afterC (envOf m x) x.Code[a] rows[a].Kinds).2 ≠ 0
  ·rw [if_pos he] at hstart ⊢
   rw [if_pos he]
   exact Zf hstart
  ·rw [if_neg he] at hstart ⊢
   rw [Zc hstart]
   exact Z8g W ha (by omega) (Zw.ways x.Code a) 0 rows rfl h.1 fun r hr => by have := h.2 r hr; omega
 ·rw [if_neg hre, if_neg (by simp)]
  refine Zc ?_
  dsimp only [Zo.F]
  rw [if_pos (by rw [Z1W hlen]; omega), hel]
  simp only [Option.bind_some]
  rw [if_pos (by simpa [conv] using hre)]
  unfold Zo.j1
  rw [Zl a (by omega)]
theorem Z2M {m : Z9} {k : Int} {x : Zb} (hn : x.Code.length ≤ 200) (hl : x.Args.length + x.Locals.length ≤ 1000) : ((∀ i ∈ x.Code, there (envOf m x) i = true) → runF (Zo.F m k) (.l1 x ((0 : Nat) : Int)) = runF (Zo.F m k) (.l1 x (x.Code.length : Int))) ∧ ((∃ i ∈ x.Code, there (envOf m x) i = false) → runF (Zo.F m k) (.l1 x ((0 : Nat) : Int)) = some ([], 100)) := by
 have step : ∀ j (hj : j < x.Code.length), Zo.F m k (.l1 x (j : Int)) = if there (envOf m x) x.Code[j] = true then some (.inl (.l1 x ((j + 1 : Nat) : Int))) else some (.inr ([], 100)) := by
  intro j hj
  dsimp only [Zo.F]
  rw [if_pos (by omega), Zp hj]
  simp only [Option.bind_some]
  rw [Z6i _ hl]
  simp only [Option.bind_some]
  rw [Zl j (by omega)]
  cases there (envOf m x) x.Code[j] <;> rfl
 obtain ⟨a1, a2⟩ := Vr (F := Zo.F m k) (n := x.Code.length) (b := ([], 100)) (fun j => .l1 x (j : Int)) (fun j => ∀ hj : j < x.Code.length, there (envOf m x) x.Code[j] = true) (fun j hj _ hp => Zc (by rw [step j hj, if_pos (hp hj)])) (fun j hj _ hp => Zf (by rw [step j hj, if_neg (fun h => hp fun _ => h)]))
 refine ⟨fun h => a1 fun j hj _ => h _ (List.getElem_mem hj), fun ⟨i, hi, ht⟩ => a2 fun h => ?_⟩
 obtain ⟨j, hj, rfl⟩ := List.mem_iff_getElem.1 hi
 rw [h j hj hj] at ht; cases ht
theorem Z7f {m : Z9} {k : Int} {x : Zb} (h0 : 0 ≤ k) (h1 : k < m.Methods.length) (hx : elt m.Methods k = some x) (hlen : x.Code.length < 4611686018427387904) (hw : ∀ i ∈ x.Code, Y4 i) (hl : x.Args.length + x.Locals.length ≤ 1000) :
    (¬ Known x.Code → Zo.f m k = some ([], 40)) ∧ (Known x.Code → ¬ Fine x.Code → Zo.f m k = some ([], 90)) ∧ (Known x.Code → Fine x.Code → (∃ i ∈ x.Code, there (envOf m x) i = false) → Zo.f m k = some ([], 100)) ∧
    (Well (envOf m x) x.Code → Zo.f m k = some ((rowsC (envOf m x) x.Code).1.map conv, (rowsC (envOf m x) x.Code).2)) := by
 obtain ⟨a1, a2, a3⟩ := Jq hlen hw
 have hstart : ∀ z, Zi.f x.Code = some z → Zo.F m k .start = if z.2 ≠ 0 then some (.inr ([], z.2)) else some (.inl (.l1 x ((0 : Nat) : Int))) := by
  intro z hz
  dsimp only [Zo.F]
  rw [if_neg (by simp; omega), hx]
  simp only [Option.bind_some]
  rw [hz]; rfl
 unfold Zo.f
 refine ⟨fun h => Zf ?_, fun h hf => Zf ?_, fun h hf ht => ?_, fun W => ?_⟩
 ·rw [hstart _ (a1 h), if_pos (by simp)]
 ·rw [hstart _ (a3 h hf), if_pos (by simp)]
 ·rw [Zc (t := .l1 x ((0 : Nat) : Int)) (by rw [hstart _ (a2 h hf), if_neg (by simp)])]
  exact (Z2M h.2.1 hl).2 ht
 ·have hn : x.Code.length ≤ 200 := W.known.2.1
  have hp : 1 ≤ x.Code.length := W.known.1
  rw [Zc (t := .l1 x ((0 : Nat) : Int)) (by rw [hstart _ (a2 W.known W.fine), if_neg (by simp)]), (Z2M hn hl).1 W.th]
  have hz0 : (List.replicate x.Code.length Zx.zero).set 0 ({ Zx.zero with Reached := true } : Zx) = cv rows0 x.Code.length := by
   unfold rows0
   rw [← Z6n]
   congr 1
   unfold cv
   rw [List.take_replicate, List.map_replicate, show min x.Code.length 200 = x.Code.length from by omega]; rfl
  rw [Zc (t := .l2 x (cv rows0 x.Code.length) ((0 : Nat) : Int)) (by
   dsimp only [Zo.F]
   rw [if_neg (by omega), if_pos (by omega), show ((x.Code.length : Int)).toNat = x.Code.length from by omega, show elt (List.replicate x.Code.length Zx.zero) 0 = some Zx.zero from by
    have := Zp (xs := List.replicate x.Code.length Zx.zero) (k := 0) (by rw [List.length_replicate]; omega)
    rw [List.getElem_replicate] at this
    exact this]
   simp only [Option.bind_some]
   rw [show ((0 : Int)).toNat = 0 from rfl, hz0]; rfl)]
  have key : ∀ j, j ≤ x.Code.length → runF (Zo.F m k) (.l2 x (cv rows0 x.Code.length) ((0 : Nat) : Int)) = if (rowsAt (envOf m x) x.Code j).1 ≠ 0 then some ([], (rowsAt (envOf m x) x.Code j).1) else runF (Zo.F m k) (.l2 x (cv (rowsAt (envOf m x) x.Code j).2 x.Code.length) (j : Int)) := by
   intro j
   induction j with
   | zero => intro _; rfl
   | succ j ih =>
    intro hj
    rw [ih (by omega)]
    have hz := K7 W j (by omega)
    by_cases he : (rowsAt (envOf m x) x.Code j).1 ≠ 0
    ·have e1 : rowsAt (envOf m x) x.Code (j + 1) = rowsAt (envOf m x) x.Code j := by rw [rowsAt, if_pos he]
     rw [e1, if_pos he, if_pos he]
    ·have e1 : rowsAt (envOf m x) x.Code (j + 1) = placeC (envOf m x) x.Code (rowsAt (envOf m x) x.Code j).2 j := by rw [rowsAt, if_neg he]
     rw [e1, if_neg he]
     exact Z6o W (by omega) hl hz
  rw [key _ (Nat.le_refl _)]
  unfold rowsC
  by_cases he : (rowsAt (envOf m x) x.Code x.Code.length).1 ≠ 0
  ·rw [if_pos he, if_pos he]; rfl
  ·rw [if_neg he, if_neg he]
   have hz := K7 W _ (Nat.le_refl _)
   refine Zf ?_
   dsimp only [Zo.F]
   rw [if_neg (by rw [Z1W (by rw [hz.1]; exact hn)]; omega)]; rfl
theorem Z5t {rows : List Ze} (h : rows.length < 4611686018427387904) : Yg.f (rows.map conv) = some (H rows rows.length) := by
 unfold Yg.f
 rw [Zc (t := .l1 (H rows 0) ((0 : Nat) : Int)) rfl]
 refine (Vs (F := Yg.F (rows.map conv)) (n := rows.length) (fun k => .l1 (H rows k) (k : Int)) (fun k hk => ?_)).trans (Zf ?_)
 ·dsimp only [Yg.F]
  have hl : k < (rows.map conv).length := by rw [List.length_map]; exact hk
  rw [if_pos (by rw [List.length_map]; omega), Zp hl, List.getElem_map]
  simp only [Option.bind_some]
  unfold Yg.j1
  rw [Zl k (by omega)]
  rw [show H rows (k + 1) = if ((g rows k).Kinds.length : Int) > H rows k then ((g rows k).Kinds.length : Int) else H rows k from rfl, Z5p hk]
  show (if (rows[k].Kinds.length : Int) > H rows k then (some (.inl (.l1 (rows[k].Kinds.length : Int) ((k + 1 : Nat) : Int))) : Option (Yg.S ⊕ Int)) else some (.inl (.l1 (H rows k) ((k + 1 : Nat) : Int)))) = _
  split <;> rfl
 ·dsimp only [Yg.F]
  rw [if_neg (by rw [List.length_map]; omega)]
end Y7
namespace Zw
theorem Z2N {l : List Z7} (hlen : l.length < 4611686018427387904) (hw : ∀ x ∈ l, Y4 x) :
    (¬ Known l → ZI.f l = some ([], 40)) ∧ (Known l → Fine l → ZI.f l = some (tms l, 0)) ∧ (Known l → ¬ Fine l → ZI.f l = some ([], 90)) := by
 obtain ⟨a1, a2, a3⟩ := Jq hlen hw
 unfold ZI.f
 refine ⟨fun h => Zf ?_, fun h hf => ?_, fun h hf => Zf ?_⟩
 ·dsimp only [ZI.F]; rw [a1 h]; rfl
 ·obtain ⟨o1, o2⟩ := UC hf.1
  have hR := Z0u o1
  obtain ⟨n1, n2, hm⟩ := h
  rw [Zc (t := .l1 ((RL (KK l) l.length).map (gR l), 0) [] ((0 : Nat) : Int)) (by
   dsimp only [ZI.F]
   rw [a2 ⟨n1, n2, hm⟩ hf]; rfl)]
  have inner : ∀ (out : List Int) (a : Nat), runF (ZI.F l) (.l2 ((RL (KK l) l.length).map (gR l), 0) out a 1 0) = runF (ZI.F l) (.l2 ((RL (KK l) l.length).map (gR l), 0) out a (tm l (RL (KK l) l.length) a) (RL (KK l) l.length).length) := by
   intro out a
   have := Vs (F := ZI.F l) (n := (RL (KK l) l.length).length) (fun q => .l2 ((RL (KK l) l.length).map (gR l), 0) out a (tm l ((RL (KK l) l.length).take q) a) q) (fun q hq => by
    have e : elt ((RL (KK l) l.length).map (gR l)) (q : Int) = some (gR l (RL (KK l) l.length)[q]) := by rw [Zp (by simpa using hq), List.getElem_map]
    dsimp only [ZI.F]
    rw [if_pos (by simp; omega), e]
    simp only [Option.bind_some, Z2v]
    rw [take_succ _ _ hq, Z4S]
    generalize (RL (KK l) l.length)[q] = x
    unfold ZI.j1
    rw [Zl _ (by omega)]
    by_cases hz : x.1 < a ∧ a ≤ x.2
    ·rw [if_pos hz, if_pos (by rw [VD]; dsimp only [gR]; omega)]; rfl
    ·rw [if_neg hz, if_neg (by rw [VD]; dsimp only [gR]; omega)])
   rw [List.take_length] at this
   exact this
  have key := Vr (F := ZI.F l) (n := l.length) (b := ([], 0)) (fun k => .l1 ((RL (KK l) l.length).map (gR l), 0) ((List.range k).map fun a => tm l (RL (KK l) l.length) a) (k : Int)) (fun _ => True) (fun k hk _ _ => by
   rw [Zc (t := .l2 ((RL (KK l) l.length).map (gR l), 0) ((List.range k).map fun a => tm l (RL (KK l) l.length) a) k 1 0) (by
    dsimp only [ZI.F]
    rw [if_pos (by omega)]), inner]
   refine Zc ?_
   dsimp only [ZI.F]
   rw [if_neg (by simp), if_pos (by simp; omega), Zl _ (by omega), List.range_succ, List.map_append]
   rfl) (fun q _ _ h => absurd trivial h)
  refine (key.1 fun _ _ => trivial).trans (Zf ?_)
  dsimp only [ZI.F]
  rw [if_neg (by omega)]; rfl
 ·dsimp only [ZI.F]; rw [a3 h hf]; rfl
theorem both {l : List Z7} (hlen : l.length < 4611686018427387904) (hw : ∀ x ∈ l, Y4 x) :
    ∃ (R : List (Nat × Nat)) (e : Int) (t : List Int), Y5.f l = some (R.map (gF l), e) ∧ Zi.f l = some (R.map (gR l), e) ∧ Xp.f l = some (t, e) ∧ ZI.f l = some (t, e) ∧ R.length ≤ 200 ∧ t.length ≤ 200 := by
 obtain ⟨a1, a2, a3⟩ := Kt hlen hw
 obtain ⟨b1, b2, b3⟩ := Jq hlen hw
 obtain ⟨c1, c2, c3⟩ := JO hlen hw
 obtain ⟨d1, d2, d3⟩ := Z2N hlen hw
 by_cases hk : Known l
 ·by_cases hf : Fine l
  ·have := Z0u (UC hf.1).1
   exact ⟨_, _, _, a2 hk hf, b2 hk hf, c2 hk hf, d2 hk hf, Nat.le_trans this hk.2.1, by unfold tms; simp; exact hk.2.1⟩
  ·exact ⟨[], _, _, a3 hk hf, b3 hk hf, c3 hk hf, d3 hk hf, by simp, by simp⟩
 ·exact ⟨[], _, _, a1 hk, b1 hk, c1 hk, d1 hk, by simp, by simp⟩
end Zw
namespace Xx
theorem Z6p {x : Zb} {n : Int} (hc : x.Code.length ≤ 300) : Xc.f x n = some (decide (n ∈ nm x.Code)) := by
 unfold Xc.f
 rw [Zc (t := .l1 ((([] : List Z7).length : Nat) : Int)) rfl]
 have : ∀ (c pre : List Z7), x.Code = pre ++ c → runF (Xc.F x n) (.l1 (pre.length : Int)) = some (decide (n ∈ nm c)) := by
  intro c
  induction c with
  | nil => intro pre he; refine Zf ?_; dsimp only [Xc.F]; rw [if_neg (by rw [he]; simp)]; simp [nm]
  | cons i c ih =>
   intro pre he
   have hlen : pre.length < x.Code.length := by rw [he]; simp
   have hi : x.Code[pre.length] = i := by simp [he]
   by_cases h : i.Op = 30 ∧ i.A = n
   ·refine Zf ?_
    dsimp only [Xc.F]
    rw [if_pos (by omega), Zp hlen, hi]
    simp only [Option.bind_some]
    rw [if_pos h.1]
    simp only [Option.bind_some]
    rw [if_pos (by simp [h.2]), Ux, if_pos h.1]
    simp [h.2]
   ·rw [Zc (t := .l1 ((pre ++ [i]).length : Int)) (by
     dsimp only [Xc.F]
     rw [if_pos (by omega), Zp hlen, hi]
     simp only [Option.bind_some]
     by_cases ho : i.Op = 30
     ·rw [if_pos ho]
      simp only [Option.bind_some]
      rw [if_neg (by simp; exact fun e => h ⟨ho, e⟩), Zl pre.length (by omega), List.length_append]; rfl
     ·rw [if_neg ho]
      simp only [Option.bind_some]
      rw [if_neg (by simp), Zl pre.length (by omega), List.length_append]; rfl), ih (pre ++ [i]) (by rw [he]; simp), Ux]
    by_cases ho : i.Op = 30
    ·rw [if_pos ho]
     have : n ≠ i.A := fun e => h ⟨ho, e.symm⟩
     simp [this]
    ·rw [if_neg ho]
 exact this _ [] rfl
theorem Z1r {m : Z9} {k : Nat} (hk : k < m.Methods.length) (hm : m.Methods.length ≤ 40) (hc : m.Methods[k].Code.length ≤ 300) : Zt.f m k = some (whomC m.Methods.length m.Methods[k].Code) := by
 generalize hx : m.Methods[k] = x at hc
 unfold Zt.f
 rw [Zc (t := .l1 x ((([] : List Z7).length : Nat) : Int)) (by
  dsimp only [Zt.F]; rw [if_neg (by simp; omega), Zp hk, hx]; rfl)]
 have scan : ∀ (c pre : List Z7), x.Code = pre ++ c → runF (Zt.F m k) (.l1 x (pre.length : Int)) = if (nm c).any (badN m.Methods.length) = true then some ([], 2) else runF (Zt.F m k) (.l2 x [] ((0 : Nat) : Int)) := by
  intro c
  induction c with
  | nil =>
   intro pre he
   rw [if_neg (by simp [nm])]
   refine Zc ?_
   dsimp only [Zt.F]; rw [if_neg (by rw [he]; simp)]; rfl
  | cons i c ih =>
   intro pre he
   have hlen : pre.length < x.Code.length := by rw [he]; simp
   have hi : x.Code[pre.length] = i := by simp [he]
   by_cases h : i.Op = 30 ∧ badN m.Methods.length i.A = true
   ·rw [Ux, if_pos h.1, if_pos (by simp [h.2])]
    refine Zf ?_
    dsimp only [Zt.F]
    rw [if_pos (by omega), Zp hlen, hi]
    simp only [Option.bind_some]
    rw [if_pos h.1]
    by_cases h0 : i.A < 0
    ·rw [if_pos h0]; unfold Zt.j1; rw [if_pos rfl]
    ·rw [if_neg h0]; unfold Zt.j1
     have := h.2
     simp only [badN, Bool.or_eq_true, decide_eq_true_eq] at this
     rw [if_pos (by simp; omega)]
   ·rw [Zc (t := .l1 x ((pre ++ [i]).length : Int)) (by
     dsimp only [Zt.F]
     rw [if_pos (by omega), Zp hlen, hi]
     simp only [Option.bind_some]
     by_cases ho : i.Op = 30
     ·have hb : ¬ badN m.Methods.length i.A = true := fun e => h ⟨ho, e⟩
      simp only [badN, Bool.or_eq_true, decide_eq_true_eq, not_or] at hb
      rw [if_pos ho, if_neg hb.1]
      unfold Zt.j1
      rw [if_neg (by simp; omega), Zl pre.length (by omega), List.length_append]; rfl
     ·rw [if_neg ho]
      unfold Zt.j1
      rw [if_neg (by simp), Zl pre.length (by omega), List.length_append]; rfl), ih (pre ++ [i]) (by rw [he]; simp), Ux]
    by_cases ho : i.Op = 30
    ·rw [if_pos ho, List.any_cons]
     have hb : badN m.Methods.length i.A = false := by simpa using fun e => h ⟨ho, e⟩
     rw [hb, Bool.false_or]
    ·rw [if_neg ho]
 rw [scan _ [] rfl]
 unfold whomC
 by_cases hb : (nm x.Code).any (badN m.Methods.length) = true
 ·rw [if_pos hb, if_pos hb]
 ·rw [if_neg hb, if_neg hb]
  have hl : ∀ q, (whomL q x.Code).length ≤ q := fun q => by unfold whomL; exact Nat.le_trans (List.length_filter_le _ _) (by simp)
  refine (Vs (F := Zt.F m k) (n := m.Methods.length) (fun q => .l2 x (whomL q x.Code) (q : Int)) (fun q hq => ?_)).trans (Zf ?_)
  ·dsimp only [Zt.F]
   have hl := hl q
   rw [if_pos (by omega), Z6p hc]
   simp only [Option.bind_some]
   have hs : whomL (q + 1) x.Code = whomL q x.Code ++ if (q : Int) ∈ nm x.Code then [(q : Int)] else [] := by
    unfold whomL
    rw [List.range_succ, List.map_append, List.filter_append]
    congr 1
    by_cases hq : (q : Int) ∈ nm x.Code
    ·rw [if_pos hq]; simp [hq]
    ·rw [if_neg hq]; simp [hq]
   by_cases hq : (q : Int) ∈ nm x.Code
   ·rw [if_pos (by simpa using hq), if_pos (by simp; omega)]
    unfold Zt.j2
    rw [hs, if_pos hq, Zl q (by omega)]
   ·rw [if_neg (by simpa using hq)]
    unfold Zt.j2
    rw [hs, if_neg hq, List.append_nil, Zl q (by omega)]
  ·dsimp only [Zt.F]
   rw [if_neg (by omega)]
end Xx
namespace Xx
theorem Z4V {l : List Int} {n : Int} (hl : l.length ≤ 100) : Xd.f l n = some (decide (n ∈ l)) := by
 unfold Xd.f
 rw [Zc (t := .l1 ((([] : List Int).length : Nat) : Int)) rfl]
 have : ∀ (c pre : List Int), l = pre ++ c → runF (Xd.F l n) (.l1 (pre.length : Int)) = some (decide (n ∈ c)) := by
  intro c
  induction c with
  | nil => intro pre he; refine Zf ?_; dsimp only [Xd.F]; rw [if_neg (by rw [he]; simp)]; simp
  | cons i c ih =>
   intro pre he
   have hlen : pre.length < l.length := by rw [he]; simp
   have hi : l[pre.length] = i := by simp [he]
   by_cases h : i = n
   ·refine Zf ?_
    dsimp only [Xd.F]
    rw [if_pos (by omega), Zp hlen, hi]
    simp only [Option.bind_some]
    rw [if_pos h]; simp [h]
   ·have h' : n ≠ i := fun e => h e.symm
    rw [show decide (n ∈ i :: c) = decide (n ∈ c) by simp [h'], ← ih (pre ++ [i]) (by rw [he]; simp)]
    refine Zc ?_
    dsimp only [Xd.F]
    rw [if_pos (by omega), Zp hlen, hi]
    simp only [Option.bind_some]
    rw [if_neg h, Zl pre.length (by omega), List.length_append]; rfl
 exact this _ [] rfl
theorem Z7g {m : Z9} (S : Fit m) (hg : anyBad m = false) : ∀ (f : Nat) (out : List Int), out.length + f = m.Methods.length → runF (Zu.F m) (.l2 out) = some (ordN (whoms m) f out) := by
 have hM := S.M
 have hWl : (whoms m).length = m.Methods.length := by simp [whoms]
 have hw : ∀ k (hk : k < m.Methods.length), Zt.f m k = some ((whoms m).getD k [], 0) := by
  intro k hk
  rw [Z1r hk hM (S.x _ (List.getElem_mem hk)), whomC, TB hk]
  have := List.any_eq_false.1 hg _ (List.getElem_mem hk)
  rw [if_neg this]
 intro f
 induction f with
 | zero =>
  intro out ho
  refine Zf ?_
  dsimp only [Zu.F]
  rw [if_neg (by omega)]; rfl
 | succ f ih =>
  intro out ho
  rw [Zc (t := .l3 out (-1) ((0 : Nat) : Int)) (by dsimp only [Zu.F]; rw [if_pos (by omega)]; rfl)]
  -- one candidate
  have inner : ∀ (k : Nat) (t : List Int) (b : Bool), t.length ≤ 40 → ∀ (c pre : List Int) (b : Bool), t = pre ++ c → runF (Zu.F m) (.l4 out (-1) (k : Int) (t, 0) b (pre.length : Int)) = runF (Zu.F m) (.l4 out (-1) (k : Int) (t, 0) (b && c.all fun a => decide (a ∈ out)) (t.length : Int)) := by
   intro k t _ ht c
   induction c with
   | nil => intro pre b he; simp at he; subst he; simp
   | cons a c ihc =>
    intro pre b he
    have hlen : pre.length < t.length := by rw [he]; simp
    have hi : t[pre.length] = a := by simp [he]
    rw [Zc (t := .l4 out (-1) (k : Int) (t, 0) (b && decide (a ∈ out)) ((pre ++ [a]).length : Int)) (by
     dsimp only [Zu.F]
     rw [if_pos (by omega)]
     cases b with
     | true =>
      rw [if_pos rfl, Zp hlen, hi]
      simp only [Option.bind_some]
      rw [Z4V (by omega)]
      simp only [Option.bind_some]
      rw [Zl pre.length (by omega), List.length_append]; simp
     | false =>
      rw [if_neg (by simp)]
      simp only [Option.bind_some]
      rw [Zl pre.length (by omega), List.length_append]; simp), ihc (pre ++ [a]) _ (by rw [he]; simp)]
    simp [Bool.and_assoc]
  have one : ∀ k, k < m.Methods.length → runF (Zu.F m) (.l3 out (-1) (k : Int)) = if ready (whoms m) out k = true then runF (Zu.F m) (.l3 out (k : Int) ((k + 1 : Nat) : Int)) else runF (Zu.F m) (.l3 out (-1) ((k + 1 : Nat) : Int)) := by
   intro k hk
   have htl : ((whoms m).getD k []).length ≤ 40 := by rw [TB hk]; exact Nat.le_trans (Jp _ _) hM
   rw [Zc (t := .l4 out (-1) (k : Int) ((whoms m).getD k [], 0) (!decide ((k : Int) ∈ out)) ((([] : List Int).length : Nat) : Int)) (by
    dsimp only [Zu.F]
    rw [if_pos (by simp; omega), hw k hk]
    simp only [Option.bind_some]
    rw [Z4V (by omega)]; rfl), inner k ((whoms m).getD k []) true htl ((whoms m).getD k []) [] _ rfl]
   by_cases hr : ready (whoms m) out k = true
   ·rw [if_pos hr]
    have hr2 : (!decide ((k : Int) ∈ out) && (((whoms m).getD k []).all fun a => decide (a ∈ out))) = true := by simpa [ready] using hr
    rw [hr2]
    refine Zc ?_
    dsimp only [Zu.F]
    rw [if_neg (by omega), if_pos rfl]
    unfold Zu.j1
    rw [Zl k (by omega)]
   ·rw [if_neg hr]
    have hr2 : (!decide ((k : Int) ∈ out) && (((whoms m).getD k []).all fun a => decide (a ∈ out))) = false := by
     have : ready (whoms m) out k = false := by simpa using hr
     simpa [ready] using this
    rw [hr2]
    refine Zc ?_
    dsimp only [Zu.F]
    rw [if_neg (by omega), if_neg (by simp)]
    unfold Zu.j1
    rw [Zl k (by omega)]
  have found : ∀ (k q : Nat), runF (Zu.F m) (.l3 out (k : Int) (q : Int)) = runF (Zu.F m) (.l2 (out ++ [(k : Int)])) := by
   intro k q
   refine Zc ?_
   dsimp only [Zu.F]
   rw [if_neg (by simp), if_neg (by omega), if_pos (by simp; omega)]
  have scan : ∀ (j k : Nat), k + j = m.Methods.length → runF (Zu.F m) (.l3 out (-1) (k : Int)) = match (List.range' k j).find? (ready (whoms m) out) with
      | none => some ([], 110)
      | some k => runF (Zu.F m) (.l2 (out ++ [(k : Int)])) := by
   intro j
   induction j with
   | zero =>
    intro k hk
    simp only [List.range'_zero, List.find?_nil]
    refine Zf ?_
    dsimp only [Zu.F]
    rw [if_neg (by simp; omega), if_pos (by omega)]
   | succ j ihj =>
    intro k hk
    rw [one k (by omega), List.range'_succ, List.find?_cons]
    by_cases hr : ready (whoms m) out k = true
    ·rw [if_pos hr, hr, found]
    ·have hr' : ready (whoms m) out k = false := by simpa using hr
     rw [if_neg hr, hr', ihj (k + 1) (by omega)]
  rw [scan m.Methods.length 0 (by omega), ← List.range_eq_range', ← hWl]
  unfold ordN nextOf
  cases hn : (List.range (whoms m).length).find? (ready (whoms m) out) with
  | none => rfl
  | some k => exact ih _ (by simp; omega)
theorem Z2O {m : Z9} (S : Fit m) : Zu.f m = some (if anyBad m = true then ([], 2) else ordN (whoms m) m.Methods.length []) := by
 unfold Zu.f
 have hM := S.M
 rw [Zc (t := .l1 ((([] : List Zb).length : Nat) : Int)) rfl]
 have : ∀ (c pre : List Zb), m.Methods = pre ++ c → runF (Zu.F m) (.l1 (pre.length : Int)) = if (c.any fun x => (nm x.Code).any (badN m.Methods.length)) = true then some ([], 2) else runF (Zu.F m) (.l2 []) := by
  intro c
  induction c with
  | nil =>
   intro pre he
   rw [if_neg (by simp)]
   refine Zc ?_
   dsimp only [Zu.F]
   rw [if_neg (by rw [he]; simp)]
  | cons x c ih =>
   intro pre he
   have hlen : pre.length < m.Methods.length := by rw [he]; simp
   have hx : m.Methods[pre.length] = x := by simp [he]
   have hw := Z1r hlen hM (S.x _ (List.getElem_mem hlen))
   rw [hx] at hw
   by_cases hb : (nm x.Code).any (badN m.Methods.length) = true
   ·rw [List.any_cons, hb, Bool.true_or, if_pos rfl]
    refine Zf ?_
    dsimp only [Zu.F]
    rw [if_pos (by omega), hw]
    simp only [Option.bind_some, whomC]
    rw [if_pos hb, if_pos (by simp)]
   ·have hb' : (nm x.Code).any (badN m.Methods.length) = false := by simpa using hb
    rw [List.any_cons, hb', Bool.false_or, ← ih (pre ++ [x]) (by rw [he]; simp)]
    refine Zc ?_
    dsimp only [Zu.F]
    rw [if_pos (by omega), hw]
    simp only [Option.bind_some, whomC]
    rw [if_neg hb, if_neg (by simp), Zl pre.length (by omega), List.length_append]; rfl
 rw [this m.Methods [] rfl]
 by_cases hb : anyBad m = true
 ·have hb2 : (m.Methods.any fun x => (nm x.Code).any (badN m.Methods.length)) = true := hb
  rw [if_pos hb, if_pos hb2]
 ·have hb2 : ¬ (m.Methods.any fun x => (nm x.Code).any (badN m.Methods.length)) = true := hb
  rw [if_neg hb, if_neg hb2, Z7g S (by simpa using hb) m.Methods.length [] (by simp)]
end Xx
end Go.Proofs.YtehjiiebjkkcmaaGreatDoor
