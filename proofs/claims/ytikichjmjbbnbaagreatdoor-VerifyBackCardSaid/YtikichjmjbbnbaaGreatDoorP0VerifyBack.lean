/- What the program tells of a module, in closed form: its bytes, whether its parts tell an error, its certificates; for the law VerifyBack. -/
import Derived.Test.YtikichjmjbbnbaaGreatDoorRVerifyBack
set_option linter.unusedVariables false
set_option linter.unusedSimpArgs false
set_option linter.unusedSectionVars false
namespace Go.Proofs.YtikichjmjbbnbaaGreatDoor
open Go.Q
namespace FlowPure
inductive Kn | loop | again (a : Nat) | other
deriving DecidableEq
def opn (K : Nat → Kn) : Nat → List Nat
 | 0 => []
 | i + 1 => match K i with
  | .loop => i :: opn K i
  | .again _ => (opn K i).tail
  | .other => opn K i
def good (K : Nat → Kn) (i : Nat) : Prop := match K i with
 | .loop => (opn K i).length < 4
 | .again a => (opn K i).head? = some a
 | .other => True
theorem opn_mem (K : Nat → Kn) : ∀ (i : Nat), (∀ j, j < i → good K j) →
    (∀ f, f ∈ opn K i ↔ (K f = .loop ∧ f < i ∧ ∀ j, f < j → j < i → K j ≠ .again f)) ∧ (opn K i).Pairwise (· > ·) ∧ (opn K i).length ≤ 4
 | 0, _ => by simp [opn]
 | i + 1, hg => by
  obtain ⟨h1, h2, h3⟩ := opn_mem K i (fun j hj => hg j (by omega))
  have gi := hg i (by omega)
  unfold good at gi
  unfold opn
  cases hk : K i with
  | loop =>
   rw [hk] at gi
   simp only at gi ⊢
   refine ⟨fun f => ?_, ?_, by simp; omega⟩
   ·rw [List.mem_cons, h1]
    constructor
    ·rintro (rfl | ⟨a, b, c⟩)
     ·exact ⟨hk, by omega, fun j h1 h2 => by omega⟩
     ·refine ⟨a, by omega, fun j q1 q2 => ?_⟩
      by_cases e : j = i
      ·subst e; rw [hk]; exact fun z => Kn.noConfusion z
      ·exact c j q1 (by omega)
    ·rintro ⟨a, b, c⟩
     by_cases e : f = i
     ·exact .inl e
     ·exact .inr ⟨a, by omega, fun j q1 q2 => c j q1 (by omega)⟩
   ·rw [List.pairwise_cons]
    exact ⟨fun x hx => ((h1 x).1 hx).2.1, h2⟩
  | again a =>
   rw [hk] at gi
   simp only at gi ⊢
   cases ho : opn K i with
   | nil => rw [ho] at gi; cases gi
   | cons b T =>
    rw [ho] at gi h1 h2 h3
    simp at gi
    subst gi
    rw [List.pairwise_cons] at h2
    refine ⟨fun f => ?_, h2.2, by simp at h3; simp; omega⟩
    simp only [List.tail_cons]
    constructor
    ·intro hf
     obtain ⟨p, q, r⟩ := (h1 f).1 (List.mem_cons_of_mem _ hf)
     refine ⟨p, by omega, fun j q1 q2 => ?_⟩
     by_cases e : j = i
     ·subst e; rw [hk]; intro z; cases z
      have := h2.1 _ hf; omega
     ·exact r j q1 (by omega)
    ·rintro ⟨p, q, r⟩
     have hne : f ≠ i := by rintro rfl; rw [hk] at p; cases p
     have := (h1 f).2 ⟨p, by omega, fun j q1 q2 => r j q1 (by omega)⟩
     rcases List.mem_cons.1 this with e | e
     ·subst e; exact absurd hk (r i (by omega) (by omega))
     ·exact e
  | other =>
   simp only
   refine ⟨fun f => ?_, h2, h3⟩
   rw [h1]
   constructor
   ·rintro ⟨a, b, c⟩
    refine ⟨a, by omega, fun j q1 q2 => ?_⟩
    by_cases e : j = i
    ·subst e; rw [hk]; exact fun z => Kn.noConfusion z
    ·exact c j q1 (by omega)
   ·rintro ⟨a, b, c⟩
    have hne : f ≠ i := by rintro rfl; rw [hk] at a; cases a
    exact ⟨a, by omega, fun j q1 q2 => c j q1 (by omega)⟩
theorem nodup_len {α : Type} [DecidableEq α] : ∀ (l m : List α), l.Nodup → (∀ x ∈ l, x ∈ m) → l.length ≤ m.length
 | [], _, _, _ => by simp
 | x :: l, m, hn, hs => by
  rw [List.nodup_cons] at hn
  have hx := hs x (by simp)
  have := nodup_len l (m.erase x) hn.2 (fun y hy => (List.mem_erase_of_ne (by rintro rfl; exact hn.1 hy)).2 (hs y (by simp [hy])))
  rw [List.length_erase_of_mem hx] at this
  have : 0 < m.length := List.length_pos_of_mem hx
  simp; omega
def Pr (K : Nat → Kn) (n f t : Nat) : Prop := f < n ∧ t < n ∧ K f = .loop ∧ K t = .again f
def Ok1 (K : Nat → Kn) (n : Nat) : Prop := ∀ f, f < n → K f = .loop → ∃ t, Pr K n f t ∧ f ≤ t ∧ ∀ t', Pr K n f t' → t' = t
def Ok2 (K : Nat → Kn) (n : Nat) : Prop := ∀ t a, t < n → K t = .again a → a < n ∧ K a = .loop
def Nest (K : Nat → Kn) (n : Nat) : Prop := ∀ f t g u, Pr K n f t → Pr K n g u → f < g → g < t → u ≤ t
def Deep (n : Nat) (R : List (Nat × Nat)) : Prop := ∀ a, a < n → (R.filter fun x => decide (x.1 < a) && decide (a ≤ x.2)).length ≤ 4
def Run (K : Nat → Kn) (n : Nat) : Prop := (∀ i, i < n → good K i) ∧ opn K n = []
theorem again_mem {K : Nat → Kn} {n t f : Nat} (h : ∀ i, i < n → good K i) (ht : t < n) (hk : K t = .again f) : ∃ T, opn K t = f :: T := by
 have := h t ht
 unfold good at this
 rw [hk] at this
 simp only at this
 cases ho : opn K t with
 | nil => rw [ho] at this; cases this
 | cons b T => rw [ho] at this; simp at this; subst this; exact ⟨T, rfl⟩
theorem run_pairs {K : Nat → Kn} {n : Nat} (h : Run K n) : Ok1 K n ∧ Ok2 K n := by
 obtain ⟨hg, hn⟩ := h
 have mem := fun i (hi : i ≤ n) => opn_mem K i (fun j hj => hg j (by omega))
 have back : ∀ t a, t < n → K t = .again a → K a = .loop ∧ a < t ∧ ∀ j, a < j → j < t → K j ≠ .again a := by
  intro t a ht hk
  obtain ⟨T, hT⟩ := again_mem hg ht hk
  exact ((mem t (by omega)).1 a).1 (by rw [hT]; simp)
 refine ⟨fun f hf hk => ?_, fun t a ht hk => ?_⟩
 ·have : ∃ t, f < t ∧ t < n ∧ K t = .again f := by
   refine Classical.byContradiction fun hc => ?_
   have : f ∈ opn K n := ((mem n (Nat.le_refl _)).1 f).2 ⟨hk, hf, fun j q1 q2 e => hc ⟨j, q1, q2, e⟩⟩
   rw [hn] at this; cases this
  obtain ⟨t, h1, h2, h3⟩ := this
  refine ⟨t, ⟨hf, h2, hk, h3⟩, by omega, fun t' ⟨_, p2, _, p4⟩ => ?_⟩
  obtain ⟨-, q2, q3⟩ := back t' f p2 p4
  obtain ⟨-, r2, r3⟩ := back t f h2 h3
  rcases Nat.lt_trichotomy t t' with z | z | z
  ·exact absurd h3 (q3 t h1 z)
  ·exact z.symm
  ·exact absurd p4 (r3 t' q2 z)
 ·obtain ⟨a1, a2, -⟩ := back t a ht hk
  exact ⟨by omega, a1⟩
theorem opn_iff {K : Nat → Kn} {n i : Nat} (hi : i ≤ n) (hg : ∀ j, j < i → good K j) (h1 : Ok1 K n) (f : Nat) : f ∈ opn K i ↔ ∃ t, Pr K n f t ∧ f < i ∧ i ≤ t := by
 rw [(opn_mem K i hg).1]
 constructor
 ·rintro ⟨a, b, c⟩
  obtain ⟨t, h, hl, -⟩ := h1 f (by omega) a
  refine ⟨t, h, b, ?_⟩
  rcases Nat.lt_or_ge t i with z | z
  ·have : f ≠ t := by rintro rfl; have := h.2.2; rw [this.1] at this; exact Kn.noConfusion this.2
   exact absurd h.2.2.2 (c t (by omega) z)
  ·exact z
 ·rintro ⟨t, h, b, c⟩
  refine ⟨h.2.2.1, b, fun j q1 q2 e => ?_⟩
  obtain ⟨t0, _, _, hu⟩ := h1 f h.1 h.2.2.1
  have e1 := hu t h
  have e2 := hu j ⟨h.1, by omega, h.2.2.1, e⟩
  omega
theorem run_iff {K : Nat → Kn} {n : Nat} {R : List (Nat × Nat)} (hR : Ok1 K n → (∀ x, x ∈ R ↔ Pr K n x.1 x.2) ∧ (R.map (·.1)).Nodup) : Run K n ↔ Ok1 K n ∧ Ok2 K n ∧ Nest K n ∧ Deep n R := by
 constructor
 ·intro h
  obtain ⟨h1, h2⟩ := run_pairs h
  obtain ⟨hg, hn⟩ := h
  obtain ⟨hm, hnd⟩ := hR h1
  refine ⟨h1, h2, fun f t g u p q hfg hgt => ?_, fun a ha => ?_⟩
  ·rcases Nat.lt_or_ge t u with z | z
   ·have mg : g ∈ opn K t := (opn_iff (n := n) (by have := p.2.1; omega) (fun j hj => hg j (by have := p.2.1; omega)) h1 g).2 ⟨u, q, hgt, by omega⟩
    obtain ⟨T, hT⟩ := again_mem hg p.2.1 p.2.2.2
    have pw := (opn_mem K t (fun j hj => hg j (by have := p.2.1; omega))).2.1
    rw [hT] at mg pw
    rw [List.pairwise_cons] at pw
    rcases List.mem_cons.1 mg with e | e
    ·omega
    ·have := pw.1 _ e; omega
   ·exact z
  ·have l4 := (opn_mem K a (fun j hj => hg j (by omega))).2.2
   have : ((R.filter fun x => decide (x.1 < a) && decide (a ≤ x.2)).map (·.1)).length ≤ (opn K a).length := by
    refine nodup_len _ _ (List.Nodup.sublist (List.Sublist.map _ List.filter_sublist) hnd) (fun f hf => ?_)
    rw [List.mem_map] at hf
    obtain ⟨x, hx, rfl⟩ := hf
    rw [List.mem_filter] at hx
    simp only [Bool.and_eq_true, decide_eq_true_eq] at hx
    exact (opn_iff (n := n) (by omega) (fun j hj => hg j (by omega)) h1 _).2 ⟨x.2, (hm x).1 hx.1, hx.2.1, hx.2.2⟩
   rw [List.length_map] at this
   omega
 ·rintro ⟨h1, h2, h3, h4⟩
  obtain ⟨hm, hnd⟩ := hR h1
  have hg : ∀ i, i ≤ n → ∀ j, j < i → good K j := by
   intro i
   induction i with
   | zero => intro _ j hj; omega
   | succ i ih =>
    intro hi j hj
    have ih := ih (by omega)
    by_cases e : j = i
    ·subst e
     unfold good
     obtain ⟨m1, m2, m3⟩ := opn_mem K j ih
     cases hk : K j with
     | loop =>
      simp only
      obtain ⟨t, p, hl, -⟩ := h1 j (by omega) hk
      have hne : j ≠ t := by rintro rfl; rw [p.2.2.1] at hk; have := p.2.2.2; rw [p.2.2.1] at this; exact Kn.noConfusion this
      have d := h4 (j + 1) (by have := p.2.1; omega)
      have : (j :: opn K j).length ≤ ((R.filter fun x => decide (x.1 < j + 1) && decide (j + 1 ≤ x.2)).map (·.1)).length := by
       refine nodup_len _ _ ?_ (fun f hf => ?_)
       ·rw [List.nodup_cons]
        exact ⟨fun hc => by have := ((m1 j).1 hc).2.1; omega, m2.imp (fun h => by omega)⟩
       ·rw [List.mem_map]
        rcases List.mem_cons.1 hf with e | e
        ·subst e
         exact ⟨(f, t), List.mem_filter.2 ⟨(hm _).2 p, by simp; omega⟩, rfl⟩
        ·obtain ⟨u, q, q1, q2⟩ := (opn_iff (n := n) (by omega) ih h1 f).1 e
         have : u ≠ j := by rintro rfl; have := q.2.2.2; rw [hk] at this; exact Kn.noConfusion this
         exact ⟨(f, u), List.mem_filter.2 ⟨(hm _).2 q, by simp; omega⟩, rfl⟩
      rw [List.length_map, List.length_cons] at this
      omega
     | again a =>
      simp only
      obtain ⟨ha, hl⟩ := h2 j a (by omega) hk
      obtain ⟨t, p, q, hu⟩ := h1 a ha hl
      have e := hu j ⟨ha, by omega, hl, hk⟩
      subst e
      have hne : a ≠ j := by rintro rfl; rw [hl] at hk; exact Kn.noConfusion hk
      have ma : a ∈ opn K j := (opn_iff (n := n) (by omega) ih h1 a).2 ⟨j, p, by omega, by omega⟩
      cases ho : opn K j with
      | nil => rw [ho] at ma; cases ma
      | cons b T =>
       rw [ho] at ma m2
       rcases List.mem_cons.1 ma with e | e
       ·subst e; rfl
       ·rw [List.pairwise_cons] at m2
        have hab := m2.1 _ e
        obtain ⟨u, r, r1, r2⟩ := (opn_iff (n := n) (by omega) ih h1 b).1 (by rw [ho]; simp)
        have := h3 a j b u p r hab r1
        have : u = j := by omega
        subst this
        have := r.2.2.2
        rw [hk] at this
        cases this
        omega
     | other => trivial
    ·exact ih j (by omega)
  have hg := hg n (Nat.le_refl _)
  refine ⟨hg, ?_⟩
  rw [List.eq_nil_iff_forall_not_mem]
  intro f hf
  obtain ⟨t, p, -, q⟩ := (opn_iff (n := n) (Nat.le_refl _) hg h1 f).1 hf
  have := p.2.1
  omega
def RL (K : Nat → Kn) (n : Nat) : List (Nat × Nat) := (List.range n).flatMap fun f => if K f = .loop then ((List.range n).filter fun t => decide (K t = .again f)).map fun t => (f, t) else []
def OL (K : Nat → Kn) (n : Nat) : List (Nat × Nat) := (List.range n).filterMap fun t => match K t with | .again a => some (a, t) | _ => none
theorem mem_RL {K : Nat → Kn} {n : Nat} (x : Nat × Nat) : x ∈ RL K n ↔ Pr K n x.1 x.2 := by
 unfold RL Pr
 rw [List.mem_flatMap]
 constructor
 ·rintro ⟨f, hf, hx⟩
  split at hx
  ·rename_i hk
   rw [List.mem_map] at hx
   obtain ⟨t, ht, rfl⟩ := hx
   rw [List.mem_filter] at ht
   simp only [List.mem_range, decide_eq_true_eq] at ht hf
   exact ⟨hf, ht.1, hk, ht.2⟩
  ·cases hx
 ·rintro ⟨h1, h2, h3, h4⟩
  refine ⟨x.1, List.mem_range.2 h1, ?_⟩
  rw [if_pos h3, List.mem_map]
  exact ⟨x.2, List.mem_filter.2 ⟨List.mem_range.2 h2, by simpa using h4⟩, rfl⟩
theorem RL_sorted {K : Nat → Kn} {n : Nat} (h : Ok1 K n) : (RL K n).Pairwise fun x y => x.1 < y.1 := by
 unfold RL
 rw [List.pairwise_flatMap]
 refine ⟨fun f hf => ?_, ?_⟩
 ·split
  ·rename_i hk
   obtain ⟨t, -, -, hu⟩ := h f (List.mem_range.1 hf) hk
   rw [List.pairwise_map]
   refine List.Pairwise.imp_of_mem (R := fun a b => a ≠ b) (fun {a b} ha hb hne => absurd ?_ hne) (List.nodup_range.sublist List.filter_sublist)
   rw [List.mem_filter, List.mem_range, decide_eq_true_eq] at ha hb
   rw [hu a ⟨List.mem_range.1 hf, ha.1, hk, ha.2⟩, hu b ⟨List.mem_range.1 hf, hb.1, hk, hb.2⟩]
  ·exact List.Pairwise.nil
 ·refine List.pairwise_lt_range.imp fun {a b} hab x hx y hy => ?_
  have e : ∀ f, ∀ z ∈ (if K f = .loop then ((List.range n).filter fun t => decide (K t = .again f)).map fun t => (f, t) else []), z.1 = f := by
   intro f z hz
   split at hz
   ·rw [List.mem_map] at hz; obtain ⟨_, _, rfl⟩ := hz; rfl
   ·cases hz
  rw [e a x hx, e b y hy]; exact hab
theorem RL_nodup {K : Nat → Kn} {n : Nat} (h : Ok1 K n) : ((RL K n).map (·.1)).Nodup := by
 show List.Pairwise _ _
 rw [List.pairwise_map]
 exact (RL_sorted h).imp fun h => Nat.ne_of_lt h
theorem mem_OL {K : Nat → Kn} {n : Nat} (h : Ok2 K n) (x : Nat × Nat) : x ∈ OL K n ↔ Pr K n x.1 x.2 := by
 unfold OL Pr
 rw [List.mem_filterMap]
 constructor
 ·rintro ⟨t, ht, hx⟩
  cases hk : K t with
  | again a =>
   rw [hk] at hx
   simp at hx
   subst hx
   obtain ⟨h1, h2⟩ := h t a (List.mem_range.1 ht) hk
   exact ⟨h1, List.mem_range.1 ht, h2, hk⟩
  | loop => rw [hk] at hx; cases hx
  | other => rw [hk] at hx; cases hx
 ·rintro ⟨h1, h2, h3, h4⟩
  exact ⟨x.2, List.mem_range.2 h2, by rw [h4]⟩
theorem OL_distinct {K : Nat → Kn} {n : Nat} (h1 : Ok1 K n) (h2 : Ok2 K n) : (OL K n).Pairwise fun x y => x.1 ≠ y.1 := by
 unfold OL
 rw [List.pairwise_filterMap]
 refine List.Pairwise.imp_of_mem (R := fun a b => a ≠ b) (fun {a b} ha hb hne x hx y hy => ?_) List.nodup_range
 rw [List.mem_range] at ha hb
 have key : ∀ t x, t < n → (match K t with | .again a => some (a, t) | _ => none) = some x → Pr K n x.1 t := by
  intro t x ht hx
  have := (mem_OL h2 x).1 (List.mem_filterMap.2 ⟨t, List.mem_range.2 ht, hx⟩)
  have e : x.2 = t := by
   cases hk : K t with
   | again a => rw [hk] at hx; simp at hx; subst hx; rfl
   | loop => rw [hk] at hx; cases hx
   | other => rw [hk] at hx; cases hx
  rwa [e] at this
 intro e
 have p := key a x ha hx
 have q := key b y hb hy
 rw [← e] at q
 obtain ⟨t, -, -, hu⟩ := h1 _ p.1 p.2.2.1
 exact hne ((hu a p).trans (hu b q).symm)
theorem strict_eq {α : Type} {key : α → Int} : ∀ (l m : List α), l.Pairwise (fun x y => key x < key y) → m.Pairwise (fun x y => key x < key y) → (∀ x, x ∈ l ↔ x ∈ m) → l = m
 | [], [], _, _, _ => rfl
 | [], y :: m, _, _, h => absurd ((h y).2 (by simp)) (by simp)
 | x :: l, [], _, _, h => absurd ((h x).1 (by simp)) (by simp)
 | x :: l, y :: m, hl, hm, h => by
  rw [List.pairwise_cons] at hl hm
  have hxy : x = y := by
   rcases List.mem_cons.1 ((h x).1 (by simp)) with e | e
   ·exact e
   ·rcases List.mem_cons.1 ((h y).2 (by simp)) with e' | e'
    ·exact e'.symm
    ·have := hl.1 _ e'; have := hm.1 _ e; omega
  subst hxy
  rw [strict_eq l m hl.2 hm.2 fun z => ?_]
  constructor
  ·intro hz
   rcases List.mem_cons.1 ((h z).1 (List.mem_cons_of_mem _ hz)) with e | e
   ·subst e; have := hl.1 _ hz; omega
   ·exact e
  ·intro hz
   rcases List.mem_cons.1 ((h z).2 (List.mem_cons_of_mem _ hz)) with e | e
   ·subst e; have := hm.1 _ hz; omega
   ·exact e
theorem sorted_RL {α : Type} {key : α → Int} {g : Nat × Nat → α} (hkey : ∀ x, key (g x) = (x.1 : Int)) {K : Nat → Kn} {n : Nat} (h1 : Ok1 K n) (h2 : Ok2 K n) {s : List α} (hp : s.Perm ((OL K n).map g)) (hs : s.Pairwise fun x y => key x ≤ key y) : s = (RL K n).map g := by
 refine strict_eq (key := key) s _ ?_ ?_ fun x => ?_
 ·have hd : s.Pairwise fun x y => key x ≠ key y := by
   refine (hp.pairwise_iff (fun {x y} h => Ne.symm h)).2 ?_
   rw [List.pairwise_map]
   refine (OL_distinct h1 h2).imp fun {a b} h => ?_
   rw [hkey, hkey]; omega
  exact (hs.and hd).imp fun ⟨a, b⟩ => by omega
 ·rw [List.pairwise_map]
  refine (RL_sorted h1).imp fun {a b} h => ?_
  rw [hkey, hkey]; omega
 ·rw [hp.mem_iff, List.mem_map, List.mem_map]
  constructor
  ·rintro ⟨a, ha, rfl⟩; exact ⟨a, (mem_RL a).2 ((mem_OL h2 a).1 ha), rfl⟩
  ·rintro ⟨a, ha, rfl⟩; exact ⟨a, (mem_OL h2 a).2 ((mem_RL a).1 ha), rfl⟩
def FL (K : Nat → Kn) (n f : Nat) : List Nat := (List.range n).filter fun t => decide (K t = .again f)
theorem mem_FL {K : Nat → Kn} {n f t : Nat} : t ∈ FL K n f ↔ t < n ∧ K t = .again f := by
 unfold FL; rw [List.mem_filter, List.mem_range, decide_eq_true_eq]
theorem ok1_iff {K : Nat → Kn} {n : Nat} : Ok1 K n ↔ ∀ f, f < n → K f = .loop → ∃ t, FL K n f = [t] ∧ f ≤ t := by
 constructor
 ·intro h f hf hk
  obtain ⟨t, p, hl, hu⟩ := h f hf hk
  refine ⟨t, ?_, hl⟩
  have hn : (FL K n f).Nodup := List.nodup_range.sublist List.filter_sublist
  have ha : ∀ x ∈ FL K n f, x = t := fun x hx => hu x ⟨hf, (mem_FL.1 hx).1, hk, (mem_FL.1 hx).2⟩
  have hm : t ∈ FL K n f := mem_FL.2 ⟨p.2.1, p.2.2.2⟩
  cases hF : FL K n f with
  | nil => rw [hF] at hm; cases hm
  | cons a r =>
   rw [hF] at hn ha
   obtain rfl := ha a (by simp)
   cases r with
   | nil => rfl
   | cons b r =>
    obtain rfl := ha b (by simp)
    simp at hn
 ·intro h f hf hk
  obtain ⟨t, e, hl⟩ := h f hf hk
  have hm := mem_FL.1 (show t ∈ FL K n f by rw [e]; simp)
  refine ⟨t, ⟨hf, hm.1, hk, hm.2⟩, hl, fun t' p => ?_⟩
  have := mem_FL.2 ⟨p.2.1, p.2.2.2⟩
  rw [e] at this
  simpa using this
end FlowPure
namespace FlowPure
theorem srt128_ok (d : Array flow_Loop) : (srt128 d).toList.Perm d.toList ∧ (srt128 d).toList.Pairwise (fun x y => x.From ≤ y.From) := by
 obtain ⟨⟨h1, -, h2⟩, h3⟩ := srt128_sorts d
 refine ⟨?_, ?_⟩
 ·have e1 : (srt128 d).extract 0 d.size = srt128 d := by rw [← h1]; simp
  have e2 : d.extract 0 d.size = d := by simp
  rw [e1, e2] at h2
  exact h2
 ·rw [List.pairwise_iff_getElem]
  intro i j hi hj hij
  have hi' : i < (srt128 d).size := by simpa using hi
  have hj' : j < (srt128 d).size := by simpa using hj
  have := h3 i j (Nat.zero_le _) hij (by omega)
  rw [lt128, getElem!_pos (srt128 d) i hi', getElem!_pos (srt128 d) j hj'] at this
  have := of_decide_eq_false this
  simp only [Array.getElem_toList]
  omega
end FlowPure
namespace FlowPure
theorem runF_chk {S R : Type} {F : S → Option (S ⊕ R)} {n : Nat} {b : R} (s : Nat → S) (p : Nat → Prop) (hs : ∀ k, k < n → (∀ j, j < k → p j) → p k → runF F (s k) = runF F (s (k + 1))) (hb : ∀ k, k < n → (∀ j, j < k → p j) → ¬ p k → runF F (s k) = some b) :
    ((∀ k, k < n → p k) → runF F (s 0) = runF F (s n)) ∧ (¬ (∀ k, k < n → p k) → runF F (s 0) = some b) := by
 have key : ∀ m, m ≤ n → (∀ j, j < m → p j) → runF F (s 0) = runF F (s m) := by
  intro m
  induction m with
  | zero => intro _ _; rfl
  | succ m ih => intro hm hp; rw [ih (by omega) (fun j hj => hp j (by omega)), hs m (by omega) (fun j hj => hp j (by omega)) (hp m (by omega))]
 have key2 : ∀ m, m ≤ n → (∀ j, j < m → p j) ∨ runF F (s 0) = some b := by
  intro m
  induction m with
  | zero => intro _; left; intro j hj; omega
  | succ m ih =>
   intro hm
   rcases ih (by omega) with h | h
   ·by_cases hp : p m
    ·left; intro j hj
     by_cases e : j = m
     ·subst e; exact hp
     ·exact h j (by omega)
    ·right; rw [key m (by omega) h, hb m (by omega) h hp]
   ·right; exact h
 refine ⟨key n (Nat.le_refl _), fun h => ?_⟩
 rcases key2 n (Nat.le_refl _) with h' | h'
 ·exact absurd h' h
 ·exact h'
theorem runF_scan {S R : Type} {F : S → Option (S ⊕ R)} {n : Nat} {b : R} {a : Nat → R} (s : Nat → S) (p : Nat → Bool) (hs : ∀ k, k < n → F (s k) = some (if p k then .inr (a k) else .inl (s (k + 1)))) (hb : F (s n) = some (.inr b)) :
    ∃ r, runF F (s 0) = some r ∧ ((∃ k, k < n ∧ p k = true ∧ r = a k) ∨ ((∀ k, k < n → p k = false) ∧ r = b)) := by
 have key : ∀ m k, k + m = n → (∀ j, j < k → p j = false) → ∃ r, runF F (s k) = some r ∧ ((∃ k, k < n ∧ p k = true ∧ r = a k) ∨ ((∀ k, k < n → p k = false) ∧ r = b)) := by
  intro m
  induction m with
  | zero => intro k e h; obtain rfl : k = n := by omega
            exact ⟨b, runF_end hb, .inr ⟨h, rfl⟩⟩
  | succ m ih =>
   intro k e h
   have hk := hs k (by omega)
   cases hp : p k with
   | true => rw [hp] at hk; exact ⟨a k, runF_end hk, .inl ⟨k, by omega, hp, rfl⟩⟩
   | false =>
    rw [hp] at hk
    rw [runF_step hk]
    refine ih (k + 1) (by omega) fun j hj => ?_
    by_cases e : j = k
    ·subst e; exact hp
    ·exact h j (by omega)
 exact key n 0 (by omega) (fun j hj => by omega)
theorem wrap_pred (k : Nat) (h : 0 < k) (h2 : k < 4611686018427387904) : IntKind.i64.wrap ((k : Int) - 1) = ((k - 1 : Nat) : Int) := by
 rw [wrap_id (by omega) (by omega)]; omega
theorem elt_int {α : Type} {xs : List α} {i : Int} (h0 : 0 ≤ i) (h : i.toNat < xs.length) : elt xs i = some xs[i.toNat] := by
 unfold elt; rw [if_pos h0, List.getElem?_eq_getElem h]
theorem wf_op {i : api_Instr} (h : wf_api_Instr i) : 0 ≤ i.Op ∧ i.Op < 256 := by
 have := h.1
 simp [Lit.wf, IntKind.min, IntKind.max, IntKind.signed, IntKind.bits] at this
 omega
theorem bounds_some (n : Fin 256) : (op_Bounds.f (n.1 : Int)).isSome = true := by
 revert n; decide +kernel
theorem bounds_op {x : Int} (h0 : 0 ≤ x) (h1 : x < 256) : ∃ b, op_Bounds.f x = some b := by
 obtain ⟨n, rfl⟩ := Int.eq_ofNat_of_zero_le h0
 exact Option.isSome_iff_exists.1 (bounds_some ⟨n, by omega⟩)
def may (i : api_Instr) : Bool := match op_Bounds.f i.Op with
 | some b => ((decide (i.A ≥ b.1)) && (decide (i.A ≤ b.2))) && (decide (i.B = 0))
 | none => false
theorem op_may {i : api_Instr} (h : wf_api_Instr i) : op_May.f i = some (may i) := by
 obtain ⟨h0, h1⟩ := wf_op h
 obtain ⟨b, hb⟩ := bounds_op h0 h1
 unfold op_May.f may
 rw [hb]; rfl
theorem may_place {i : api_Instr} (h : may i = true) (ho : i.Op = 26 ∨ i.Op = 27 ∨ i.Op = 29) : 0 ≤ i.A ∧ i.A ≤ 199 ∧ i.B = 0 := by
 unfold may at h
 have e : op_Bounds.f i.Op = some (0, 199) := by rcases ho with e | e | e <;> rw [e] <;> decide +kernel
 rw [e] at h
 simp at h; omega
theorem contains_may {l : List api_Instr} (hl : l.length < 4611686018427387904) (hw : ∀ x ∈ l, wf_api_Instr x) : slices_ContainsFunc_api_Instr_api_Instr_s2.f l = some (l.any fun x => !may x) := by
 unfold slices_ContainsFunc_api_Instr_api_Instr_s2.f slices_IndexFunc_api_Instr_api_Instr_s2.f
 rw [runF_step (t := .l1 ((0 : Nat) : Int)) rfl]
 obtain ⟨r, hr, hc⟩ := runF_scan (F := slices_IndexFunc_api_Instr_api_Instr_s2.F l) (n := l.length) (b := -1) (a := fun k => (k : Int)) (fun k => .l1 (k : Int)) (fun k => if h : k < l.length then !may l[k] else false) (fun k hk => by
  dsimp only [slices_IndexFunc_api_Instr_api_Instr_s2.F]
  rw [if_pos (by omega), elt_lt hk]
  simp only [Option.bind_some]
  unfold flow_Loops_1.f
  rw [op_may (hw _ (List.getElem_mem hk))]
  simp only [Option.bind_some, dif_pos hk, wrap_succ k (by omega)]
  cases may l[k] <;> rfl) (by dsimp only [slices_IndexFunc_api_Instr_api_Instr_s2.F]; rw [if_neg (by omega)])
 rw [hr]
 simp only [Option.bind_some]
 congr 1
 rw [Bool.eq_iff_iff]
 simp only [decide_eq_true_eq, List.any_eq_true]
 rcases hc with ⟨k, hk, hp, rfl⟩ | ⟨hn, rfl⟩
 ·rw [dif_pos hk] at hp
  exact ⟨fun _ => ⟨_, List.getElem_mem hk, hp⟩, fun _ => by omega⟩
 ·refine ⟨fun h => by omega, fun ⟨x, hx, hp⟩ => ?_⟩
  obtain ⟨k, hk, rfl⟩ := List.mem_iff_getElem.1 hx
  have := hn k hk
  rw [dif_pos hk, hp] at this; cases this
end FlowPure
namespace FlowPure
def KK (l : List api_Instr) (k : Nat) : Kn := match l[k]? with
 | some x => if x.Op = 28 then .loop else if x.Op = 29 then .again x.A.toNat else .other
 | none => .other
def turns (l : List api_Instr) (k : Nat) : Int := (l.getD k api_Instr.zero).A
def gF (l : List api_Instr) (x : Nat × Nat) : flow_Loop := ⟨x.1, x.2, turns l x.1⟩
def arr (K : Nat → Kn) : Nat → List Int
 | 0 => List.replicate 4 0
 | i + 1 => match K i with
  | .loop => (arr K i).set (opn K i).length i
  | _ => arr K i
theorem arr_succ (K : Nat → Kn) (i : Nat) : arr K (i + 1) = match K i with
    | .loop => (arr K i).set (opn K i).length i
    | _ => arr K i := rfl
theorem opn_succ (K : Nat → Kn) (i : Nat) : opn K (i + 1) = match K i with
    | .loop => i :: opn K i
    | .again _ => (opn K i).tail
    | .other => opn K i := rfl
theorem take_set {α : Type} {v : α} : ∀ (a : List α) (m : Nat), m < a.length → (a.set m v).take (m + 1) = a.take m ++ [v]
 | [], m, h => by simp at h
 | x :: a, 0, h => by simp
 | x :: a, m + 1, h => by
  have := take_set (v := v) a m (by simpa using h)
  simp only [List.set_cons_succ, List.take_succ_cons, this, List.cons_append]
theorem arr_len (K : Nat → Kn) : ∀ i, (arr K i).length = 4
 | 0 => rfl
 | i + 1 => by unfold arr; split <;> simp [arr_len K i]
theorem arr_take (K : Nat → Kn) : ∀ (i : Nat), (∀ j, j < i → good K j) → (arr K i).take (opn K i).length = (opn K i).reverse.map fun (x : Nat) => (x : Int)
 | 0, _ => rfl
 | i + 1, hg => by
  have ih := arr_take K i (fun j hj => hg j (by omega))
  have gi := hg i (by omega)
  unfold good at gi
  rw [arr_succ, opn_succ]
  cases hk : K i with
  | loop =>
   rw [hk] at gi
   simp only at gi ⊢
   rw [List.length_cons, take_set _ _ (by rw [arr_len]; omega), ih]
   simp
  | again a =>
   rw [hk] at gi
   simp only at gi ⊢
   cases ho : opn K i with
   | nil => rw [ho] at gi; cases gi
   | cons b T =>
    rw [ho] at ih
    simp only [List.tail_cons]
    simp only [List.length_cons, List.reverse_cons, List.map_append, List.map_cons, List.map_nil] at ih
    have : (arr K i).take T.length = ((arr K i).take (T.length + 1)).take T.length := by
     rw [List.take_take]; congr 1; omega
    rw [this, ih, List.take_append_of_le_length (by simp), List.take_of_length_le (by simp)]
  | other => exact ih
theorem OL_succ (K : Nat → Kn) (i : Nat) : OL K (i + 1) = OL K i ++ (match K i with | .again a => [(a, i)] | _ => []) := by
 unfold OL
 rw [List.range_succ, List.filterMap_append]
 congr 1
 cases h : K i <;> simp [h]
theorem OL_le (K : Nat → Kn) (i : Nat) : (OL K i).length ≤ i := by
 unfold OL
 exact Nat.le_trans (List.length_filterMap_le _ _) (by simp)
theorem KK_at {l : List api_Instr} {k : Nat} (h : k < l.length) : KK l k = if l[k].Op = 28 then .loop else if l[k].Op = 29 then .again l[k].A.toNat else .other := by
 unfold KK; rw [List.getElem?_eq_getElem h]
theorem turns_at {l : List api_Instr} {k : Nat} (h : k < l.length) : turns l k = l[k].A := by
 unfold turns; rw [List.getD_eq_getElem?_getD, List.getElem?_eq_getElem h]; rfl
theorem loop_iff {l : List api_Instr} {k : Nat} (hk : k < l.length) : KK l k = .loop ↔ l[k].Op = 28 := by
 rw [KK_at hk]
 constructor
 ·intro h
  split at h
  ·assumption
  ·split at h <;> cases h
 ·intro h; rw [if_pos h]
def RLp (K : Nat → Kn) (n m : Nat) : List (Nat × Nat) := (List.range m).flatMap fun f => if K f = .loop then (FL K n f).map fun t => (f, t) else []
theorem RLp_all (K : Nat → Kn) (n : Nat) : RLp K n n = RL K n := rfl
theorem RLp_succ (K : Nat → Kn) (n m : Nat) : RLp K n (m + 1) = RLp K n m ++ (if K m = .loop then (FL K n m).map fun t => (m, t) else []) := by
 unfold RLp
 rw [List.range_succ, List.flatMap_append]
 simp
def p1 (K : Nat → Kn) (n k : Nat) : Prop := K k = .loop → ∃ t, FL K n k = [t] ∧ k ≤ t
def p2 (K : Nat → Kn) (n k : Nat) : Prop := ∀ a, K k = .again a → a < n ∧ K a = .loop
theorem RLp_le {K : Nat → Kn} {n : Nat} : ∀ (m : Nat), (∀ j, j < m → p1 K n j) → (RLp K n m).length ≤ m
 | 0, _ => by simp [RLp]
 | m + 1, h => by
  have ih := RLp_le m (fun j hj => h j (by omega))
  rw [RLp_succ, List.length_append]
  split
  ·rename_i hk
   obtain ⟨t, ht, -⟩ := h m (by omega) hk
   rw [ht]; simp; omega
  ·simp; omega
theorem RL_len {l : List api_Instr} (h1 : Ok1 (KK l) l.length) : (RL (KK l) l.length).length ≤ l.length := by
 rw [← RLp_all]; exact RLp_le _ (ok1_iff.1 h1)
def st (l : List api_Instr) (k : Nat) : flow_Loops.S := .l1 (arr (KK l) k) (opn (KK l) k).length ((OL (KK l) k).map (gF l)) k
theorem loops_steps {l : List api_Instr} (hl : l.length ≤ 200) (hm : ∀ x ∈ l, may x = true) :
    ((∀ k, k < l.length → good (KK l) k) → runF (flow_Loops.F l) (st l 0) = runF (flow_Loops.F l) (st l l.length)) ∧ (¬ (∀ k, k < l.length → good (KK l) k) → runF (flow_Loops.F l) (st l 0) = some ([], 90)) := by
 refine runF_chk (F := flow_Loops.F l) (st l) (good (KK l)) (fun k hk hg hp => runF_step ?_) (fun k hk hg hp => runF_end ?_)
 all_goals
  have hkk := KK_at hk
  have m4 := (opn_mem (KK l) k hg).2.2
  have hat := arr_take (KK l) k hg
  have hal := arr_len (KK l) k
  dsimp only [st, flow_Loops.F]
  rw [if_pos (by omega), elt_lt hk]
  simp only [Option.bind_some]
 ·-- goes on
  by_cases h28 : l[k].Op = 28
  ·rw [if_pos h28] at hkk
   unfold good at hp
   rw [hkk] at hp
   simp only at hp
   rw [if_pos h28]
   unfold flow_open_push_s2.f
   rw [if_neg (by omega), elt_lt (by omega)]
   simp only [Option.bind_some]
   rw [if_neg (by simp)]
   unfold flow_Loops.j2
   rw [wrap_succ _ (by omega), wrap_succ _ (by omega), OL_succ, hkk]
   simp only [arr, opn, hkk, List.length_cons, Int.toNat_natCast, List.append_nil]
  ·rw [if_neg h28] at hkk
   rw [if_neg h28]
   by_cases h29 : l[k].Op = 29
   ·rw [if_pos h29] at hkk
    rw [if_pos h29]
    have hA := may_place (hm _ (List.getElem_mem hk)) (.inr (.inr h29))
    unfold good at hp
    rw [hkk] at hp
    simp only at hp
    cases ho : opn (KK l) k with
    | nil => rw [ho] at hp; cases hp
    | cons b T =>
     rw [ho] at hp hat m4
     simp only [List.head?_cons, Option.some.injEq] at hp
     have hb : b < k := ((opn_mem (KK l) k hg).1 b).1 (by rw [ho]; simp) |>.2.1
     have hbl : b < l.length := by omega
     have hel : elt (arr (KK l) k) (IntKind.i64.wrap (((b :: T).length : Int) - 1)) = some (b : Int) := by
      simp only [List.length_cons] at hat m4 ⊢
      rw [wrap_pred _ (by omega) (by omega), elt_nat]
      have := congrArg (fun z => z[T.length]?) hat
      simp only [List.reverse_cons, List.map_append, List.map_cons, List.map_nil] at this
      rw [List.getElem?_take_of_lt (by omega), List.getElem?_append_right (by simp)] at this
      simpa using this
     unfold flow_open_pop_s2.f
     rw [if_neg (by simp; omega), hel]
     simp only [Option.bind_some]
     have hbA : l[k].A = (b : Int) := by omega
     rw [← hp] at hkk
     unfold flow_open_pop_s2.j1
     rw [if_neg (by simp [hbA])]
     simp only [Option.bind_some, Bool.not_true, Bool.false_eq_true, if_false]
     rw [hbA, elt_lt hbl]
     simp only [Option.bind_some]
     rw [if_pos (by have := OL_le (KK l) k; simp; omega)]
     unfold flow_Loops.j2
     rw [wrap_succ _ (by omega), OL_succ, hkk]
     simp only [List.length_cons] at m4 ⊢
     rw [wrap_pred _ (by omega) (by omega)]
     simp only [arr, opn, hkk, ho, List.tail_cons, List.map_append, List.map_cons, List.map_nil, gF, turns_at hbl, Nat.add_sub_cancel]
   ·rw [if_neg h29] at hkk
    rw [if_neg h29]
    unfold flow_Loops.j2
    rw [wrap_succ _ (by omega), OL_succ, hkk]
    simp only [arr, opn, hkk, List.append_nil]
 ·-- stops
  by_cases h28 : l[k].Op = 28
  ·rw [if_pos h28] at hkk
   unfold good at hp
   rw [hkk] at hp
   simp only at hp
   rw [if_pos h28]
   unfold flow_open_push_s2.f
   rw [if_pos (by omega)]
   rfl
  ·rw [if_neg h28] at hkk
   rw [if_neg h28]
   by_cases h29 : l[k].Op = 29
   ·rw [if_pos h29] at hkk
    rw [if_pos h29]
    have hA := may_place (hm _ (List.getElem_mem hk)) (.inr (.inr h29))
    unfold good at hp
    rw [hkk] at hp
    simp only at hp
    unfold flow_open_pop_s2.f
    cases ho : opn (KK l) k with
    | nil => rw [if_pos (by simp)]; rfl
    | cons b T =>
     rw [ho] at hp hat m4
     simp only [List.head?_cons, Option.some.injEq] at hp
     have hel : elt (arr (KK l) k) (IntKind.i64.wrap (((b :: T).length : Int) - 1)) = some (b : Int) := by
      simp only [List.length_cons] at hat m4 ⊢
      rw [wrap_pred _ (by omega) (by omega), elt_nat]
      have := congrArg (fun z => z[T.length]?) hat
      simp only [List.reverse_cons, List.map_append, List.map_cons, List.map_nil] at this
      rw [List.getElem?_take_of_lt (by omega), List.getElem?_append_right (by simp)] at this
      simpa using this
     rw [if_neg (by simp; omega), hel]
     simp only [Option.bind_some]
     unfold flow_open_pop_s2.j1
     rw [if_pos (by simp; omega)]
     rfl
   ·rw [if_neg h29] at hkk
    unfold good at hp
    rw [hkk] at hp
    exact absurd trivial hp
end FlowPure
namespace FlowPure
def hasB (x : flow_Loop) (a : Int) : Bool := (decide (a > x.From)) && (decide (a ≤ x.To))
theorem hasB_iff {x : flow_Loop} {a : Int} : hasB x a = true ↔ x.From < a ∧ a ≤ x.To := by
 unfold hasB; rw [Bool.and_eq_true, decide_eq_true_eq, decide_eq_true_eq]
theorem hasB_no {x : flow_Loop} {a : Int} : hasB x a = false ↔ ¬ (x.From < a ∧ a ≤ x.To) := by
 rw [← hasB_iff, Bool.not_eq_true]
theorem contains_into {s : List flow_Loop} {a b c d : Int} (hl : s.length < 4611686018427387904) : slices_ContainsFunc_flow_Loop_flow_Loop_s1.f s a b c d = some (s.any fun x => hasB x b && !hasB x d) := by
 unfold slices_ContainsFunc_flow_Loop_flow_Loop_s1.f slices_IndexFunc_flow_Loop_flow_Loop_s1.f
 rw [runF_step (t := .l1 ((0 : Nat) : Int)) rfl]
 obtain ⟨r, hr, hc⟩ := runF_scan (F := slices_IndexFunc_flow_Loop_flow_Loop_s1.F s a b c d) (n := s.length) (b := -1) (a := fun k => (k : Int)) (fun k => .l1 (k : Int)) (fun k => if h : k < s.length then hasB s[k] b && !hasB s[k] d else false) (fun k hk => by
  dsimp only [slices_IndexFunc_flow_Loop_flow_Loop_s1.F]
  rw [if_pos (by omega), elt_lt hk]
  simp only [Option.bind_some]
  have : flow_jumps_1_s1.f s[k] a b c d = some (hasB s[k] b && !hasB s[k] d) := by
   unfold flow_jumps_1_s1.f flow_Loop_has.f
   simp only [Option.bind_some]
   show ((if hasB s[k] b = true then some (!hasB s[k] d) else some false).bind fun t15 => some t15) = _
   cases hasB s[k] b <;> rfl
  rw [this]
  simp only [Option.bind_some, dif_pos hk, wrap_succ k (by omega)]
  cases hasB s[k] b && !hasB s[k] d <;> rfl) (by dsimp only [slices_IndexFunc_flow_Loop_flow_Loop_s1.F]; rw [if_neg (by omega)])
 rw [hr]
 simp only [Option.bind_some]
 congr 1
 rw [Bool.eq_iff_iff]
 simp only [decide_eq_true_eq]
 rw [List.any_eq_true]
 rcases hc with ⟨k, hk, hp, rfl⟩ | ⟨hn, rfl⟩
 ·rw [dif_pos hk] at hp
  exact ⟨fun _ => ⟨_, List.getElem_mem hk, hp⟩, fun _ => by omega⟩
 ·refine ⟨fun h => by omega, fun ⟨x, hx, hp⟩ => ?_⟩
  obtain ⟨k, hk, rfl⟩ := List.mem_iff_getElem.1 hx
  have := hn k hk
  rw [dif_pos hk] at this
  rw [this] at hp; cases hp
def Jk (l : List api_Instr) (R : Nat × Nat → Prop) (k : Nat) : Prop := ∀ x, l[k]? = some x → (x.Op = 26 ∨ x.Op = 27) → (k : Int) < x.A ∧ x.A < l.length ∧ ∀ y, R y → (y.1 : Int) < x.A → x.A ≤ y.2 → y.1 < k ∧ k ≤ y.2
def Jm (l : List api_Instr) (R : Nat × Nat → Prop) : Prop := ∀ k, k < l.length → Jk l R k
theorem prog_jumps {l : List api_Instr} {O : List (Nat × Nat)} {R : Nat × Nat → Prop} (hl : l.length ≤ 200) (ho : O.length ≤ 200) (hR : ∀ x, x ∈ O ↔ R x) :
    (Jm l R → flow_jumps.f l (O.map (gF l)) = some true) ∧ (¬ Jm l R → flow_jumps.f l (O.map (gF l)) = some false) := by
 unfold flow_jumps.f
 rw [runF_step (t := .l1 ((0 : Nat) : Int)) rfl]
 have val : ∀ k (hk : k < l.length), (l[k].Op = 26 ∨ l[k].Op = 27) → (((if ((decide (l[k].A ≤ (k : Int))) || (decide (l[k].A ≥ (l.length : Int)))) = true then (some true) else ((slices_ContainsFunc_flow_Loop_flow_Loop_s1.f (O.map (gF l)) l[k].Op l[k].A l[k].B k).bind fun t49 => some t49)) = some true ∧ ¬ Jk l R k) ∨ ((if ((decide (l[k].A ≤ (k : Int))) || (decide (l[k].A ≥ (l.length : Int)))) = true then (some true) else ((slices_ContainsFunc_flow_Loop_flow_Loop_s1.f (O.map (gF l)) l[k].Op l[k].A l[k].B k).bind fun t49 => some t49)) = some false ∧ Jk l R k)) := by
  intro k hk hop
  by_cases hA : l[k].A ≤ (k : Int) ∨ l[k].A ≥ (l.length : Int)
  ·left
   rw [if_pos (by simpa using hA)]
   refine ⟨rfl, fun h => ?_⟩
   have := h l[k] (List.getElem?_eq_getElem hk) hop
   omega
  ·rw [if_neg (by simpa using hA), contains_into (by simp; omega)]
   simp only [Option.bind_some]
   cases hb : (O.map (gF l)).any fun x => hasB x l[k].A && !hasB x (k : Int) with
   | true =>
    left
    refine ⟨rfl, fun h => ?_⟩
    rw [List.any_eq_true] at hb
    obtain ⟨z, hz, hb⟩ := hb
    rw [List.mem_map] at hz
    obtain ⟨y, hy, rfl⟩ := hz
    have := (h l[k] (List.getElem?_eq_getElem hk) hop).2.2 y ((hR y).1 hy)
    rw [Bool.and_eq_true, Bool.not_eq_true', hasB_iff, hasB_no] at hb
    dsimp only [gF] at hb
    omega
   | false =>
    right
    refine ⟨rfl, fun x hx _ => ?_⟩
    rw [List.getElem?_eq_getElem hk] at hx
    cases hx
    refine ⟨by omega, by omega, fun y hy h1 h2 => ?_⟩
    have := List.any_eq_false.1 hb _ (List.mem_map_of_mem (f := gF l) ((hR y).2 hy))
    rw [Bool.and_eq_true, Bool.not_eq_true', hasB_iff, hasB_no] at this
    dsimp only [gF] at this
    omega
 have key := runF_chk (F := flow_jumps.F l (O.map (gF l))) (n := l.length) (b := false) (fun k => .l1 (k : Int)) (Jk l R) (fun k hk _ hp => runF_step (by
  dsimp only [flow_jumps.F]
  rw [if_pos (by omega), elt_lt hk]
  simp only [Option.bind_some]
  unfold flow_jumps.j1
  rw [wrap_succ k (by omega)]
  by_cases hop : l[k].Op = 26 ∨ l[k].Op = 27
  ·rw [if_neg (by simp; omega)]
   rcases val k hk hop with ⟨-, h⟩ | ⟨h, -⟩
   ·exact absurd hp h
   ·rw [h]; rfl
  ·rw [if_pos (by simp; omega)])) (fun k hk _ hp => runF_end (by
  dsimp only [flow_jumps.F]
  rw [if_pos (by omega), elt_lt hk]
  simp only [Option.bind_some]
  by_cases hop : l[k].Op = 26 ∨ l[k].Op = 27
  ·rw [if_neg (by simp; omega)]
   rcases val k hk hop with ⟨h, -⟩ | ⟨-, h⟩
   ·rw [h]; rfl
   ·exact absurd h hp
  ·refine absurd (fun x hx h => absurd h ?_) hp
   rw [List.getElem?_eq_getElem hk] at hx
   cases hx; exact hop))
 refine ⟨fun h => ?_, fun h => key.2 h⟩
 refine (key.1 h).trans (runF_end ?_)
 dsimp only [flow_jumps.F]
 rw [if_neg (by omega)]
def lastOk (l : List api_Instr) : Prop := ∀ x, l[l.length - 1]? = some x → x.Op = 31 ∨ x.Op = 32
def Known (l : List api_Instr) : Prop := 1 ≤ l.length ∧ l.length ≤ 200 ∧ ∀ x ∈ l, may x = true
def Fine (l : List api_Instr) : Prop := Run (KK l) l.length ∧ lastOk l ∧ Jm l fun x => Pr (KK l) l.length x.1 x.2
theorem prog_loops {l : List api_Instr} (hlen : l.length < 4611686018427387904) (hw : ∀ x ∈ l, wf_api_Instr x) :
    (¬ Known l → flow_Loops.f l = some ([], 40)) ∧ (Known l → Fine l → flow_Loops.f l = some ((RL (KK l) l.length).map (gF l), 0)) ∧ (Known l → ¬ Fine l → flow_Loops.f l = some ([], 90)) := by
 unfold flow_Loops.f
 refine ⟨fun hk => runF_end ?_, ?_⟩
 ·dsimp only [flow_Loops.F]
  by_cases hn : l.length = 0 ∨ l.length > 200
  ·rw [if_pos (by rw [Bool.or_eq_true, decide_eq_true_eq, decide_eq_true_eq]; omega)]; rfl
  ·rw [if_neg (by rw [Bool.or_eq_true, decide_eq_true_eq, decide_eq_true_eq]; omega), contains_may hlen hw]
   have : (l.any fun x => !may x) = true := by
    refine Classical.byContradiction fun hc => hk ⟨by omega, by omega, fun x hx => ?_⟩
    have := List.any_eq_false.1 (Bool.eq_false_iff.2 hc) x hx
    simpa using this
   rw [this]; rfl
 suffices hs : Known l → (Fine l → runF (flow_Loops.F l) .start = some ((RL (KK l) l.length).map (gF l), 0)) ∧ (¬ Fine l → runF (flow_Loops.F l) .start = some ([], 90)) from ⟨fun a b => (hs a).1 b, fun a b => (hs a).2 b⟩
 rintro ⟨n1, n2, hm⟩
 have e0 : runF (flow_Loops.F l) .start = runF (flow_Loops.F l) (st l 0) := runF_step (by
  dsimp only [flow_Loops.F]
  rw [if_neg (by rw [Bool.or_eq_true, decide_eq_true_eq, decide_eq_true_eq]; omega), contains_may hlen hw]
  have : (l.any fun x => !may x) = false := by
   rw [List.any_eq_false]; intro x hx; simp [hm x hx]
  rw [this]; rfl)
 rw [e0]
 obtain ⟨h1, h2⟩ := loops_steps n2 hm
 by_cases hg : ∀ k, k < l.length → good (KK l) k
 case neg => exact ⟨fun h => absurd h.1.1 hg, fun _ => h2 hg⟩
 rw [h1 hg]
 have hlast : l.length - 1 < l.length := by omega
 have wl : IntKind.i64.wrap ((l.length : Int) - 1) = ((l.length - 1 : Nat) : Int) := wrap_pred _ (by omega) (by omega)
 have m4 := (opn_mem (KK l) l.length hg).2.2
 have e1 : flow_Loops.F l (st l l.length) = ((if ((opn (KK l) l.length).length : Int) > 0 then (some true) else some (!((decide (l[l.length - 1].Op = 31)) || (decide (l[l.length - 1].Op = 32))))).bind fun t92 => (if t92 = true then (some true) else ((flow_jumps.f l ((OL (KK l) l.length).map (gF l))).bind fun t95 => some (!t95))).bind fun t96 => if t96 = true then (flow_Loops.j1 l) else (some (.inr ((srt128 ((OL (KK l) l.length).map (gF l)).toArray).toList, 0)))) := by
  dsimp only [flow_Loops.F, st]
  rw [if_neg (by omega), wl, elt_lt hlast, if_pos (show ((OL (KK l) l.length).map (gF l)).length < 4611686018427387904 by have := OL_le (KK l) l.length; simp; omega)]
  simp only [Option.bind_some, flow_last.f]
 have lasteq : lastOk l ↔ (l[l.length - 1].Op = 31 ∨ l[l.length - 1].Op = 32) := by
  unfold lastOk
  constructor
  ·intro h; exact h _ (List.getElem?_eq_getElem hlast)
  ·intro h x hx; rw [List.getElem?_eq_getElem hlast] at hx; cases hx; exact h
 by_cases hS : opn (KK l) l.length = []
 case neg =>
  refine ⟨fun h => absurd h.1.2 hS, fun _ => runF_end ?_⟩
  rw [e1, if_pos (by cases ho : opn (KK l) l.length with | nil => exact absurd ho hS | cons => simp)]
  rfl
 have hrun : Run (KK l) l.length := ⟨hg, hS⟩
 obtain ⟨o1, o2⟩ := run_pairs hrun
 rw [hS] at e1
 rw [if_neg (by simp)] at e1
 simp only [Option.bind_some] at e1
 by_cases hL : lastOk l
 case neg =>
  refine ⟨fun h => absurd h.2.1 hL, fun _ => runF_end ?_⟩
  rw [e1, if_pos (by have := mt lasteq.2 hL; simp; omega)]
  rfl
 rw [if_neg (by have := lasteq.1 hL; simp; omega)] at e1
 obtain ⟨j1, j2⟩ := prog_jumps (R := fun x => Pr (KK l) l.length x.1 x.2) n2 (Nat.le_trans (OL_le _ _) n2) (mem_OL o2)
 by_cases hJ : Jm l fun x => Pr (KK l) l.length x.1 x.2
 ·refine ⟨fun _ => runF_end ?_, fun h => absurd ⟨hrun, hL, hJ⟩ h⟩
  rw [e1, j1 hJ]
  simp only [Option.bind_some, Bool.not_true, Bool.false_eq_true, if_false]
  obtain ⟨sp, ss⟩ := srt128_ok ((OL (KK l) l.length).map (gF l)).toArray
  rw [sorted_RL (key := fun x : flow_Loop => x.From) (g := gF l) (fun _ => rfl) o1 o2 sp ss]
 ·refine ⟨fun h => absurd h.2.2 hJ, fun _ => runF_end ?_⟩
  rw [e1, j2 hJ]
  rfl
end FlowPure
namespace FlowPure
theorem ms2 (x y : Int) : ([x, y].mergeSort fun x y => decide (x ≤ y)) = if x ≤ y then [x, y] else [y, x] := by
 by_cases h : x ≤ y
 ·rw [if_pos h]
  exact List.mergeSort_of_pairwise (by simp [h])
 ·rw [if_neg h]
  have hp : [x, y].mergeSort (fun x y => decide (x ≤ y)) = [y, x].mergeSort (fun x y => decide (x ≤ y)) := by
   have p1 := (List.mergeSort_perm [x, y] fun x y => decide (x ≤ y)).trans ((List.Perm.swap y x []).trans (List.mergeSort_perm [y, x] fun x y => decide (x ≤ y)).symm)
   refine List.Perm.eq_of_pairwise (le := fun a b => a ≤ b) (fun a b _ _ h1 h2 => Int.le_antisymm h1 h2) ?_ ?_ p1
   ·exact (List.pairwise_mergeSort (le := fun x y => decide (x ≤ y)) (fun a b c h1 h2 => by simp at *; omega) (fun a b => by simp; omega) _).imp fun h => by simpa using h
   ·exact (List.pairwise_mergeSort (le := fun x y => decide (x ≤ y)) (fun a b c h1 h2 => by simp at *; omega) (fun a b => by simp; omega) _).imp fun h => by simpa using h
  rw [hp]
  exact List.mergeSort_of_pairwise (by simp; omega)
theorem ct2 (x y : Int) : Lib.compact [x, y] = if x = y then [x] else [x, y] := by
 by_cases h : x = y
 ·subst h; simp [Lib.compact, Lib.compactUpTo, Lib.keeps, List.range_succ]
 ·simp [Lib.compact, Lib.compactUpTo, Lib.keeps, List.range_succ, h, Ne.symm h]
theorem ct1 (x : Int) : Lib.compact [x] = [x] := by simp [Lib.compact, Lib.compactUpTo, Lib.keeps, List.range_succ]
theorem ct0 : Lib.compact ([] : List Int) = [] := by simp [Lib.compact, Lib.compactUpTo]
def ways (l : List api_Instr) (a : Nat) : List Int := match l[a]? with
 | none => []
 | some x => if x.Op = 31 ∨ x.Op = 32 then [] else if x.Op = 26 then [x.A] else if x.Op = 27 then (if x.A = ((a + 1 : Nat) : Int) then [x.A] else [((a + 1 : Nat) : Int), x.A]) else if x.Op = 29 then [x.A + 1, ((a + 1 : Nat) : Int)] else [((a + 1 : Nat) : Int)]
theorem j2_ways (l : List api_Instr) (a : Int) (s : List Int) (h : s.length < 4611686018427387904) : flow_Ways.j2 l a s = some (Lib.compact (s.mergeSort fun x y => decide (x ≤ y)), 0) := by
 unfold flow_Ways.j2
 rw [if_pos h, if_pos (by rw [List.length_mergeSort]; exact h)]
theorem leads_eq (n : Fin 33) : op_Leads.f (n.1 : Int) = some (decide (n.1 = 26 ∨ n.1 = 27 ∨ n.1 = 29)) := by
 revert n; decide +kernel
theorem op_lt {i : api_Instr} (hw : wf_api_Instr i) (h : may i = true) : 0 ≤ i.Op ∧ i.Op < 33 := by
 obtain ⟨h0, h1⟩ := wf_op hw
 refine ⟨h0, ?_⟩
 rcases Int.lt_or_le i.Op 33 with z | z
 ·exact z
 ·unfold may op_Bounds.f op_Known.f at h
  rw [wrap_id (by omega) (by omega)] at h
  simp only [Option.bind_some] at h
  rw [if_pos (by simp; omega)] at h
  simp at h
  omega
theorem prog_ways {l : List api_Instr} (hlen : l.length < 4611686018427387904) (hw : ∀ x ∈ l, wf_api_Instr x) :
    (∀ a, ¬ Known l → flow_Ways.f l a = some ([], 40)) ∧ (∀ a, Known l → ¬ Fine l → flow_Ways.f l a = some ([], 90)) ∧ (∀ a : Int, Known l → Fine l → (a < 0 ∨ a ≥ l.length) → flow_Ways.f l a = some ([], 2)) ∧ (∀ a : Nat, Known l → Fine l → a < l.length → flow_Ways.f l a = some (ways l a, 0)) := by
 obtain ⟨a1, a2, a3⟩ := prog_loops hlen hw
 unfold flow_Ways.f flow_Check.f
 refine ⟨fun a h => ?_, fun a h hf => ?_, fun a h hf ha => ?_, fun a h hf ha => ?_⟩
 ·rw [a1 h]; rfl
 ·rw [a3 h hf]; rfl
 ·rw [a2 h hf]
  simp only [Option.bind_some]
  rw [if_neg (by simp), if_pos (by rw [Bool.or_eq_true, decide_eq_true_eq, decide_eq_true_eq]; exact ha)]
 ·rw [a2 h hf]
  simp only [Option.bind_some]
  rw [if_neg (by simp), if_neg (by rw [Bool.or_eq_true, decide_eq_true_eq, decide_eq_true_eq]; omega), elt_lt ha]
  simp only [Option.bind_some]
  have hm := h.2.2 _ (List.getElem_mem ha)
  have hop := op_lt (hw _ (List.getElem_mem ha)) hm
  have hJ := hf.2.2 a ha
  have hn := h.2.1
  unfold ways
  rw [List.getElem?_eq_getElem ha]
  dsimp only
  generalize hx : l[a] = x at hm hop
  have hgoes : op_Goes.f x.Op = some (decide (x.Op ≠ 26 ∧ x.Op ≠ 31 ∧ x.Op ≠ 32)) := by
   unfold op_Goes.f op_Known.f
   rw [wrap_id (by omega) (by omega)]
   simp only [Option.bind_some]
   congr 1
   rw [Bool.eq_iff_iff]
   simp only [Bool.and_eq_true, decide_eq_true_eq]
   omega
  have hleads : op_Leads.f x.Op = some (decide (x.Op = 26 ∨ x.Op = 27 ∨ x.Op = 29)) := by
   obtain ⟨n, hn⟩ := Int.eq_ofNat_of_zero_le hop.1
   have := leads_eq ⟨n, by omega⟩
   dsimp only at this
   rw [hn]
   have e : (n : Int) = (Int.ofNat n) := rfl
   rw [this]
   congr 1
   rw [Bool.eq_iff_iff, decide_eq_true_eq, decide_eq_true_eq]
   omega
  have wa : IntKind.i64.wrap ((a : Int) + 1) = ((a + 1 : Nat) : Int) := wrap_succ a (by omega)
  rw [hgoes]
  simp only [Option.bind_some]
  rw [wa, if_pos (show (([] : List Int).length + [((a + 1 : Nat) : Int)].length) * 8 ≤ 140737488355328 by simp)]
  unfold flow_Ways.j1
  rw [hleads]
  simp only [Option.bind_some, List.nil_append]
  by_cases h31 : x.Op = 31 ∨ x.Op = 32
  ·rw [if_neg (by rw [decide_eq_true_eq]; omega), if_neg (by omega), if_neg (by rw [decide_eq_true_eq]; omega), if_pos h31, j2_ways _ _ _ (by simp)]
   simp [ct0]
  ·rw [if_neg h31]
   by_cases h26 : x.Op = 26
   ·have hp := may_place hm (.inl h26)
    rw [if_neg (by rw [decide_eq_true_eq]; omega), if_neg (by omega), if_pos (by rw [decide_eq_true_eq]; omega), if_pos h26, if_pos (by simp), j2_ways _ _ _ (by simp)]
    simp [ct1]
   ·rw [if_pos (by rw [decide_eq_true_eq]; omega), if_neg h26]
    by_cases h29 : x.Op = 29
    ·have hp := may_place hm (.inr (.inr h29))
     have hA : x.A < a := by
      have hk : KK l a = .again x.A.toNat := by rw [KK_at ha, hx, if_neg (by omega), if_pos h29]
      obtain ⟨T, hT⟩ := again_mem hf.1.1 ha hk
      have := ((opn_mem (KK l) a fun j hj => hf.1.1 j (by omega)).1 x.A.toNat).1 (by rw [hT]; simp)
      omega
     have wA : IntKind.i64.wrap (x.A + 1) = x.A + 1 := wrap_id (by omega) (by omega)
     rw [if_pos h29, if_pos (by simp), if_neg (by omega), if_pos h29, wA, j2_ways _ _ _ (by simp)]
     simp only [List.singleton_append]
     rw [ms2, if_neg (by omega), ct2, if_neg (by omega)]
    ·rw [if_neg h29, if_neg h29]
     by_cases h27 : x.Op = 27
     ·have hj := (hJ x (by rw [List.getElem?_eq_getElem ha, hx]) (.inr h27)).1
      rw [if_pos (by rw [decide_eq_true_eq]; omega), if_pos h27, if_pos (by simp), j2_ways _ _ _ (by simp)]
      simp only [List.singleton_append]
      rw [ms2, if_pos (by omega), ct2]
      by_cases e : x.A = ((a + 1 : Nat) : Int)
      ·rw [if_pos e.symm, if_pos e, e]
      ·rw [if_neg (Ne.symm e), if_neg e]
     ·rw [if_neg (by rw [decide_eq_true_eq]; omega), if_neg h27, j2_ways _ _ _ (by simp)]
      simp [ct1]
end FlowPure
namespace FlowPure
def goodB (K : Nat → Kn) (i : Nat) : Bool := match K i with
 | .loop => decide ((opn K i).length < 4)
 | .again a => decide ((opn K i).head? = some a)
 | .other => true
theorem goodB_iff {K : Nat → Kn} {i : Nat} : goodB K i = true ↔ good K i := by
 unfold goodB good
 cases K i <;> simp
def fineB (l : List api_Instr) : Bool :=
 ((List.range l.length).all (goodB (KK l)) && (opn (KK l) l.length).isEmpty) && ((match l[l.length - 1]? with | some x => decide (x.Op = 31 ∨ x.Op = 32) | none => true) &&
  (List.range l.length).all fun k => match l[k]? with
   | some x => if x.Op = 26 ∨ x.Op = 27 then decide ((k : Int) < x.A) && decide (x.A < l.length) && (RL (KK l) l.length).all fun y => decide ((y.1 : Int) < x.A → x.A ≤ y.2 → y.1 < k ∧ k ≤ y.2) else true
   | none => true)
theorem fineB_iff {l : List api_Instr} : fineB l = true ↔ Fine l := by
 unfold fineB Fine Run
 rw [Bool.and_eq_true, Bool.and_eq_true, Bool.and_eq_true]
 refine and_congr (and_congr ?_ (by simp)) (and_congr ?_ ?_)
 ·rw [List.all_eq_true]
  constructor
  ·intro h i hi; exact goodB_iff.1 (h i (List.mem_range.2 hi))
  ·intro h i hi; exact goodB_iff.2 (h i (List.mem_range.1 hi))
 ·unfold lastOk
  cases h : l[l.length - 1]? with
  | none => simp
  | some x => simp
 ·unfold Jm
  rw [List.all_eq_true]
  constructor
  ·intro h k hk x hx hop
   have := h k (List.mem_range.2 hk)
   rw [hx] at this
   dsimp only at this
   rw [if_pos hop, Bool.and_eq_true, Bool.and_eq_true, decide_eq_true_eq, decide_eq_true_eq, List.all_eq_true] at this
   refine ⟨this.1.1, this.1.2, fun y hy a b => ?_⟩
   have := this.2 y ((mem_RL y).2 hy)
   rw [decide_eq_true_eq] at this
   exact this a b
  ·intro h k hk
   have := h k (List.mem_range.1 hk)
   cases hx : l[k]? with
   | none => rfl
   | some x =>
    dsimp only
    by_cases hop : x.Op = 26 ∨ x.Op = 27
    ·have := this x hx hop
     rw [if_pos hop, Bool.and_eq_true, Bool.and_eq_true, decide_eq_true_eq, decide_eq_true_eq, List.all_eq_true]
     refine ⟨⟨this.1, this.2.1⟩, fun y hy => ?_⟩
     rw [decide_eq_true_eq]
     exact this.2.2 y ((mem_RL y).1 hy)
    ·rw [if_neg hop]
instance (x : api_Instr) : Decidable (wf_api_Instr x) := by unfold wf_api_Instr; infer_instance
def knownB (l : List api_Instr) : Bool := decide (1 ≤ l.length) && decide (l.length ≤ 200) && l.all fun x => may x && decide (wf_api_Instr x)
theorem knownB_ok {l : List api_Instr} (h : knownB l = true) : Known l ∧ (∀ x ∈ l, wf_api_Instr x) ∧ l.length < 4611686018427387904 := by
 unfold knownB at h
 rw [Bool.and_eq_true, Bool.and_eq_true, decide_eq_true_eq, decide_eq_true_eq, List.all_eq_true] at h
 refine ⟨⟨h.1.1, h.1.2, fun x hx => ?_⟩, fun x hx => ?_, by omega⟩
 ·have := h.2 x hx; rw [Bool.and_eq_true] at this; exact this.1
 ·have := h.2 x hx; rw [Bool.and_eq_true, decide_eq_true_eq] at this; exact this.2
end FlowPure
namespace FlowPure
def WF (l : List api_Instr) (a : Nat) (x : api_Instr) (W : List Int) : Prop :=
 (W.length = 0 ↔ (x.Op = 31 ∨ x.Op = 32)) ∧ W.length ≤ 2 ∧ ∀ i (hi : i < W.length), 0 ≤ W[i] ∧ W[i] < l.length ∧ (W[i] ≤ a → x.Op = 29 ∧ W[i] = x.A + 1) ∧ (∀ h : 0 < i, W[i - 1] < W[i]) ∧
     ∀ y : Nat × Nat, Pr (KK l) l.length y.1 y.2 → (y.1 : Int) < W[i] → W[i] ≤ y.2 → y.1 ≤ a ∧ a ≤ y.2
theorem ways_facts {l : List api_Instr} (hk : Known l) (hf : Fine l) {a : Nat} (ha : a < l.length) : WF l a l[a] (ways l a) := by
 obtain ⟨o1, o2⟩ := run_pairs hf.1
 obtain ⟨-, -, hN, -⟩ := (run_iff (R := RL (KK l) l.length) fun h => ⟨fun x => mem_RL x, RL_nodup h⟩).1 hf.1
 have hJ := hf.2.2 a ha
 have hm := hk.2.2 _ (List.getElem_mem ha)
 have hlast : ¬ (l[a].Op = 31 ∨ l[a].Op = 32) → a + 1 < l.length := by
  intro h
  rcases Nat.lt_or_ge (a + 1) l.length with z | z
  ·exact z
  ·have e : l.length - 1 = a := by omega
   have := hf.2.1 l[a] (by rw [e, List.getElem?_eq_getElem ha])
   exact absurd this h
 have hag : l[a].Op = 29 → 0 ≤ l[a].A ∧ l[a].A < a ∧ KK l a = .again l[a].A.toNat := by
  intro h29
  have hp := may_place hm (.inr (.inr h29))
  have hkk : KK l a = .again l[a].A.toNat := by rw [KK_at ha, if_neg (by omega), if_pos h29]
  obtain ⟨T, hT⟩ := again_mem hf.1.1 ha hkk
  have := ((opn_mem (KK l) a fun j hj => hf.1.1 j (by omega)).1 l[a].A.toNat).1 (by rw [hT]; simp)
  exact ⟨hp.1, by omega, hkk⟩
 have hnext : ∀ x : Nat × Nat, Pr (KK l) l.length x.1 x.2 → (x.1 : Int) < ((a + 1 : Nat) : Int) → ((a + 1 : Nat) : Int) ≤ x.2 → x.1 ≤ a ∧ a ≤ x.2 := fun x _ h1 h2 => by omega
 have hjmp : (l[a].Op = 26 ∨ l[a].Op = 27) → (a : Int) < l[a].A ∧ l[a].A < l.length ∧ ∀ x : Nat × Nat, Pr (KK l) l.length x.1 x.2 → (x.1 : Int) < l[a].A → l[a].A ≤ x.2 → x.1 ≤ a ∧ a ≤ x.2 := by
  intro h
  have := hJ _ (List.getElem?_eq_getElem ha) h
  exact ⟨this.1, this.2.1, fun x hx h1 h2 => by have := this.2.2 x hx h1 h2; omega⟩
 have hback : l[a].Op = 29 → ∀ x : Nat × Nat, Pr (KK l) l.length x.1 x.2 → (x.1 : Int) < l[a].A + 1 → l[a].A + 1 ≤ x.2 → x.1 ≤ a ∧ a ≤ x.2 := by
  intro h29 x hx h1 h2
  obtain ⟨q1, q2, q3⟩ := hag h29
  obtain ⟨b1, b2⟩ := o2 a _ ha q3
  have pa : Pr (KK l) l.length l[a].A.toNat a := ⟨b1, ha, b2, q3⟩
  refine ⟨by omega, ?_⟩
  by_cases e : x.1 = l[a].A.toNat
  ·obtain ⟨t0, -, -, hu⟩ := o1 _ pa.1 b2
   have e1 := hu _ pa
   have e2 := hu x.2 (by rw [← e]; exact hx)
   omega
  ·exact hN _ _ _ _ hx pa (by omega) (by omega)
 have hway : ways l a = if l[a].Op = 31 ∨ l[a].Op = 32 then [] else if l[a].Op = 26 then [l[a].A] else if l[a].Op = 27 then (if l[a].A = ((a + 1 : Nat) : Int) then [l[a].A] else [((a + 1 : Nat) : Int), l[a].A]) else if l[a].Op = 29 then [l[a].A + 1, ((a + 1 : Nat) : Int)] else [((a + 1 : Nat) : Int)] := by
  unfold ways
  rw [List.getElem?_eq_getElem ha]
 rw [hway]
 clear hway
 generalize l[a] = x at *
 by_cases h31 : x.Op = 31 ∨ x.Op = 32
 ·rw [if_pos h31]
  exact ⟨by simpa using h31, by simp, fun i hi => by simp at hi⟩
 ·have hl := hlast h31
  rw [if_neg h31]
  have one : ∀ w : Int, (0 ≤ w ∧ w < l.length ∧ (w ≤ a → x.Op = 29 ∧ w = x.A + 1) ∧ ∀ y : Nat × Nat, Pr (KK l) l.length y.1 y.2 → (y.1 : Int) < w → w ≤ y.2 → y.1 ≤ a ∧ a ≤ y.2) → WF l a x [w] := by
   intro w hw
   refine ⟨by simpa using h31, by simp, fun i hi => ?_⟩
   obtain rfl : i = 0 := by simpa using hi
   exact ⟨hw.1, hw.2.1, hw.2.2.1, fun h => absurd h (by omega), hw.2.2.2⟩
  have two : ∀ v w : Int, v < w → (0 ≤ v ∧ v < l.length ∧ (v ≤ a → x.Op = 29 ∧ v = x.A + 1) ∧ ∀ y : Nat × Nat, Pr (KK l) l.length y.1 y.2 → (y.1 : Int) < v → v ≤ y.2 → y.1 ≤ a ∧ a ≤ y.2) → (0 ≤ w ∧ w < l.length ∧ (w ≤ a → x.Op = 29 ∧ w = x.A + 1) ∧ ∀ y : Nat × Nat, Pr (KK l) l.length y.1 y.2 → (y.1 : Int) < w → w ≤ y.2 → y.1 ≤ a ∧ a ≤ y.2) → WF l a x [v, w] := by
   intro v w hlt hv hw
   refine ⟨by simpa using h31, by simp, fun i hi => ?_⟩
   rcases i with _ | _ | i
   ·exact ⟨hv.1, hv.2.1, hv.2.2.1, fun h => absurd h (by omega), hv.2.2.2⟩
   ·exact ⟨hw.1, hw.2.1, hw.2.2.1, fun _ => hlt, hw.2.2.2⟩
   ·simp at hi; omega
  by_cases h26 : x.Op = 26
  ·rw [if_pos h26]
   obtain ⟨j1, j2, j3⟩ := hjmp (.inl h26)
   exact one _ ⟨by omega, j2, fun h => by omega, j3⟩
  ·rw [if_neg h26]
   by_cases h27 : x.Op = 27
   ·rw [if_pos h27]
    obtain ⟨j1, j2, j3⟩ := hjmp (.inr h27)
    by_cases e : x.A = ((a + 1 : Nat) : Int)
    ·rw [if_pos e]
     exact one _ ⟨by omega, j2, fun h => by omega, j3⟩
    ·rw [if_neg e]
     exact two _ _ (by omega) ⟨by omega, by omega, fun h => by omega, hnext⟩ ⟨by omega, j2, fun h => by omega, j3⟩
   ·rw [if_neg h27]
    by_cases h29 : x.Op = 29
    ·rw [if_pos h29]
     obtain ⟨q1, q2, q3⟩ := hag h29
     exact two _ _ (by omega) ⟨by omega, by omega, fun _ => ⟨h29, rfl⟩, hback h29⟩ ⟨by omega, by omega, fun h => by omega, hnext⟩
    ·rw [if_neg h29]
     exact one _ ⟨by omega, by omega, fun h => by omega, hnext⟩
end FlowPure
namespace TypesPure
open FlowPure
theorem concat2 {x y : List Int} (h : x.length + y.length ≤ 140737488355328) : slices_Concat_uint8_uint8.f [x, y] = some (x ++ y) := by
 unfold slices_Concat_uint8_uint8.f
 have w1 : IntKind.i64.wrap ((0 : Int) + (x.length : Int)) = x.length := by rw [wrap_id (by omega) (by omega)]; omega
 have w2 : IntKind.i64.wrap ((x.length : Int) + (y.length : Int)) = ((x.length + y.length : Nat) : Int) := by rw [wrap_id (by omega) (by omega)]; omega
 have i1 : IntKind.i64.wrap ((0 : Int) + 1) = 1 := by decide
 have i2 : IntKind.i64.wrap ((1 : Int) + 1) = 2 := by decide
 rw [runF_step (t := .l1 0 0) rfl, runF_step (t := .l1 (x.length : Int) 1), runF_step (t := .l1 ((x.length + y.length : Nat) : Int) 2), runF_step (t := .l2 [] 0), runF_step (t := .l2 x 1), runF_step (t := .l2 (x ++ y) 2), runF_end]
 ·dsimp only [slices_Concat_uint8_uint8.F]; rw [if_neg (by simp)]
 ·dsimp only [slices_Concat_uint8_uint8.F]; rw [if_pos (by simp), show elt [x, y] 1 = some y from rfl]; simp only [Option.bind_some]; rw [if_pos (by omega), i2]
 ·dsimp only [slices_Concat_uint8_uint8.F]; rw [if_pos (by simp), show elt [x, y] 0 = some x from rfl]; simp only [Option.bind_some]; rw [if_pos (by simp; omega), i1]; rfl
 ·dsimp only [slices_Concat_uint8_uint8.F]; rw [if_neg (by simp), if_pos (by omega)]
 ·dsimp only [slices_Concat_uint8_uint8.F]; rw [if_pos (by simp), show elt [x, y] 1 = some y from rfl]; simp only [Option.bind_some]; rw [w2, if_neg (by omega)]; unfold slices_Concat_uint8_uint8.j1; rw [w2, i2]
 ·dsimp only [slices_Concat_uint8_uint8.F]; rw [if_pos (by simp), show elt [x, y] 0 = some x from rfl]; simp only [Option.bind_some]; rw [w1, if_neg (by omega)]; unfold slices_Concat_uint8_uint8.j1; rw [w1, i1]
theorem clone8 {x : List Int} (h : x.length ≤ 140737488355328) : slices_Clone_uint8_uint8.f x = some x := by
 unfold slices_Clone_uint8_uint8.f
 rw [nilOr_same (by rintro rfl; rfl), if_pos (by simp; omega)]; rfl
theorem cloneRows {x : List types_Row} (h : x.length ≤ 200) : slices_Clone_types_Row_types_Row.f x = some x := by
 unfold slices_Clone_types_Row_types_Row.f
 rw [nilOr_same (by rintro rfl; rfl), if_pos (by simp; omega)]; rfl
theorem repeat2 (a : Int) : slices_Repeat_uint8_uint8.f [a] 2 = some [a, a] := by
 unfold slices_Repeat_uint8_uint8.f
 have m : math_bits_Mul.f (IntKind.u64.wrap (([a] : List Int).length : Int)) (IntKind.u64.wrap 2) = some (0, 2) := by show math_bits_Mul.f (IntKind.u64.wrap 1) (IntKind.u64.wrap 2) = some (0, 2); decide +kernel
 have w2 : IntKind.i64.wrap 2 = 2 := by decide
 rw [runF_step (t := .l1 [a, 0] 1), runF_step (t := .l1 [a, a] 2), runF_end]
 ·dsimp only [slices_Repeat_uint8_uint8.F]; rw [if_neg (by simp)]
 ·dsimp only [slices_Repeat_uint8_uint8.F]; rw [if_pos (by simp), if_pos (by simp), if_pos (by simp)]; rfl
 ·dsimp only [slices_Repeat_uint8_uint8.F]
  rw [if_neg (by omega)]
  unfold slices_Repeat_uint8_uint8.j1
  rw [m]
  simp only [Option.bind_some]
  rw [if_neg (by decide)]
  unfold slices_Repeat_uint8_uint8.j2
  dsimp only
  rw [w2, if_pos (by omega)]; rfl
theorem same8 {x y : List Int} (h : x.length < 4611686018427387904) : slices_Equal_uint8_uint8.f x y = some (decide (x = y)) := by
 unfold slices_Equal_uint8_uint8.f
 by_cases hl : x.length = y.length
 ·rw [runF_step (t := .l1 ((0 : Nat) : Int)) (by dsimp only [slices_Equal_uint8_uint8.F]; rw [if_neg (by omega)]; rfl)]
  obtain ⟨r, hr, hc⟩ := runF_scan (F := slices_Equal_uint8_uint8.F x y) (n := x.length) (b := true) (a := fun _ => false) (fun k => .l1 (k : Int)) (fun k => decide (x[k]? ≠ y[k]?)) (fun k hk => by
   have hk' : k < y.length := by omega
   dsimp only [slices_Equal_uint8_uint8.F]
   rw [if_pos (by omega), elt_lt hk, elt_lt hk', List.getElem?_eq_getElem hk, List.getElem?_eq_getElem hk']
   simp only [Option.bind_some, Option.some.injEq, ne_eq, wrap_succ k (by omega), decide_eq_true_eq]
   by_cases e : x[k] = y[k]
   ·rw [if_neg (by simpa using e), if_neg (by simpa using e)]
   ·rw [if_pos (by simpa using e), if_pos (by simpa using e)]) (by dsimp only [slices_Equal_uint8_uint8.F]; rw [if_neg (by omega)])
  rw [hr]
  congr 1
  rcases hc with ⟨k, hk, hp, rfl⟩ | ⟨hn, rfl⟩
  ·rw [eq_comm, decide_eq_false_iff_not]
   rintro rfl; simp at hp
  ·rw [eq_comm, decide_eq_true_eq]
   refine List.ext_getElem? fun k => ?_
   rcases Nat.lt_or_ge k x.length with z | z
   ·have := hn k z; simpa using this
   ·rw [List.getElem?_eq_none z, List.getElem?_eq_none (by omega)]
 ·rw [runF_end (r := false) (by dsimp only [slices_Equal_uint8_uint8.F]; rw [if_pos (by omega)])]
  congr 1
  rw [eq_comm, decide_eq_false_iff_not]
  rintro rfl; exact hl rfl
structure TE where
 G : List api_Value
 P : List api_Value
 M : List api_Method
 res : Int
 K : List Int
def there (E : TE) (i : api_Instr) : Bool := if i.Op = 1 then decide (i.A < E.P.length) else if i.Op = 2 ∨ i.Op = 3 then decide (i.A < E.K.length) else if i.Op = 4 ∨ i.Op = 5 then decide (i.A < E.G.length) else if i.Op = 30 then decide (i.A < E.M.length) else true
theorem there_eq (E : TE) (mig : Int) (ar lo : List Int) (re : Bool) (fu sta he : Int) (co : List api_Instr) (i : api_Instr) : types_look_there_s1.f E.G E.P E.M mig ar lo E.res re fu sta he co E.K i = some (there E i) := by
 unfold types_look_there_s1.f types_look_there_s1.j2 types_look_there_s1.j3 types_look_there_s1.j1 there
 by_cases h1 : i.Op = 1
 ·simp [h1]
 ·by_cases h2 : i.Op = 2
  ·simp [h2]
  ·by_cases h3 : i.Op = 3
   ·simp [h3]
   ·by_cases h4 : i.Op = 4
    ·simp [h4]
    ·by_cases h5 : i.Op = 5
     ·simp [h5]
     ·by_cases h6 : i.Op = 30
      ·simp [h6]
      ·simp [h1, h2, h3, h4, h5, h6]
theorem contains_there {E : TE} {mig : Int} {ar lo : List Int} {re : Bool} {fu sta he : Int} {co l : List api_Instr} (hl : l.length < 4611686018427387904) : slices_ContainsFunc_api_Instr_api_Instr_s3.f l E.G E.P E.M mig ar lo E.res re fu sta he co E.K = some (l.any fun x => !there E x) := by
 unfold slices_ContainsFunc_api_Instr_api_Instr_s3.f slices_IndexFunc_api_Instr_api_Instr_s3.f
 rw [runF_step (t := .l1 ((0 : Nat) : Int)) rfl]
 obtain ⟨r, hr, hc⟩ := runF_scan (F := slices_IndexFunc_api_Instr_api_Instr_s3.F l E.G E.P E.M mig ar lo E.res re fu sta he co E.K) (n := l.length) (b := -1) (a := fun k => (k : Int)) (fun k => .l1 (k : Int)) (fun k => if h : k < l.length then !there E l[k] else false) (fun k hk => by
  dsimp only [slices_IndexFunc_api_Instr_api_Instr_s3.F]
  rw [if_pos (by omega), elt_lt hk]
  simp only [Option.bind_some]
  unfold types_Rows_1_s1.f
  rw [there_eq]
  simp only [Option.bind_some, dif_pos hk, wrap_succ k (by omega)]
  cases there E l[k] <;> rfl) (by dsimp only [slices_IndexFunc_api_Instr_api_Instr_s3.F]; rw [if_neg (by omega)])
 rw [hr]
 simp only [Option.bind_some]
 congr 1
 rw [Bool.eq_iff_iff]
 simp only [decide_eq_true_eq, List.any_eq_true]
 rcases hc with ⟨k, hk, hp, rfl⟩ | ⟨hn, rfl⟩
 ·rw [dif_pos hk] at hp
  exact ⟨fun _ => ⟨_, List.getElem_mem hk, hp⟩, fun _ => by omega⟩
 ·refine ⟨fun h => by omega, fun ⟨x, hx, hp⟩ => ?_⟩
  obtain ⟨k, hk, rfl⟩ := List.mem_iff_getElem.1 hx
  have := hn k hk
  rw [dif_pos hk, hp] at this; cases this
theorem may_named {i : api_Instr} (hw : wf_api_Instr i) (h : may i = true) (ho : i.Op = 1 ∨ i.Op = 2 ∨ i.Op = 3 ∨ i.Op = 4 ∨ i.Op = 5 ∨ i.Op = 30) : 0 ≤ i.A := by
 unfold may at h
 have e : (op_Bounds.f i.Op).map (·.1) = some 0 := by rcases ho with e | e | e | e | e | e <;> rw [e] <;> decide +kernel
 cases hb : op_Bounds.f i.Op with
 | none => rw [hb] at e; cases e
 | some b =>
  rw [hb] at e h
  simp at e h; omega
def At {α : Type} (xs : List α) (d : α) (a : Int) : α := xs[a.toNat]?.getD d
theorem elt_At {α : Type} {xs : List α} {a : Int} (d : α) (h0 : 0 ≤ a) (h1 : a < xs.length) : elt xs a = some (At xs d a) := by
 have : a.toNat < xs.length := by omega
 rw [elt_int h0 this]
 simp [At, this]
def named (E : TE) (i : api_Instr) : Int := if i.Op = 1 then (At E.P api_Value.zero i.A).Kind else if i.Op = 4 ∨ i.Op = 5 then (At E.G api_Value.zero i.A).Kind else At E.K 0 i.A
theorem named_eq {E : TE} {mig : Int} {ar lo : List Int} {re : Bool} {fu sta he : Int} {co : List api_Instr} {rows : List types_Row} {i : api_Instr} (hw : wf_api_Instr i) (hm : may i = true) (ht : there E i = true) (ho : i.Op = 1 ∨ i.Op = 2 ∨ i.Op = 3 ∨ i.Op = 4 ∨ i.Op = 5) :
    types_look_named_s1.f E.G E.P E.M mig ar lo E.res re fu sta he co E.K rows i = some (named E i, rows) := by
 have h0 := may_named hw hm (by omega)
 unfold types_look_named_s1.f types_look_named_s1.j1 named
 unfold there at ht
 rcases ho with e | e | e | e | e
 ·simp only [e, if_true, decide_eq_true_eq] at ht ⊢
  rw [elt_At api_Value.zero h0 ht]; rfl
 ·simp [e] at ht ⊢
  rw [elt_At 0 h0 ht]; rfl
 ·simp [e] at ht ⊢
  rw [elt_At 0 h0 ht]; rfl
 ·simp [e] at ht ⊢
  rw [elt_At api_Value.zero h0 ht]; rfl
 ·simp [e] at ht ⊢
  rw [elt_At api_Value.zero h0 ht]; rfl
end TypesPure
namespace TypesPure
open FlowPure
def ofOk (n : Nat) (o : Option (op_Shape × Bool)) : Bool := match o with
 | none => false
 | some s => if s.2 = true then decide (s.1.Takes.length ≤ 3 ∧ s.1.Gives.length ≤ 2) && decide (n ≠ 31) else decide (s.1.Takes = [] ∧ s.1.Gives = []) && decide (n = 1 ∨ n = 2 ∨ n = 3 ∨ n = 4 ∨ n = 5 ∨ n = 7 ∨ n = 8 ∨ n = 30 ∨ n = 31)
theorem of_all (n : Fin 33) : ofOk n.1 (op_Of.f (n.1 : Int)) = true := by revert n; decide +kernel
theorem of_some {x : Int} (h0 : 0 ≤ x) (h1 : x < 33) : ∃ s : op_Shape × Bool, op_Of.f x = some s ∧ ((s.2 = true ∧ s.1.Takes.length ≤ 3 ∧ s.1.Gives.length ≤ 2 ∧ x ≠ 31) ∨ (s = (⟨[], []⟩, false) ∧ (x = 1 ∨ x = 2 ∨ x = 3 ∨ x = 4 ∨ x = 5 ∨ x = 7 ∨ x = 8 ∨ x = 30 ∨ x = 31))) := by
 obtain ⟨n, rfl⟩ := Int.eq_ofNat_of_zero_le h0
 have := of_all ⟨n, by omega⟩
 dsimp only at this
 cases ho : op_Of.f (n : Int) with
 | none => rw [ho] at this; cases this
 | some s =>
  rw [ho] at this
  refine ⟨s, rfl, ?_⟩
  unfold ofOk at this
  dsimp only at this
  by_cases hs : s.2 = true
  ·rw [if_pos hs, Bool.and_eq_true, decide_eq_true_eq, decide_eq_true_eq] at this
   exact .inl ⟨hs, this.1.1, this.1.2, by omega⟩
  ·rw [if_neg hs, Bool.and_eq_true, decide_eq_true_eq, decide_eq_true_eq] at this
   obtain ⟨⟨t, g⟩, b⟩ := s
   obtain ⟨⟨rfl, rfl⟩, h⟩ := this
   simp only [Bool.not_eq_true] at hs
   subst hs
   exact .inr ⟨rfl, by omega⟩
def two (row : List Int) : List Int := row.drop (row.length - 2)
def shapeC (E : TE) (i : api_Instr) (row : List Int) : List Int × List Int := match op_Of.f i.Op with
 | none => ([], [])
 | some s => if s.2 = true then (s.1.Takes, s.1.Gives)
  else if i.Op = 1 ∨ i.Op = 2 ∨ i.Op = 4 then ([], [named E i])
  else if i.Op = 3 ∨ i.Op = 5 then ([named E i], [])
  else if i.Op = 30 then ((At E.M api_Method.zero i.A).Args, [(At E.M api_Method.zero i.A).Result])
  else if i.Op = 31 then ([E.res], [])
  else if i.Op = 8 then ([0, 0], (two row).reverse)
  else ([0], if row = [] then [] else [row.getLastD 0, row.getLastD 0])
theorem two_len (row : List Int) : (two row).length ≤ 2 := by unfold two; simp; omega
theorem two_last {row : List Int} (h : row ≠ []) : (two row).drop ((two row).length - 1) = [row.getLastD 0] := by
 have hp : 0 < row.length := List.length_pos_iff.2 h
 have e : row = row.dropLast ++ [row.getLast h] := (List.dropLast_concat_getLast h).symm
 have hl : row.getLastD 0 = row.getLast h := by rw [List.getLastD_eq_getLast?, List.getLast?_eq_some_getLast h]; rfl
 unfold two
 rw [List.drop_drop, List.length_drop, hl]
 have : row.length - 2 + (row.length - (row.length - 2) - 1) = row.dropLast.length := by rw [List.length_dropLast]; omega
 rw [this]
 conv => lhs; rw [e]
 rw [List.drop_left' (by simp)]
theorem shape_eq {E : TE} {mig : Int} {ar lo : List Int} {re : Bool} {fu sta he : Int} {co : List api_Instr} {rows : List types_Row} {i : api_Instr} {row : List Int} (hw : wf_api_Instr i) (hm : may i = true) (ht : there E i = true) (hrow : row.length ≤ 100000) :
    types_look_shape_s1.f E.G E.P E.M mig ar lo E.res re fu sta he co E.K rows i row = some (⟨(shapeC E i row).1, (shapeC E i row).2⟩, rows) := by
 obtain ⟨o0, o1⟩ := op_lt hw hm
 obtain ⟨s, hs, h⟩ := of_some o0 o1
 unfold types_look_shape_s1.f shapeC
 rw [hs]
 simp only [Option.bind_some]
 rcases h with ⟨h2, -, -, -⟩ | ⟨rfl, ho⟩
 ·rw [if_pos h2, if_pos h2]
 ·simp only [Bool.false_eq_true, if_false]
  have w : IntKind.i64.wrap ((row.length : Int) - 2) = (row.length : Int) - 2 := wrap_id (by omega) (by omega)
  have e : (if (IntKind.i64.wrap ((row.length : Int) - 2)) > 0 then IntKind.i64.wrap ((row.length : Int) - 2) else 0 : Int) = ((row.length - 2 : Nat) : Int) := by rw [w]; split <;> omega
  rw [e, if_pos (by omega)]
  have et : ((row.length - 2 : Nat) : Int).toNat = row.length - 2 := by omega
  rw [et, clone8 (by simp; omega)]
  simp only [Option.bind_some]
  change (if i.Op = 1 then types_look_shape_s1.j3 _ _ _ _ _ _ _ _ _ _ _ _ _ _ _ _ _ (two row) _ else _) = _
  have hj : ∀ b : Bool, b = decide (i.Op = 1 ∨ i.Op = 2 ∨ i.Op = 4) → types_look_shape_s1.j3 E.G E.P E.M mig ar lo E.res re fu sta he co E.K rows i row (⟨[], []⟩, false) (two row) b = some (⟨(if i.Op = 1 ∨ i.Op = 2 ∨ i.Op = 4 then ([], [named E i])
   else if i.Op = 3 ∨ i.Op = 5 then ([named E i], [])
   else if i.Op = 30 then ((At E.M api_Method.zero i.A).Args, [(At E.M api_Method.zero i.A).Result])
   else if i.Op = 31 then ([E.res], [])
   else if i.Op = 8 then ([0, 0], (two row).reverse)
   else ([0], if row = [] then [] else [row.getLastD 0, row.getLastD 0]) : List Int × List Int).1, (if i.Op = 1 ∨ i.Op = 2 ∨ i.Op = 4 then ([], [named E i])
   else if i.Op = 3 ∨ i.Op = 5 then ([named E i], [])
   else if i.Op = 30 then ((At E.M api_Method.zero i.A).Args, [(At E.M api_Method.zero i.A).Result])
   else if i.Op = 31 then ([E.res], [])
   else if i.Op = 8 then ([0, 0], (two row).reverse)
   else ([0], if row = [] then [] else [row.getLastD 0, row.getLastD 0]) : List Int × List Int).2⟩, rows) := by
   rintro b rfl
   unfold types_look_shape_s1.j3
   by_cases h124 : i.Op = 1 ∨ i.Op = 2 ∨ i.Op = 4
   ·rw [if_pos (by simpa using h124), named_eq hw hm ht (by omega), if_pos h124]; rfl
   ·rw [if_neg (by simpa using h124), if_neg h124]
    have hj4 : ∀ b : Bool, b = decide (i.Op = 3 ∨ i.Op = 5) → types_look_shape_s1.j4 E.G E.P E.M mig ar lo E.res re fu sta he co E.K rows i row (⟨[], []⟩, false) (two row) b = some (⟨(if i.Op = 3 ∨ i.Op = 5 then ([named E i], [])
     else if i.Op = 30 then ((At E.M api_Method.zero i.A).Args, [(At E.M api_Method.zero i.A).Result])
     else if i.Op = 31 then ([E.res], [])
     else if i.Op = 8 then ([0, 0], (two row).reverse)
     else ([0], if row = [] then [] else [row.getLastD 0, row.getLastD 0]) : List Int × List Int).1, (if i.Op = 3 ∨ i.Op = 5 then ([named E i], [])
     else if i.Op = 30 then ((At E.M api_Method.zero i.A).Args, [(At E.M api_Method.zero i.A).Result])
     else if i.Op = 31 then ([E.res], [])
     else if i.Op = 8 then ([0, 0], (two row).reverse)
     else ([0], if row = [] then [] else [row.getLastD 0, row.getLastD 0]) : List Int × List Int).2⟩, rows) := by
     rintro b rfl
     unfold types_look_shape_s1.j4
     by_cases h35 : i.Op = 3 ∨ i.Op = 5
     ·rw [if_pos (by simpa using h35), named_eq hw hm ht (by omega), if_pos h35]; rfl
     ·rw [if_neg (by simpa using h35), if_neg h35]
      by_cases h30 : i.Op = 30
      ·have a0 := may_named hw hm (by omega)
       have a1 : i.A < E.M.length := by simpa [there, h30] using ht
       rw [if_pos h30, if_pos h30, elt_At api_Method.zero a0 a1]; rfl
      ·rw [if_neg h30, if_neg h30]
       by_cases h31 : i.Op = 31
       ·rw [if_pos h31, if_pos h31]; rfl
       ·rw [if_neg h31, if_neg h31]
        by_cases h8 : i.Op = 8
        ·have := two_len row
         rw [if_pos h8, if_pos h8, if_pos (by omega), if_pos (by simp)]; rfl
        ·rw [if_neg h8, if_neg h8]
         by_cases h7 : i.Op = 7
         ·rw [if_pos h7]
          by_cases hr : row = []
          ·subst hr; rfl
          ·have hp : 0 < row.length := List.length_pos_iff.2 hr
           have t1 := two_len row
           have t2 : 0 < (two row).length := by unfold two; simp; omega
           have w1 : IntKind.i64.wrap (((two row).length : Int) - 1) = (((two row).length - 1 : Nat) : Int) := by rw [wrap_id (by omega) (by omega)]; omega
           rw [if_pos (by omega), w1, if_pos (by omega), if_neg hr]
           have et : (((two row).length - 1 : Nat) : Int).toNat = (two row).length - 1 := by omega
           rw [et, two_last hr, repeat2]; rfl
         ·omega
    by_cases h3 : i.Op = 3
    ·rw [if_pos h3]; exact hj4 _ (by simp [h3])
    ·rw [if_neg h3]; exact hj4 _ (by simp [h3])
  by_cases h1 : i.Op = 1
  ·rw [if_pos h1]; exact hj _ (by simp [h1])
  ·rw [if_neg h1]
   by_cases h2 : i.Op = 2
   ·rw [if_pos h2]; exact hj _ (by simp [h2])
   ·rw [if_neg h2]; exact hj _ (by simp [h1, h2])
theorem gives_len {E : TE} {i : api_Instr} {row : List Int} (hw : wf_api_Instr i) (hm : may i = true) : (shapeC E i row).2.length ≤ 2 := by
 obtain ⟨o0, o1⟩ := op_lt hw hm
 obtain ⟨s, hs, h⟩ := of_some o0 o1
 have := two_len row
 unfold shapeC
 rw [hs]
 dsimp only
 rcases h with ⟨h2, -, h3, -⟩ | ⟨rfl, ho⟩
 ·rw [if_pos h2]; exact h3
 ·rw [if_neg (by simp)]
  split
  ·simp
  ·split
   ·simp
   ·split
    ·simp
    ·split
     ·simp
     ·split
      ·simpa using this
      ·dsimp only; split <;> simp
theorem takes_len {E : TE} {i : api_Instr} {row : List Int} (hw : wf_api_Instr i) (hm : may i = true) (hM : ∀ m ∈ E.M, m.Args.length < 4611686018427387904) : (shapeC E i row).1.length < 4611686018427387904 := by
 obtain ⟨o0, o1⟩ := op_lt hw hm
 obtain ⟨s, hs, h⟩ := of_some o0 o1
 unfold shapeC
 rw [hs]
 dsimp only
 rcases h with ⟨h2, h3, -, -⟩ | ⟨rfl, ho⟩
 ·rw [if_pos h2]; dsimp only; omega
 ·rw [if_neg (by simp)]
  split
  ·simp
  ·split
   ·simp
   ·split
    ·unfold At
     dsimp only
     rcases Nat.lt_or_ge i.A.toNat E.M.length with z | z
     ·rw [List.getElem?_eq_getElem z]; exact hM _ (List.getElem_mem z)
     ·rw [List.getElem?_eq_none z]; simp [api_Method.zero]
    ·split
     ·simp
     ·split
      ·simp
      ·simp
def takesB (t row : List Int) : Bool := (t.zip (row.drop (row.length - t.length))).all fun x => decide (x.1 = 0 ∨ x.1 = x.2)
def afterC (E : TE) (i : api_Instr) (row : List Int) : List Int × Int := if row.length < (shapeC E i row).1.length then ([], 101) else if takesB (shapeC E i row).1 row = true then (row.take (row.length - (shapeC E i row).1.length) ++ (shapeC E i row).2, 0) else ([], 100)
theorem after_eq {E : TE} {mig : Int} {ar lo : List Int} {re : Bool} {fu sta he : Int} {co : List api_Instr} {rows : List types_Row} {i : api_Instr} {row : List Int} (hw : wf_api_Instr i) (hm : may i = true) (ht : there E i = true) (hrow : row.length ≤ 100000) (hM : ∀ m ∈ E.M, m.Args.length < 4611686018427387904) :
    types_look_after_s1.f E.G E.P E.M mig ar lo E.res re fu sta he co E.K rows i row = some (afterC E i row, rows) := by
 have hg := gives_len (E := E) (row := row) hw hm
 have htk := takes_len (E := E) (row := row) hw hm hM
 unfold types_look_after_s1.f afterC
 have hs := shape_eq (mig := mig) (ar := ar) (lo := lo) (re := re) (fu := fu) (sta := sta) (he := he) (co := co) (rows := rows) hw hm ht hrow
 generalize shapeC E i row = sh at hg htk hs ⊢
 obtain ⟨t, g⟩ := sh
 dsimp only at hg htk hs ⊢
 have w : IntKind.i64.wrap ((row.length : Int) - (t.length : Int)) = (row.length : Int) - t.length := wrap_id (by omega) (by omega)
 by_cases hlt : row.length < t.length
 ·rw [if_pos hlt, runF_end]
  dsimp only [types_look_after_s1.F]
  rw [hs]
  simp only [Option.bind_some]
  rw [w, if_pos (by omega)]
 ·rw [if_neg hlt, runF_step (t := .l1 (⟨t, g⟩, rows) ((0 : Nat) : Int))]
  ·obtain ⟨r, hr, hc⟩ := runF_scan (F := types_look_after_s1.F E.G E.P E.M mig ar lo E.res re fu sta he co E.K rows i row) (n := t.length) (b := ((row.take (row.length - t.length) ++ g, 0), rows)) (a := fun _ => (([], 100), rows)) (fun k => .l1 (⟨t, g⟩, rows) (k : Int)) (fun k => match (t.zip (row.drop (row.length - t.length)))[k]? with | some x => !decide (x.1 = 0 ∨ x.1 = x.2) | none => false) (fun k hk => by
    dsimp only [types_look_after_s1.F]
    have hk2 : row.length - t.length + k < row.length := by omega
    have w2 : IntKind.i64.wrap ((row.length : Int) - t.length + k) = ((row.length - t.length + k : Nat) : Int) := by rw [wrap_id (by omega) (by omega)]; omega
    rw [if_pos (by omega), elt_lt hk, w, w2, elt_lt hk2]
    simp only [Option.bind_some, wrap_succ k (by omega)]
    rw [List.getElem?_eq_getElem (by simp; omega), List.getElem_zip, List.getElem_drop]
    dsimp only
    by_cases h0 : t[k] = 0
    ·simp [h0]
    ·by_cases h1 : t[k] = row[row.length - t.length + k]
     ·simp [h1]
     ·simp [h0, h1]) (by
    dsimp only [types_look_after_s1.F]
    have et : ((row.length : Int) - t.length).toNat = row.length - t.length := by omega
    rw [if_neg (by omega), w, if_pos (by omega), et, concat2 (by simp; omega)]; rfl)
   rw [hr]
   congr 1
   unfold takesB
   rcases hc with ⟨k, hk, hp, rfl⟩ | ⟨hn, rfl⟩
   ·rw [if_neg]
    intro hall
    rw [List.all_eq_true] at hall
    split at hp
    ·rename_i x hx
     have := hall x (List.mem_of_getElem? hx)
     rw [this] at hp; cases hp
    ·cases hp
   ·rw [if_pos]
    rw [List.all_eq_true]
    intro x hx
    obtain ⟨k, hk, hx⟩ := List.mem_iff_getElem.1 hx
    have h2 := hn k (by simp at hk; omega)
    rw [List.getElem?_eq_getElem hk, hx] at h2
    dsimp only at h2
    rw [Bool.not_eq_false'] at h2
    exact h2
  ·dsimp only [types_look_after_s1.F]
   rw [hs]
   simp only [Option.bind_some]
   rw [w, if_neg (by omega)]; rfl
theorem after_len {E : TE} {i : api_Instr} {row : List Int} (hw : wf_api_Instr i) (hm : may i = true) : (afterC E i row).1.length ≤ row.length + 2 := by
 have hg := gives_len (E := E) (row := row) hw hm
 unfold afterC
 split
 ·simp
 ·split
  ·simp; omega
  ·simp
end TypesPure
namespace TypesPure
open FlowPure
def R0 : types_Row := types_Row.zero
def put (next : List Int) : List types_Row → List Int → Int × List types_Row
 | rows, [] => (0, rows)
 | rows, w :: ws => if (At rows R0 w).Reached = true ∧ (At rows R0 w).Kinds ≠ next then (100, rows) else put next (rows.set w.toNat ⟨true, next⟩) ws
def placeC (E : TE) (l : List api_Instr) (rows : List types_Row) (a : Nat) : Int × List types_Row :=
 if (At rows R0 a).Reached = true then (if (afterC E (At l api_Instr.zero a) (At rows R0 a).Kinds).2 ≠ 0 then ((afterC E (At l api_Instr.zero a) (At rows R0 a).Kinds).2, rows) else put (afterC E (At l api_Instr.zero a) (At rows R0 a).Kinds).1 rows (FlowPure.ways l a)) else (0, rows)
theorem At_nat {α : Type} {xs : List α} {d : α} {a : Nat} (h : a < xs.length) : At xs d (a : Int) = xs[a] := by
 unfold At
 rw [show ((a : Int).toNat) = a from by omega, List.getElem?_eq_getElem h]; rfl
structure Well (E : TE) (l : List api_Instr) : Prop where
 known : Known l
 fine : Fine l
 wf : ∀ x ∈ l, wf_api_Instr x
 th : ∀ x ∈ l, there E x = true
 M : ∀ m ∈ E.M, m.Args.length < 4611686018427387904
def Sz (k : Nat) (rows : List types_Row) : Prop := rows.length = 200 ∧ ∀ r ∈ rows, r.Kinds.length ≤ 2 * k
theorem put_sz {k : Nat} {next : List Int} (hn : next.length ≤ 2 * k) : ∀ (ws : List Int) (rows : List types_Row), Sz k rows → Sz k (put next rows ws).2
 | [], rows, h => h
 | w :: ws, rows, h => by
  unfold put
  split
  ·exact h
  ·refine put_sz hn ws _ ⟨by rw [List.length_set]; exact h.1, fun r hr => ?_⟩
   rcases List.mem_or_eq_of_mem_set hr with hr | rfl
   ·exact h.2 r hr
   ·exact hn
theorem At_mem {α : Type} {xs : List α} {d : α} {a : Int} {p : α → Prop} (hd : p d) (h : ∀ x ∈ xs, p x) : p (At xs d a) := by
 unfold At
 rcases Nat.lt_or_ge a.toNat xs.length with z | z
 ·rw [List.getElem?_eq_getElem z]; exact h _ (List.getElem_mem z)
 ·rw [List.getElem?_eq_none z]; exact hd
theorem place_sz {E : TE} {l : List api_Instr} (W : Well E l) {k : Nat} (hk : k < l.length) {rows : List types_Row} (h : Sz k rows) : Sz (k + 1) (placeC E l rows k).2 := by
 have h' : Sz (k + 1) rows := ⟨h.1, fun r hr => by have := h.2 r hr; omega⟩
 unfold placeC
 split
 ·split
  ·exact h'
  ·refine put_sz ?_ _ _ h'
   have hm := W.known.2.2 _ (List.getElem_mem hk)
   have hw := W.wf _ (List.getElem_mem hk)
   rw [At_nat hk]
   have := after_len (E := E) (row := (At rows R0 (k : Int)).Kinds) hw hm
   have h2 : (At rows R0 (k : Int)).Kinds.length ≤ 2 * k := At_mem (p := fun r : types_Row => r.Kinds.length ≤ 2 * k) (by simp [R0, types_Row.zero]) h.2
   omega
 ·exact h'
theorem place_eq {E : TE} {mig : Int} {ar lo : List Int} {re : Bool} {fu sta he : Int} {l : List api_Instr} (W : Well E l) {rows : List types_Row} {k : Nat} (hk : k < l.length) (h : Sz k rows) :
    types_look_place_s1.f E.G E.P E.M mig ar lo E.res re fu sta he l E.K rows (k : Int) = some (placeC E l rows k) := by
 have hn : l.length ≤ 200 := W.known.2.1
 have hm := W.known.2.2 _ (List.getElem_mem hk)
 have hw := W.wf _ (List.getElem_mem hk)
 have ht := W.th _ (List.getElem_mem hk)
 have hk2 : k < rows.length := by rw [h.1]; omega
 have hr : rows[k].Kinds.length ≤ 2 * k := h.2 _ (List.getElem_mem hk2)
 have ha := after_eq (mig := mig) (ar := ar) (lo := lo) (re := re) (fu := fu) (sta := sta) (he := he) (co := l) (rows := rows) hw hm ht (row := rows[k].Kinds) (by omega) W.M
 have hl := after_len (E := E) (row := rows[k].Kinds) hw hm
 have hws := (prog_ways (by omega) W.wf).2.2.2 k W.known W.fine hk
 unfold types_look_place_s1.f placeC
 rw [At_nat hk2, At_nat hk]
 by_cases hre : rows[k].Reached = true
 ·rw [if_pos hre]
  by_cases hq : (afterC E l[k] rows[k].Kinds).2 ≠ 0
  ·rw [if_pos hq, runF_end]
   dsimp only [types_look_place_s1.F]
   rw [elt_lt hk2]
   simp only [Option.bind_some]
   rw [if_neg (by simp [hre]), elt_lt hk]
   simp only [Option.bind_some]
   rw [ha]
   simp only [Option.bind_some]
   rw [if_pos hq]
  ·rw [if_neg hq, runF_step (t := .l1 (afterC E l[k] rows[k].Kinds, rows) (FlowPure.ways l k, 0) rows ((0 : Nat) : Int)) (by
    dsimp only [types_look_place_s1.F]
    rw [elt_lt hk2]
    simp only [Option.bind_some]
    rw [if_neg (by simp [hre]), elt_lt hk]
    simp only [Option.bind_some]
    rw [ha]
    simp only [Option.bind_some]
    rw [if_neg hq, hws]; rfl)]
   have hf := ways_facts W.known W.fine hk
   have key : ∀ (ws : List Int) (j : Nat) (rs : List types_Row), (FlowPure.ways l k).drop j = ws → rs.length = 200 → (∀ r ∈ rs, r.Kinds.length ≤ 2 * k + 2) → runF (types_look_place_s1.F E.G E.P E.M mig ar lo E.res re fu sta he l E.K rows k) (.l1 (afterC E l[k] rows[k].Kinds, rows) (FlowPure.ways l k, 0) rs (j : Int)) = some (put (afterC E l[k] rows[k].Kinds).1 rs ws) := by
    intro ws
    induction ws with
    | nil =>
     intro j rs hd hrs _
     have hj : (FlowPure.ways l k).length ≤ j := by simpa using hd
     refine runF_end ?_
     dsimp only [types_look_place_s1.F]
     rw [if_neg (by omega)]; rfl
    | cons w ws ih =>
     intro j rs hd hrs hsz
     have hj : j < (FlowPure.ways l k).length := by
      rcases Nat.lt_or_ge j (FlowPure.ways l k).length with z | z
      ·exact z
      ·rw [List.drop_eq_nil_of_le z] at hd; cases hd
     have hw' : (FlowPure.ways l k)[j] = w := by
      have := congrArg (fun z => z[0]?) hd
      simp [List.getElem?_eq_getElem hj] at this
      exact this
     obtain ⟨w0, w1, -⟩ := hf.2.2 j hj
     rw [hw'] at w0 w1
     have hle := hf.2.1
     unfold put
     have hel : elt rs w = some (At rs R0 w) := elt_At R0 w0 (by rw [hrs]; omega)
     have hs8 : slices_Equal_uint8_uint8.f (At rs R0 w).Kinds (afterC E l[k] rows[k].Kinds).1 = some (decide ((At rs R0 w).Kinds = (afterC E l[k] rows[k].Kinds).1)) := same8 (by
      have : (At rs R0 w).Kinds.length ≤ 2 * k + 2 := At_mem (p := fun r : types_Row => r.Kinds.length ≤ 2 * k + 2) (by simp [R0, types_Row.zero]) hsz
      omega)
     have step : ∀ b : Bool, b = decide ((At rs R0 w).Reached = true ∧ (At rs R0 w).Kinds ≠ (afterC E l[k] rows[k].Kinds).1) → types_look_place_s1.F E.G E.P E.M mig ar lo E.res re fu sta he l E.K rows k (.l1 (afterC E l[k] rows[k].Kinds, rows) (FlowPure.ways l k, 0) rs (j : Int)) = if b = true then some (.inr (100, rs)) else some (.inl (.l1 (afterC E l[k] rows[k].Kinds, rows) (FlowPure.ways l k, 0) (rs.set w.toNat ⟨true, (afterC E l[k] rows[k].Kinds).1⟩) ((j + 1 : Nat) : Int))) := by
      rintro b rfl
      dsimp only [types_look_place_s1.F]
      rw [if_pos (by omega), elt_lt hj, hw']
      simp only [Option.bind_some]
      rw [hel]
      simp only [Option.bind_some, wrap_succ j (by omega)]
      rw [hs8]
      by_cases q1 : (At rs R0 w).Reached = true
      ·by_cases q2 : (At rs R0 w).Kinds = (afterC E l[k] rows[k].Kinds).1
       ·simp [q1, q2]
       ·simp [q1, q2]
      ·simp [q1]
     by_cases hc : (At rs R0 w).Reached = true ∧ (At rs R0 w).Kinds ≠ (afterC E l[k] rows[k].Kinds).1
     ·rw [if_pos hc, runF_end (r := (100, rs))]
      rw [step true (by rw [eq_comm, decide_eq_true_eq]; exact hc), if_pos rfl]
     ·rw [if_neg hc, runF_step (t := .l1 (afterC E l[k] rows[k].Kinds, rows) (FlowPure.ways l k, 0) (rs.set w.toNat ⟨true, (afterC E l[k] rows[k].Kinds).1⟩) ((j + 1 : Nat) : Int))]
      ·refine ih (j + 1) _ ?_ (by rw [List.length_set]; exact hrs) fun r hr => ?_
       ·rw [← List.drop_drop, hd]; rfl
       ·rcases List.mem_or_eq_of_mem_set hr with hr | rfl
        ·exact hsz r hr
        ·dsimp only; omega
      ·rw [step false (by rw [eq_comm, decide_eq_false_iff_not]; exact hc), if_neg (by simp)]
   exact key _ 0 rows rfl h.1 fun r hr => by have := h.2 r hr; omega
 ·rw [if_neg hre, runF_end]
  dsimp only [types_look_place_s1.F]
  rw [elt_lt hk2]
  simp only [Option.bind_some]
  rw [if_pos (by simpa using hre)]
def rows0 : List types_Row := (List.replicate 200 types_Row.zero).set 0 ⟨true, []⟩
def rowsAt (E : TE) (l : List api_Instr) : Nat → Int × List types_Row
 | 0 => (0, rows0)
 | k + 1 => if (rowsAt E l k).1 ≠ 0 then rowsAt E l k else placeC E l (rowsAt E l k).2 k
def rowsC (E : TE) (l : List api_Instr) : List types_Row × Int := if (rowsAt E l l.length).1 ≠ 0 then ([], (rowsAt E l l.length).1) else ((rowsAt E l l.length).2.take l.length, 0)
theorem rowsAt_sz {E : TE} {l : List api_Instr} (W : Well E l) : ∀ k, k ≤ l.length → Sz k (rowsAt E l k).2
 | 0, _ => ⟨by show rows0.length = 200; unfold rows0; rw [List.length_set, List.length_replicate], fun r hr => by
  unfold rowsAt rows0 at hr
  rcases List.mem_or_eq_of_mem_set hr with hr | rfl
  ·rw [List.eq_of_mem_replicate hr]; exact Nat.zero_le _
  ·exact Nat.zero_le _⟩
 | k + 1, hk => by
  have ih := rowsAt_sz W k (by omega)
  unfold rowsAt
  split
  ·exact ⟨ih.1, fun r hr => by have := ih.2 r hr; omega⟩
  ·exact place_sz W hk ih
def envOf (m : api_Module) (x : api_Method) : TE := ⟨m.Globals, m.Pool, m.Methods, x.Result, x.Args ++ x.Locals⟩
end TypesPure
namespace TypesPure
open FlowPure
def l2s (rows : List types_Row) : types_Rows.S := .l2 rows rows 0
theorem clones {m : api_Module} {k : Int} {rows : List types_Row} (h : rows.length ≤ 200) (hs : ∀ r ∈ rows, r.Kinds.length ≤ 1000) : runF (types_Rows.F m k) (l2s rows) = some (rows, 0) := by
 refine (runF_up (F := types_Rows.F m k) (n := rows.length) (fun j => .l2 rows rows (j : Int)) (fun j hj => ?_)).trans (runF_end ?_)
 ·dsimp only [types_Rows.F]
  have := hs _ (List.getElem_mem hj)
  rw [if_pos (by omega), elt_lt hj]
  simp only [Option.bind_some]
  rw [clone8 (by omega)]
  simp only [Option.bind_some, wrap_succ j (by omega)]
  have e : rows.set (j : Int).toNat ({ rows[j] with Kinds := rows[j].Kinds } : types_Row) = rows := by
   rw [show (j : Int).toNat = j from by omega]
   exact List.set_getElem_self hj
  rw [e]
 ·dsimp only [types_Rows.F]
  rw [if_neg (by omega)]
end TypesPure
namespace TypesPure
open FlowPure
theorem rows_well {m : api_Module} {k : Int} {x : api_Method} (h0 : 0 ≤ k) (h1 : k < m.Methods.length) (hx : elt m.Methods k = some x) (W : Well (envOf m x) x.Code) (hlen : x.Args.length + x.Locals.length ≤ 140737488355328) :
    types_Rows.f m k = some (rowsC (envOf m x) x.Code) := by
 have hn : x.Code.length ≤ 200 := W.known.2.1
 have hp : 1 ≤ x.Code.length := W.known.1
 unfold types_Rows.f
 have hck : flow_Check.f x.Code = some 0 := by
  unfold flow_Check.f
  rw [(prog_loops (by omega) W.wf).2.1 W.known W.fine]; rfl
 have hth : slices_ContainsFunc_api_Instr_api_Instr_s3.f x.Code m.Globals m.Pool m.Methods m.Migrate x.Args x.Locals x.Result x.Reads x.Fuel x.Stack x.Heap x.Code (x.Args ++ x.Locals) = some false := by
  refine (contains_there (E := envOf m x) (l := x.Code) (by omega)).trans ?_
  congr 1
  rw [List.any_eq_false]
  intro y hy
  rw [W.th y hy]; simp
 rw [runF_step (t := .l1 x (x.Args ++ x.Locals) rows0 ((0 : Nat) : Int)) (by
  dsimp only [types_Rows.F]
  rw [if_neg (by simp; omega), hx]
  simp only [Option.bind_some]
  rw [hck]
  simp only [Option.bind_some]
  rw [if_neg (by simp), concat2 hlen]
  simp only [Option.bind_some]
  rw [hth]
  simp only [Option.bind_some]
  rfl)]
 have key : ∀ j, j ≤ x.Code.length → runF (types_Rows.F m k) (.l1 x (x.Args ++ x.Locals) rows0 ((0 : Nat) : Int)) = if (rowsAt (envOf m x) x.Code j).1 ≠ 0 then some ([], (rowsAt (envOf m x) x.Code j).1) else runF (types_Rows.F m k) (.l1 x (x.Args ++ x.Locals) (rowsAt (envOf m x) x.Code j).2 (j : Int)) := by
  intro j
  induction j with
  | zero => intro _; rfl
  | succ j ih =>
   intro hj
   rw [ih (by omega)]
   have hz := rowsAt_sz W j (by omega)
   by_cases he : (rowsAt (envOf m x) x.Code j).1 ≠ 0
   ·have e1 : rowsAt (envOf m x) x.Code (j + 1) = rowsAt (envOf m x) x.Code j := by rw [rowsAt, if_pos he]
    rw [e1, if_pos he, if_pos he]
   ·have e1 : rowsAt (envOf m x) x.Code (j + 1) = placeC (envOf m x) x.Code (rowsAt (envOf m x) x.Code j).2 j := by rw [rowsAt, if_neg he]
    rw [e1, if_neg he]
    have hpl := place_eq (mig := m.Migrate) (ar := x.Args) (lo := x.Locals) (re := x.Reads) (fu := x.Fuel) (sta := x.Stack) (he := x.Heap) W (k := j) (by omega) hz
    have hpl : types_look_place_s1.f m.Globals m.Pool m.Methods m.Migrate x.Args x.Locals x.Result x.Reads x.Fuel x.Stack x.Heap x.Code (x.Args ++ x.Locals) (rowsAt (envOf m x) x.Code j).2 (j : Int) = _ := hpl
    generalize placeC (envOf m x) x.Code (rowsAt (envOf m x) x.Code j).2 j = pr at hpl ⊢
    by_cases hq : pr.1 ≠ 0
    ·rw [if_pos hq, runF_end]
     dsimp only [types_Rows.F]
     rw [if_pos (by omega), hpl]
     simp only [Option.bind_some]
     rw [if_pos hq]
    ·rw [if_neg hq]
     refine runF_step ?_
     dsimp only [types_Rows.F]
     rw [if_pos (by omega), hpl]
     simp only [Option.bind_some]
     rw [if_neg hq, wrap_succ j (by omega)]
 rw [key _ (Nat.le_refl _)]
 unfold rowsC
 by_cases he : (rowsAt (envOf m x) x.Code x.Code.length).1 ≠ 0
 ·rw [if_pos he, if_pos he]
 ·rw [if_neg he, if_neg he]
  have hz := rowsAt_sz W _ (Nat.le_refl _)
  have hl : ((rowsAt (envOf m x) x.Code x.Code.length).2.take x.Code.length).length ≤ 200 := by rw [List.length_take]; omega
  rw [runF_step (t := l2s ((rowsAt (envOf m x) x.Code x.Code.length).2.take x.Code.length)) (by
   dsimp only [types_Rows.F]
   rw [if_neg (by omega), if_pos (by omega), show ((x.Code.length : Int)).toNat = x.Code.length from by omega, cloneRows hl]; rfl)]
  exact clones hl fun r hr => by have := hz.2 r (List.mem_of_mem_take hr); omega
theorem rows_else {m : api_Module} {k : Int} {x : api_Method} (h0 : 0 ≤ k) (h1 : k < m.Methods.length) (hx : elt m.Methods k = some x) (hl : x.Code.length < 4611686018427387904) (hw : ∀ i ∈ x.Code, wf_api_Instr i) (hlen : x.Args.length + x.Locals.length ≤ 140737488355328) :
    (¬ Known x.Code → types_Rows.f m k = some ([], 40)) ∧ (Known x.Code → ¬ Fine x.Code → types_Rows.f m k = some ([], 90)) ∧ (Known x.Code → Fine x.Code → (∃ i ∈ x.Code, there (envOf m x) i = false) → types_Rows.f m k = some ([], 100)) := by
 obtain ⟨a1, a2, a3⟩ := prog_loops hl hw
 unfold types_Rows.f
 refine ⟨fun h => ?_, fun h hf => ?_, fun h hf ht => ?_⟩
 ·rw [runF_end]
  dsimp only [types_Rows.F]
  rw [if_neg (by simp; omega), hx]
  simp only [Option.bind_some]
  unfold flow_Check.f
  rw [a1 h]; rfl
 ·rw [runF_end]
  dsimp only [types_Rows.F]
  rw [if_neg (by simp; omega), hx]
  simp only [Option.bind_some]
  unfold flow_Check.f
  rw [a3 h hf]; rfl
 ·have hth : slices_ContainsFunc_api_Instr_api_Instr_s3.f x.Code m.Globals m.Pool m.Methods m.Migrate x.Args x.Locals x.Result x.Reads x.Fuel x.Stack x.Heap x.Code (x.Args ++ x.Locals) = some true := by
   refine (contains_there (E := envOf m x) (l := x.Code) (by omega)).trans ?_
   congr 1
   rw [List.any_eq_true]
   obtain ⟨i, hi, ht⟩ := ht
   exact ⟨i, hi, by rw [ht]; rfl⟩
  rw [runF_end]
  dsimp only [types_Rows.F]
  rw [if_neg (by simp; omega), hx]
  simp only [Option.bind_some]
  unfold flow_Check.f
  rw [a2 h hf]
  simp only [Option.bind_some]
  rw [if_neg (by simp), concat2 hlen]
  simp only [Option.bind_some]
  rw [hth]
  simp only [Option.bind_some]
  rfl
end TypesPure
namespace TypesPure
open FlowPure
def g (rows : List types_Row) (p : Nat) : types_Row := rows[p]?.getD R0
theorem At_g (rows : List types_Row) (w : Int) : At rows R0 w = g rows w.toNat := rfl
theorem g_set {rows : List types_Row} {k p : Nat} {v : types_Row} (h : k < rows.length) : g (rows.set k v) p = if p = k then v else g rows p := by
 unfold g
 by_cases e : p = k
 ·subst e; rw [if_pos rfl, List.getElem?_set_self h]; rfl
 ·rw [if_neg e, List.getElem?_set_ne (by omega)]
structure Put (next : List Int) (rows : List types_Row) (ws : List Int) (rows' : List types_Row) : Prop where
 len : rows'.length = rows.length
 keep : ∀ p, (g rows p).Reached = true → g rows' p = g rows p
 ways : ∀ w ∈ ws, g rows' w.toNat = ⟨true, next⟩
 new : ∀ p, (g rows' p).Reached = true → (g rows p).Reached = true ∨ ∃ w ∈ ws, w.toNat = p
 old : ∀ p, ¬ (g rows' p).Reached = true → g rows' p = g rows p
theorem put_ok {next : List Int} : ∀ (ws : List Int) (rows : List types_Row), (∀ w ∈ ws, w.toNat < rows.length) → (put next rows ws).1 = 0 → Put next rows ws (put next rows ws).2
 | [], rows, _, _ => ⟨rfl, fun _ _ => rfl, fun w hw => by simp at hw, fun p h => .inl h, fun _ _ => rfl⟩
 | w :: ws, rows, hl, h => by
  unfold put at h ⊢
  by_cases hc : (At rows R0 w).Reached = true ∧ (At rows R0 w).Kinds ≠ next
  ·rw [if_pos hc] at h; cases h
  ·rw [if_neg hc] at h ⊢
   have hw : w.toNat < rows.length := hl w (by simp)
   have ih := put_ok ws _ (fun u hu => by rw [List.length_set]; exact hl u (by simp [hu])) h
   have same : (g rows w.toNat).Reached = true → g rows w.toNat = ⟨true, next⟩ := by
    intro hr
    rw [At_g] at hc
    generalize g rows w.toNat = r at hc hr
    obtain ⟨a, b⟩ := r
    dsimp only at hr hc
    subst hr
    have : b = next := by
     refine Classical.byContradiction fun hb => hc ⟨rfl, hb⟩
    rw [this]
   have hs := fun p => g_set (rows := rows) (p := p) (v := (⟨true, next⟩ : types_Row)) hw
   refine ⟨by rw [ih.len, List.length_set], fun p hp => ?_, fun u hu => ?_, fun p hp => ?_, fun p hp => ?_⟩
   ·have e : g (rows.set w.toNat ⟨true, next⟩) p = g rows p := by
     rw [hs]
     by_cases e : p = w.toNat
     ·subst e; rw [if_pos rfl, same hp]
     ·rw [if_neg e]
    rw [ih.keep p (by rw [e]; exact hp), e]
   ·rcases List.mem_cons.1 hu with rfl | hu
    ·have e : g (rows.set u.toNat ⟨true, next⟩) u.toNat = ⟨true, next⟩ := by rw [hs, if_pos rfl]
     rw [ih.keep _ (by rw [e]), e]
    ·exact ih.ways u hu
   ·rcases ih.new p hp with h1 | ⟨u, hu, e⟩
    ·rw [hs] at h1
     by_cases e : p = w.toNat
     ·exact .inr ⟨w, by simp, e.symm⟩
     ·rw [if_neg e] at h1; exact .inl h1
    ·exact .inr ⟨u, by simp [hu], e⟩
   ·have h1 := ih.old p hp
    rw [hs] at h1
    by_cases e : p = w.toNat
    ·rw [if_pos e] at h1; rw [h1] at hp; exact absurd rfl hp
    ·rw [if_neg e] at h1; exact h1
structure Inv (E : TE) (l : List api_Instr) (t : Nat) (rows : List types_Row) : Prop where
 len : rows.length = 200
 r0 : g rows 0 = ⟨true, []⟩
 un : ∀ p, ¬ (g rows p).Reached = true → (g rows p).Kinds = []
 top : ∀ p, (g rows p).Reached = true → p < l.length
 led : ∀ p, (g rows p).Reached = true → p = 0 ∨ ∃ q, q < p ∧ q < t ∧ (g rows q).Reached = true ∧ (p : Int) ∈ FlowPure.ways l q
 done : ∀ q (hq : q < l.length), q < t → (g rows q).Reached = true → (afterC E l[q] (g rows q).Kinds).2 = 0 ∧ ∀ w ∈ FlowPure.ways l q, g rows w.toNat = ⟨true, (afterC E l[q] (g rows q).Kinds).1⟩
theorem back_pair {l : List api_Instr} (hk : Known l) (hf : Fine l) {a : Nat} (ha : a < l.length) (h29 : l[a].Op = 29) : 0 ≤ l[a].A ∧ l[a].A < a ∧ Pr (KK l) l.length l[a].A.toNat a ∧ KK l l[a].A.toNat = .loop := by
 obtain ⟨o1, o2⟩ := run_pairs hf.1
 have hm := hk.2.2 _ (List.getElem_mem ha)
 have hp := may_place hm (.inr (.inr h29))
 have hkk : KK l a = .again l[a].A.toNat := by rw [KK_at ha, if_neg (by omega), if_pos h29]
 obtain ⟨T, hT⟩ := again_mem hf.1.1 ha hkk
 have := ((opn_mem (KK l) a fun j hj => hf.1.1 j (by omega)).1 l[a].A.toNat).1 (by rw [hT]; simp)
 obtain ⟨b1, b2⟩ := o2 a _ ha hkk
 exact ⟨hp.1, by omega, ⟨b1, ha, b2, hkk⟩, b2⟩
theorem ways_loop {l : List api_Instr} {a : Nat} (ha : a < l.length) (h : l[a].Op = 28) : FlowPure.ways l a = [((a + 1 : Nat) : Int)] := by
 unfold FlowPure.ways
 rw [List.getElem?_eq_getElem ha]
 dsimp only
 rw [if_neg (by omega), if_neg (by omega), if_neg (by omega), if_neg (by omega)]
theorem inv_zero {E : TE} {l : List api_Instr} (hl : 1 ≤ l.length) : Inv E l 0 rows0 := by
 have h0 : (0 : Nat) < (List.replicate 200 types_Row.zero).length := by rw [List.length_replicate]; omega
 have hs := fun p => g_set (p := p) (v := (⟨true, []⟩ : types_Row)) h0
 have hz : ∀ p, g (List.replicate 200 types_Row.zero) p = R0 := by
  intro p
  unfold g
  rcases Nat.lt_or_ge p 200 with z | z
  ·rw [List.getElem?_eq_getElem (by rw [List.length_replicate]; exact z), List.getElem_replicate]; rfl
  ·rw [List.getElem?_eq_none (by rw [List.length_replicate]; exact z)]; rfl
 have hg : ∀ p, g rows0 p = if p = 0 then ⟨true, []⟩ else R0 := fun p => by unfold rows0; rw [hs, hz]
 have hr : ∀ p, (g rows0 p).Reached = true → p = 0 := by
  intro p hp
  rw [hg] at hp
  by_cases e : p = 0
  ·exact e
  ·rw [if_neg e] at hp; cases hp
 refine ⟨by unfold rows0; rw [List.length_set, List.length_replicate], by rw [hg, if_pos rfl], fun p hp => ?_, fun p hp => by have := hr p hp; omega, fun p hp => .inl (hr p hp), fun q _ hq => by omega⟩
 rw [hg]; split <;> rfl
theorem inv_step {E : TE} {l : List api_Instr} (W : Well E l) {t : Nat} (ht : t < l.length) {rows : List types_Row} (I : Inv E l t rows) (h : (placeC E l rows t).1 = 0) : Inv E l (t + 1) (placeC E l rows t).2 := by
 have hn : l.length ≤ 200 := W.known.2.1
 unfold placeC at h ⊢
 rw [At_g, show ((t : Int)).toNat = t from by omega, At_nat ht] at h ⊢
 by_cases hre : (g rows t).Reached = true
 ·rw [if_pos hre] at h ⊢
  by_cases he : (afterC E l[t] (g rows t).Kinds).2 ≠ 0
  ·rw [if_pos he] at h; exact absurd h he
  ·rw [if_neg he] at h ⊢
   have he : (afterC E l[t] (g rows t).Kinds).2 = 0 := Classical.not_not.1 he
   have hf := ways_facts W.known W.fine ht
   have hin : ∀ w ∈ FlowPure.ways l t, 0 ≤ w ∧ w < l.length := by
    intro w hw
    obtain ⟨i, hi, rfl⟩ := List.mem_iff_getElem.1 hw
    have := hf.2.2 i hi
    exact ⟨this.1, this.2.1⟩
   have P := put_ok (next := (afterC E l[t] (g rows t).Kinds).1) (FlowPure.ways l t) rows (fun w hw => by have := hin w hw; rw [I.len]; omega) h
   generalize (put (afterC E l[t] (g rows t).Kinds).1 rows (FlowPure.ways l t)).2 = rows' at P ⊢
   -- what a way back leads to was reached
   have back : ∀ w ∈ FlowPure.ways l t, w.toNat ≤ t → (g rows w.toNat).Reached = true := by
    intro w hw hle
    obtain ⟨i, hi, rfl⟩ := List.mem_iff_getElem.1 hw
    obtain ⟨w0, w1, w2, -, -⟩ := hf.2.2 i hi
    obtain ⟨h29, e⟩ := w2 (by omega)
    obtain ⟨a0, a1, pr, kl⟩ := back_pair W.known W.fine ht h29
    have desc : ∀ r, r ≤ t → l[t].A.toNat < r → (g rows r).Reached = true → (g rows l[t].A.toNat).Reached = true := by
     intro r
     induction r using Nat.strongRecOn with
     | _ r ih =>
      intro hr hA hg
      rcases I.led r hg with e0 | ⟨q, q1, q2, q3, q4⟩
      ·omega
      ·have hq : q < l.length := by omega
       obtain ⟨j, hj, ej⟩ := List.mem_iff_getElem.1 q4
       obtain ⟨-, -, -, -, hy⟩ := (ways_facts W.known W.fine hq).2.2 j hj
       have := hy (l[t].A.toNat, t) pr (by rw [ej]; dsimp only; omega) (by rw [ej]; dsimp only; omega)
       dsimp only at this
       by_cases eq : q = l[t].A.toNat
       ·rw [← eq]; exact q3
       ·exact ih q q1 (by omega) (by omega) q3
    have hA := desc t (Nat.le_refl _) (by omega) hre
    have hAl : l[t].A.toNat < l.length := by omega
    have hop : l[l[t].A.toNat].Op = 28 := (loop_iff hAl).1 kl
    have := (I.done _ hAl (by omega) hA).2 ((l[t].A.toNat + 1 : Nat) : Int) (by rw [ways_loop hAl hop]; simp)
    have e2 : (FlowPure.ways l t)[i].toNat = (((l[t].A.toNat + 1 : Nat) : Int)).toNat := by rw [e]; omega
    rw [e2, this]
   have was : ∀ p, p ≤ t → (g rows' p).Reached = true → (g rows p).Reached = true := by
    intro p hp hr
    rcases P.new p hr with h1 | ⟨w, hw, rfl⟩
    ·exact h1
    ·exact back w hw hp
   refine ⟨by rw [P.len, I.len], by rw [P.keep 0 (by rw [I.r0]), I.r0], fun p hp => ?_, fun p hp => ?_, fun p hp => ?_, fun q hq hqt hr => ?_⟩
   ·have e := P.old p hp
    rw [e] at hp ⊢; exact I.un p hp
   ·rcases P.new p hp with h1 | ⟨w, hw, rfl⟩
    ·exact I.top p h1
    ·have := hin w hw; omega
   ·have carry : (g rows p).Reached = true → p = 0 ∨ ∃ q, q < p ∧ q < t + 1 ∧ (g rows' q).Reached = true ∧ (p : Int) ∈ FlowPure.ways l q := by
     intro h1
     rcases I.led p h1 with e | ⟨q, q1, q2, q3, q4⟩
     ·exact .inl e
     ·exact .inr ⟨q, q1, by omega, by rw [P.keep q q3]; exact q3, q4⟩
    rcases P.new p hp with h1 | ⟨w, hw, e⟩
    ·exact carry h1
    ·rcases Nat.lt_or_ge t p with z | z
     ·have := hin w hw
      have ep : (p : Int) = w := by omega
      exact .inr ⟨t, z, by omega, by rw [P.keep t hre]; exact hre, by rw [ep]; exact hw⟩
     ·exact carry (was p z hp)
   ·have h1 := was q (by omega) hr
    rw [P.keep q h1]
    by_cases e : q = t
    ·subst e; exact ⟨he, P.ways⟩
    ·obtain ⟨d1, d2⟩ := I.done q hq (by omega) h1
     refine ⟨d1, fun w hw => ?_⟩
     rw [P.keep _ (by rw [d2 w hw]), d2 w hw]
 ·rw [if_neg hre]
  refine ⟨I.len, I.r0, I.un, I.top, fun p hp => ?_, fun q hq hqt hr => ?_⟩
  ·rcases I.led p hp with e | ⟨q, q1, q2, q3, q4⟩
   ·exact .inl e
   ·exact .inr ⟨q, q1, by omega, q3, q4⟩
  ·by_cases e : q = t
   ·subst e; exact absurd hr hre
   ·exact I.done q hq (by omega) hr
theorem rowsAt_inv {E : TE} {l : List api_Instr} (W : Well E l) : ∀ k, k ≤ l.length → (rowsAt E l k).1 = 0 → Inv E l k (rowsAt E l k).2
 | 0, _, _ => inv_zero W.known.1
 | k + 1, hk, h => by
  unfold rowsAt at h ⊢
  by_cases he : (rowsAt E l k).1 ≠ 0
  ·rw [if_pos he] at h; exact absurd h he
  ·rw [if_neg he] at h ⊢
   exact inv_step W hk (rowsAt_inv W k (by omega) (Classical.not_not.1 he)) h
structure Told (E : TE) (l : List api_Instr) (rows : List types_Row) : Prop where
 len : rows.length = l.length
 r0 : g rows 0 = ⟨true, []⟩
 un : ∀ p, ¬ (g rows p).Reached = true → (g rows p).Kinds = []
 led : ∀ p, (g rows p).Reached = true → p = 0 ∨ ∃ q, q < p ∧ (g rows q).Reached = true ∧ (p : Int) ∈ FlowPure.ways l q
 done : ∀ q (hq : q < l.length), (g rows q).Reached = true → (afterC E l[q] (g rows q).Kinds).2 = 0 ∧ ∀ w ∈ FlowPure.ways l q, g rows w.toNat = ⟨true, (afterC E l[q] (g rows q).Kinds).1⟩
 sz : ∀ r ∈ rows, r.Kinds.length ≤ 400
theorem g_take {rows : List types_Row} {n : Nat} (hu : ∀ p, n ≤ p → g rows p = R0) (p : Nat) : g (rows.take n) p = g rows p := by
 rcases Nat.lt_or_ge p n with z | z
 ·unfold g; rw [List.getElem?_take_of_lt z]
 ·rw [hu p z]; unfold g; rw [List.getElem?_eq_none (by rw [List.length_take]; omega)]; rfl
theorem rows_told {E : TE} {l : List api_Instr} (W : Well E l) (h : (rowsC E l).2 = 0) : Told E l (rowsC E l).1 := by
 have hn : l.length ≤ 200 := W.known.2.1
 unfold rowsC at h ⊢
 by_cases he : (rowsAt E l l.length).1 ≠ 0
 ·rw [if_pos he] at h; exact absurd h he
 ·rw [if_neg he]
  have I := rowsAt_inv W _ (Nat.le_refl _) (Classical.not_not.1 he)
  have S := rowsAt_sz W _ (Nat.le_refl _)
  generalize (rowsAt E l l.length).2 = rows at I S ⊢
  have hu : ∀ p, l.length ≤ p → g rows p = R0 := by
   intro p hp
   have hr : ¬ (g rows p).Reached = true := fun h => by have := I.top p h; omega
   have hk := I.un p hr
   generalize g rows p = r at hr hk ⊢
   obtain ⟨a, b⟩ := r
   dsimp only at hr hk
   subst hk
   rw [Bool.not_eq_true] at hr
   subst hr; rfl
  have e := g_take hu
  refine ⟨by rw [List.length_take, I.len]; omega, by rw [e, I.r0], fun p hp => by rw [e] at hp ⊢; exact I.un p hp, fun p hp => ?_, fun q hq hr => ?_, fun r hr => by have := S.2 r (List.mem_of_mem_take hr); omega⟩
  ·rw [e] at hp
   rcases I.led p hp with e0 | ⟨q, q1, -, q3, q4⟩
   ·exact .inl e0
   ·exact .inr ⟨q, q1, by rw [e]; exact q3, q4⟩
  ·rw [e] at hr ⊢
   obtain ⟨d1, d2⟩ := I.done q hq hq hr
   exact ⟨d1, fun w hw => by rw [e]; exact d2 w hw⟩
end TypesPure
deriving instance DecidableEq for types_Row
namespace TypesPure
open FlowPure
def greatM (x : api_Method) : Bool := decide ((x.Args.length : Int) > 100) || decide ((x.Locals.length : Int) > 100) || decide ((x.Code.length : Int) > 300)
def greatB (m : api_Module) : Bool := ((decide ((m.Globals.length : Int) > 100) || decide ((m.Pool.length : Int) > 100)) || decide ((m.Methods.length : Int) > 40)) || m.Methods.any greatM
theorem great_eq (m : api_Module) : capstanlaw08_Great.f m = some (greatB m) := by
 unfold capstanlaw08_Great.f greatB
 by_cases h : ((decide ((m.Globals.length : Int) > 100) || decide ((m.Pool.length : Int) > 100)) || decide ((m.Methods.length : Int) > 40)) = true
 ·rw [h, runF_end (r := true)]; rfl
  dsimp only [capstanlaw08_Great.F]; rw [if_pos h]
 ·rw [runF_step (t := .l1 ((0 : Nat) : Int)) (by dsimp only [capstanlaw08_Great.F]; rw [if_neg h]; rfl)]
  have hlen : m.Methods.length ≤ 40 := by
   simp only [Bool.not_eq_true, Bool.or_eq_false_iff, decide_eq_false_iff_not] at h; omega
  have h' := h
  rw [Bool.not_eq_true] at h
  rw [h, Bool.false_or]
  obtain ⟨r, hr, hc⟩ := runF_scan (F := capstanlaw08_Great.F m) (n := m.Methods.length) (b := false) (a := fun _ => true) (fun k => .l1 (k : Int)) (fun k => if h : k < m.Methods.length then greatM m.Methods[k] else false) (fun k hk => by
   dsimp only [capstanlaw08_Great.F]
   rw [if_pos (by omega), elt_lt hk]
   simp only [Option.bind_some]
   unfold capstanlaw07_Great.f
   simp only [Option.bind_some, dif_pos hk, wrap_succ k (by omega)]
   unfold greatM
   cases decide ((m.Methods[k].Args.length : Int) > 100) <;> cases decide ((m.Methods[k].Locals.length : Int) > 100) <;> simp <;> split <;> rfl) (by dsimp only [capstanlaw08_Great.F]; rw [if_neg (by omega)])
  rw [hr]
  congr 1
  rcases hc with ⟨k, hk, hp, rfl⟩ | ⟨hn, rfl⟩
  ·rw [dif_pos hk] at hp
   rw [eq_comm, List.any_eq_true]
   exact ⟨_, List.getElem_mem hk, hp⟩
  ·rw [eq_comm, List.any_eq_false]
   intro x hx
   obtain ⟨k, hk, rfl⟩ := List.mem_iff_getElem.1 hx
   have := hn k hk
   rw [dif_pos hk] at this
   rw [this]; simp
structure Small (m : api_Module) : Prop where
 G : m.Globals.length ≤ 100
 P : m.Pool.length ≤ 100
 M : m.Methods.length ≤ 40
 x : ∀ x ∈ m.Methods, x.Args.length ≤ 100 ∧ x.Locals.length ≤ 100 ∧ x.Code.length ≤ 300
theorem small_of {m : api_Module} (h : greatB m = false) : Small m := by
 unfold greatB at h
 simp only [Bool.or_eq_false_iff, decide_eq_false_iff_not, List.any_eq_false] at h
 obtain ⟨⟨⟨h1, h2⟩, h3⟩, h4⟩ := h
 refine ⟨by omega, by omega, by omega, fun x hx => ?_⟩
 have := h4 x hx
 unfold greatM at this
 simp only [Bool.not_eq_true, Bool.or_eq_false_iff, decide_eq_false_iff_not] at this
 omega
def H (rows : List types_Row) : Nat → Int
 | 0 => 0
 | k + 1 => if ((g rows k).Kinds.length : Int) > H rows k then ((g rows k).Kinds.length : Int) else H rows k
theorem H_nonneg (rows : List types_Row) : ∀ k, 0 ≤ H rows k
 | 0 => by simp [H]
 | k + 1 => by have := H_nonneg rows k; unfold H; split <;> omega
theorem g_lt {rows : List types_Row} {k : Nat} (h : k < rows.length) : g rows k = rows[k] := by unfold g; rw [List.getElem?_eq_getElem h]; rfl
theorem height_eq {rows : List types_Row} (h : rows.length < 4611686018427387904) : types_Height.f rows = some (H rows rows.length) := by
 unfold types_Height.f
 rw [runF_step (t := .l1 (H rows 0) ((0 : Nat) : Int)) rfl]
 refine (runF_up (F := types_Height.F rows) (n := rows.length) (fun k => .l1 (H rows k) (k : Int)) (fun k hk => ?_)).trans (runF_end ?_)
 ·dsimp only [types_Height.F]
  rw [if_pos (by omega), elt_lt hk]
  simp only [Option.bind_some, wrap_succ k (by omega)]
  rw [show H rows (k + 1) = if ((g rows k).Kinds.length : Int) > H rows k then ((g rows k).Kinds.length : Int) else H rows k from rfl, g_lt hk]
 ·dsimp only [types_Height.F]
  rw [if_neg (by omega)]
end TypesPure
namespace TypesPure
open FlowPure
end TypesPure
namespace FlowPure
def tm (l : List api_Instr) (R : List (Nat × Nat)) (a : Nat) : Int := R.foldl (fun n x => if x.1 < a ∧ a ≤ x.2 then IntKind.i64.wrap (n * turns l x.1) else n) 1
theorem tm_snoc (l : List api_Instr) (R : List (Nat × Nat)) (x : Nat × Nat) (a : Nat) : tm l (R ++ [x]) a = if x.1 < a ∧ a ≤ x.2 then IntKind.i64.wrap (tm l R a * turns l x.1) else tm l R a := by
 unfold tm; rw [List.foldl_append]; rfl
def tms (l : List api_Instr) : List Int := (List.range l.length).map fun a => tm l (RL (KK l) l.length) a
theorem map_range_set {g : Nat → Int} {n m : Nat} {v : Int} : ((List.range n).map g).set m v = (List.range n).map fun a => if a = m then v else g a := by
 apply List.ext_getElem?
 intro i
 rw [List.getElem?_set]
 by_cases h : m = i
 ·subst h
  rw [if_pos rfl]
  by_cases hm : m < n
  ·rw [if_pos (by simpa using hm)]; simp [hm]
  ·rw [if_neg (by simpa using hm)]; simp [hm]
 ·rw [if_neg h]
  by_cases hm : i < n
  ·simp [hm, Ne.symm h]
  ·simp [hm]
theorem repeat_one {n : Nat} (h1 : 1 ≤ n) (h2 : n ≤ 200) : slices_Repeat_int_int.f [1] n = some (List.replicate n 1) := by
 unfold slices_Repeat_int_int.f
 have wu : IntKind.u64.wrap (n : Int) = n := by
  simp only [IntKind.wrap, IntKind.bits, IntKind.signed]; simp; omega
 have w1 : IntKind.u64.wrap ((([1] : List Int).length : Nat) : Int) = 1 := by
  simp [IntKind.wrap, IntKind.bits, IntKind.signed]
 have hs : slices_Repeat_int_int.F [1] n .start = some (.inl (.l1 (List.replicate 1 1 ++ List.replicate (n - 1) 0) ((1 : Nat) : Int))) := by
  dsimp only [slices_Repeat_int_int.F]
  rw [if_neg (by omega)]
  unfold slices_Repeat_int_int.j1 math_bits_Mul.f
  rw [w1, wu, if_pos (by omega)]
  simp only [Option.bind_some]
  have e1 : (1 * (n : Int) / 18446744073709551616) = 0 := by omega
  have e2 : (1 * (n : Int) % 18446744073709551616) = n := by omega
  rw [e1, e2, if_neg (by rw [Bool.or_eq_true, decide_eq_true_eq, decide_eq_true_eq]; omega)]
  unfold slices_Repeat_int_int.j2
  dsimp only
  rw [wrap_id (by omega) (by omega), if_pos (by omega)]
  have e3 : ((n : Int)).toNat = n := rfl
  rw [e3]
  obtain ⟨m, rfl⟩ : ∃ m, n = m + 1 := ⟨n - 1, by omega⟩
  simp [List.replicate_succ]
 rw [runF_step hs]
 have key : ∀ d x, 1 ≤ x → x + d = n → runF (slices_Repeat_int_int.F [1] n) (.l1 (List.replicate x 1 ++ List.replicate (n - x) 0) (x : Int)) = some (List.replicate n 1) := by
  intro d
  induction d using Nat.strongRecOn with
  | ind d ih =>
   intro x hx hd
   by_cases hz : d = 0
   ·subst hz
    obtain rfl : x = n := by omega
    refine runF_end ?_
    dsimp only [slices_Repeat_int_int.F]
    rw [if_neg (by simp)]
    simp
   ·have hlen : (List.replicate x (1 : Int) ++ List.replicate (n - x) 0).length = n := by simp; omega
    rw [runF_step (t := .l1 (List.replicate (x + min x (n - x)) 1 ++ List.replicate (n - (x + min x (n - x))) 0) ((x + min x (n - x) : Nat) : Int)) ?_]
    ·exact ih (n - (x + min x (n - x))) (by omega) _ (by omega) (by omega)
    ·dsimp only [slices_Repeat_int_int.F]
     rw [hlen, if_pos (by omega), if_pos (by omega), if_pos (by omega)]
     have e3 : ((x : Int)).toNat = x := rfl
     rw [e3, wrap_id (by omega) (by omega)]
     have hc : min x (n - x) ≤ x := Nat.min_le_left _ _
     have hc2 : min x (n - x) ≤ n - x := Nat.min_le_right _ _
     generalize min x (n - x) = c at hc hc2 ⊢
     have t1 : (List.replicate x (1 : Int) ++ List.replicate (n - x) 0).take x = List.replicate x 1 := by
      rw [List.take_append_of_le_length (by simp)]; simp
     have t2 : (List.replicate x (1 : Int) ++ List.replicate (n - x) 0).take c = List.replicate c 1 := by
      rw [List.take_append_of_le_length (by simp; omega)]; simp; omega
     have t3 : (List.replicate x (1 : Int) ++ List.replicate (n - x) 0).drop (x + c) = List.replicate (n - (x + c)) 0 := by
      rw [List.drop_append]; simp; omega
     rw [t1, t2, t3, List.replicate_append_replicate]
     rfl
 exact key (n - 1) 1 (by omega) (by omega)
theorem prog_times {l : List api_Instr} (hlen : l.length < 4611686018427387904) (hw : ∀ x ∈ l, wf_api_Instr x) :
    (¬ Known l → flow_Times.f l = some ([], 40)) ∧ (Known l → Fine l → flow_Times.f l = some (tms l, 0)) ∧ (Known l → ¬ Fine l → flow_Times.f l = some ([], 90)) := by
 obtain ⟨a1, a2, a3⟩ := prog_loops hlen hw
 unfold flow_Times.f
 refine ⟨fun h => runF_end ?_, fun h hf => ?_, fun h hf => runF_end ?_⟩
 ·dsimp only [flow_Times.F]; rw [a1 h]; rfl
 ·obtain ⟨o1, o2⟩ := run_pairs hf.1
  have hR := RL_len o1
  obtain ⟨n1, n2, hm⟩ := h
  rw [runF_step (t := .l1 ((RL (KK l) l.length).map (gF l), 0) (List.replicate l.length 1) ((0 : Nat) : Int)) (by
   dsimp only [flow_Times.F]
   rw [a2 ⟨n1, n2, hm⟩ hf]
   simp only [Option.bind_some]
   rw [if_neg (by simp), repeat_one n1 n2]; rfl)]
  have key := runF_chk (F := flow_Times.F l) (n := (RL (KK l) l.length).length) (b := ([], 0)) (fun q => .l1 ((RL (KK l) l.length).map (gF l), 0) ((List.range l.length).map fun a => tm l ((RL (KK l) l.length).take q) a) (q : Int)) (fun _ => True) (fun q hq _ _ => by
   have hp := (mem_RL _).1 (List.getElem_mem hq)
   obtain ⟨t0, h0, hle, hu⟩ := o1 _ hp.1 hp.2.2.1
   have := hu _ hp
   have e : elt ((RL (KK l) l.length).map (gF l)) (q : Int) = some (gF l (RL (KK l) l.length)[q]) := by rw [elt_lt (by simpa using hq), List.getElem_map]
   generalize hx : (RL (KK l) l.length)[q] = x at hp h0 hle hu this e
   have htl : x.2 < l.length := hp.2.1
   rw [runF_step (t := .l2 ((RL (KK l) l.length).map (gF l), 0) q (gF l x) ((List.range l.length).map fun a => tm l ((RL (KK l) l.length).take q) a) ((x.1 + 1 : Nat) : Int)) (by
    dsimp only [flow_Times.F]
    rw [if_pos (by simp; omega), e]
    simp only [Option.bind_some]
    have : IntKind.i64.wrap ((gF l x).From + 1) = ((x.1 + 1 : Nat) : Int) := wrap_succ x.1 (by omega)
    rw [this])]
   have inner := runF_up (F := flow_Times.F l) (n := x.2 - x.1) (fun j => .l2 ((RL (KK l) l.length).map (gF l), 0) q (gF l x) ((List.range l.length).map fun a => if x.1 < a ∧ a < x.1 + 1 + j then IntKind.i64.wrap (tm l ((RL (KK l) l.length).take q) a * turns l x.1) else tm l ((RL (KK l) l.length).take q) a) ((x.1 + 1 + j : Nat) : Int)) (fun j hj => by
    have e2 : elt ((List.range l.length).map fun a => if x.1 < a ∧ a < x.1 + 1 + j then IntKind.i64.wrap (tm l ((RL (KK l) l.length).take q) a * turns l x.1) else tm l ((RL (KK l) l.length).take q) a) ((x.1 + 1 + j : Nat) : Int) = some (tm l ((RL (KK l) l.length).take q) (x.1 + 1 + j)) := by
     rw [elt_lt (by simp; omega)]
     simp
    dsimp only [flow_Times.F]
    rw [if_pos (by dsimp only [gF]; omega), e2]
    simp only [Option.bind_some]
    have e3 : ((x.1 + 1 + j : Nat) : Int).toNat = x.1 + 1 + j := rfl
    rw [wrap_succ _ (by omega), e3, map_range_set]
    refine congrArg some (congrArg Sum.inl ?_)
    have : ∀ (u v : List Int), u = v → (flow_Times.S.l2 ((RL (KK l) l.length).map (gF l), 0) (q : Int) (gF l x) u ((x.1 + 1 + j + 1 : Nat) : Int)) = .l2 ((RL (KK l) l.length).map (gF l), 0) (q : Int) (gF l x) v ((x.1 + 1 + (j + 1) : Nat) : Int) := by
     rintro u v rfl; rfl
    refine this _ _ (List.map_congr_left fun a ha => ?_)
    by_cases hz : a = x.1 + 1 + j
    ·subst hz
     rw [if_pos rfl, if_pos (by omega)]; rfl
    ·rw [if_neg hz]
     by_cases hz2 : x.1 < a ∧ a < x.1 + 1 + j
     ·rw [if_pos hz2, if_pos (by omega)]
     ·rw [if_neg hz2, if_neg (by omega)])
   have i0 : ((List.range l.length).map fun a => tm l ((RL (KK l) l.length).take q) a) = (List.range l.length).map fun a => if x.1 < a ∧ a < x.1 + 1 + 0 then IntKind.i64.wrap (tm l ((RL (KK l) l.length).take q) a * turns l x.1) else tm l ((RL (KK l) l.length).take q) a := by
    refine List.map_congr_left fun a _ => ?_
    rw [if_neg (by omega)]
   rw [i0]
   refine inner.trans (runF_step ?_)
   dsimp only [flow_Times.F]
   rw [if_neg (by dsimp only [gF]; omega), wrap_succ _ (by omega)]
   refine congrArg some (congrArg Sum.inl ?_)
   have : ∀ (u v : List Int), u = v → (flow_Times.S.l1 ((RL (KK l) l.length).map (gF l), 0) u ((q + 1 : Nat) : Int)) = .l1 ((RL (KK l) l.length).map (gF l), 0) v ((q + 1 : Nat) : Int) := by
    rintro u v rfl; rfl
   refine this _ _ (List.map_congr_left fun a ha => ?_)
   rw [take_succ _ _ hq, tm_snoc, hx]
   by_cases hz : x.1 < a ∧ a ≤ x.2
   ·rw [if_pos hz, if_pos (by omega)]
   ·rw [if_neg hz, if_neg (by omega)]) (fun q _ _ h => absurd trivial h)
  have e0 : List.replicate l.length (1 : Int) = (List.range l.length).map fun a => tm l ((RL (KK l) l.length).take 0) a := by
   apply List.ext_getElem?
   intro i
   by_cases hi : i < l.length
   ·simp [hi, tm]
   ·simp [hi]
  rw [e0]
  refine (key.1 fun _ _ => trivial).trans (runF_end ?_)
  dsimp only [flow_Times.F]
  rw [if_neg (by simp), List.take_length]; rfl
 ·dsimp only [flow_Times.F]; rw [a3 h hf]; rfl
end FlowPure
namespace CallsPure
def nm (c : List api_Instr) : List Int := (c.filter fun i => decide (i.Op = 30)).map fun i => i.A
def badN (n : Nat) (a : Int) : Bool := decide (a < 0) || decide (a ≥ (n : Int))
def whomL (n : Nat) (c : List api_Instr) : List Int := ((List.range n).map fun k : Nat => (k : Int)).filter fun a => decide (a ∈ nm c)
theorem nm_cons (i : api_Instr) (c : List api_Instr) : nm (i :: c) = if i.Op = 30 then i.A :: nm c else nm c := by
 unfold nm
 by_cases h : i.Op = 30
 ·rw [List.filter_cons_of_pos (by simpa using h), if_pos h]; rfl
 ·rw [List.filter_cons_of_neg (by simpa using h), if_neg h]
theorem nm_len (c : List api_Instr) : (nm c).length ≤ c.length := by unfold nm; rw [List.length_map]; exact List.length_filter_le _ _
theorem compact_rises {zs : List Int} (hs : zs.Pairwise (· ≤ ·)) : ∀ m, m ≤ zs.length → (Lib.compactUpTo zs.toArray m).Pairwise (· < ·) ∧ ∀ a, a ∈ Lib.compactUpTo zs.toArray m ↔ a ∈ zs.take m
 | 0, _ => ⟨by simp [Lib.compactUpTo], by simp [Lib.compactUpTo]⟩
 | m + 1, hm => by
  obtain ⟨i1, i2⟩ := compact_rises hs m (by omega)
  have hg : ∀ q, q < zs.length → zs.toArray[q]! = zs[q]! := fun q hq => by simp [hq]
  have hm0 : zs.toArray[m]! = zs[m] := by simp [show m < zs.length by omega]
  rw [Lib.compactUpTo_succ, hm0]
  have ht : zs.take (m + 1) = zs.take m ++ [zs[m]] := by rw [List.take_succ_eq_append_getElem (by omega)]
  by_cases hk : Lib.keeps zs.toArray m = true
  ·rw [if_pos hk]
   refine ⟨List.pairwise_append.2 ⟨i1, by simp, fun a ha b hb => ?_⟩, fun a => by rw [ht, List.mem_append, List.mem_append, i2]⟩
   rw [List.mem_singleton] at hb; subst hb
   have ha' := (i2 a).1 ha
   obtain ⟨q, hq, rfl⟩ := List.mem_iff_getElem.1 ha'
   rw [List.length_take] at hq
   rw [List.getElem_take]
   have hq' : q < m := by omega
   have h1 : zs[q] ≤ zs[m - 1] := by
    by_cases e : q = m - 1
    ·subst e; exact Int.le_refl _
    ·exact List.pairwise_iff_getElem.1 hs q (m - 1) (by omega) (by omega) (by omega)
   have h2 : zs[m - 1] ≤ zs[m] := List.pairwise_iff_getElem.1 hs (m - 1) m (by omega) (by omega) (by omega)
   have h3 : zs[m] ≠ zs[m - 1] := by
    simp only [Lib.keeps, decide_eq_true_eq] at hk
    rcases hk with e | e
    ·omega
    ·rw [hm0] at e
     simpa [show m - 1 < zs.length by omega] using e
   omega
  ·rw [if_neg hk, List.append_nil]
   refine ⟨i1, fun a => ?_⟩
   rw [i2, ht, List.mem_append, List.mem_singleton]
   refine ⟨.inl, fun h => h.elim id fun e => ?_⟩
   simp only [Lib.keeps, decide_eq_true_eq] at hk
   have hmp : 0 < m := by omega
   have e2 : zs[m] = zs[m - 1] := by
    have : ¬ zs.toArray[m]! ≠ zs.toArray[m - 1]! := fun h => hk (.inr h)
    rw [hm0] at this
    simpa [show m - 1 < zs.length by omega] using this
   subst e
   rw [e2]
   exact List.mem_iff_getElem.2 ⟨m - 1, by rw [List.length_take]; omega, List.getElem_take⟩
theorem rises_eq {a b : List Int} (h1 : a.Pairwise (· < ·)) (h2 : b.Pairwise (· < ·)) (h : ∀ x, x ∈ a ↔ x ∈ b) : a = b := by
 have n1 : a.Nodup := h1.imp fun h => Int.ne_of_lt h
 have n2 : b.Nodup := h2.imp fun h => Int.ne_of_lt h
 exact List.Perm.eq_of_pairwise (le := fun a b : Int => a < b) (fun x y _ _ h3 h4 => absurd h3 (by omega)) h1 h2 ((List.perm_ext_iff_of_nodup n1 n2).2 h)
theorem range_rises (n : Nat) : ((List.range n).map fun k : Nat => (k : Int)).Pairwise (· < ·) := List.pairwise_map.2 (List.pairwise_lt_range.imp fun h => by omega)
theorem compact_whom {n : Nat} {c : List api_Instr} (hb : (nm c).any (badN n) = false) : Lib.compact ((nm c).mergeSort fun x y => decide (x ≤ y)) = whomL n c := by
 have hs : ((nm c).mergeSort fun x y => decide (x ≤ y)).Pairwise (· ≤ ·) := by
  have := List.pairwise_mergeSort (le := fun x y : Int => decide (x ≤ y)) (fun a b c h1 h2 => by simp at *; omega) (fun a b => by simp; omega) (nm c)
  exact this.imp fun h => by simpa using h
 obtain ⟨h1, h2⟩ := compact_rises hs _ (Nat.le_refl _)
 refine rises_eq h1 ((range_rises n).filter _) fun a => ?_
 rw [show Lib.compact ((nm c).mergeSort fun x y => decide (x ≤ y)) = Lib.compactUpTo _ _ from rfl, h2, List.take_length, List.mem_mergeSort, whomL, List.mem_filter, decide_eq_true_eq]
 refine ⟨fun h => ⟨?_, h⟩, fun h => h.2⟩
 have := List.any_eq_false.1 hb a h
 simp only [badN, Bool.or_eq_true, decide_eq_true_eq, not_or] at this
 exact List.mem_map.2 ⟨a.toNat, List.mem_range.2 (by omega), by omega⟩
theorem named_run {m : api_Module} {k : Int} {x : api_Method} {G P : List api_Value} {M : List api_Method} {mg k0 : Int} (hc : x.Code.length ≤ 300) : ∀ (c pre : List api_Instr) (l : List Int), x.Code = pre ++ c → l.length ≤ pre.length →
    runF (calls_named_1_s1.F (fun s x => bif s.2 then none else calls_Whom.y1 m k s.1.1 s.1.2 x) (([], 0), false) G P M mg k0) (.l1 x ((l, 0), false) (pre.length : Int)) =
     some (if (nm c).any (badN m.Methods.length) = true then ((l ++ (nm c).takeWhile fun a => !badN m.Methods.length a, 2), true) else ((l ++ nm c, 0), false))
 | [], pre, l, he, hl => by
  refine runF_end ?_
  dsimp only [calls_named_1_s1.F]
  rw [if_neg (by rw [he]; simp)]
  simp [nm]
 | i :: c, pre, l, he, hl => by
  have hlen : pre.length < x.Code.length := by rw [he]; simp
  have hi : x.Code[pre.length] = i := by simp [he]
  have hn := nm_len (i :: c)
  by_cases ho : i.Op = 30
  ·by_cases hb : badN m.Methods.length i.A = true
   ·refine runF_end ?_
    dsimp only [calls_named_1_s1.F]
    rw [if_pos (by omega), elt_lt hlen, hi]
    simp only [Option.bind_some]
    rw [if_pos ho]
    dsimp only [cond_false, calls_Whom.y1]
    have hb2 : (decide (i.A < 0) || decide (i.A ≥ (m.Methods.length : Int))) = true := hb
    rw [if_pos hb2]
    simp only [Option.bind_some]
    rw [nm_cons, if_pos ho, if_pos (by simp), if_pos (by simp [hb])]
    simp [hb]
   ·rw [runF_step (t := .l1 x ((l ++ [i.A], 0), false) ((pre ++ [i]).length : Int)) (by
     dsimp only [calls_named_1_s1.F]
     rw [if_pos (by omega), elt_lt hlen, hi]
     simp only [Option.bind_some]
     rw [if_pos ho]
     dsimp only [cond_false, calls_Whom.y1]
     have hb2 : ¬ (decide (i.A < 0) || decide (i.A ≥ (m.Methods.length : Int))) = true := hb
     rw [if_neg hb2, if_pos (by simp; omega)]
     simp only [Option.bind_some]
     rw [if_neg (by simp), wrap_succ pre.length (by omega), List.length_append]; rfl)]
    rw [named_run hc c (pre ++ [i]) (l ++ [i.A]) (by rw [he]; simp) (by simp; omega)]
    have hb' : badN m.Methods.length i.A = false := by simpa using hb
    rw [nm_cons, if_pos ho, List.any_cons, hb', Bool.false_or, List.takeWhile_cons, hb']
    simp
  ·rw [runF_step (t := .l1 x ((l, 0), false) ((pre ++ [i]).length : Int)) (by
    dsimp only [calls_named_1_s1.F]
    rw [if_pos (by omega), elt_lt hlen, hi]
    simp only [Option.bind_some]
    rw [if_neg ho]
    simp only [Option.bind_some]
    rw [if_neg (by simp), wrap_succ pre.length (by omega), List.length_append]; rfl)]
   rw [named_run hc c (pre ++ [i]) l (by rw [he]; simp) (by simp; omega), nm_cons, if_neg ho]
def whomC (n : Nat) (c : List api_Instr) : List Int × Int := if (nm c).any (badN n) = true then ([], 2) else (whomL n c, 0)
theorem prog_whom {m : api_Module} {k : Nat} (hk : k < m.Methods.length) (hc : m.Methods[k].Code.length ≤ 300) : calls_Whom.f m k = some (whomC m.Methods.length m.Methods[k].Code) := by
 unfold calls_Whom.f calls_named.f calls_named_1_s1.f
 have hn := nm_len m.Methods[k].Code
 rw [if_neg (by simp; omega)]
 simp only [Option.bind_some]
 rw [runF_step (t := .l1 m.Methods[k] (([], 0), false) (([] : List api_Instr).length : Int)) (by
  dsimp only [calls_named_1_s1.F]; rw [elt_lt hk]; rfl), named_run hc m.Methods[k].Code [] [] rfl (by simp)]
 unfold whomC
 by_cases hb : (nm m.Methods[k].Code).any (badN m.Methods.length) = true
 ·rw [if_pos hb, if_pos hb]; rfl
 ·rw [if_neg hb, if_neg hb]
  simp only [Option.bind_some, List.nil_append]
  rw [if_neg (by simp), if_pos (by omega), if_pos (by rw [List.length_mergeSort]; omega), compact_whom (by simpa using hb)]
end CallsPure
namespace CallsPure
def whoms (m : api_Module) : List (List Int) := m.Methods.map fun x => whomL m.Methods.length x.Code
def anyBad (m : api_Module) : Bool := m.Methods.any fun x => (nm x.Code).any (badN m.Methods.length)
structure Fit (m : api_Module) : Prop where
 M : m.Methods.length ≤ 40
 x : ∀ x ∈ m.Methods, x.Code.length ≤ 300
theorem prog_all {m : api_Module} (S : Fit m) : calls_all.f m = some (if anyBad m = true then ([], 2) else (whoms m, 0)) := by
 unfold calls_all.f
 rw [runF_step (t := .l1 [] ((0 : Nat) : Int)) rfl]
 have : ∀ (c pre : List api_Method), m.Methods = pre ++ c → runF (calls_all.F m) (.l1 (pre.map fun x => whomL m.Methods.length x.Code) (pre.length : Int)) = some (if (c.any fun x => (nm x.Code).any (badN m.Methods.length)) = true then ([], 2) else (whoms m, 0)) := by
  intro c
  induction c with
  | nil =>
   intro pre he
   refine runF_end ?_
   dsimp only [calls_all.F]
   rw [if_neg (by rw [he]; simp)]
   simp [whoms, he]
  | cons x c ih =>
   intro pre he
   have hlen : pre.length < m.Methods.length := by rw [he]; simp
   have hx : m.Methods[pre.length] = x := by simp [he]
   have hw := prog_whom hlen (S.x _ (List.getElem_mem hlen))
   rw [hx] at hw
   have hM := S.M
   by_cases hb : (nm x.Code).any (badN m.Methods.length) = true
   ·rw [List.any_cons, hb, Bool.true_or, if_pos rfl]
    refine runF_end ?_
    dsimp only [calls_all.F]
    rw [if_pos (by omega), hw]
    simp only [Option.bind_some, whomC]
    rw [if_pos hb, if_pos (by simp)]
   ·have hb' : (nm x.Code).any (badN m.Methods.length) = false := by simpa using hb
    rw [List.any_cons, hb', Bool.false_or, ← ih (pre ++ [x]) (by rw [he]; simp)]
    refine runF_step ?_
    dsimp only [calls_all.F]
    rw [if_pos (by omega), hw]
    simp only [Option.bind_some, whomC]
    rw [if_neg hb, if_neg (by simp), if_pos (by simp; omega), wrap_succ pre.length (by omega), List.length_append, List.map_append]; rfl
 exact this _ [] rfl
def ready (W : List (List Int)) (out : List Int) (k : Nat) : Bool := decide (¬ (k : Int) ∈ out) && (W.getD k []).all fun a => decide (a ∈ out)
def nextOf (W : List (List Int)) (out : List Int) : Option Nat := (List.range W.length).find? (ready W out)
def ordN (W : List (List Int)) : Nat → List Int → List Int × Int
 | 0, out => (out, 0)
 | f + 1, out => match nextOf W out with
  | none => ([], 110)
  | some k => ordN W f (out ++ [(k : Int)])
theorem whoms_at {m : api_Module} {k : Nat} (hk : k < m.Methods.length) : (whoms m).getD k [] = whomL m.Methods.length m.Methods[k].Code := by
 simp [whoms, List.getD_eq_getElem?_getD, hk]
theorem whomL_len (n : Nat) (c : List api_Instr) : (whomL n c).length ≤ n := by unfold whomL; exact Nat.le_trans (List.length_filter_le _ _) (by simp)
end CallsPure
namespace CallsPure
theorem mset_new {l : List (Int × Int)} {k v : Int} : (∀ p ∈ l, p.1 ≠ k) → mset l k v = l ++ [(k, v)] := by
 induction l with
 | nil => intro _; rfl
 | cons p l ih =>
  intro h
  rw [mset, if_neg (h p (by simp)), ih fun q hq => h q (List.mem_cons_of_mem _ hq)]; rfl
theorem mget_map {g : Nat → Int} {q : Nat} : ∀ {S : List Nat}, q ∈ S → mget (S.map fun a : Nat => ((a : Int), g a)) q = some (g q)
 | s :: S, h => by
  rw [List.map_cons, mget]
  by_cases e : s = q
  ·subst e; rw [if_pos rfl]
  ·rw [if_neg (by simp; omega)]
   exact mget_map ((List.mem_cons.1 h).resolve_left (Ne.symm e))
theorem mdel_map {g : Nat → Int} {q : Nat} : ∀ {S : List Nat}, S.Nodup → mdel (S.map fun a : Nat => ((a : Int), g a)) q = (S.filter fun a => decide (a ≠ q)).map fun a : Nat => ((a : Int), g a)
 | [], _ => rfl
 | s :: S, h => by
  rw [List.map_cons, mdel]
  by_cases e : s = q
  ·subst e
   rw [if_pos rfl, List.filter_cons_of_neg (by simp), List.filter_eq_self.2]
   intro a ha
   have := (List.nodup_cons.1 h).1
   simp; intro e; subst e; exact this ha
  ·rw [if_neg (by simp; omega), List.filter_cons_of_pos (by simpa using e), List.map_cons, mdel_map (List.nodup_cons.1 h).2]
theorem mup_map {g : Nat → Int} {q : Nat} {u : Int} {S : List Nat} : mup (S.map fun a : Nat => ((a : Int), g a)) q u = S.map fun a : Nat => ((a : Int), if a = q then u else g a) := by
 unfold mup
 rw [List.map_map]
 refine List.map_congr_left fun a _ => ?_
 by_cases e : a = q
 ·subst e; simp
 ·have e2 : ¬ (a : Int) = (q : Int) := by omega
  simp [e, e2]
theorem contains_eq {l : List Int} {n : Int} (hl : l.length ≤ 100) : slices_Contains_int_int.f l n = some (decide (n ∈ l)) := by
 unfold slices_Contains_int_int.f
 have : ∀ (c pre : List Int), l = pre ++ c → ∃ i : Int, runF (slices_Index_int_int.F l n) (.l1 (pre.length : Int)) = some i ∧ decide (i ≥ 0) = decide (n ∈ c) := by
  intro c
  induction c with
  | nil =>
   intro pre he
   refine ⟨-1, runF_end ?_, by simp⟩
   dsimp only [slices_Index_int_int.F]; rw [if_neg (by rw [he]; simp)]
  | cons i c ih =>
   intro pre he
   have hlen : pre.length < l.length := by rw [he]; simp
   have hi : l[pre.length] = i := by simp [he]
   by_cases h : n = i
   ·refine ⟨(pre.length : Int), runF_end ?_, by simp [h]⟩
    dsimp only [slices_Index_int_int.F]
    rw [if_pos (by omega), elt_lt hlen, hi]
    simp only [Option.bind_some]
    rw [if_pos h]
   ·obtain ⟨r, h1, h2⟩ := ih (pre ++ [i]) (by rw [he]; simp)
    refine ⟨r, ?_, by rw [h2]; simp [h]⟩
    rw [← h1]
    refine runF_step ?_
    dsimp only [slices_Index_int_int.F]
    rw [if_pos (by omega), elt_lt hlen, hi]
    simp only [Option.bind_some]
    rw [if_neg h, wrap_succ pre.length (by omega), List.length_append]; rfl
 obtain ⟨i, h1, h2⟩ := this l [] rfl
 unfold slices_Index_int_int.f
 rw [runF_step (t := .l1 ((([] : List Int).length : Nat) : Int)) rfl, h1]
 simp only [Option.bind_some]
 rw [h2]
def cnt (W : List (List Int)) (out : List Int) (k : Nat) : Nat := ((W.getD k []).filter fun a => decide (¬ a ∈ out)).length
def rest (W : List (List Int)) (out : List Int) : List Nat := (List.range W.length).filter fun k => decide (¬ (k : Int) ∈ out)
def leftM (W : List (List Int)) (out : List Int) : List (Int × Int) := (rest W out).map fun k : Nat => ((k : Int), (cnt W out k : Int))
theorem rest_nodup (W : List (List Int)) (out : List Int) : (rest W out).Nodup := List.nodup_range.filter _
theorem mem_rest {W : List (List Int)} {out : List Int} {k : Nat} : k ∈ rest W out ↔ k < W.length ∧ ¬ (k : Int) ∈ out := by unfold rest; rw [List.mem_filter, List.mem_range, decide_eq_true_eq]
theorem rest_len (W : List (List Int)) (out : List Int) : (rest W out).length ≤ W.length := Nat.le_trans (List.length_filter_le _ _) (by simp)
theorem ok_map {g : Nat → Int} {S : List Nat} (h : S.Nodup) (hl : ∀ a ∈ S, a < 100) (hs : S.length ≤ 100) : okKeys (S.map fun a : Nat => ((a : Int), g a)) = true := by
 simp only [okKeys, Bool.and_eq_true, decide_eq_true_eq, List.all_eq_true]
 refine ⟨⟨?_, ?_⟩, by rw [List.length_map]; omega⟩
 ·rw [List.map_map]
  exact h.map _ fun a b hab e => hab (by simp only [Function.comp] at e; omega)
 ·intro p hp
  obtain ⟨a, ha, rfl⟩ := List.mem_map.1 hp
  have := hl a ha
  simp; omega
theorem nodup_keys {g : Nat → Int} {S : List Nat} (h : S.Nodup) : ((S.map fun a : Nat => ((a : Int), g a)).map fun p => p.1).Nodup := by
 rw [List.map_map]; exact h.map _ fun a b hab e => hab (by simp only [Function.comp] at e; omega)
theorem rest_sorted (W : List (List Int)) (out : List Int) : sortedKeys (leftM W out) = (rest W out).map fun k : Nat => (k : Int) := by
 unfold sortedKeys leftM
 rw [List.map_map]
 have : (rest W out).Pairwise (· < ·) := List.pairwise_lt_range.filter _
 refine List.mergeSort_of_pairwise ?_
 refine List.pairwise_map.2 (this.imp fun h => ?_)
 simp; omega
theorem cnt_zero {W : List (List Int)} {out : List Int} {k : Nat} : cnt W out k = 0 ↔ ((W.getD k []).all fun a => decide (a ∈ out)) = true := by
 unfold cnt
 rw [List.length_eq_zero_iff, List.filter_eq_nil_iff, List.all_eq_true]
 exact ⟨fun h a ha => by simpa using h a ha, fun h a ha => by simpa using h a ha⟩
theorem next_rest (W : List (List Int)) (out : List Int) : nextOf W out = (rest W out).find? fun k => decide (cnt W out k = 0) := by
 unfold nextOf rest
 rw [List.find?_filter]
 congr 1
 funext k
 unfold ready
 rw [Bool.eq_iff_iff]
 simp only [Bool.and_eq_true, decide_eq_true_eq, cnt_zero]
theorem cnt_more {W : List (List Int)} {out : List Int} {k q : Nat} (hn : (W.getD q []).Nodup) (hk : ¬ (k : Int) ∈ out) : cnt W (out ++ [(k : Int)]) q = if (k : Int) ∈ W.getD q [] then cnt W out q - 1 else cnt W out q := by
 unfold cnt
 generalize W.getD q [] = l at hn
 have e : ∀ l : List Int, l.Nodup → (l.filter fun a => decide (¬ a ∈ out ++ [(k : Int)])).length = if (k : Int) ∈ l then (l.filter fun a => decide (¬ a ∈ out)).length - 1 else (l.filter fun a => decide (¬ a ∈ out)).length := by
  intro l
  induction l with
  | nil => intro _; simp
  | cons a l ih =>
   intro hn
   obtain ⟨h1, h2⟩ := List.nodup_cons.1 hn
   have ih := ih h2
   by_cases ha : a = (k : Int)
   ·subst ha
    rw [if_neg h1] at ih
    rw [List.filter_cons_of_neg (by simp), ih, if_pos (by simp), List.filter_cons_of_pos (by simpa using hk), List.length_cons, Nat.add_sub_cancel]
   ·have hm : ((k : Int) ∈ a :: l) ↔ (k : Int) ∈ l := by simp [Ne.symm ha]
    by_cases hao : a ∈ out
    ·rw [List.filter_cons_of_neg (by simp [hao]), List.filter_cons_of_neg (by simpa using hao), ih]
     simp only [hm]
    ·rw [List.filter_cons_of_pos (by simp [hao, ha]), List.filter_cons_of_pos (by simpa using hao), List.length_cons, ih, List.length_cons]
     simp only [hm]
     by_cases hkl : (k : Int) ∈ l
     ·rw [if_pos hkl, if_pos hkl]
      have : 0 < (l.filter fun a => decide (¬ a ∈ out)).length := List.length_pos_of_mem (List.mem_filter.2 ⟨hkl, by simpa using hk⟩)
      omega
     ·rw [if_neg hkl, if_neg hkl]
 exact e l hn
theorem rest_more (W : List (List Int)) (out : List Int) (k : Nat) : rest W (out ++ [(k : Int)]) = (rest W out).filter fun a => decide (a ≠ k) := by
 unfold rest
 rw [List.filter_filter]
 refine List.filter_congr fun a _ => ?_
 rw [Bool.eq_iff_iff]
 simp only [Bool.and_eq_true, decide_eq_true_eq, List.mem_append, List.mem_singleton, not_or]
 exact ⟨fun h => ⟨by have := h.2; omega, h.1⟩, fun h => ⟨h.2, by have := h.1; omega⟩⟩
theorem prog_walk {m : api_Module} {W : List (List Int)} {out : List Int} {k : Nat} (hW : ∀ q, (W.getD q []).Nodup) (hWl : ∀ q, (W.getD q []).length ≤ 40) (hk : ¬ (k : Int) ∈ out) (hout : (out.length + 1) * 8 ≤ 140737488355328) : ∀ (f : Nat) (R : List Nat), R.length = f → R.Nodup → (∀ q ∈ R, q ∈ rest W (out ++ [(k : Int)])) → ∀ r,
    runD (calls_Order.F m) (.l2 (W, 0) (leftM W (out ++ [(k : Int)])) (out ++ [(k : Int)])) = some r →
    runD (calls_Order.F m) (.l4 (W, 0) out (k : Int) ((rest W (out ++ [(k : Int)])).map fun q : Nat => ((q : Int), if q ∈ R then (cnt W out q : Int) else (cnt W (out ++ [(k : Int)]) q : Int))) (R.map fun q : Nat => ((q : Int), (cnt W out q : Int)))) = some r := by
 intro f
 induction f with
 | zero =>
  intro R hR _ _ r hr
  obtain rfl := List.eq_nil_of_length_eq_zero hR
  refine runD_step ?_ hr
  dsimp only [calls_Order.F]
  rw [if_pos (by simp), if_pos (by simpa using hout)]
  simp [leftM]
 | succ f ih =>
  intro R hR hn hsub r hr
  have hne : R ≠ [] := fun e => by rw [e] at hR; cases hR
  generalize hl : (R.map fun q : Nat => ((q : Int), (cnt W out q : Int))) = l
  have hlne : l ≠ [] := fun e => hne (by rw [e] at hl; simpa using hl)
  refine runD_any (l := (picks l).map fun z => .p5 (W, 0) out (k : Int) ((rest W (out ++ [(k : Int)])).map fun q : Nat => ((q : Int), if q ∈ R then (cnt W out q : Int) else (cnt W (out ++ [(k : Int)]) q : Int))) z.1.1 z.1.2 z.2) ?_ (by simpa using picks_ne hlne) fun t ht => ?_
  ·dsimp only [calls_Order.F]
   rw [if_neg (by simpa using hlne)]
  ·obtain ⟨⟨⟨z1, z2⟩, z3⟩, hz, rfl⟩ := List.mem_map.1 ht
   obtain ⟨j, h1, h2⟩ := of_picks hz
   dsimp only at h1 h2
   rw [← hl, List.getElem?_map, Option.map_eq_some_iff] at h1
   obtain ⟨q, h3, h4⟩ := h1
   obtain ⟨rfl, rfl⟩ : (q : Int) = z1 ∧ (cnt W out q : Int) = z2 := by simpa using h4
   have hjl : j < R.length := (List.getElem?_eq_some_iff.1 h3).1
   have hqR : q ∈ R := List.mem_of_getElem? h3
   have hq := hsub q hqR
   obtain ⟨hq1, hq2⟩ := mem_rest.1 hq
   have hmem : ∀ a, a ∈ R.eraseIdx j ↔ a ∈ R ∧ a ≠ q := by
    intro a
    rw [List.mem_eraseIdx_iff_getElem]
    have hRj : R[j] = q := by rw [List.getElem?_eq_getElem hjl] at h3; simpa using h3
    constructor
    ·rintro ⟨i, hi, hij, rfl⟩
     exact ⟨List.getElem_mem hi, fun e => hij ((List.getElem_inj hn).1 (e.trans hRj.symm))⟩
    ·rintro ⟨ha, hne⟩
     obtain ⟨i, hi, rfl⟩ := List.mem_iff_getElem.1 ha
     exact ⟨i, hi, fun e => hne (by subst e; exact hRj), rfl⟩
   have hz3 : z3 = (R.eraseIdx j).map fun q : Nat => ((q : Int), (cnt W out q : Int)) := by rw [h2, ← hl, eraseIdx_map']
   have IH := ih (R.eraseIdx j) (by rw [List.length_eraseIdx_of_lt hjl]; omega) (hn.eraseIdx j) (fun a ha => hsub a ((hmem a).1 ha).1) r hr
   refine runD_step ?_ IH
   dsimp only [calls_Order.F]
   have hel : elt W (q : Int) = some (W.getD q []) := by rw [elt_lt hq1]; simp [List.getD_eq_getElem?_getD, hq1]
   have hc : cnt W out q ≤ 40 := Nat.le_trans (List.length_filter_le _ _) (hWl q)
   rw [hel]
   simp only [Option.bind_some]
   rw [contains_eq (by have := hWl q; omega)]
   simp only [Option.bind_some]
   have hmore := cnt_more (hW q) hk
   by_cases hkq : (k : Int) ∈ W.getD q []
   ·rw [if_pos hkq] at hmore
    have hpos : 0 < cnt W out q := List.length_pos_of_mem (List.mem_filter.2 ⟨hkq, by simpa using hk⟩)
    have hg : mget ((rest W (out ++ [(k : Int)])).map fun q : Nat => ((q : Int), if q ∈ R then (cnt W out q : Int) else (cnt W (out ++ [(k : Int)]) q : Int))) (q : Int) = some (cnt W out q : Int) := by
     rw [mget_map (g := fun q => if q ∈ R then (cnt W out q : Int) else (cnt W (out ++ [(k : Int)]) q : Int)) hq, if_pos hqR]
    rw [if_pos (by simpa using hkq), hg, if_pos ⟨nodup_keys (rest_nodup _ _), rfl⟩, Option.getD_some, wrap_id (by omega) (by omega), mup_map, hz3, mup_map]
    congr 4
    ·refine List.map_congr_left fun a _ => ?_
     by_cases e : a = q
     ·subst e
      rw [if_pos rfl, if_neg (fun h => ((hmem a).1 h).2 rfl), hmore]
      congr 1; omega
     ·rw [if_neg e]
      simp only [hmem, e, ne_eq, not_false_eq_true, and_true]
    ·refine List.map_congr_left fun a ha => ?_
     rw [if_neg ((hmem a).1 ha).2]
   ·rw [if_neg hkq] at hmore
    rw [if_neg (by simpa using hkq), hz3]
    congr 4
    refine List.map_congr_left fun a _ => ?_
    by_cases e : a = q
    ·subst e
     rw [if_pos hqR, if_neg (fun h => ((hmem a).1 h).2 rfl), hmore]
    ·simp only [hmem, e, ne_eq, not_false_eq_true, and_true]
theorem prog_rest {m : api_Module} {W : List (List Int)} (hW : ∀ q, (W.getD q []).Nodup) (hWl : ∀ q, (W.getD q []).length ≤ 40) (hl : W.length ≤ 40) : ∀ (f : Nat) (out : List Int), out.length + f ≤ 40 → (rest W out).length = f → runD (calls_Order.F m) (.l2 (W, 0) (leftM W out) out) = some (ordN W f out) := by
 intro f
 induction f with
 | zero =>
  intro out ho hr
  refine runD_end ?_
  dsimp only [calls_Order.F]
  rw [if_neg (by unfold leftM; rw [List.length_map]; omega)]; rfl
 | succ f ih =>
  intro out ho hr
  have hlt : ∀ a ∈ rest W out, a < 100 := fun a ha => by have := (mem_rest.1 ha).1; omega
  have hrl := rest_len W out
  unfold ordN
  rw [next_rest]
  have scan : ∀ (c pre : List Nat), rest W out = pre ++ c → runD (calls_Order.F m) (.l3 (W, 0) (leftM W out) out (pre.length : Int)) = some (match c.find? (fun k => decide (cnt W out k = 0)) with | none => ([], 110) | some k => ordN W f (out ++ [(k : Int)])) := by
   intro c
   induction c with
   | nil =>
    intro pre he
    refine runD_end ?_
    dsimp only [calls_Order.F]
    rw [rest_sorted, List.length_map, if_neg (by rw [he]; simp)]
    unfold calls_Order.j1
    rw [if_pos (by omega)]; rfl
   | cons k c ihc =>
    intro pre he
    have hlen : pre.length < (rest W out).length := by rw [he]; simp
    have hi : (rest W out)[pre.length] = k := by simp [he]
    have hkm : k ∈ rest W out := by rw [he]; simp
    obtain ⟨hk1, hk2⟩ := mem_rest.1 hkm
    have hel : elt ((rest W out).map fun k : Nat => (k : Int)) (pre.length : Int) = some (k : Int) := by
     rw [elt_lt (by rw [List.length_map]; exact hlen), List.getElem_map, hi]
    have hg : mget (leftM W out) (k : Int) = some (cnt W out k : Int) := mget_map (g := fun k => (cnt W out k : Int)) hkm
    by_cases hc : cnt W out k = 0
    ·rw [List.find?_cons_of_pos (by simpa using hc)]
     have hlr : (rest W (out ++ [(k : Int)])).length = f := by
      rw [rest_more]
      have h2 : (rest W out).length = ((rest W out).filter fun a => decide (a ≠ k)).length + 1 := by
       have e : ∀ l : List Nat, l.Nodup → k ∈ l → l.length = (l.filter fun a => decide (a ≠ k)).length + 1 := by
        intro l
        induction l with
        | nil => intro _ h; cases h
        | cons a l ih2 =>
         intro hn hm
         obtain ⟨n1, n2⟩ := List.nodup_cons.1 hn
         by_cases ea : a = k
         ·subst ea
          rw [List.filter_cons_of_neg (by simp), List.filter_eq_self.2, List.length_cons]
          intro b hb
          simp; intro e; subst e; exact n1 hb
         ·rw [List.filter_cons_of_pos (by simpa using ea), List.length_cons, List.length_cons, ih2 n2 ((List.mem_cons.1 hm).resolve_left (Ne.symm ea))]
       exact e _ (rest_nodup W out) hkm
      omega
     have IH := ih (out ++ [(k : Int)]) (by simp; omega) hlr
     refine runD_step (t := .l4 (W, 0) out (k : Int) ((rest W (out ++ [(k : Int)])).map fun q : Nat => ((q : Int), if q ∈ rest W (out ++ [(k : Int)]) then (cnt W out q : Int) else (cnt W (out ++ [(k : Int)]) q : Int))) ((rest W (out ++ [(k : Int)])).map fun q : Nat => ((q : Int), (cnt W out q : Int)))) ?_ (prog_walk hW hWl hk2 (by omega) _ _ rfl (rest_nodup _ _) (fun q h => h) _ IH)
     dsimp only [calls_Order.F]
     rw [rest_sorted, List.length_map, if_pos (by omega), hel]
     simp only [Option.bind_some]
     rw [hg, Option.getD_some, if_pos (by omega)]
     unfold calls_Order.j1 leftM
     rw [if_neg (by omega), mdel_map (g := fun k => (cnt W out k : Int)) (rest_nodup W out), ← rest_more]
     congr 4
     refine List.map_congr_left fun a ha => ?_
     rw [if_pos ha]
    ·rw [List.find?_cons_of_neg (by simpa using hc), ← ihc (pre ++ [k]) (by rw [he]; simp)]
     have : runD (calls_Order.F m) (.l3 (W, 0) (leftM W out) out ((pre ++ [k]).length : Int)) = some _ := ihc (pre ++ [k]) (by rw [he]; simp)
     rw [this]
     refine runD_step ?_ this
     dsimp only [calls_Order.F]
     rw [rest_sorted, List.length_map, if_pos (by omega), hel]
     simp only [Option.bind_some]
     rw [hg, Option.getD_some, if_neg (by omega), wrap_succ pre.length (by omega), List.length_append]; rfl
  refine runD_step ?_ (scan (rest W out) [] rfl)
  dsimp only [calls_Order.F]
  have hok : okKeys (leftM W out) = true := ok_map (g := fun k => (cnt W out k : Int)) (rest_nodup W out) hlt (by omega)
  rw [if_pos (by unfold leftM; rw [List.length_map]; omega), if_pos hok]; rfl
theorem whomL_nodup (n : Nat) (c : List api_Instr) : (whomL n c).Nodup := ((range_rises n).imp fun h => Int.ne_of_lt h).filter _
theorem prog_order {m : api_Module} (S : Fit m) : calls_Order.f m = some (if anyBad m = true then ([], 2) else ordN (whoms m) m.Methods.length []) := by
 have hM := S.M
 have hWl : (whoms m).length = m.Methods.length := by simp [whoms]
 have hat : ∀ q, (whoms m).getD q [] = [] ∨ ∃ c, (whoms m).getD q [] = whomL m.Methods.length c := by
  intro q
  by_cases hq : q < m.Methods.length
  ·exact .inr ⟨_, whoms_at hq⟩
  ·exact .inl (by simp [List.getD_eq_getElem?_getD, List.getElem?_eq_none (show (whoms m).length ≤ q by omega)])
 unfold calls_Order.f
 by_cases hb : anyBad m = true
 ·rw [if_pos hb]
  refine runD_end ?_
  dsimp only [calls_Order.F]
  rw [prog_all S, if_pos hb]
  simp only [Option.bind_some]
  rw [if_pos (by simp)]
 ·rw [if_neg hb]
  refine runD_step (t := .l1 (whoms m, 0) ((List.range 0).map fun k : Nat => ((k : Int), (((whoms m).getD k []).length : Int))) ((0 : Nat) : Int)) (by
   dsimp only [calls_Order.F]
   rw [prog_all S, if_neg hb]
   simp only [Option.bind_some]
   rw [if_neg (by simp)]; rfl) ?_
  have lay : ∀ (j k : Nat), k + j = m.Methods.length → runD (calls_Order.F m) (.l1 (whoms m, 0) ((List.range k).map fun k : Nat => ((k : Int), (((whoms m).getD k []).length : Int))) (k : Int)) = some (ordN (whoms m) m.Methods.length []) := by
   intro j
   induction j with
   | zero =>
    intro k hk
    obtain rfl : k = m.Methods.length := by omega
    have hr : rest (whoms m) [] = List.range m.Methods.length := by unfold rest; rw [hWl]; exact List.filter_eq_self.2 fun a _ => by simp
    have hm : leftM (whoms m) [] = (List.range m.Methods.length).map fun k : Nat => ((k : Int), (((whoms m).getD k []).length : Int)) := by
     unfold leftM; rw [hr]
     refine List.map_congr_left fun a _ => ?_
     unfold cnt
     rw [List.filter_eq_self.2 fun a _ => by simp]
    refine runD_step (t := .l2 (whoms m, 0) (leftM (whoms m) []) []) (by
     dsimp only [calls_Order.F]
     rw [if_neg (by omega), hm]) (prog_rest (fun q => ?_) (fun q => ?_) (by omega) _ _ (by simp; omega) (by rw [hr, List.length_range]))
    ·rcases hat q with e | ⟨c, e⟩
     ·rw [e]; exact List.nodup_nil
     ·rw [e]; exact whomL_nodup _ _
    ·rcases hat q with e | ⟨c, e⟩
     ·rw [e]; simp
     ·rw [e]; exact Nat.le_trans (whomL_len _ _) hM
   | succ j ih =>
    intro k hk
    refine runD_step ?_ (ih (k + 1) (by omega))
    have hkl : k < (whoms m).length := by omega
    dsimp only [calls_Order.F]
    rw [if_pos (by omega), elt_lt hkl]
    simp only [Option.bind_some]
    rw [mset_new, wrap_succ k (by omega), List.range_succ, List.map_append]
    ·congr 4
     simp [List.getD_eq_getElem?_getD, hkl]
    ·intro p hp
     obtain ⟨a, ha, rfl⟩ := List.mem_map.1 hp
     have := List.mem_range.1 ha
     simp; omega
  exact lay m.Methods.length 0 (by omega)
end CallsPure
namespace CostPure
open FlowPure TypesPure CallsPure
def In (x : Int) : Prop := -9223372036854775808 ≤ x ∧ x < 9223372036854775808
theorem in_id {x : Int} (h : In x) : IntKind.i64.wrap x = x := wrap_id h.1 h.2
theorem in_wrap (x : Int) : In (IntKind.i64.wrap x) := by
 unfold In
 simp only [IntKind.wrap, IntKind.bits, IntKind.signed]
 first | omega | (split <;> omega) | (simp; omega)
theorem tm_in (l : List api_Instr) (R : List (Nat × Nat)) (a : Nat) : In (tm l R a) := by
 unfold tm
 have : ∀ (R : List (Nat × Nat)) (n : Int), In n → In (R.foldl (fun n x => if x.1 < a ∧ a ≤ x.2 then IntKind.i64.wrap (n * turns l x.1) else n) n) := by
  intro R
  induction R with
  | nil => intro n h; exact h
  | cons x R ih =>
   intro n h
   rw [List.foldl_cons]
   refine ih _ ?_
   split
   ·exact in_wrap _
   ·exact h
 exact this R 1 ⟨by omega, by omega⟩
theorem tms_len (l : List api_Instr) : (tms l).length = l.length := by simp [tms]
theorem tms_in (l : List api_Instr) (i : Nat) (h : i < (tms l).length) : In (tms l)[i] := by
 have : (tms l)[i] = tm l (RL (KK l) l.length) i := by simp [tms]
 rw [this]; exact tm_in _ _ _
theorem H_le {rows : List types_Row} (h : ∀ r ∈ rows, r.Kinds.length ≤ 400) : ∀ k, H rows k ≤ 400
 | 0 => by unfold H; omega
 | k + 1 => by
  have i := H_le h k
  have : (g rows k).Kinds.length ≤ 400 := by
   by_cases hk : k < rows.length
   ·rw [g_lt hk]; exact h _ (List.getElem_mem hk)
   ·unfold g; simp [List.getElem?_eq_none (show rows.length ≤ k by omega), R0, types_Row.zero]
  unfold H; split <;> omega
end CostPure
namespace CostPure
open FlowPure TypesPure CallsPure
theorem rows_ok {m : api_Module} {k : Nat} (hm : wf_api_Module m) (S : Small m) (hk : k < m.Methods.length) : ∃ rows e, types_Rows.f m k = some (rows, e) ∧
    (e = 0 → rows.length = m.Methods[k].Code.length ∧ Known m.Methods[k].Code ∧ Fine m.Methods[k].Code ∧ ∀ r ∈ rows, r.Kinds.length ≤ 400) := by
 have h0 : (0 : Int) ≤ (k : Int) := by omega
 have h1 : (k : Int) < m.Methods.length := by omega
 have hx := elt_lt hk
 generalize hxe : m.Methods[k] = x at hx
 have hxm : x ∈ m.Methods := by rw [← hxe]; exact List.getElem_mem hk
 have hs := S.x x hxm
 have hwx : ∀ i ∈ x.Code, wf_api_Instr i := ((hm.2.2.1.2 x hxm).2.2.2.2.2.2.2).2
 obtain ⟨e1, e2, e3⟩ := rows_else (m := m) (k := k) (x := x) h0 h1 hx (by omega) hwx (by omega)
 by_cases hkn : Known x.Code
 ·by_cases hf : Fine x.Code
  ·by_cases hth : ∃ i ∈ x.Code, there (envOf m x) i = false
   ·exact ⟨[], 100, e3 hkn hf hth, by omega⟩
   ·have W : Well (envOf m x) x.Code := ⟨hkn, hf, hwx, fun i hi => by
     cases ht : there (envOf m x) i
     ·exact absurd ⟨i, hi, ht⟩ hth
     ·rfl, fun y hy => by have := S.x y hy; omega⟩
    exact ⟨_, _, rows_well h0 h1 hx W (by omega), fun he => ⟨(rows_told W he).len, hkn, hf, (rows_told W he).sz⟩⟩
  ·exact ⟨[], 90, e2 hkn hf, by omega⟩
 ·exact ⟨[], 40, e1 hkn, by omega⟩
def highC (x : api_Method) (r : types_Row) (al : Nat) (oc : api_Cert) : Int := IntKind.i64.wrap (IntKind.i64.wrap (IntKind.i64.wrap (IntKind.i64.wrap ((x.Args.length : Int) + (x.Locals.length : Int)) + (r.Kinds.length : Int)) - (al : Int)) + oc.Stack)
def stepC (al : List Nat) (kn : List api_Cert) (x : api_Method) (t : Int) (r : types_Row) (o : api_Instr) (s : api_Cert) : api_Cert :=
 if o.Op = 30 then ⟨IntKind.i64.wrap (IntKind.i64.wrap (s.Fuel + t) + IntKind.i64.wrap (t * (kn.getD o.A.toNat api_Cert.zero).Fuel)),
  if r.Reached = true ∧ highC x r (al.getD o.A.toNat 0) (kn.getD o.A.toNat api_Cert.zero) > s.Stack then highC x r (al.getD o.A.toNat 0) (kn.getD o.A.toNat api_Cert.zero) else s.Stack,
  IntKind.i64.wrap ((if o.Op = 22 then IntKind.i64.wrap (s.Heap + IntKind.i64.wrap (t * o.A)) else s.Heap) + IntKind.i64.wrap (t * (kn.getD o.A.toNat api_Cert.zero).Heap))⟩
 else ⟨IntKind.i64.wrap (s.Fuel + t), s.Stack, if o.Op = 22 then IntKind.i64.wrap (s.Heap + IntKind.i64.wrap (t * o.A)) else s.Heap⟩
def runC (al : List Nat) (kn : List api_Cert) (x : api_Method) (rows : List types_Row) (ts : List Int) : List api_Instr → Nat → api_Cert → api_Cert
 | [], _, s => s
 | o :: c, i, s => runC al kn x rows ts c (i + 1) (stepC al kn x (ts.getD i 0) (g rows i) o s)
def oneC (al : List Nat) (kn : List api_Cert) (x : api_Method) (rows : List types_Row) : api_Cert := runC al kn x rows (tms x.Code) x.Code 0 ⟨0, (x.Args.length : Int) + (x.Locals.length : Int) + H rows rows.length, 0⟩
def alens (m : api_Module) : List Nat := m.Methods.map fun x => x.Args.length
theorem prog_one {m : api_Module} {k : Nat} {kn : List api_Cert} (hm : wf_api_Module m) (S : Small m) (hk : k < m.Methods.length) (hb : (nm m.Methods[k].Code).any (badN m.Methods.length) = false) (hkn : kn.length = m.Methods.length)
    {rows : List types_Row} (hr : types_Rows.f m k = some (rows, 0)) : cost_one.f m k kn = some (oneC (alens m) kn m.Methods[k] rows) := by
 obtain ⟨rows', e', g1, g3⟩ := rows_ok hm S hk
 rw [hr] at g1
 obtain ⟨rfl, rfl⟩ : rows = rows' ∧ (0 : Int) = e' := by simpa using g1
 obtain ⟨hlen, hK, hF, hsz⟩ := g3 rfl
 have hx := elt_lt hk
 have hxm := List.getElem_mem hk
 generalize m.Methods[k] = x at hx hxm hb hlen hK hF
 have hs := S.x x hxm
 have hwx : ∀ i ∈ x.Code, wf_api_Instr i := ((hm.2.2.1.2 x hxm).2.2.2.2.2.2.2).2
 have hl300 : x.Code.length ≤ 300 := hs.2.2
 have t1 := (prog_times (l := x.Code) (by omega) hwx).2.1 hK hF
 have hH0 := H_nonneg rows rows.length
 have hH1 := H_le hsz rows.length
 have hn0 : IntKind.i64.wrap (IntKind.i64.wrap ((x.Args.length : Int) + (x.Locals.length : Int)) + H rows rows.length) = (x.Args.length : Int) + (x.Locals.length : Int) + H rows rows.length := by
  rw [wrap_id (x := (x.Args.length : Int) + (x.Locals.length : Int)) (by omega) (by omega), wrap_id (by omega) (by omega)]
 have main : ∀ (c pre : List api_Instr), x.Code = pre ++ c → (nm c).any (badN m.Methods.length) = false → ∀ f s h : Int, In f → In h → runF (cost_one.F m k kn) (.l1 x (tms x.Code, 0) (pre.length : Int) f s h x.Result x.Reads x.Fuel x.Stack x.Heap rows) = some (runC (alens m) kn x rows (tms x.Code) c pre.length ⟨f, s, h⟩) := by
  intro c
  induction c with
  | nil =>
   intro pre he _ f s h _ _
   refine runF_end ?_
   dsimp only [cost_one.F]; rw [if_neg (by rw [he]; simp)]; rfl
  | cons i c ih =>
   intro pre he hb f s h hf hh
   have hpl : pre.length < x.Code.length := by rw [he]; simp
   have hi : x.Code[pre.length] = i := by simp [he]
   have htl : pre.length < (tms x.Code).length := by rw [tms_len]; exact hpl
   have ht := elt_lt htl
   have hti := tms_in x.Code pre.length htl
   have htd : (tms x.Code).getD pre.length 0 = (tms x.Code)[pre.length] := by simp [List.getD_eq_getElem?_getD, htl]
   generalize (tms x.Code)[pre.length] = t at ht hti htd
   have hrl : pre.length < rows.length := by omega
   have hrw := elt_lt hrl
   have hgr := g_lt hrl
   generalize rows[pre.length] = rw_ at hrw hgr
   have hnx : ((pre ++ [i]).length : Int) = IntKind.i64.wrap ((pre.length : Int) + 1) := by rw [wrap_succ pre.length (by omega), List.length_append]; rfl
   have hheap : ∀ v : Int, v = (if i.Op = 22 then i.A else 0) → IntKind.i64.wrap (h + IntKind.i64.wrap (t * v)) = if i.Op = 22 then IntKind.i64.wrap (h + IntKind.i64.wrap (t * i.A)) else h := by
    intro v hv
    by_cases h22 : i.Op = 22
    ·rw [if_pos h22] at hv ⊢; rw [hv]
    ·rw [if_neg h22] at hv ⊢; rw [hv, Int.mul_zero, show IntKind.i64.wrap 0 = 0 from rfl, Int.add_zero, in_id hh]
   have hfuel : IntKind.i64.wrap (f + IntKind.i64.wrap (t * 1)) = IntKind.i64.wrap (f + t) := by rw [Int.mul_one, in_id hti]
   have hpstep : ∀ q, cost_one.j2 m k kn x (tms x.Code, 0) (pre.length : Int) f s h x.Result x.Reads x.Fuel x.Stack x.Heap rows i (if i.Op = 22 then i.A else 0) = some (.inl q) → runF (cost_one.F m k kn) (.l1 x (tms x.Code, 0) (pre.length : Int) f s h x.Result x.Reads x.Fuel x.Stack x.Heap rows) = runF (cost_one.F m k kn) q := by
    intro q hq
    refine runF_step ?_
    dsimp only [cost_one.F]
    rw [if_pos (by omega), elt_lt hpl, hi]
    simp only [Option.bind_some]
    by_cases h22 : i.Op = 22
    ·rw [if_pos h22] at hq ⊢; exact hq
    ·rw [if_neg h22] at hq ⊢; exact hq
   rw [runC, htd, hgr, ← List.length_singleton (a := i), ← List.length_append]
   generalize hh' : (if i.Op = 22 then IntKind.i64.wrap (h + IntKind.i64.wrap (t * i.A)) else h) = h' at hheap
   have hih' : In h' := by rw [← hh']; split; exact in_wrap _; exact hh
   by_cases h30 : i.Op = 30
   ·rw [nm_cons, if_pos h30, List.any_cons, Bool.or_eq_false_iff] at hb
    have hA := hb.1
    simp only [badN, Bool.or_eq_false_iff, decide_eq_false_iff_not] at hA
    have hA1 : i.A.toNat < m.Methods.length := by omega
    have e1 := elt_int (xs := m.Methods) (by omega) hA1
    have e2 := elt_int (xs := kn) (by omega) (by omega : i.A.toNat < kn.length)
    have d1 : (alens m).getD i.A.toNat 0 = m.Methods[i.A.toNat].Args.length := by simp [alens, List.getD_eq_getElem?_getD, hA1]
    have d2 : kn.getD i.A.toNat api_Cert.zero = kn[i.A.toNat] := by simp [List.getD_eq_getElem?_getD, (by omega : i.A.toNat < kn.length)]
    rw [stepC, if_pos h30, d1, d2]
    dsimp only
    rw [hh']
    generalize m.Methods[i.A.toNat] = om at e1
    generalize kn[i.A.toNat] = oc at e2
    rw [← ih (pre ++ [i]) (by rw [he]; simp) hb.2 _ _ _ (in_wrap _) (in_wrap _)]
    refine hpstep _ ?_
    unfold cost_one.j2 cost_sum_often_s3.f
    rw [ht]
    simp only [Option.bind_some]
    rw [if_pos h30, e1]
    simp only [Option.bind_some]
    rw [e2]
    simp only [Option.bind_some]
    unfold cost_taker_call_s3.f cost_sum_often_s3.f cost_sum_high_s3.f
    simp only [Option.bind_some]
    rw [hrw]
    simp only [Option.bind_some]
    rw [hfuel, hheap _ rfl]
    unfold cost_one.j1
    rw [hnx]
    by_cases hre : rw_.Reached = true
    ·rw [if_pos hre]
     simp only [Option.bind_some, hre, true_and]; rfl
    ·rw [if_neg hre]
     simp only [Option.bind_some]
     rw [if_neg (fun h => hre h.1)]
   ·rw [nm_cons, if_neg h30] at hb
    rw [stepC, if_neg h30]
    dsimp only
    rw [hh', ← ih (pre ++ [i]) (by rw [he]; simp) hb _ _ _ (in_wrap _) hih']
    refine hpstep _ ?_
    unfold cost_one.j2 cost_sum_often_s3.f
    rw [ht]
    simp only [Option.bind_some]
    rw [if_neg h30, hfuel, hheap _ rfl]
    unfold cost_one.j1
    rw [hnx]
 unfold cost_one.f oneC
 refine Eq.trans ?_ (main x.Code [] rfl hb 0 ((x.Args.length : Int) + (x.Locals.length : Int) + H rows rows.length) 0 ⟨by omega, by omega⟩ ⟨by omega, by omega⟩)
 refine runF_step ?_
 dsimp only [cost_one.F]
 rw [hx]
 simp only [Option.bind_some]
 rw [hr]
 simp only [Option.bind_some]
 rw [t1]
 simp only [Option.bind_some]
 rw [height_eq (by omega)]
 simp only [Option.bind_some]
 unfold cost_sum_high_s2.f
 simp only [Option.bind_some]
 rw [hn0]
 congr 2
 by_cases h0 : (x.Args.length : Int) + (x.Locals.length : Int) + H rows rows.length > 0
 ·rw [if_pos h0]; rfl
 ·rw [if_neg h0, show (x.Args.length : Int) + (x.Locals.length : Int) + H rows rows.length = 0 by omega]; rfl
end CostPure
namespace CostPure
open FlowPure TypesPure CallsPure
theorem ordN_ok {W : List (List Int)} : ∀ (f : Nat) (out : List Int), (∀ a ∈ out, 0 ≤ a ∧ a < W.length) → (ordN W f out).2 = 0 → (ordN W f out).1.length = out.length + f ∧ ∀ a ∈ (ordN W f out).1, 0 ≤ a ∧ a < W.length
 | 0, out, h, _ => ⟨rfl, h⟩
 | f + 1, out, h, h0 => by
  unfold ordN at h0 ⊢
  cases hn : nextOf W out with
  | none => rw [hn] at h0; simp at h0
  | some k =>
   rw [hn] at h0
   have hk : k < W.length := List.mem_range.1 (List.mem_of_find?_eq_some hn)
   obtain ⟨i1, i2⟩ := ordN_ok f (out ++ [(k : Int)]) (fun a ha => by
    rcases List.mem_append.1 ha with h1 | h1
    ·exact h a h1
    ·rw [List.mem_singleton] at h1; subst h1; omega) h0
   refine ⟨?_, i2⟩
   dsimp only; rw [i1]; simp; omega
end CostPure
namespace CostPure
open FlowPure TypesPure CallsPure
def fitB (c : api_Cert) (x : api_Method) : Bool := decide (((0 ≤ c.Fuel ∧ c.Fuel ≤ x.Fuel ∧ c.Fuel ≤ 1048576) ∧ 0 ≤ c.Stack ∧ c.Stack ≤ x.Stack ∧ c.Stack ≤ 256) ∧ 0 ≤ c.Heap ∧ c.Heap ≤ x.Heap ∧ c.Heap ≤ 1024)
theorem fits_ite (b y : Bool) : (if b = true then some y else some false) = some (b && y) := by cases b <;> rfl
theorem prog_fits (c : api_Cert) (x : api_Method) : cost_Fits.f c x = some (fitB c x) := by
 unfold cost_Fits.f cost_within.f fitB
 simp only [Option.bind_some, fits_ite]
 congr 1
 rw [Bool.eq_iff_iff]
 simp
 omega
noncomputable def rowsM (m : api_Module) (k : Nat) : List types_Row × Int := (types_Rows.f m k).getD ([], 0)
noncomputable def errM (m : api_Module) : Int := (((List.range m.Methods.length).map fun k => (rowsM m k).2).find? fun e => decide (e ≠ 0)).getD 0
def methM (m : api_Module) (k : Nat) : api_Method := m.Methods.getD k api_Method.zero
noncomputable def oneM (m : api_Module) (kn : List api_Cert) (k : Nat) : api_Cert := oneC (alens m) kn (methM m k) (rowsM m k).1
def certsC (one : List api_Cert → Nat → api_Cert) (fit : Nat → api_Cert → Bool) : List Int → List api_Cert → Option (List api_Cert)
 | [], l => some l
 | a :: o, l => if fit a.toNat (one l a.toNat) = true then certsC one fit o (l.set a.toNat (one l a.toNat)) else none
noncomputable def costsC (m : api_Module) : List api_Cert × Int :=
 if anyBad m = true then ([], 2) else
 if (ordN (whoms m) m.Methods.length []).2 ≠ 0 then ([], (ordN (whoms m) m.Methods.length []).2) else
 if errM m ≠ 0 then ([], errM m) else
 match certsC (oneM m) (fun k c => fitB c (methM m k)) (ordN (whoms m) m.Methods.length []).1 (List.replicate m.Methods.length api_Cert.zero) with
 | none => ([], 120)
 | some l => (l, 0)
theorem methM_at {m : api_Module} {k : Nat} (h : k < m.Methods.length) : methM m k = m.Methods[k] := by simp [methM, List.getD_eq_getElem?_getD, h]
theorem errM_zero {m : api_Module} (h : errM m = 0) : ∀ k, k < m.Methods.length → (rowsM m k).2 = 0 := by
 intro k hk
 unfold errM at h
 cases hf : ((List.range m.Methods.length).map fun k => (rowsM m k).2).find? fun e => decide (e ≠ 0) with
 | none =>
  have := List.find?_eq_none.1 hf _ (List.mem_map.2 ⟨k, List.mem_range.2 hk, rfl⟩)
  simpa using this
 | some e =>
  rw [hf] at h
  have := List.find?_some hf
  simp at this h
  exact absurd h this
theorem prog_costs {m : api_Module} (hm : wf_api_Module m) (S : Small m) : cost_Costs.f m = some (costsC m) := by
 have hM := S.M
 have F : Fit m := ⟨S.M, fun x hx => (S.x x hx).2.2⟩
 have p0 := prog_order F
 unfold cost_Costs.f costsC
 by_cases hb : anyBad m = true
 ·rw [if_pos hb] at p0 ⊢
  refine runF_end ?_
  dsimp only [cost_Costs.F]; rw [p0]; simp only [Option.bind_some]; rw [if_pos (by simp)]
 ·rw [if_neg hb] at p0 ⊢
  have hok := ordN_ok (W := whoms m) m.Methods.length [] (by simp)
  have hWl : (whoms m).length = m.Methods.length := by simp [whoms]
  generalize ordN (whoms m) m.Methods.length [] = oe at p0 hok
  obtain ⟨o, e⟩ := oe
  dsimp only
  by_cases he : e = 0
  ·subst he
   obtain ⟨ho1, ho2⟩ := hok rfl
   have hol : o.length = m.Methods.length := by simpa using ho1
   rw [if_neg (by simp), runF_step (t := .l1 (o, 0) ((0 : Nat) : Int)) (by dsimp only [cost_Costs.F]; rw [p0]; simp only [Option.bind_some]; rw [if_neg (by simp)]; rfl)]
   have hrow : ∀ k, k < m.Methods.length → types_Rows.f m k = some (rowsM m k) := by
    intro k hk
    obtain ⟨rows, e, g1, -⟩ := rows_ok hm S hk
    unfold rowsM; rw [g1]; rfl
   have go : errM m = 0 → ∀ (c pre : List Int) (l : List api_Cert), o = pre ++ c → l.length = m.Methods.length → runF (cost_Costs.F m) (.l2 (o, 0) l (pre.length : Int)) = some (match certsC (oneM m) (fun k c => fitB c (methM m k)) c l with | none => ([], 120) | some l => (l, 0)) := by
    intro he0 c
    induction c with
    | nil =>
     intro pre l hp hl
     refine runF_end ?_
     dsimp only [cost_Costs.F]; rw [if_neg (by rw [hp]; simp)]; rfl
    | cons a c ih =>
     intro pre l hp hl
     have hpl : pre.length < o.length := by rw [hp]; simp
     have hi : o[pre.length] = a := by simp [hp]
     obtain ⟨a0, a1⟩ := ho2 a (by rw [hp]; simp)
     have hk : a.toNat < m.Methods.length := by omega
     have hak : ((a.toNat : Nat) : Int) = a := by omega
     have hbk : (nm m.Methods[a.toNat].Code).any (badN m.Methods.length) = false := by
      have := List.any_eq_false.1 (show (m.Methods.any fun x => (nm x.Code).any (badN m.Methods.length)) = false by simpa [anyBad] using hb) _ (List.getElem_mem hk)
      simpa using this
     have hr2 : types_Rows.f m a.toNat = some ((rowsM m a.toNat).1, 0) := by rw [hrow _ hk, ← errM_zero he0 _ hk]
     have c1 := prog_one (kn := l) hm S hk hbk hl hr2
     rw [hak, ← methM_at hk] at c1
     have c1 : cost_one.f m a l = some (oneM m l a.toNat) := c1
     have f1 := prog_fits (oneM m l a.toNat) (methM m a.toNat)
     have e1 := elt_int (xs := l) a0 (by omega)
     have e2 : elt (l.set a.toNat (oneM m l a.toNat)) a = some (oneM m l a.toNat) := by
      rw [elt_int (xs := l.set a.toNat (oneM m l a.toNat)) a0 (by rw [List.length_set]; omega)]; simp
     have e3 := elt_int (xs := m.Methods) a0 hk
     rw [← methM_at hk] at e3
     rw [certsC]
     by_cases hf : fitB (oneM m l a.toNat) (methM m a.toNat) = true
     ·rw [if_pos hf, ← ih (pre ++ [a]) _ (by rw [hp]; simp) (by rw [List.length_set]; exact hl)]
      refine runF_step ?_
      dsimp only [cost_Costs.F]
      rw [if_pos (by omega), elt_lt hpl, hi]; simp only [Option.bind_some]
      rw [c1]; simp only [Option.bind_some]
      rw [e1]; simp only [Option.bind_some]
      rw [e2]; simp only [Option.bind_some]
      rw [e3]; simp only [Option.bind_some]
      rw [f1]; simp only [Option.bind_some]
      rw [if_neg (by simp [hf]), wrap_succ pre.length (by omega), List.length_append]; rfl
     ·rw [if_neg hf]
      refine runF_end ?_
      dsimp only [cost_Costs.F]
      rw [if_pos (by omega), elt_lt hpl, hi]; simp only [Option.bind_some]
      rw [c1]; simp only [Option.bind_some]
      rw [e1]; simp only [Option.bind_some]
      rw [e2]; simp only [Option.bind_some]
      rw [e3]; simp only [Option.bind_some]
      rw [f1]; simp only [Option.bind_some]
      rw [if_pos (by simpa using hf)]
   have scan : ∀ (j k : Nat), k + j = m.Methods.length → runF (cost_Costs.F m) (.l1 (o, 0) (k : Int)) = match ((List.range' k j).map fun k => (rowsM m k).2).find? (fun e => decide (e ≠ 0)) with
       | some e => some ([], e)
       | none => runF (cost_Costs.F m) (.l1 (o, 0) (m.Methods.length : Int)) := by
    intro j
    induction j with
    | zero => intro k hk; simp at hk; subst hk; simp
    | succ j ihj =>
     intro k hk
     have hr := hrow k (by omega)
     rw [List.range'_succ, List.map_cons, List.find?_cons]
     by_cases he : (rowsM m k).2 = 0
     ·rw [show decide ((rowsM m k).2 ≠ 0) = false by simpa using he]
      dsimp only
      rw [← ihj (k + 1) (by omega)]
      refine runF_step ?_
      dsimp only [cost_Costs.F]
      unfold types_Check.f
      rw [if_pos (by omega), hr]; simp only [Option.bind_some]
      rw [if_neg (by simpa using he), wrap_succ k (by omega)]
     ·rw [show decide ((rowsM m k).2 ≠ 0) = true by simpa using he]
      refine runF_end ?_
      dsimp only [cost_Costs.F]
      unfold types_Check.f
      rw [if_pos (by omega), hr]; simp only [Option.bind_some]
      rw [if_pos he]
   rw [scan m.Methods.length 0 (by omega), ← List.range_eq_range']
   have hE : errM m = (((List.range m.Methods.length).map fun k => (rowsM m k).2).find? fun e => decide (e ≠ 0)).getD 0 := rfl
   cases hf : ((List.range m.Methods.length).map fun k => (rowsM m k).2).find? fun e => decide (e ≠ 0) with
   | some e =>
    rw [hf] at hE
    have hne : e ≠ 0 := by have := List.find?_some hf; simpa using this
    rw [hE, Option.getD_some, if_pos hne]
   | none =>
    rw [hf] at hE
    have hE : errM m = 0 := hE
    rw [if_neg (by simpa using hE)]
    have := go hE o [] (List.replicate o.length api_Cert.zero) rfl (by rw [List.length_replicate]; exact hol)
    rw [hol] at this
    rw [← this]
    refine runF_step ?_
    dsimp only [cost_Costs.F]
    rw [if_neg (by omega), if_pos (by omega)]
    simp [hol]
  ·rw [if_pos he]
   refine runF_end ?_
   dsimp only [cost_Costs.F]; rw [p0]; simp only [Option.bind_some]; rw [if_pos he]
end CostPure
namespace VerifyPure
open FlowPure TypesPure CallsPure CostPure
theorem idx_any {S α : Type} {F : S → Option (S ⊕ Int)} (s : Nat → S) (l : List α) (p : α → Bool) (hs : ∀ k (h : k < l.length), F (s k) = some (if p l[k] = true then .inr (k : Int) else .inl (s (k + 1)))) (hb : F (s l.length) = some (.inr (-1))) : ∃ r, runF F (s 0) = some r ∧ decide (r ≥ 0) = l.any p := by
 obtain ⟨r, hr, hc⟩ := runF_scan (F := F) (n := l.length) (b := -1) (a := fun k => (k : Int)) s (fun k => if h : k < l.length then p l[k] else false) (fun k hk => by rw [hs k hk]; simp only [dif_pos hk]) hb
 refine ⟨r, hr, ?_⟩
 rw [Bool.eq_iff_iff, decide_eq_true_eq, List.any_eq_true]
 rcases hc with ⟨k, hk, hp, rfl⟩ | ⟨hn, rfl⟩
 ·rw [dif_pos hk] at hp
  exact ⟨fun _ => ⟨_, List.getElem_mem hk, hp⟩, fun _ => by omega⟩
 ·refine ⟨fun h => by omega, fun ⟨x, hx, hp⟩ => ?_⟩
  obtain ⟨k, hk, rfl⟩ := List.mem_iff_getElem.1 hx
  have := hn k hk
  rw [dif_pos hk, hp] at this; cases this
def vMay (v : api_Value) : Bool := (decide (v.Kind = 1) && decide (v.B = 0)) || (decide (v.Kind = 2) && (decide (-1048576 ≤ v.A ∧ v.A ≤ 1048576) && decide (-1048576 ≤ v.B ∧ v.B ≤ 1048576)))
theorem p_vMay (v : api_Value) : value_May.f v = some (vMay v) := by
 obtain ⟨k, a, b⟩ := v
 unfold value_May.f value_Pair.f gauss_May.f value_Int.f value_May.j1 vMay
 dsimp only
 by_cases h1 : a < -1048576 ∨ a > 1048576
 ·rw [if_pos (by simpa using h1)]
  simp only [Option.bind_some]
  rw [if_pos (by simp)]
  simp only [Option.bind_some]
  have e : decide (-1048576 ≤ a ∧ a ≤ 1048576) = false := by rw [decide_eq_false_iff_not]; omega
  rw [e]
  by_cases hk : k = 1 <;> by_cases hb : b = 0 <;> simp [hk, hb]
 ·rw [if_neg (by simpa using h1)]
  by_cases h2 : b < -1048576 ∨ b > 1048576
  ·rw [if_pos (by simpa using h2)]
   simp only [Option.bind_some]
   rw [if_pos (by simp)]
   simp only [Option.bind_some]
   have e : decide (-1048576 ≤ b ∧ b ≤ 1048576) = false := by rw [decide_eq_false_iff_not]; omega
   rw [e]
   by_cases hk : k = 1 <;> by_cases hb : b = 0 <;> simp [hk, hb]
  ·rw [if_neg (by simpa using h2)]
   simp only [Option.bind_some]
   rw [if_neg (by simp)]
   simp only [Option.bind_some]
   have e1 : decide (-1048576 ≤ a ∧ a ≤ 1048576) = true := by rw [decide_eq_true_eq]; omega
   have e2 : decide (-1048576 ≤ b ∧ b ≤ 1048576) = true := by rw [decide_eq_true_eq]; omega
   rw [e1, e2]
   by_cases hk : k = 1 <;> by_cases hb : b = 0 <;> by_cases hk2 : k = 2 <;> simp [hk, hb, hk2]
theorem mix_set {α : Type} {A B : List α} {k : Nat} (h : A.length = B.length) (hk : k < A.length) : (A.take k ++ B.drop k).set k A[k] = A.take (k + 1) ++ B.drop (k + 1) := by
 rw [List.set_append_right _ _ (by simp; omega), List.length_take, Nat.min_eq_left (by omega), Nat.sub_self]
 rw [List.drop_eq_getElem_cons (by omega), List.set_cons_zero]
 rw [show A.take (k + 1) = A.take k ++ [A[k]] from by rw [List.take_add_one, List.getElem?_eq_getElem hk]; rfl, List.append_assoc]; rfl
theorem mix_at {α : Type} {A B : List α} {k : Nat} (h : A.length = B.length) (hk : k < B.length) : elt (A.take k ++ B.drop k) (k : Int) = some B[k] := by
 rw [elt_lt (by simp; omega), List.getElem_append_right (by simp; omega)]
 simp [Nat.min_eq_left (show k ≤ A.length by omega)]
def spr (n : Int) (w : Nat) : List Int := (List.range w).map fun i : Nat => IntKind.u8.wrap (shrI .i64 n (8 * (i : Int)))
theorem spr_len (n : Int) (w : Nat) : (spr n w).length = w := by simp [spr]
theorem p_spr {n : Int} {w : Nat} (hw : w ≤ 8) : octet_spread_int64.f n w = some (spr n w) := by
 unfold octet_spread_int64.f
 have hl := spr_len n w
 rw [runF_step (t := .l1 ((spr n w).take 0 ++ (List.replicate w 0).drop 0) ((0 : Nat) : Int)) (by
  dsimp only [octet_spread_int64.F]
  rw [if_pos (by omega)]; rfl)]
 refine (runF_up (F := octet_spread_int64.F n w) (n := w) (fun k => .l1 ((spr n w).take k ++ (List.replicate w 0).drop k) (k : Int)) (fun k hk => ?_)).trans (runF_end ?_)
 ·have w8 : IntKind.i64.wrap (8 * (k : Int)) = 8 * (k : Int) := wrap_id (by omega) (by omega)
  dsimp only [octet_spread_int64.F]
  rw [if_pos (by simp; omega), w8, if_pos (by omega), mix_at (by simp [hl]) (by simpa using hk)]
  simp only [Option.bind_some, Int.toNat_natCast]
  rw [wrap_succ k (by omega), ← mix_set (A := spr n w) (by simp [hl]) (by omega)]
  simp [spr]
 ·dsimp only [octet_spread_int64.F]
  rw [if_neg (by simp), List.take_of_length_le (by omega), List.drop_of_length_le (by simp), List.append_nil]
def fB (w : Nat) (n : Int) : Bool := decide (n ≥ 0) && (decide (w = 8) || decide (shrI .i64 n (8 * (w : Int)) = 0))
theorem p_fits {w : Nat} {n : Int} (hw : w ≤ 8) : octet_fits.f w n = some (fB w n) := by
 have w8 : IntKind.i64.wrap (8 * (w : Int)) = 8 * (w : Int) := wrap_id (by omega) (by omega)
 unfold octet_fits.f fB
 rw [w8]
 by_cases h0 : n ≥ 0
 ·rw [if_pos h0]
  by_cases h8 : w = 8
  ·rw [if_pos (by omega)]; simp [h0, h8]
  ·rw [if_neg (by omega), if_pos (by omega)]; simp [h0, h8]
 ·rw [if_neg h0]; simp [h0]
def putC (w : Nat) (n : Int) : List Int × Int := if fB w n = true then (spr n w, 0) else ([], 11)
theorem p_put {w : Nat} {n : Int} (h1 : 1 ≤ w) (hw : w ≤ 8) : octet_Put.f w n = some (putC w n) := by
 unfold octet_Put.f putC
 rw [if_neg (by simp; omega), p_fits hw]
 simp only [Option.bind_some]
 cases fB w n with
 | true => rw [if_neg (by simp), p_spr hw]; rfl
 | false => rfl
theorem putC_len (w : Nat) (n : Int) : (putC w n).1.length ≤ w := by
 unfold putC; split
 ·simp [spr_len]
 ·simp
def vBytes (v : api_Value) : List Int × Int :=
 if vMay v = false then ([], 30) else if v.Kind = 1 then ([v.Kind] ++ spr v.A 8, 0) else
 if (putC 3 (IntKind.i64.wrap (v.A + 1048576))).2 ≠ 0 then ([], 30) else if (putC 3 (IntKind.i64.wrap (v.B + 1048576))).2 ≠ 0 then ([], 30) else
 (([v.Kind] ++ (putC 3 (IntKind.i64.wrap (v.A + 1048576))).1) ++ (putC 3 (IntKind.i64.wrap (v.B + 1048576))).1, 0)
theorem p_vBytes (v : api_Value) : value_Bytes.f v = some (vBytes v) := by
 unfold value_Bytes.f vBytes octet_Signed.f
 rw [p_vMay]
 simp only [Option.bind_some]
 cases vMay v with
 | false => rfl
 | true =>
  rw [if_neg (show ¬ ((!true) = true) by simp), if_neg (show ¬ (true = false) by simp)]
  have a1 := p_put (w := 3) (n := IntKind.i64.wrap (v.A + 1048576)) (by omega) (by omega)
  have a2 := p_put (w := 3) (n := IntKind.i64.wrap (v.B + 1048576)) (by omega) (by omega)
  have l1 := putC_len 3 (IntKind.i64.wrap (v.A + 1048576))
  have l2 := putC_len 3 (IntKind.i64.wrap (v.B + 1048576))
  by_cases hk : v.Kind = 1
  ·have a0 := p_spr (n := v.A) (w := 8) (Nat.le_refl _)
   rw [if_pos hk, if_pos hk, show octet_spread_int64.f v.A 8 = some (spr v.A 8) from a0]
   simp only [Option.bind_some]
   rw [if_pos (by simp [spr_len])]
  ·rw [if_neg hk, if_neg hk, show octet_Put.f 3 (IntKind.i64.wrap (v.A + 1048576)) = some (putC 3 (IntKind.i64.wrap (v.A + 1048576))) from a1]
   simp only [Option.bind_some]
   by_cases h1 : (putC 3 (IntKind.i64.wrap (v.A + 1048576))).2 ≠ 0
   ·rw [if_pos h1, if_pos h1]
   ·rw [if_neg h1, if_neg h1, if_pos (by simp only [List.length_singleton]; omega), show octet_Put.f 3 (IntKind.i64.wrap (v.B + 1048576)) = some (putC 3 (IntKind.i64.wrap (v.B + 1048576))) from a2]
    simp only [Option.bind_some]
    by_cases h2 : (putC 3 (IntKind.i64.wrap (v.B + 1048576))).2 ≠ 0
    ·rw [if_pos h2, if_pos h2]
    ·rw [if_neg h2, if_neg h2, if_pos (by simp only [List.length_append, List.length_singleton]; omega)]
theorem vBytes_len (v : api_Value) : (vBytes v).1.length ≤ 9 := by
 have l1 := putC_len 3 (IntKind.i64.wrap (v.A + 1048576))
 have l2 := putC_len 3 (IntKind.i64.wrap (v.B + 1048576))
 unfold vBytes
 split
 ·simp
 ·split
  ·simp [spr_len]
  ·split
   ·simp
   ·split
    ·simp
    ·simp only [List.length_append, List.length_singleton]; omega
def pMay (l : List api_Value) : Bool := decide (l.length ≤ 32) && !(l.any fun v => !vMay v)
def pLoop : List api_Value → List Int → List Int × Int
 | [], o => (o, 0)
 | v :: c, o => if (vBytes v).2 ≠ 0 then ([], 60) else pLoop c (o ++ (vBytes v).1)
def pBytes (l : List api_Value) : List Int × Int := if pMay l = false then ([], 60) else pLoop l [IntKind.u8.wrap (l.length : Int)]
theorem p_pMay {l : List api_Value} (hl : l.length ≤ 100) : pool_May.f l = some (pMay l) := by
 unfold pool_May.f pMay
 by_cases h : (l.length : Int) ≤ 32
 ·rw [if_pos h]
  unfold slices_ContainsFunc_api_Value_api_Value_s1.f slices_IndexFunc_api_Value_api_Value_s1.f
  obtain ⟨r, hr, e⟩ := idx_any (F := slices_IndexFunc_api_Value_api_Value_s1.F l) (fun k => .l1 (k : Int)) l (fun v => !vMay v) (fun k hk => by
   dsimp only [slices_IndexFunc_api_Value_api_Value_s1.F]
   unfold pool_May_1.f
   rw [if_pos (by omega), elt_lt hk]
   simp only [Option.bind_some]
   rw [p_vMay]
   simp only [Option.bind_some, wrap_succ k (by omega)]
   cases vMay l[k] <;> rfl) (by dsimp only [slices_IndexFunc_api_Value_api_Value_s1.F]; rw [if_neg (by omega)])
  rw [runF_step (t := .l1 ((0 : Nat) : Int)) rfl, hr]
  simp only [Option.bind_some]
  rw [e]
  have : decide (l.length ≤ 32) = true := by rw [decide_eq_true_eq]; omega
  rw [this]; rfl
 ·rw [if_neg h]
  have : decide (l.length ≤ 32) = false := by rw [decide_eq_false_iff_not]; omega
  rw [this]; rfl
theorem pLoop_len : ∀ (c : List api_Value) (o : List Int), (pLoop c o).1.length ≤ o.length + 9 * c.length ∧ ((pLoop c o).2 = 0 ∨ (pLoop c o).2 = 60)
 | [], o => by simp [pLoop]
 | v :: c, o => by
  rw [pLoop]
  split
  ·simp
  ·have := pLoop_len c (o ++ (vBytes v).1)
   have := vBytes_len v
   simp only [List.length_append, List.length_cons] at *
   exact ⟨by omega, by omega⟩
theorem p_pBytes {l : List api_Value} (hl : l.length ≤ 100) : pool_Bytes.f l = some (pBytes l) := by
 unfold pool_Bytes.f pBytes
 cases hm : pMay l with
 | false =>
  refine runF_end ?_
  dsimp only [pool_Bytes.F]
  rw [p_pMay hl, hm]; rfl
 | true =>
  rw [if_neg (by simp), runF_step (t := .l1 [IntKind.u8.wrap (l.length : Int)] ((0 : Nat) : Int)) (by dsimp only [pool_Bytes.F]; rw [p_pMay hl, hm]; rfl)]
  have : ∀ (c pre : List api_Value) (o : List Int), l = pre ++ c → o.length ≤ 1 + 9 * pre.length → runF (pool_Bytes.F l) (.l1 o (pre.length : Int)) = some (pLoop c o) := by
   intro c
   induction c with
   | nil =>
    intro pre o he _
    refine runF_end ?_
    dsimp only [pool_Bytes.F]; rw [if_neg (by rw [he]; simp)]; rfl
   | cons v c ih =>
    intro pre o he ho
    have hp : pre.length < l.length := by rw [he]; simp
    have hv : l[pre.length] = v := by simp [he]
    have lv := vBytes_len v
    rw [pLoop]
    by_cases h : (vBytes v).2 ≠ 0
    ·rw [if_pos h]
     refine runF_end ?_
     dsimp only [pool_Bytes.F]
     rw [if_pos (by omega), elt_lt hp, hv]; simp only [Option.bind_some]
     rw [p_vBytes]; simp only [Option.bind_some]
     rw [if_pos h]
    ·rw [if_neg h, ← ih (pre ++ [v]) _ (by rw [he]; simp) (by simp only [List.length_append, List.length_singleton]; omega)]
     refine runF_step ?_
     dsimp only [pool_Bytes.F]
     rw [if_pos (by omega), elt_lt hp, hv]; simp only [Option.bind_some]
     rw [p_vBytes]; simp only [Option.bind_some]
     rw [if_neg h, if_pos (by omega), wrap_succ pre.length (by omega), List.length_append]; rfl
  exact this l [] _ rfl (by simp)
theorem pBytes_len (l : List api_Value) : (pBytes l).1.length ≤ 1 + 9 * l.length ∧ ((pBytes l).2 = 0 ∨ (pBytes l).2 = 60) := by
 unfold pBytes
 split
 ·simp
 ·have := pLoop_len l [IntKind.u8.wrap (l.length : Int)]
  simpa using this
end VerifyPure
namespace VerifyPure
open FlowPure TypesPure CallsPure CostPure
def loc (k : Int) : Bool := vMay ⟨k, 0, 0⟩ || decide (k = 3)
theorem p_loc (k : Int) : method_local.f k = some (loc k) := by
 unfold method_local.f value_Zero.f value_Inside.f loc
 rw [p_vMay]
 simp only [Option.bind_some]
 by_cases h3 : k = 3 <;> cases vMay ⟨k, 0, 0⟩ <;> simp [h3]
def mMay (x : api_Method) : Bool :=
 if x.Args.length > 4 ∨ x.Args.length + x.Locals.length > 16 ∨ (x.Result ≠ 1 ∧ x.Result ≠ 2) then false else if (x.Args ++ x.Locals).any (fun k => !loc k) = true then false else
 decide ((0 ≤ x.Fuel ∧ x.Fuel ≤ 1048576) ∧ (0 ≤ x.Stack ∧ x.Stack ≤ 256) ∧ 0 ≤ x.Heap ∧ x.Heap ≤ 1024)
theorem p_mMay {x : api_Method} (h1 : x.Args.length ≤ 100) (h2 : x.Locals.length ≤ 100) : method_May.f x = some (mMay x) := by
 have w : IntKind.i64.wrap ((x.Args.length : Int) + (x.Locals.length : Int)) = (x.Args.length : Int) + (x.Locals.length : Int) := wrap_id (by omega) (by omega)
 unfold method_May.f mMay
 by_cases h : x.Args.length > 4 ∨ x.Args.length + x.Locals.length > 16 ∨ (x.Result ≠ 1 ∧ x.Result ≠ 2)
 ·rw [if_pos h, runF_end]
  dsimp only [method_May.F]
  rw [w, if_pos]
  simp only [Bool.or_eq_true, Bool.and_eq_true, decide_eq_true_eq]
  omega
 ·rw [if_neg h, runF_step (t := .l1 (x.Args ++ x.Locals) ((0 : Nat) : Int)) (by
   dsimp only [method_May.F]
   unfold method_Kinds.f
   rw [w, if_neg (by simp only [Bool.or_eq_true, Bool.and_eq_true, decide_eq_true_eq]; omega), concat2 (by omega)]; rfl)]
  obtain ⟨r, hr, hc⟩ := runF_scan (F := method_May.F x) (n := (x.Args ++ x.Locals).length) (b := decide ((0 ≤ x.Fuel ∧ x.Fuel ≤ 1048576) ∧ (0 ≤ x.Stack ∧ x.Stack ≤ 256) ∧ 0 ≤ x.Heap ∧ x.Heap ≤ 1024)) (a := fun _ => false) (fun k => .l1 (x.Args ++ x.Locals) (k : Int)) (fun k => if h : k < (x.Args ++ x.Locals).length then !loc (x.Args ++ x.Locals)[k] else false) (fun k hk => by
   dsimp only [method_May.F]
   rw [if_pos (by omega), elt_lt hk]
   simp only [Option.bind_some]
   rw [p_loc]
   simp only [Option.bind_some, dif_pos hk, wrap_succ k (by simp at hk; omega)]
   cases loc (x.Args ++ x.Locals)[k] <;> rfl) (by
   dsimp only [method_May.F]
   unfold method_within.f
   rw [if_neg (by omega)]
   simp only [Option.bind_some]
   congr 2
   by_cases f1 : 0 ≤ x.Fuel ∧ x.Fuel ≤ 1048576
   ·rw [show (decide (x.Fuel ≥ 0) && decide (x.Fuel ≤ 1048576)) = true by simp; omega]
    by_cases f2 : 0 ≤ x.Stack ∧ x.Stack ≤ 256
    ·rw [show (decide (x.Stack ≥ 0) && decide (x.Stack ≤ 256)) = true by simp; omega]
     simp [f1, f2]
    ·have : (decide (x.Stack ≥ 0) && decide (x.Stack ≤ 256)) = false := by
      rw [Bool.and_eq_false_iff, decide_eq_false_iff_not, decide_eq_false_iff_not]; omega
     rw [this]; simp [f1, f2]
   ·have : (decide (x.Fuel ≥ 0) && decide (x.Fuel ≤ 1048576)) = false := by
     rw [Bool.and_eq_false_iff, decide_eq_false_iff_not, decide_eq_false_iff_not]; omega
    rw [this]; simp [f1])
  rw [hr]
  congr 1
  rcases hc with ⟨k, hk, hp, rfl⟩ | ⟨hn, rfl⟩
  ·rw [dif_pos hk] at hp
   rw [if_pos (List.any_eq_true.2 ⟨_, List.getElem_mem hk, hp⟩)]
  ·rw [if_neg]
   intro ha
   obtain ⟨k, hk, hp⟩ := List.any_eq_true.1 ha
   obtain ⟨i, hi, rfl⟩ := List.mem_iff_getElem.1 hk
   have := hn i hi
   rw [dif_pos hi, hp] at this; cases this
def mTail (x : api_Method) (o : List Int) : List Int × Int :=
 if (putC 3 x.Fuel).2 ≠ 0 then ([], 70) else if (putC 2 x.Stack).2 ≠ 0 then ([], 70) else if (putC 2 x.Heap).2 ≠ 0 then ([], 70) else (((o ++ (putC 3 x.Fuel).1) ++ (putC 2 x.Stack).1) ++ (putC 2 x.Heap).1, 0)
def mHead (x : api_Method) : List Int := ((([IntKind.u8.wrap (x.Args.length : Int)] ++ x.Args) ++ [IntKind.u8.wrap (x.Locals.length : Int)]) ++ x.Locals) ++ [x.Result, if x.Reads = true then 1 else 0]
def mBytes (x : api_Method) : List Int × Int := if mMay x = false then ([], 70) else mTail x (mHead x)
theorem p_mTail {x : api_Method} {o : List Int} (ho : o.length ≤ 1000) : method_Bytes.j1 x o = some (mTail x o) := by
 have a1 := p_put (w := 3) (n := x.Fuel) (by omega) (by omega)
 have a2 := p_put (w := 2) (n := x.Stack) (by omega) (by omega)
 have a3 := p_put (w := 2) (n := x.Heap) (by omega) (by omega)
 have l1 := putC_len 3 x.Fuel
 have l2 := putC_len 2 x.Stack
 have l3 := putC_len 2 x.Heap
 unfold method_Bytes.j1 mTail
 rw [show octet_Put.f 3 x.Fuel = some (putC 3 x.Fuel) from a1]; simp only [Option.bind_some]
 by_cases h1 : (putC 3 x.Fuel).2 ≠ 0
 ·rw [if_pos h1, if_pos h1]
 rw [if_neg h1, if_neg h1, if_pos (by omega), show octet_Put.f 2 x.Stack = some (putC 2 x.Stack) from a2]; simp only [Option.bind_some]
 by_cases h2 : (putC 2 x.Stack).2 ≠ 0
 ·rw [if_pos h2, if_pos h2]
 rw [if_neg h2, if_neg h2, if_pos (by simp only [List.length_append]; omega), show octet_Put.f 2 x.Heap = some (putC 2 x.Heap) from a3]; simp only [Option.bind_some]
 by_cases h3 : (putC 2 x.Heap).2 ≠ 0
 ·rw [if_pos h3, if_pos h3]
 rw [if_neg h3, if_neg h3, if_pos (by simp only [List.length_append]; omega)]
theorem mTail_len (x : api_Method) (o : List Int) : (mTail x o).1.length ≤ o.length + 7 ∧ ((mTail x o).2 = 0 ∨ (mTail x o).2 = 70) := by
 have l1 := putC_len 3 x.Fuel
 have l2 := putC_len 2 x.Stack
 have l3 := putC_len 2 x.Heap
 unfold mTail
 split
 ·simp
 ·split
  ·simp
  ·split
   ·simp
   ·simp only [List.length_append]; exact ⟨by omega, .inl trivial⟩
theorem p_mBytes {x : api_Method} (h1 : x.Args.length ≤ 100) (h2 : x.Locals.length ≤ 100) : method_Bytes.f x = some (mBytes x) := by
 unfold method_Bytes.f mBytes
 rw [p_mMay h1 h2]
 simp only [Option.bind_some]
 cases mMay x with
 | false => rfl
 | true =>
  rw [if_neg (show ¬ ((!true) = true) by simp), if_neg (show ¬ (true = false) by simp)]
  unfold mHead
  generalize hy : ((([IntKind.u8.wrap (x.Args.length : Int)] ++ x.Args) ++ [IntKind.u8.wrap (x.Locals.length : Int)]) ++ x.Locals) = y
  have hyl : y.length = x.Args.length + x.Locals.length + 2 := by rw [← hy]; simp; omega
  rw [if_pos (by simp; omega), if_pos (by simp; omega), if_pos (by simp; omega), if_pos (by simp; omega)]
  by_cases hr : x.Reads = true
  ·have hl : (((y ++ [x.Result, 0]).length : Int)) - 1 = ((y.length + 1 : Nat) : Int) := by simp; omega
   rw [if_pos hr, if_pos hr, hl, wrap_id (by omega) (by omega), elt_lt (by simp)]
   simp only [Option.bind_some]
   rw [Int.toNat_natCast, List.set_append_right _ _ (by omega), show y.length + 1 - y.length = 1 by omega]
   exact p_mTail (by simp; omega)
  ·rw [if_neg hr, if_neg hr]
   exact p_mTail (by simp; omega)
theorem mBytes_len {x : api_Method} (h1 : x.Args.length ≤ 100) (h2 : x.Locals.length ≤ 100) : (mBytes x).1.length ≤ 300 ∧ ((mBytes x).2 = 0 ∨ (mBytes x).2 = 70) := by
 unfold mBytes
 split
 ·simp
 ·have := mTail_len x (mHead x)
  have : (mHead x).length = x.Args.length + x.Locals.length + 4 := by unfold mHead; simp; omega
  exact ⟨by omega, by omega⟩
def cMay (l : List api_Instr) : Bool := (decide (0 < l.length) && decide (l.length ≤ 200)) && !(l.any fun i => !may i)
theorem p_cMay {l : List api_Instr} (hl : l.length ≤ 300) (hw : ∀ x ∈ l, wf_api_Instr x) : code_May.f l = some (cMay l) := by
 unfold code_May.f cMay
 by_cases h : 0 < l.length ∧ l.length ≤ 200
 ·rw [if_pos (by simp; omega)]
  unfold slices_ContainsFunc_api_Instr_api_Instr_s1.f slices_IndexFunc_api_Instr_api_Instr_s1.f
  obtain ⟨r, hr, e⟩ := idx_any (F := slices_IndexFunc_api_Instr_api_Instr_s1.F l) (fun k => .l1 (k : Int)) l (fun i => !may i) (fun k hk => by
   dsimp only [slices_IndexFunc_api_Instr_api_Instr_s1.F]
   unfold code_May_1.f
   rw [if_pos (by omega), elt_lt hk]
   simp only [Option.bind_some]
   rw [op_may (hw _ (List.getElem_mem hk))]
   simp only [Option.bind_some, wrap_succ k (by omega)]
   cases may l[k] <;> rfl) (by dsimp only [slices_IndexFunc_api_Instr_api_Instr_s1.F]; rw [if_neg (by omega)])
  rw [runF_step (t := .l1 ((0 : Nat) : Int)) rfl, hr]
  simp only [Option.bind_some]
  rw [e]
  have : (decide (0 < l.length) && decide (l.length ≤ 200)) = true := by rw [Bool.and_eq_true, decide_eq_true_eq, decide_eq_true_eq]; exact h
  rw [this]; rfl
 ·rw [if_neg (by simp; omega)]
  have : (decide (0 < l.length) && decide (l.length ≤ 200)) = false := by rw [Bool.and_eq_false_iff, decide_eq_false_iff_not, decide_eq_false_iff_not]; omega
  rw [this]; rfl
def wideB (o : Int) : Bool := match op_Bounds.f o with
 | some b => decide (b.2 > 0)
 | none => false
theorem p_wide {i : api_Instr} (h : wf_api_Instr i) : code_wide.f i.Op = some (wideB i.Op) := by
 obtain ⟨h0, h1⟩ := wf_op h
 obtain ⟨b, hb⟩ := bounds_op h0 h1
 unfold code_wide.f wideB
 rw [hb]; rfl
def cLoop : List api_Instr → List Int → List Int × Int
 | [], o => (o, 0)
 | i :: c, o => if wideB i.Op = true then (if (putC 2 i.A).2 ≠ 0 then ([], 40) else cLoop c ((o ++ [i.Op]) ++ (putC 2 i.A).1)) else cLoop c (o ++ [i.Op])
def cBytes (l : List api_Instr) : List Int × Int := if cMay l = false then ([], 40) else cLoop l [IntKind.u8.wrap (l.length : Int)]
theorem cLoop_len : ∀ (c : List api_Instr) (o : List Int), (cLoop c o).1.length ≤ o.length + 3 * c.length ∧ ((cLoop c o).2 = 0 ∨ (cLoop c o).2 = 40)
 | [], o => by simp [cLoop]
 | i :: c, o => by
  have l2 := putC_len 2 i.A
  rw [cLoop]
  split
  ·split
   ·simp
   ·have := cLoop_len c ((o ++ [i.Op]) ++ (putC 2 i.A).1)
    simp only [List.length_append, List.length_cons, List.length_nil] at *
    exact ⟨by omega, by omega⟩
  ·have := cLoop_len c (o ++ [i.Op])
   simp only [List.length_append, List.length_cons, List.length_nil] at *
   exact ⟨by omega, by omega⟩
theorem p_cBytes {l : List api_Instr} (hl : l.length ≤ 300) (hw : ∀ x ∈ l, wf_api_Instr x) : code_Bytes.f l = some (cBytes l) := by
 unfold code_Bytes.f cBytes
 cases hm : cMay l with
 | false =>
  refine runF_end ?_
  dsimp only [code_Bytes.F]
  rw [p_cMay hl hw, hm]; rfl
 | true =>
  rw [if_neg (by simp), runF_step (t := .l1 [IntKind.u8.wrap (l.length : Int)] ((0 : Nat) : Int)) (by dsimp only [code_Bytes.F]; rw [p_cMay hl hw, hm]; rfl)]
  have : ∀ (c pre : List api_Instr) (o : List Int), l = pre ++ c → o.length ≤ 1 + 3 * pre.length → runF (code_Bytes.F l) (.l1 o (pre.length : Int)) = some (cLoop c o) := by
   intro c
   induction c with
   | nil =>
    intro pre o he _
    refine runF_end ?_
    dsimp only [code_Bytes.F]; rw [if_neg (by rw [he]; simp)]; rfl
   | cons i c ih =>
    intro pre o he ho
    have hp : pre.length < l.length := by rw [he]; simp
    have hv : l[pre.length] = i := by simp [he]
    have hi := hw i (by rw [he]; simp)
    have a2 := p_put (w := 2) (n := i.A) (by omega) (by omega)
    have l2 := putC_len 2 i.A
    have pre_ : ∀ q, (if (!wideB i.Op) = true then (code_Bytes.j1 l (pre.length : Int) (o ++ [i.Op])) else (if (putC 2 i.A).2 ≠ 0 then (some (.inr ([], 40))) else (if ((o ++ [i.Op]).length + (putC 2 i.A).1.length) * 1 ≤ 140737488355328 then (code_Bytes.j1 l (pre.length : Int) ((o ++ [i.Op]) ++ (putC 2 i.A).1)) else none))) = q → code_Bytes.F l (.l1 o (pre.length : Int)) = q := by
     intro q hq
     dsimp only [code_Bytes.F]
     rw [if_pos (by omega), elt_lt hp, hv]; simp only [Option.bind_some]
     rw [if_pos (by simp; omega), p_wide hi]; simp only [Option.bind_some]
     rw [← hq]
     rw [show octet_Put.f 2 i.A = some (putC 2 i.A) from a2]; simp only [Option.bind_some]
    have nx : IntKind.i64.wrap ((pre.length : Int) + 1) = (((pre ++ [i]).length : Nat) : Int) := by rw [wrap_succ pre.length (by omega), List.length_append]; rfl
    rw [cLoop]
    cases hwd : wideB i.Op with
    | false =>
     rw [if_neg (by simp), ← ih (pre ++ [i]) _ (by rw [he]; simp) (by simp only [List.length_append, List.length_singleton]; omega)]
     refine runF_step (pre_ _ ?_)
     rw [hwd, if_pos (by simp)]
     unfold code_Bytes.j1
     rw [nx]
    | true =>
     rw [if_pos rfl]
     by_cases h : (putC 2 i.A).2 ≠ 0
     ·rw [if_pos h]
      refine runF_end (pre_ _ ?_)
      rw [hwd, if_neg (by simp), if_pos h]
     ·rw [if_neg h, ← ih (pre ++ [i]) _ (by rw [he]; simp) (by simp only [List.length_append, List.length_singleton]; omega)]
      refine runF_step (pre_ _ ?_)
      rw [hwd, if_neg (by simp), if_neg h, if_pos (by simp only [List.length_append, List.length_singleton]; omega)]
      unfold code_Bytes.j1
      rw [nx]
  exact this l [] _ rfl (by simp)
theorem cBytes_len {l : List api_Instr} (hl : l.length ≤ 300) : (cBytes l).1.length ≤ 1000 ∧ ((cBytes l).2 = 0 ∨ (cBytes l).2 = 40) := by
 unfold cBytes
 split
 ·simp
 ·have := cLoop_len l [IntKind.u8.wrap (l.length : Int)]
  simp only [List.length_singleton] at this
  exact ⟨by omega, by omega⟩
end VerifyPure
namespace VerifyPure
open FlowPure TypesPure CallsPure CostPure
def wLast (m : api_Module) : Int := if m.Migrate ≥ 0 then IntKind.u8.wrap m.Migrate else 255
def wLoop (m : api_Module) : List api_Method → List Int → List Int × Int
 | [], o => (o ++ [wLast m], 0)
 | x :: c, o => if (mBytes x).2 ≠ 0 then ([], (mBytes x).2) else if (cBytes x.Code).2 ≠ 0 then ([], (cBytes x.Code).2) else wLoop m c ((o ++ (mBytes x).1) ++ (cBytes x.Code).1)
def wholeC (m : api_Module) : List Int × Int :=
 if m.Globals.length > 4 ∨ m.Methods.length > 16 ∨ m.Migrate < -1 ∨ m.Migrate ≥ m.Methods.length then ([], 80) else
 if (pBytes m.Globals).2 ≠ 0 then ([], (pBytes m.Globals).2) else if (pBytes m.Pool).2 ≠ 0 then ([], (pBytes m.Pool).2) else
 wLoop m m.Methods (((pBytes m.Globals).1 ++ (pBytes m.Pool).1) ++ [IntKind.u8.wrap (m.Methods.length : Int)])
def bytesC (m : api_Module) : List Int × Int := if (wholeC m).2 ≠ 0 then ([], (wholeC m).2) else if ((wholeC m).1.length : Int) > 2000 then ([], 3) else ((wholeC m).1, 0)
def mayC (m : api_Module) : Int := (bytesC m).2
theorem p_whole {m : api_Module} (hm : wf_api_Module m) (S : Small m) : module_whole.f m = some (wholeC m) := by
 have hG := S.G
 have hP := S.P
 have hM := S.M
 have lg := pBytes_len m.Globals
 have lp := pBytes_len m.Pool
 unfold module_whole.f wholeC
 by_cases h : m.Globals.length > 4 ∨ m.Methods.length > 16 ∨ m.Migrate < -1 ∨ m.Migrate ≥ m.Methods.length
 ·rw [if_pos h]
  refine runF_end ?_
  dsimp only [module_whole.F]
  rw [if_pos]
  simp only [Bool.or_eq_true, decide_eq_true_eq]; omega
 rw [if_neg h]
 have st : ∀ q, (if (pBytes m.Globals).2 ≠ 0 then (some (.inr ([], (pBytes m.Globals).2))) else (if (pBytes m.Pool).2 ≠ 0 then (some (.inr ([], (pBytes m.Pool).2))) else (if ((pBytes m.Globals).1.length + (pBytes m.Pool).1.length) * 1 ≤ 140737488355328 then (if (((pBytes m.Globals).1 ++ (pBytes m.Pool).1).length + [IntKind.u8.wrap (m.Methods.length : Int)].length) * 1 ≤ 140737488355328 then (some (.inl (.l1 (((pBytes m.Globals).1 ++ (pBytes m.Pool).1) ++ [IntKind.u8.wrap (m.Methods.length : Int)]) 0))) else none) else none))) = q → module_whole.F m .start = q := by
  intro q hq
  dsimp only [module_whole.F]
  rw [if_neg (by simp only [Bool.or_eq_true, decide_eq_true_eq]; omega), p_pBytes hG]; simp only [Option.bind_some]
  rw [p_pBytes hP]; simp only [Option.bind_some]
  exact hq
 by_cases hg : (pBytes m.Globals).2 ≠ 0
 ·rw [if_pos hg] at st ⊢; exact runF_end (st _ rfl)
 rw [if_neg hg] at st ⊢
 by_cases hp : (pBytes m.Pool).2 ≠ 0
 ·rw [if_pos hp] at st ⊢; exact runF_end (st _ rfl)
 rw [if_neg hp] at st ⊢
 rw [if_pos (by omega), if_pos (by simp only [List.length_append, List.length_singleton]; omega)] at st
 rw [runF_step (st _ rfl)]
 have : ∀ (c pre : List api_Method) (o : List Int), m.Methods = pre ++ c → o.length ≤ 4000 + 2000 * pre.length → runF (module_whole.F m) (.l1 o (pre.length : Int)) = some (wLoop m c o) := by
  intro c
  induction c with
  | nil =>
   intro pre o he ho
   have hpl : pre.length ≤ 40 := by rw [he] at hM; simpa using hM
   refine runF_end ?_
   dsimp only [module_whole.F]
   rw [if_neg (by rw [he]; simp)]
   unfold module_whole.j1
   rw [wLoop, wLast]
   by_cases h0 : m.Migrate ≥ 0
   ·rw [if_pos h0, if_pos h0, if_pos (by simp; omega)]
   ·rw [if_neg h0, if_neg h0, if_pos (by simp; omega)]
  | cons x c ih =>
   intro pre o he ho
   have hpl : pre.length < m.Methods.length := by rw [he]; simp
   have hx : m.Methods[pre.length] = x := by simp [he]
   have hxm : x ∈ m.Methods := by rw [he]; simp
   have hs := S.x x hxm
   have hwx : ∀ i ∈ x.Code, wf_api_Instr i := ((hm.2.2.1.2 x hxm).2.2.2.2.2.2.2).2
   have lm := mBytes_len hs.1 hs.2.1
   have lc := cBytes_len hs.2.2
   have pre_ : ∀ q, (if (mBytes x).2 ≠ 0 then (some (.inr ([], (mBytes x).2))) else (if (cBytes x.Code).2 ≠ 0 then (some (.inr ([], (cBytes x.Code).2))) else (if (o.length + (mBytes x).1.length) * 1 ≤ 140737488355328 then (if ((o ++ (mBytes x).1).length + (cBytes x.Code).1.length) * 1 ≤ 140737488355328 then (some (.inl (.l1 ((o ++ (mBytes x).1) ++ (cBytes x.Code).1) (IntKind.i64.wrap ((pre.length : Int) + 1))))) else none) else none))) = q → module_whole.F m (.l1 o (pre.length : Int)) = q := by
    intro q hq
    dsimp only [module_whole.F]
    rw [if_pos (by omega), elt_lt hpl, hx]; simp only [Option.bind_some]
    rw [p_mBytes hs.1 hs.2.1]; simp only [Option.bind_some]
    rw [p_cBytes hs.2.2 hwx]; simp only [Option.bind_some]
    exact hq
   rw [wLoop]
   by_cases h1 : (mBytes x).2 ≠ 0
   ·rw [if_pos h1] at pre_ ⊢; exact runF_end (pre_ _ rfl)
   rw [if_neg h1] at pre_ ⊢
   by_cases h2 : (cBytes x.Code).2 ≠ 0
   ·rw [if_pos h2] at pre_ ⊢; exact runF_end (pre_ _ rfl)
   rw [if_neg h2] at pre_ ⊢
   rw [if_pos (by omega), if_pos (by simp only [List.length_append]; omega), show IntKind.i64.wrap ((pre.length : Int) + 1) = (((pre ++ [x]).length : Nat) : Int) by rw [wrap_succ pre.length (by omega), List.length_append]; rfl] at pre_
   rw [runF_step (pre_ _ rfl)]
   exact ih (pre ++ [x]) _ (by rw [he]; simp) (by simp only [List.length_append, List.length_singleton]; omega)
 exact this m.Methods [] _ rfl (by simp only [List.length_append, List.length_singleton]; omega)
theorem p_bytes {m : api_Module} (hm : wf_api_Module m) (S : Small m) : module_Bytes.f m = some (bytesC m) := by
 unfold module_Bytes.f bytesC
 rw [p_whole hm S]; simp only [Option.bind_some]
 split
 ·rfl
 ·split <;> rfl
theorem p_may {m : api_Module} (hm : wf_api_Module m) (S : Small m) : module_May.f m = some (mayC m) := by
 unfold module_May.f mayC
 rw [p_bytes hm S]; rfl
def okE (e : Int) : Prop := e ≠ 1 ∧ e ≠ 4
theorem wLoop_err {m : api_Module} (S : Small m) : ∀ (c : List api_Method) (o : List Int), (∀ x ∈ c, x ∈ m.Methods) → okE (wLoop m c o).2
 | [], o, _ => by simp [wLoop, okE]
 | x :: c, o, h => by
  have hs := S.x x (h x (by simp))
  have lm := (mBytes_len hs.1 hs.2.1).2
  have lc := (cBytes_len hs.2.2).2
  rw [wLoop]
  split
  ·dsimp only; unfold okE; omega
  ·split
   ·dsimp only; unfold okE; omega
   ·exact wLoop_err S c _ fun y hy => h y (by simp [hy])
theorem mayC_err {m : api_Module} (S : Small m) : okE (mayC m) ∧ (mayC m = 0 → -1 ≤ m.Migrate ∧ m.Migrate < m.Methods.length) := by
 have lg := (pBytes_len m.Globals).2
 have lp := (pBytes_len m.Pool).2
 unfold mayC bytesC wholeC
 by_cases h : m.Globals.length > 4 ∨ m.Methods.length > 16 ∨ m.Migrate < -1 ∨ m.Migrate ≥ m.Methods.length
 ·simp [h, okE]
 ·rw [if_neg h]
  refine ⟨?_, fun _ => by omega⟩
  by_cases hg : (pBytes m.Globals).2 ≠ 0
  ·rw [if_pos hg, if_pos hg]; dsimp only; unfold okE; omega
  rw [if_neg hg]
  by_cases hp : (pBytes m.Pool).2 ≠ 0
  ·rw [if_pos hp, if_pos hp]; dsimp only; unfold okE; omega
  rw [if_neg hp]
  have := wLoop_err S m.Methods (((pBytes m.Globals).1 ++ (pBytes m.Pool).1) ++ [IntKind.u8.wrap (m.Methods.length : Int)]) (fun _ h => h)
  generalize wLoop m m.Methods (((pBytes m.Globals).1 ++ (pBytes m.Pool).1) ++ [IntKind.u8.wrap (m.Methods.length : Int)]) = w at this
  split
  ·exact this
  ·split
   ·unfold okE; dsimp only; omega
   ·unfold okE; dsimp only; omega
theorem p_has {l : List Int} {n : Int} (hl : l.length ≤ 100) : slices_Contains_uint8_uint8.f l n = some (l.any fun a => decide (n = a)) := by
 unfold slices_Contains_uint8_uint8.f slices_Index_uint8_uint8.f
 obtain ⟨r, hr, e⟩ := idx_any (F := slices_Index_uint8_uint8.F l n) (fun k => .l1 (k : Int)) l (fun a => decide (n = a)) (fun k hk => by
  dsimp only [slices_Index_uint8_uint8.F]
  rw [if_pos (by omega), elt_lt hk]
  simp only [Option.bind_some, wrap_succ k (by omega)]
  by_cases h : n = l[k]
  ·rw [if_pos h, if_pos (by simpa using h)]
  ·rw [if_neg h, if_neg (by simpa using h)]) (by dsimp only [slices_Index_uint8_uint8.F]; rw [if_neg (by omega)])
 rw [runF_step (t := .l1 ((0 : Nat) : Int)) rfl, hr]
 simp only [Option.bind_some]
 rw [e]
def migB (x : api_Method) : Bool := mMay x && !(x.Args.any fun a => decide (3 = a))
theorem p_mig {x : api_Method} (h1 : x.Args.length ≤ 100) (h2 : x.Locals.length ≤ 100) : method_Migrates.f x = some (migB x) := by
 unfold method_Migrates.f migB
 rw [p_mMay h1 h2]; simp only [Option.bind_some]
 cases mMay x with
 | false => rfl
 | true => rw [if_pos rfl, p_has h1]; rfl
def movesC (m : api_Module) : Int := if m.Migrate ≥ 0 ∧ migB (methM m m.Migrate.toNat) = false then 70 else 0
theorem p_moves {m : api_Module} (S : Small m) (h : m.Migrate < m.Methods.length) : verify_moves.f m = some (movesC m) := by
 unfold verify_moves.f movesC
 by_cases h0 : m.Migrate ≥ 0
 ·have hk : m.Migrate.toNat < m.Methods.length := by omega
  have hs := S.x _ (List.getElem_mem hk)
  rw [if_pos h0, elt_int (xs := m.Methods) (by omega) hk]; simp only [Option.bind_some]
  rw [p_mig hs.1 hs.2.1]; simp only [Option.bind_some]
  rw [methM_at hk]
  cases migB m.Methods[m.Migrate.toNat] <;> simp [h0]
 ·rw [if_neg h0]; simp [h0]
end VerifyPure
namespace VerifyPure
open FlowPure TypesPure CallsPure CostPure
theorem after_err (E : TE) (i : api_Instr) (row : List Int) : (afterC E i row).2 = 0 ∨ (afterC E i row).2 = 100 ∨ (afterC E i row).2 = 101 := by
 unfold afterC
 split
 ·simp
 ·split <;> simp
theorem put_err {next : List Int} : ∀ (ws : List Int) (rows : List types_Row), (TypesPure.put next rows ws).1 = 0 ∨ (TypesPure.put next rows ws).1 = 100
 | [], rows => by simp [TypesPure.put]
 | w :: ws, rows => by
  unfold TypesPure.put
  split
  ·simp
  ·exact put_err ws _
theorem rowsAt_err (E : TE) (l : List api_Instr) : ∀ k, (rowsAt E l k).1 = 0 ∨ (rowsAt E l k).1 = 100 ∨ (rowsAt E l k).1 = 101
 | 0 => by simp [rowsAt]
 | k + 1 => by
  unfold rowsAt
  split
  ·exact rowsAt_err E l k
  ·unfold placeC
   split
   ·split
    ·exact after_err ..
    ·rcases put_err (next := (afterC E (At l api_Instr.zero (k : Int)) (At (rowsAt E l k).2 R0 (k : Int)).Kinds).1) (FlowPure.ways l k) (rowsAt E l k).2 with h | h
     ·exact .inl h
     ·exact .inr (.inl h)
   ·simp
theorem rows_errs {m : api_Module} {k : Nat} (hm : wf_api_Module m) (S : Small m) (hk : k < m.Methods.length) : types_Rows.f m k = some (rowsM m k) ∧ okE (rowsM m k).2 ∧ ((rowsM m k).2 = 0 → Known m.Methods[k].Code ∧ Fine m.Methods[k].Code) := by
 obtain ⟨rows, e, g1, g3⟩ := rows_ok hm S hk
 have er : rowsM m k = (rows, e) := by unfold rowsM; rw [g1]; rfl
 rw [er]
 refine ⟨g1, ?_, fun he => ⟨(g3 he).2.1, (g3 he).2.2.1⟩⟩
 have h0 : (0 : Int) ≤ (k : Int) := by omega
 have h1 : (k : Int) < m.Methods.length := by omega
 have hx := elt_lt hk
 generalize hxe : m.Methods[k] = x at hx
 have hxm : x ∈ m.Methods := by rw [← hxe]; exact List.getElem_mem hk
 have hs := S.x x hxm
 have hwx : ∀ i ∈ x.Code, wf_api_Instr i := ((hm.2.2.1.2 x hxm).2.2.2.2.2.2.2).2
 obtain ⟨e1, e2, e3⟩ := rows_else (m := m) (k := k) (x := x) h0 h1 hx (by omega) hwx (by omega)
 have out : ∀ {r : List types_Row} {e' : Int}, types_Rows.f m k = some (r, e') → e = e' := by
  intro r e' h
  rw [g1] at h
  exact (Prod.mk.inj (Option.some.inj h)).2
 unfold okE
 dsimp only
 by_cases hkn : Known x.Code
 ·by_cases hf : Fine x.Code
  ·by_cases hth : ∃ i ∈ x.Code, there (envOf m x) i = false
   ·have := out (e3 hkn hf hth); omega
   ·have W : Well (envOf m x) x.Code := ⟨hkn, hf, hwx, fun i hi => by
     cases ht : there (envOf m x) i
     ·exact absurd ⟨i, hi, ht⟩ hth
     ·rfl, fun y hy => by have := S.x y hy; omega⟩
    have hw := rows_well h0 h1 hx W (by omega)
    have := out (r := (rowsC (envOf m x) x.Code).1) (e' := (rowsC (envOf m x) x.Code).2) hw
    have ha := rowsAt_err (envOf m x) x.Code x.Code.length
    unfold rowsC at this
    split at this
    ·dsimp only at this; omega
    ·dsimp only at this; omega
  ·have := out (e2 hkn hf); omega
 ·have := out (e1 hkn); omega
noncomputable def firstC (m : api_Module) : Int × Int := match (List.range m.Methods.length).find? (fun k => decide ((rowsM m k).2 ≠ 0)) with
 | some k => ((k : Int), (rowsM m k).2)
 | none => (-1, 0)
theorem p_first {m : api_Module} (hm : wf_api_Module m) (S : Small m) : verify_first.f m = some (firstC m) := by
 have hM := S.M
 unfold verify_first.f
 have scan : ∀ (j k : Nat), k + j = m.Methods.length → runF (verify_first.F m) (.l1 (k : Int)) = some (match (List.range' k j).find? (fun k => decide ((rowsM m k).2 ≠ 0)) with
     | some k => ((k : Int), (rowsM m k).2)
     | none => (-1, 0)) := by
  intro j
  induction j with
  | zero =>
   intro k hk
   refine runF_end ?_
   dsimp only [verify_first.F]
   rw [if_neg (by omega)]; simp
  | succ j ih =>
   intro k hk
   have hr := (rows_errs hm S (show k < m.Methods.length by omega)).1
   rw [List.range'_succ, List.find?_cons]
   by_cases he : (rowsM m k).2 = 0
   ·rw [show decide ((rowsM m k).2 ≠ 0) = false by simpa using he]
    dsimp only
    rw [← ih (k + 1) (by omega)]
    refine runF_step ?_
    dsimp only [verify_first.F]
    unfold types_Check.f
    rw [if_pos (by omega), hr]; simp only [Option.bind_some]
    rw [if_neg (by simpa using he), wrap_succ k (by omega)]
   ·rw [show decide ((rowsM m k).2 ≠ 0) = true by simpa using he]
    refine runF_end ?_
    dsimp only [verify_first.F]
    unfold types_Check.f
    rw [if_pos (by omega), hr]; simp only [Option.bind_some]
    rw [if_pos he]
 rw [runF_step (t := .l1 ((0 : Nat) : Int)) rfl, scan m.Methods.length 0 (by omega), ← List.range_eq_range']; rfl
def callsC (m : api_Module) : Int := if anyBad m = true then 2 else (ordN (whoms m) m.Methods.length []).2
theorem p_calls {m : api_Module} (S : Small m) : calls_Check.f m = some (callsC m) := by
 unfold calls_Check.f callsC
 rw [prog_order ⟨S.M, fun x hx => (S.x x hx).2.2⟩]
 simp only [Option.bind_some]
 split <;> rfl
theorem p_cost {m : api_Module} (hm : wf_api_Module m) (S : Small m) : cost_Check.f m = some (costsC m).2 := by
 unfold cost_Check.f
 rw [prog_costs hm S]; rfl
theorem p_pwhom {m : api_Module} (S : Fit m) : pure_whom.f m = some (if anyBad m = true then ([], 2) else (whoms m, 0)) := by
 unfold pure_whom.f
 rw [runF_step (t := .l1 [] ((0 : Nat) : Int)) rfl]
 have : ∀ (c pre : List api_Method), m.Methods = pre ++ c → runF (pure_whom.F m) (.l1 (pre.map fun x => whomL m.Methods.length x.Code) (pre.length : Int)) = some (if (c.any fun x => (nm x.Code).any (badN m.Methods.length)) = true then ([], 2) else (whoms m, 0)) := by
  intro c
  induction c with
  | nil =>
   intro pre he
   refine runF_end ?_
   dsimp only [pure_whom.F]
   rw [if_neg (by rw [he]; simp)]
   simp [whoms, he]
  | cons x c ih =>
   intro pre he
   have hlen : pre.length < m.Methods.length := by rw [he]; simp
   have hx : m.Methods[pre.length] = x := by simp [he]
   have hw := prog_whom hlen (S.x _ (List.getElem_mem hlen))
   rw [hx] at hw
   have hM := S.M
   by_cases hb : (nm x.Code).any (badN m.Methods.length) = true
   ·rw [List.any_cons, hb, Bool.true_or, if_pos rfl]
    refine runF_end ?_
    dsimp only [pure_whom.F]
    rw [if_pos (by omega), hw]
    simp only [Option.bind_some, whomC]
    rw [if_pos hb, if_pos (by simp)]
   ·have hb' : (nm x.Code).any (badN m.Methods.length) = false := by simpa using hb
    rw [List.any_cons, hb', Bool.false_or, ← ih (pre ++ [x]) (by rw [he]; simp)]
    refine runF_step ?_
    dsimp only [pure_whom.F]
    rw [if_pos (by omega), hw]
    simp only [Option.bind_some, whomC]
    rw [if_neg hb, if_neg (by simp), if_pos (by simp; omega), wrap_succ pre.length (by omega), List.length_append, List.map_append]; rfl
 exact this _ [] rfl
def storesB (x : api_Method) : Bool := x.Code.any fun i => decide (i.Op = 5)
theorem p_stores {x : api_Method} (hx : x.Code.length ≤ 300) : pure_stores.f x = some (storesB x) := by
 unfold pure_stores.f slices_ContainsFunc_api_Instr_api_Instr_s4.f slices_IndexFunc_api_Instr_api_Instr_s4.f storesB
 obtain ⟨r, hr, e⟩ := idx_any (F := slices_IndexFunc_api_Instr_api_Instr_s4.F x.Code) (fun k => .l1 (k : Int)) x.Code (fun i => decide (i.Op = 5)) (fun k hk => by
  dsimp only [slices_IndexFunc_api_Instr_api_Instr_s4.F]
  unfold pure_stores_1.f
  rw [if_pos (by omega), elt_lt hk]
  simp only [Option.bind_some, wrap_succ k (by omega)]
  cases decide (x.Code[k].Op = 5) <;> rfl) (by dsimp only [slices_IndexFunc_api_Instr_api_Instr_s4.F]; rw [if_neg (by omega)])
 rw [runF_step (t := .l1 ((0 : Nat) : Int)) rfl, hr]
 simp only [Option.bind_some]
 rw [e]
def loudB (m : api_Module) (l : List Int) : Bool := l.any fun a => !(methM m a.toNat).Reads
theorem p_loud {m : api_Module} {l : List Int} (hl : l.length ≤ 100) (h : ∀ a ∈ l, 0 ≤ a ∧ a < m.Methods.length) : slices_ContainsFunc_int_int_s1.f l m.Globals m.Pool m.Methods m.Migrate = some (loudB m l) := by
 unfold slices_ContainsFunc_int_int_s1.f slices_IndexFunc_int_int_s1.f loudB
 obtain ⟨r, hr, e⟩ := idx_any (F := slices_IndexFunc_int_int_s1.F l m.Globals m.Pool m.Methods m.Migrate) (fun k => .l1 (k : Int)) l (fun a => !(methM m a.toNat).Reads) (fun k hk => by
  have := h _ (List.getElem_mem hk)
  have ha : l[k].toNat < m.Methods.length := by omega
  dsimp only [slices_IndexFunc_int_int_s1.F]
  unfold pure_Check_1_s1.f
  rw [if_pos (by omega), elt_lt hk]
  simp only [Option.bind_some]
  rw [elt_int (xs := m.Methods) this.1 ha]
  simp only [Option.bind_some, wrap_succ k (by omega)]
  rw [methM_at ha]
  cases m.Methods[l[k].toNat].Reads <;> rfl) (by dsimp only [slices_IndexFunc_int_int_s1.F]; rw [if_neg (by omega)])
 rw [runF_step (t := .l1 ((0 : Nat) : Int)) rfl, hr]
 simp only [Option.bind_some]
 rw [e]
def badR (m : api_Module) (k : Nat) : Bool := (methM m k).Reads && (storesB (methM m k) || loudB m ((whoms m).getD k []))
def pureC (m : api_Module) : Int := if anyBad m = true then 2 else if (List.range m.Methods.length).any (badR m) = true then 130 else 0
theorem p_pure {m : api_Module} (S : Small m) : pure_Check.f m = some (pureC m) := by
 have hM := S.M
 have F : Fit m := ⟨S.M, fun x hx => (S.x x hx).2.2⟩
 have hw := p_pwhom F
 unfold pure_Check.f pureC
 by_cases hb : anyBad m = true
 ·rw [if_pos hb] at hw ⊢
  refine runF_end ?_
  dsimp only [pure_Check.F]
  rw [hw]; simp only [Option.bind_some]; rw [if_pos (by simp)]
 rw [if_neg hb] at hw ⊢
 rw [runF_step (t := .l1 (whoms m, 0) ((0 : Nat) : Int)) (by dsimp only [pure_Check.F]; rw [hw]; rfl)]
 obtain ⟨r, hr, hc⟩ := runF_scan (F := pure_Check.F m) (n := m.Methods.length) (b := 0) (a := fun _ => 130) (fun k => .l1 (whoms m, 0) (k : Int)) (fun k => badR m k) (fun k hk => by
  have hs := S.x _ (List.getElem_mem hk)
  have hwl : k < (whoms m).length := by simpa [whoms] using hk
  have hg : (whoms m).getD k [] = (whoms m)[k] := by rw [List.getD_eq_getElem?_getD, List.getElem?_eq_getElem hwl]; rfl
  have hin : ∀ a ∈ (whoms m)[k], 0 ≤ a ∧ a < m.Methods.length := by
   intro a ha
   rw [← hg, whoms_at hk] at ha
   unfold whomL at ha
   obtain ⟨j, hj, rfl⟩ := List.mem_map.1 (List.mem_filter.1 ha).1
   have := List.mem_range.1 hj
   omega
  have hlen : (whoms m)[k].length ≤ 100 := by
   rw [← hg, whoms_at hk]
   have := whomL_len m.Methods.length m.Methods[k].Code
   omega
  dsimp only [pure_Check.F]
  rw [if_pos (by omega), elt_lt hk]
  simp only [Option.bind_some]
  rw [p_stores hs.2.2, elt_lt hwl]
  simp only [Option.bind_some]
  rw [p_loud hlen hin]
  simp only [Option.bind_some, wrap_succ k (by omega)]
  unfold badR
  rw [methM_at hk, hg]
  cases m.Methods[k].Reads <;> cases storesB m.Methods[k] <;> cases loudB m (whoms m)[k] <;> rfl) (by dsimp only [pure_Check.F]; rw [if_neg (by omega)])
 rw [hr]
 congr 1
 rcases hc with ⟨k, hk, hp, rfl⟩ | ⟨hn, rfl⟩
 ·rw [if_pos (List.any_eq_true.2 ⟨k, List.mem_range.2 hk, hp⟩)]
 ·rw [if_neg]
  intro ha
  obtain ⟨k, hk, hp⟩ := List.any_eq_true.1 ha
  have := hn k (List.mem_range.1 hk)
  rw [hp] at this; cases this
end VerifyPure
namespace CostPure
open FlowPure TypesPure CallsPure
theorem certs_len {one : List api_Cert → Nat → api_Cert} {fit : Nat → api_Cert → Bool} : ∀ (o : List Int) (l r : List api_Cert), certsC one fit o l = some r → r.length = l.length ∧ ∀ j : Nat, (j : Int) ∉ o → (∀ a ∈ o, 0 ≤ a) → r.getD j api_Cert.zero = l.getD j api_Cert.zero
 | [], l, r, h => by
  rw [certsC] at h; injection h with h; subst h; exact ⟨rfl, fun _ _ _ => rfl⟩
 | a :: o, l, r, h => by
  rw [certsC] at h
  split at h
  ·obtain ⟨h1, h2⟩ := certs_len o _ r h
   refine ⟨by rw [h1, List.length_set], fun j hj h0 => ?_⟩
   rw [h2 j (fun hh => hj (List.mem_cons_of_mem _ hh)) (fun b hb => h0 b (List.mem_cons_of_mem _ hb))]
   have hne : a.toNat ≠ j := fun e => hj (by have := h0 a (List.mem_cons_self ..); rw [show ((j : Nat) : Int) = a by omega]; exact List.mem_cons_self ..)
   rw [List.getD_eq_getElem?_getD, List.getD_eq_getElem?_getD, List.getElem?_set_ne hne]
  ·cases h
end CostPure
namespace CostPure
theorem certs_refl {l : List api_Cert} (h : l.length < 4611686018427387904) : capstanref12_Same.f l l = some true := by
 unfold capstanref12_Same.f
 rw [runF_step (t := .l1 ((0 : Nat) : Int)) (by dsimp only [capstanref12_Same.F]; rw [if_neg (by simp)]; rfl)]
 refine (runF_up (F := capstanref12_Same.F l l) (n := l.length) (fun k => .l1 (k : Int)) (fun k hk => ?_)).trans (runF_end ?_)
 ·dsimp only [capstanref12_Same.F]
  rw [if_pos (by omega), elt_lt hk]
  simp only [Option.bind_some]
  rw [if_neg (by simp), wrap_succ k (by omega)]
 ·dsimp only [capstanref12_Same.F]
  rw [if_neg (by omega)]
end CostPure
end Go.Proofs.YtikichjmjbbnbaaGreatDoor
