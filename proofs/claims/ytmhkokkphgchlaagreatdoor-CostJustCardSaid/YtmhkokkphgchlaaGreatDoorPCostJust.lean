/- Where neither a method, nor one to which it leads, has jumps or another end than a return at last, a call does just as many instructions as its certificate says, and what is made comes to just as many words (the law CostJust): for every input, with no condition but what the card ties to the program (what op's table of bounds holds). -/
import Derived.Test.YtmhkokkphgchlaaGreatDoorRCostJust
set_option linter.unusedVariables false
set_option linter.unusedSimpArgs false
set_option linter.unusedSectionVars false
namespace Go.Proofs.YtmhkokkphgchlaaGreatDoor
open Go.Q
namespace FlowPure
inductive Kn | loop | again (a : Nat) | other
deriving DecidableEq
def opn (K : Nat → Kn) : Nat → List Nat
 | 0 => []
 | i + 1 => match K i with
  | .loop => i :: opn K i
  | .again _ => (opn K i).tail
  | .other => opn K i
def good (K : Nat → Kn) (i : Nat) : Prop := match K i with
 | .loop => (opn K i).length < 4
 | .again a => (opn K i).head? = some a
 | .other => True
theorem opn_mem (K : Nat → Kn) : ∀ (i : Nat), (∀ j, j < i → good K j) →
    (∀ f, f ∈ opn K i ↔ (K f = .loop ∧ f < i ∧ ∀ j, f < j → j < i → K j ≠ .again f)) ∧ (opn K i).Pairwise (· > ·) ∧ (opn K i).length ≤ 4
 | 0, _ => by simp [opn]
 | i + 1, hg => by
  obtain ⟨h1, h2, h3⟩ := opn_mem K i (fun j hj => hg j (by omega))
  have gi := hg i (by omega)
  unfold good at gi
  unfold opn
  cases hk : K i with
  | loop =>
   rw [hk] at gi
   simp only at gi ⊢
   refine ⟨fun f => ?_, ?_, by simp; omega⟩
   ·rw [List.mem_cons, h1]
    constructor
    ·rintro (rfl | ⟨a, b, c⟩)
     ·exact ⟨hk, by omega, fun j h1 h2 => by omega⟩
     ·refine ⟨a, by omega, fun j q1 q2 => ?_⟩
      by_cases e : j = i
      ·subst e; rw [hk]; exact fun z => Kn.noConfusion z
      ·exact c j q1 (by omega)
    ·rintro ⟨a, b, c⟩
     by_cases e : f = i
     ·exact .inl e
     ·exact .inr ⟨a, by omega, fun j q1 q2 => c j q1 (by omega)⟩
   ·rw [List.pairwise_cons]
    exact ⟨fun x hx => ((h1 x).1 hx).2.1, h2⟩
  | again a =>
   rw [hk] at gi
   simp only at gi ⊢
   cases ho : opn K i with
   | nil => rw [ho] at gi; cases gi
   | cons b T =>
    rw [ho] at gi h1 h2 h3
    simp at gi
    subst gi
    rw [List.pairwise_cons] at h2
    refine ⟨fun f => ?_, h2.2, by simp at h3; simp; omega⟩
    simp only [List.tail_cons]
    constructor
    ·intro hf
     obtain ⟨p, q, r⟩ := (h1 f).1 (List.mem_cons_of_mem _ hf)
     refine ⟨p, by omega, fun j q1 q2 => ?_⟩
     by_cases e : j = i
     ·subst e; rw [hk]; intro z; cases z
      have := h2.1 _ hf; omega
     ·exact r j q1 (by omega)
    ·rintro ⟨p, q, r⟩
     have hne : f ≠ i := by rintro rfl; rw [hk] at p; cases p
     have := (h1 f).2 ⟨p, by omega, fun j q1 q2 => r j q1 (by omega)⟩
     rcases List.mem_cons.1 this with e | e
     ·subst e; exact absurd hk (r i (by omega) (by omega))
     ·exact e
  | other =>
   simp only
   refine ⟨fun f => ?_, h2, h3⟩
   rw [h1]
   constructor
   ·rintro ⟨a, b, c⟩
    refine ⟨a, by omega, fun j q1 q2 => ?_⟩
    by_cases e : j = i
    ·subst e; rw [hk]; exact fun z => Kn.noConfusion z
    ·exact c j q1 (by omega)
   ·rintro ⟨a, b, c⟩
    have hne : f ≠ i := by rintro rfl; rw [hk] at a; cases a
    exact ⟨a, by omega, fun j q1 q2 => c j q1 (by omega)⟩
theorem nodup_len {α : Type} [DecidableEq α] : ∀ (l m : List α), l.Nodup → (∀ x ∈ l, x ∈ m) → l.length ≤ m.length
 | [], _, _, _ => by simp
 | x :: l, m, hn, hs => by
  rw [List.nodup_cons] at hn
  have hx := hs x (by simp)
  have := nodup_len l (m.erase x) hn.2 (fun y hy => (List.mem_erase_of_ne (by rintro rfl; exact hn.1 hy)).2 (hs y (by simp [hy])))
  rw [List.length_erase_of_mem hx] at this
  have : 0 < m.length := List.length_pos_of_mem hx
  simp; omega
def Pr (K : Nat → Kn) (n f t : Nat) : Prop := f < n ∧ t < n ∧ K f = .loop ∧ K t = .again f
def Ok1 (K : Nat → Kn) (n : Nat) : Prop := ∀ f, f < n → K f = .loop → ∃ t, Pr K n f t ∧ f ≤ t ∧ ∀ t', Pr K n f t' → t' = t
def Ok2 (K : Nat → Kn) (n : Nat) : Prop := ∀ t a, t < n → K t = .again a → a < n ∧ K a = .loop
def Nest (K : Nat → Kn) (n : Nat) : Prop := ∀ f t g u, Pr K n f t → Pr K n g u → f < g → g < t → u ≤ t
def Deep (n : Nat) (R : List (Nat × Nat)) : Prop := ∀ a, a < n → (R.filter fun x => decide (x.1 < a) && decide (a ≤ x.2)).length ≤ 4
def Run (K : Nat → Kn) (n : Nat) : Prop := (∀ i, i < n → good K i) ∧ opn K n = []
theorem again_mem {K : Nat → Kn} {n t f : Nat} (h : ∀ i, i < n → good K i) (ht : t < n) (hk : K t = .again f) : ∃ T, opn K t = f :: T := by
 have := h t ht
 unfold good at this
 rw [hk] at this
 simp only at this
 cases ho : opn K t with
 | nil => rw [ho] at this; cases this
 | cons b T => rw [ho] at this; simp at this; subst this; exact ⟨T, rfl⟩
theorem run_pairs {K : Nat → Kn} {n : Nat} (h : Run K n) : Ok1 K n ∧ Ok2 K n := by
 obtain ⟨hg, hn⟩ := h
 have mem := fun i (hi : i ≤ n) => opn_mem K i (fun j hj => hg j (by omega))
 have back : ∀ t a, t < n → K t = .again a → K a = .loop ∧ a < t ∧ ∀ j, a < j → j < t → K j ≠ .again a := by
  intro t a ht hk
  obtain ⟨T, hT⟩ := again_mem hg ht hk
  exact ((mem t (by omega)).1 a).1 (by rw [hT]; simp)
 refine ⟨fun f hf hk => ?_, fun t a ht hk => ?_⟩
 ·have : ∃ t, f < t ∧ t < n ∧ K t = .again f := by
   refine Classical.byContradiction fun hc => ?_
   have : f ∈ opn K n := ((mem n (Nat.le_refl _)).1 f).2 ⟨hk, hf, fun j q1 q2 e => hc ⟨j, q1, q2, e⟩⟩
   rw [hn] at this; cases this
  obtain ⟨t, h1, h2, h3⟩ := this
  refine ⟨t, ⟨hf, h2, hk, h3⟩, by omega, fun t' ⟨_, p2, _, p4⟩ => ?_⟩
  obtain ⟨-, q2, q3⟩ := back t' f p2 p4
  obtain ⟨-, r2, r3⟩ := back t f h2 h3
  rcases Nat.lt_trichotomy t t' with z | z | z
  ·exact absurd h3 (q3 t h1 z)
  ·exact z.symm
  ·exact absurd p4 (r3 t' q2 z)
 ·obtain ⟨a1, a2, -⟩ := back t a ht hk
  exact ⟨by omega, a1⟩
theorem opn_iff {K : Nat → Kn} {n i : Nat} (hi : i ≤ n) (hg : ∀ j, j < i → good K j) (h1 : Ok1 K n) (f : Nat) : f ∈ opn K i ↔ ∃ t, Pr K n f t ∧ f < i ∧ i ≤ t := by
 rw [(opn_mem K i hg).1]
 constructor
 ·rintro ⟨a, b, c⟩
  obtain ⟨t, h, hl, -⟩ := h1 f (by omega) a
  refine ⟨t, h, b, ?_⟩
  rcases Nat.lt_or_ge t i with z | z
  ·have : f ≠ t := by rintro rfl; have := h.2.2; rw [this.1] at this; exact Kn.noConfusion this.2
   exact absurd h.2.2.2 (c t (by omega) z)
  ·exact z
 ·rintro ⟨t, h, b, c⟩
  refine ⟨h.2.2.1, b, fun j q1 q2 e => ?_⟩
  obtain ⟨t0, _, _, hu⟩ := h1 f h.1 h.2.2.1
  have e1 := hu t h
  have e2 := hu j ⟨h.1, by omega, h.2.2.1, e⟩
  omega
theorem run_iff {K : Nat → Kn} {n : Nat} {R : List (Nat × Nat)} (hR : Ok1 K n → (∀ x, x ∈ R ↔ Pr K n x.1 x.2) ∧ (R.map (·.1)).Nodup) : Run K n ↔ Ok1 K n ∧ Ok2 K n ∧ Nest K n ∧ Deep n R := by
 constructor
 ·intro h
  obtain ⟨h1, h2⟩ := run_pairs h
  obtain ⟨hg, hn⟩ := h
  obtain ⟨hm, hnd⟩ := hR h1
  refine ⟨h1, h2, fun f t g u p q hfg hgt => ?_, fun a ha => ?_⟩
  ·rcases Nat.lt_or_ge t u with z | z
   ·have mg : g ∈ opn K t := (opn_iff (n := n) (by have := p.2.1; omega) (fun j hj => hg j (by have := p.2.1; omega)) h1 g).2 ⟨u, q, hgt, by omega⟩
    obtain ⟨T, hT⟩ := again_mem hg p.2.1 p.2.2.2
    have pw := (opn_mem K t (fun j hj => hg j (by have := p.2.1; omega))).2.1
    rw [hT] at mg pw
    rw [List.pairwise_cons] at pw
    rcases List.mem_cons.1 mg with e | e
    ·omega
    ·have := pw.1 _ e; omega
   ·exact z
  ·have l4 := (opn_mem K a (fun j hj => hg j (by omega))).2.2
   have : ((R.filter fun x => decide (x.1 < a) && decide (a ≤ x.2)).map (·.1)).length ≤ (opn K a).length := by
    refine nodup_len _ _ (List.Nodup.sublist (List.Sublist.map _ List.filter_sublist) hnd) (fun f hf => ?_)
    rw [List.mem_map] at hf
    obtain ⟨x, hx, rfl⟩ := hf
    rw [List.mem_filter] at hx
    simp only [Bool.and_eq_true, decide_eq_true_eq] at hx
    exact (opn_iff (n := n) (by omega) (fun j hj => hg j (by omega)) h1 _).2 ⟨x.2, (hm x).1 hx.1, hx.2.1, hx.2.2⟩
   rw [List.length_map] at this
   omega
 ·rintro ⟨h1, h2, h3, h4⟩
  obtain ⟨hm, hnd⟩ := hR h1
  have hg : ∀ i, i ≤ n → ∀ j, j < i → good K j := by
   intro i
   induction i with
   | zero => intro _ j hj; omega
   | succ i ih =>
    intro hi j hj
    have ih := ih (by omega)
    by_cases e : j = i
    ·subst e
     unfold good
     obtain ⟨m1, m2, m3⟩ := opn_mem K j ih
     cases hk : K j with
     | loop =>
      simp only
      obtain ⟨t, p, hl, -⟩ := h1 j (by omega) hk
      have hne : j ≠ t := by rintro rfl; rw [p.2.2.1] at hk; have := p.2.2.2; rw [p.2.2.1] at this; exact Kn.noConfusion this
      have d := h4 (j + 1) (by have := p.2.1; omega)
      have : (j :: opn K j).length ≤ ((R.filter fun x => decide (x.1 < j + 1) && decide (j + 1 ≤ x.2)).map (·.1)).length := by
       refine nodup_len _ _ ?_ (fun f hf => ?_)
       ·rw [List.nodup_cons]
        exact ⟨fun hc => by have := ((m1 j).1 hc).2.1; omega, m2.imp (fun h => by omega)⟩
       ·rw [List.mem_map]
        rcases List.mem_cons.1 hf with e | e
        ·subst e
         exact ⟨(f, t), List.mem_filter.2 ⟨(hm _).2 p, by simp; omega⟩, rfl⟩
        ·obtain ⟨u, q, q1, q2⟩ := (opn_iff (n := n) (by omega) ih h1 f).1 e
         have : u ≠ j := by rintro rfl; have := q.2.2.2; rw [hk] at this; exact Kn.noConfusion this
         exact ⟨(f, u), List.mem_filter.2 ⟨(hm _).2 q, by simp; omega⟩, rfl⟩
      rw [List.length_map, List.length_cons] at this
      omega
     | again a =>
      simp only
      obtain ⟨ha, hl⟩ := h2 j a (by omega) hk
      obtain ⟨t, p, q, hu⟩ := h1 a ha hl
      have e := hu j ⟨ha, by omega, hl, hk⟩
      subst e
      have hne : a ≠ j := by rintro rfl; rw [hl] at hk; exact Kn.noConfusion hk
      have ma : a ∈ opn K j := (opn_iff (n := n) (by omega) ih h1 a).2 ⟨j, p, by omega, by omega⟩
      cases ho : opn K j with
      | nil => rw [ho] at ma; cases ma
      | cons b T =>
       rw [ho] at ma m2
       rcases List.mem_cons.1 ma with e | e
       ·subst e; rfl
       ·rw [List.pairwise_cons] at m2
        have hab := m2.1 _ e
        obtain ⟨u, r, r1, r2⟩ := (opn_iff (n := n) (by omega) ih h1 b).1 (by rw [ho]; simp)
        have := h3 a j b u p r hab r1
        have : u = j := by omega
        subst this
        have := r.2.2.2
        rw [hk] at this
        cases this
        omega
     | other => trivial
    ·exact ih j (by omega)
  have hg := hg n (Nat.le_refl _)
  refine ⟨hg, ?_⟩
  rw [List.eq_nil_iff_forall_not_mem]
  intro f hf
  obtain ⟨t, p, -, q⟩ := (opn_iff (n := n) (Nat.le_refl _) hg h1 f).1 hf
  have := p.2.1
  omega
def RL (K : Nat → Kn) (n : Nat) : List (Nat × Nat) := (List.range n).flatMap fun f => if K f = .loop then ((List.range n).filter fun t => decide (K t = .again f)).map fun t => (f, t) else []
def OL (K : Nat → Kn) (n : Nat) : List (Nat × Nat) := (List.range n).filterMap fun t => match K t with | .again a => some (a, t) | _ => none
theorem mem_RL {K : Nat → Kn} {n : Nat} (x : Nat × Nat) : x ∈ RL K n ↔ Pr K n x.1 x.2 := by
 unfold RL Pr
 rw [List.mem_flatMap]
 constructor
 ·rintro ⟨f, hf, hx⟩
  split at hx
  ·rename_i hk
   rw [List.mem_map] at hx
   obtain ⟨t, ht, rfl⟩ := hx
   rw [List.mem_filter] at ht
   simp only [List.mem_range, decide_eq_true_eq] at ht hf
   exact ⟨hf, ht.1, hk, ht.2⟩
  ·cases hx
 ·rintro ⟨h1, h2, h3, h4⟩
  refine ⟨x.1, List.mem_range.2 h1, ?_⟩
  rw [if_pos h3, List.mem_map]
  exact ⟨x.2, List.mem_filter.2 ⟨List.mem_range.2 h2, by simpa using h4⟩, rfl⟩
theorem RL_sorted {K : Nat → Kn} {n : Nat} (h : Ok1 K n) : (RL K n).Pairwise fun x y => x.1 < y.1 := by
 unfold RL
 rw [List.pairwise_flatMap]
 refine ⟨fun f hf => ?_, ?_⟩
 ·split
  ·rename_i hk
   obtain ⟨t, -, -, hu⟩ := h f (List.mem_range.1 hf) hk
   rw [List.pairwise_map]
   refine List.Pairwise.imp_of_mem (R := fun a b => a ≠ b) (fun {a b} ha hb hne => absurd ?_ hne) (List.nodup_range.sublist List.filter_sublist)
   rw [List.mem_filter, List.mem_range, decide_eq_true_eq] at ha hb
   rw [hu a ⟨List.mem_range.1 hf, ha.1, hk, ha.2⟩, hu b ⟨List.mem_range.1 hf, hb.1, hk, hb.2⟩]
  ·exact List.Pairwise.nil
 ·refine List.pairwise_lt_range.imp fun {a b} hab x hx y hy => ?_
  have e : ∀ f, ∀ z ∈ (if K f = .loop then ((List.range n).filter fun t => decide (K t = .again f)).map fun t => (f, t) else []), z.1 = f := by
   intro f z hz
   split at hz
   ·rw [List.mem_map] at hz; obtain ⟨_, _, rfl⟩ := hz; rfl
   ·cases hz
  rw [e a x hx, e b y hy]; exact hab
theorem RL_nodup {K : Nat → Kn} {n : Nat} (h : Ok1 K n) : ((RL K n).map (·.1)).Nodup := by
 show List.Pairwise _ _
 rw [List.pairwise_map]
 exact (RL_sorted h).imp fun h => Nat.ne_of_lt h
theorem mem_OL {K : Nat → Kn} {n : Nat} (h : Ok2 K n) (x : Nat × Nat) : x ∈ OL K n ↔ Pr K n x.1 x.2 := by
 unfold OL Pr
 rw [List.mem_filterMap]
 constructor
 ·rintro ⟨t, ht, hx⟩
  cases hk : K t with
  | again a =>
   rw [hk] at hx
   simp at hx
   subst hx
   obtain ⟨h1, h2⟩ := h t a (List.mem_range.1 ht) hk
   exact ⟨h1, List.mem_range.1 ht, h2, hk⟩
  | loop => rw [hk] at hx; cases hx
  | other => rw [hk] at hx; cases hx
 ·rintro ⟨h1, h2, h3, h4⟩
  exact ⟨x.2, List.mem_range.2 h2, by rw [h4]⟩
theorem OL_distinct {K : Nat → Kn} {n : Nat} (h1 : Ok1 K n) (h2 : Ok2 K n) : (OL K n).Pairwise fun x y => x.1 ≠ y.1 := by
 unfold OL
 rw [List.pairwise_filterMap]
 refine List.Pairwise.imp_of_mem (R := fun a b => a ≠ b) (fun {a b} ha hb hne x hx y hy => ?_) List.nodup_range
 rw [List.mem_range] at ha hb
 have key : ∀ t x, t < n → (match K t with | .again a => some (a, t) | _ => none) = some x → Pr K n x.1 t := by
  intro t x ht hx
  have := (mem_OL h2 x).1 (List.mem_filterMap.2 ⟨t, List.mem_range.2 ht, hx⟩)
  have e : x.2 = t := by
   cases hk : K t with
   | again a => rw [hk] at hx; simp at hx; subst hx; rfl
   | loop => rw [hk] at hx; cases hx
   | other => rw [hk] at hx; cases hx
  rwa [e] at this
 intro e
 have p := key a x ha hx
 have q := key b y hb hy
 rw [← e] at q
 obtain ⟨t, -, -, hu⟩ := h1 _ p.1 p.2.2.1
 exact hne ((hu a p).trans (hu b q).symm)
theorem strict_eq {α : Type} {key : α → Int} : ∀ (l m : List α), l.Pairwise (fun x y => key x < key y) → m.Pairwise (fun x y => key x < key y) → (∀ x, x ∈ l ↔ x ∈ m) → l = m
 | [], [], _, _, _ => rfl
 | [], y :: m, _, _, h => absurd ((h y).2 (by simp)) (by simp)
 | x :: l, [], _, _, h => absurd ((h x).1 (by simp)) (by simp)
 | x :: l, y :: m, hl, hm, h => by
  rw [List.pairwise_cons] at hl hm
  have hxy : x = y := by
   rcases List.mem_cons.1 ((h x).1 (by simp)) with e | e
   ·exact e
   ·rcases List.mem_cons.1 ((h y).2 (by simp)) with e' | e'
    ·exact e'.symm
    ·have := hl.1 _ e'; have := hm.1 _ e; omega
  subst hxy
  rw [strict_eq l m hl.2 hm.2 fun z => ?_]
  constructor
  ·intro hz
   rcases List.mem_cons.1 ((h z).1 (List.mem_cons_of_mem _ hz)) with e | e
   ·subst e; have := hl.1 _ hz; omega
   ·exact e
  ·intro hz
   rcases List.mem_cons.1 ((h z).2 (List.mem_cons_of_mem _ hz)) with e | e
   ·subst e; have := hm.1 _ hz; omega
   ·exact e
theorem sorted_RL {α : Type} {key : α → Int} {g : Nat × Nat → α} (hkey : ∀ x, key (g x) = (x.1 : Int)) {K : Nat → Kn} {n : Nat} (h1 : Ok1 K n) (h2 : Ok2 K n) {s : List α} (hp : s.Perm ((OL K n).map g)) (hs : s.Pairwise fun x y => key x ≤ key y) : s = (RL K n).map g := by
 refine strict_eq (key := key) s _ ?_ ?_ fun x => ?_
 ·have hd : s.Pairwise fun x y => key x ≠ key y := by
   refine (hp.pairwise_iff (fun {x y} h => Ne.symm h)).2 ?_
   rw [List.pairwise_map]
   refine (OL_distinct h1 h2).imp fun {a b} h => ?_
   rw [hkey, hkey]; omega
  exact (hs.and hd).imp fun ⟨a, b⟩ => by omega
 ·rw [List.pairwise_map]
  refine (RL_sorted h1).imp fun {a b} h => ?_
  rw [hkey, hkey]; omega
 ·rw [hp.mem_iff, List.mem_map, List.mem_map]
  constructor
  ·rintro ⟨a, ha, rfl⟩; exact ⟨a, (mem_RL a).2 ((mem_OL h2 a).1 ha), rfl⟩
  ·rintro ⟨a, ha, rfl⟩; exact ⟨a, (mem_OL h2 a).2 ((mem_RL a).1 ha), rfl⟩
def FL (K : Nat → Kn) (n f : Nat) : List Nat := (List.range n).filter fun t => decide (K t = .again f)
theorem mem_FL {K : Nat → Kn} {n f t : Nat} : t ∈ FL K n f ↔ t < n ∧ K t = .again f := by
 unfold FL; rw [List.mem_filter, List.mem_range, decide_eq_true_eq]
theorem ok1_iff {K : Nat → Kn} {n : Nat} : Ok1 K n ↔ ∀ f, f < n → K f = .loop → ∃ t, FL K n f = [t] ∧ f ≤ t := by
 constructor
 ·intro h f hf hk
  obtain ⟨t, p, hl, hu⟩ := h f hf hk
  refine ⟨t, ?_, hl⟩
  have hn : (FL K n f).Nodup := List.nodup_range.sublist List.filter_sublist
  have ha : ∀ x ∈ FL K n f, x = t := fun x hx => hu x ⟨hf, (mem_FL.1 hx).1, hk, (mem_FL.1 hx).2⟩
  have hm : t ∈ FL K n f := mem_FL.2 ⟨p.2.1, p.2.2.2⟩
  cases hF : FL K n f with
  | nil => rw [hF] at hm; cases hm
  | cons a r =>
   rw [hF] at hn ha
   obtain rfl := ha a (by simp)
   cases r with
   | nil => rfl
   | cons b r =>
    obtain rfl := ha b (by simp)
    simp at hn
 ·intro h f hf hk
  obtain ⟨t, e, hl⟩ := h f hf hk
  have hm := mem_FL.1 (show t ∈ FL K n f by rw [e]; simp)
  refine ⟨t, ⟨hf, hm.1, hk, hm.2⟩, hl, fun t' p => ?_⟩
  have := mem_FL.2 ⟨p.2.1, p.2.2.2⟩
  rw [e] at this
  simpa using this
end FlowPure
namespace FlowPure
theorem srt109_ok (d : Array flow_Loop) : (srt109 d).toList.Perm d.toList ∧ (srt109 d).toList.Pairwise (fun x y => x.From ≤ y.From) := by
 obtain ⟨⟨h1, -, h2⟩, h3⟩ := srt109_sorts d
 refine ⟨?_, ?_⟩
 ·have e1 : (srt109 d).extract 0 d.size = srt109 d := by rw [← h1]; simp
  have e2 : d.extract 0 d.size = d := by simp
  rw [e1, e2] at h2
  exact h2
 ·rw [List.pairwise_iff_getElem]
  intro i j hi hj hij
  have hi' : i < (srt109 d).size := by simpa using hi
  have hj' : j < (srt109 d).size := by simpa using hj
  have := h3 i j (Nat.zero_le _) hij (by omega)
  rw [lt109, getElem!_pos (srt109 d) i hi', getElem!_pos (srt109 d) j hj'] at this
  have := of_decide_eq_false this
  simp only [Array.getElem_toList]
  omega
end FlowPure
namespace FlowPure
theorem runF_chk {S R : Type} {F : S → Option (S ⊕ R)} {n : Nat} {b : R} (s : Nat → S) (p : Nat → Prop) (hs : ∀ k, k < n → (∀ j, j < k → p j) → p k → runF F (s k) = runF F (s (k + 1))) (hb : ∀ k, k < n → (∀ j, j < k → p j) → ¬ p k → runF F (s k) = some b) :
    ((∀ k, k < n → p k) → runF F (s 0) = runF F (s n)) ∧ (¬ (∀ k, k < n → p k) → runF F (s 0) = some b) := by
 have key : ∀ m, m ≤ n → (∀ j, j < m → p j) → runF F (s 0) = runF F (s m) := by
  intro m
  induction m with
  | zero => intro _ _; rfl
  | succ m ih => intro hm hp; rw [ih (by omega) (fun j hj => hp j (by omega)), hs m (by omega) (fun j hj => hp j (by omega)) (hp m (by omega))]
 have key2 : ∀ m, m ≤ n → (∀ j, j < m → p j) ∨ runF F (s 0) = some b := by
  intro m
  induction m with
  | zero => intro _; left; intro j hj; omega
  | succ m ih =>
   intro hm
   rcases ih (by omega) with h | h
   ·by_cases hp : p m
    ·left; intro j hj
     by_cases e : j = m
     ·subst e; exact hp
     ·exact h j (by omega)
    ·right; rw [key m (by omega) h, hb m (by omega) h hp]
   ·right; exact h
 refine ⟨key n (Nat.le_refl _), fun h => ?_⟩
 rcases key2 n (Nat.le_refl _) with h' | h'
 ·exact absurd h' h
 ·exact h'
theorem runF_scan {S R : Type} {F : S → Option (S ⊕ R)} {n : Nat} {b : R} {a : Nat → R} (s : Nat → S) (p : Nat → Bool) (hs : ∀ k, k < n → F (s k) = some (if p k then .inr (a k) else .inl (s (k + 1)))) (hb : F (s n) = some (.inr b)) :
    ∃ r, runF F (s 0) = some r ∧ ((∃ k, k < n ∧ p k = true ∧ r = a k) ∨ ((∀ k, k < n → p k = false) ∧ r = b)) := by
 have key : ∀ m k, k + m = n → (∀ j, j < k → p j = false) → ∃ r, runF F (s k) = some r ∧ ((∃ k, k < n ∧ p k = true ∧ r = a k) ∨ ((∀ k, k < n → p k = false) ∧ r = b)) := by
  intro m
  induction m with
  | zero => intro k e h; obtain rfl : k = n := by omega
            exact ⟨b, runF_end hb, .inr ⟨h, rfl⟩⟩
  | succ m ih =>
   intro k e h
   have hk := hs k (by omega)
   cases hp : p k with
   | true => rw [hp] at hk; exact ⟨a k, runF_end hk, .inl ⟨k, by omega, hp, rfl⟩⟩
   | false =>
    rw [hp] at hk
    rw [runF_step hk]
    refine ih (k + 1) (by omega) fun j hj => ?_
    by_cases e : j = k
    ·subst e; exact hp
    ·exact h j (by omega)
 exact key n 0 (by omega) (fun j hj => by omega)
theorem wrap_pred (k : Nat) (h : 0 < k) (h2 : k < 4611686018427387904) : IntKind.i64.wrap ((k : Int) - 1) = ((k - 1 : Nat) : Int) := by
 rw [wrap_id (by omega) (by omega)]; omega
theorem elt_int {α : Type} {xs : List α} {i : Int} (h0 : 0 ≤ i) (h : i.toNat < xs.length) : elt xs i = some xs[i.toNat] := by
 unfold elt; rw [if_pos h0, List.getElem?_eq_getElem h]
theorem wf_op {i : api_Instr} (h : wf_api_Instr i) : 0 ≤ i.Op ∧ i.Op < 256 := by
 have := h.1
 simp [Lit.wf, IntKind.min, IntKind.max, IntKind.signed, IntKind.bits] at this
 omega
theorem bounds_some (n : Fin 256) : (op_Bounds.f (n.1 : Int)).isSome = true := by
 revert n; decide +kernel
theorem bounds_op {x : Int} (h0 : 0 ≤ x) (h1 : x < 256) : ∃ b, op_Bounds.f x = some b := by
 obtain ⟨n, rfl⟩ := Int.eq_ofNat_of_zero_le h0
 exact Option.isSome_iff_exists.1 (bounds_some ⟨n, by omega⟩)
def may (i : api_Instr) : Bool := match op_Bounds.f i.Op with
 | some b => ((decide (i.A ≥ b.1)) && (decide (i.A ≤ b.2))) && (decide (i.B = 0))
 | none => false
theorem op_may {i : api_Instr} (h : wf_api_Instr i) : op_May.f i = some (may i) := by
 obtain ⟨h0, h1⟩ := wf_op h
 obtain ⟨b, hb⟩ := bounds_op h0 h1
 unfold op_May.f may
 rw [hb]; rfl
theorem may_place {i : api_Instr} (h : may i = true) (ho : i.Op = 26 ∨ i.Op = 27 ∨ i.Op = 29) : 0 ≤ i.A ∧ i.A ≤ 199 ∧ i.B = 0 := by
 unfold may at h
 have e : op_Bounds.f i.Op = some (0, 199) := by rcases ho with e | e | e <;> rw [e] <;> decide +kernel
 rw [e] at h
 simp at h; omega
theorem may_turns {i : api_Instr} (h : may i = true) (ho : i.Op = 28) : 1 ≤ i.A ∧ i.A ≤ 100 ∧ i.B = 0 := by
 unfold may at h
 have e : op_Bounds.f i.Op = some (1, 100) := by rw [ho]; decide +kernel
 rw [e] at h
 simp at h; omega
theorem contains_may {l : List api_Instr} (hl : l.length < 4611686018427387904) (hw : ∀ x ∈ l, wf_api_Instr x) : slices_ContainsFunc_api_Instr_api_Instr_s1.f l = some (l.any fun x => !may x) := by
 unfold slices_ContainsFunc_api_Instr_api_Instr_s1.f slices_IndexFunc_api_Instr_api_Instr_s1.f
 rw [runF_step (t := .l1 ((0 : Nat) : Int)) rfl]
 obtain ⟨r, hr, hc⟩ := runF_scan (F := slices_IndexFunc_api_Instr_api_Instr_s1.F l) (n := l.length) (b := -1) (a := fun k => (k : Int)) (fun k => .l1 (k : Int)) (fun k => if h : k < l.length then !may l[k] else false) (fun k hk => by
  dsimp only [slices_IndexFunc_api_Instr_api_Instr_s1.F]
  rw [if_pos (by omega), elt_lt hk]
  simp only [Option.bind_some]
  unfold flow_Loops_1.f
  rw [op_may (hw _ (List.getElem_mem hk))]
  simp only [Option.bind_some, dif_pos hk, wrap_succ k (by omega)]
  cases may l[k] <;> rfl) (by dsimp only [slices_IndexFunc_api_Instr_api_Instr_s1.F]; rw [if_neg (by omega)])
 rw [hr]
 simp only [Option.bind_some]
 congr 1
 rw [Bool.eq_iff_iff]
 simp only [decide_eq_true_eq, List.any_eq_true]
 rcases hc with ⟨k, hk, hp, rfl⟩ | ⟨hn, rfl⟩
 ·rw [dif_pos hk] at hp
  exact ⟨fun _ => ⟨_, List.getElem_mem hk, hp⟩, fun _ => by omega⟩
 ·refine ⟨fun h => by omega, fun ⟨x, hx, hp⟩ => ?_⟩
  obtain ⟨k, hk, rfl⟩ := List.mem_iff_getElem.1 hx
  have := hn k hk
  rw [dif_pos hk, hp] at this; cases this
end FlowPure
namespace FlowPure
def KK (l : List api_Instr) (k : Nat) : Kn := match l[k]? with
 | some x => if x.Op = 28 then .loop else if x.Op = 29 then .again x.A.toNat else .other
 | none => .other
def turns (l : List api_Instr) (k : Nat) : Int := (l.getD k api_Instr.zero).A
def gF (l : List api_Instr) (x : Nat × Nat) : flow_Loop := ⟨x.1, x.2, turns l x.1⟩
def arr (K : Nat → Kn) : Nat → List Int
 | 0 => List.replicate 4 0
 | i + 1 => match K i with
  | .loop => (arr K i).set (opn K i).length i
  | _ => arr K i
theorem arr_succ (K : Nat → Kn) (i : Nat) : arr K (i + 1) = match K i with
    | .loop => (arr K i).set (opn K i).length i
    | _ => arr K i := rfl
theorem opn_succ (K : Nat → Kn) (i : Nat) : opn K (i + 1) = match K i with
    | .loop => i :: opn K i
    | .again _ => (opn K i).tail
    | .other => opn K i := rfl
theorem take_set {α : Type} {v : α} : ∀ (a : List α) (m : Nat), m < a.length → (a.set m v).take (m + 1) = a.take m ++ [v]
 | [], m, h => by simp at h
 | x :: a, 0, h => by simp
 | x :: a, m + 1, h => by
  have := take_set (v := v) a m (by simpa using h)
  simp only [List.set_cons_succ, List.take_succ_cons, this, List.cons_append]
theorem arr_len (K : Nat → Kn) : ∀ i, (arr K i).length = 4
 | 0 => rfl
 | i + 1 => by unfold arr; split <;> simp [arr_len K i]
theorem arr_take (K : Nat → Kn) : ∀ (i : Nat), (∀ j, j < i → good K j) → (arr K i).take (opn K i).length = (opn K i).reverse.map fun (x : Nat) => (x : Int)
 | 0, _ => rfl
 | i + 1, hg => by
  have ih := arr_take K i (fun j hj => hg j (by omega))
  have gi := hg i (by omega)
  unfold good at gi
  rw [arr_succ, opn_succ]
  cases hk : K i with
  | loop =>
   rw [hk] at gi
   simp only at gi ⊢
   rw [List.length_cons, take_set _ _ (by rw [arr_len]; omega), ih]
   simp
  | again a =>
   rw [hk] at gi
   simp only at gi ⊢
   cases ho : opn K i with
   | nil => rw [ho] at gi; cases gi
   | cons b T =>
    rw [ho] at ih
    simp only [List.tail_cons]
    simp only [List.length_cons, List.reverse_cons, List.map_append, List.map_cons, List.map_nil] at ih
    have : (arr K i).take T.length = ((arr K i).take (T.length + 1)).take T.length := by
     rw [List.take_take]; congr 1; omega
    rw [this, ih, List.take_append_of_le_length (by simp), List.take_of_length_le (by simp)]
  | other => exact ih
theorem OL_succ (K : Nat → Kn) (i : Nat) : OL K (i + 1) = OL K i ++ (match K i with | .again a => [(a, i)] | _ => []) := by
 unfold OL
 rw [List.range_succ, List.filterMap_append]
 congr 1
 cases h : K i <;> simp [h]
theorem OL_le (K : Nat → Kn) (i : Nat) : (OL K i).length ≤ i := by
 unfold OL
 exact Nat.le_trans (List.length_filterMap_le _ _) (by simp)
theorem KK_at {l : List api_Instr} {k : Nat} (h : k < l.length) : KK l k = if l[k].Op = 28 then .loop else if l[k].Op = 29 then .again l[k].A.toNat else .other := by
 unfold KK; rw [List.getElem?_eq_getElem h]
theorem turns_at {l : List api_Instr} {k : Nat} (h : k < l.length) : turns l k = l[k].A := by
 unfold turns; rw [List.getD_eq_getElem?_getD, List.getElem?_eq_getElem h]; rfl
theorem again_iff {l : List api_Instr} {k f : Nat} (hk : k < l.length) (hm : ∀ x ∈ l, may x = true) : KK l k = .again f ↔ (l[k].Op = 29 ∧ l[k].A = f) := by
 rw [KK_at hk]
 constructor
 ·intro h
  split at h
  ·cases h
  ·split at h
   ·rename_i h28 h29
    have := may_place (hm _ (List.getElem_mem hk)) (.inr (.inr h29))
    cases h
    exact ⟨h29, by omega⟩
   ·cases h
 ·rintro ⟨h29, hA⟩
  rw [if_neg (by omega), if_pos h29, hA]; rfl
theorem loop_iff {l : List api_Instr} {k : Nat} (hk : k < l.length) : KK l k = .loop ↔ l[k].Op = 28 := by
 rw [KK_at hk]
 constructor
 ·intro h
  split at h
  ·assumption
  ·split at h <;> cases h
 ·intro h; rw [if_pos h]
def RLp (K : Nat → Kn) (n m : Nat) : List (Nat × Nat) := (List.range m).flatMap fun f => if K f = .loop then (FL K n f).map fun t => (f, t) else []
theorem RLp_all (K : Nat → Kn) (n : Nat) : RLp K n n = RL K n := rfl
theorem RLp_succ (K : Nat → Kn) (n m : Nat) : RLp K n (m + 1) = RLp K n m ++ (if K m = .loop then (FL K n m).map fun t => (m, t) else []) := by
 unfold RLp
 rw [List.range_succ, List.flatMap_append]
 simp
def p1 (K : Nat → Kn) (n k : Nat) : Prop := K k = .loop → ∃ t, FL K n k = [t] ∧ k ≤ t
def p2 (K : Nat → Kn) (n k : Nat) : Prop := ∀ a, K k = .again a → a < n ∧ K a = .loop
theorem RLp_le {K : Nat → Kn} {n : Nat} : ∀ (m : Nat), (∀ j, j < m → p1 K n j) → (RLp K n m).length ≤ m
 | 0, _ => by simp [RLp]
 | m + 1, h => by
  have ih := RLp_le m (fun j hj => h j (by omega))
  rw [RLp_succ, List.length_append]
  split
  ·rename_i hk
   obtain ⟨t, ht, -⟩ := h m (by omega) hk
   rw [ht]; simp; omega
  ·simp; omega
theorem RL_len {l : List api_Instr} (h1 : Ok1 (KK l) l.length) : (RL (KK l) l.length).length ≤ l.length := by
 rw [← RLp_all]; exact RLp_le _ (ok1_iff.1 h1)
def st (l : List api_Instr) (k : Nat) : flow_Loops.S := .l1 (arr (KK l) k) (opn (KK l) k).length ((OL (KK l) k).map (gF l)) k
theorem loops_steps {l : List api_Instr} (hl : l.length ≤ 200) (hm : ∀ x ∈ l, may x = true) :
    ((∀ k, k < l.length → good (KK l) k) → runF (flow_Loops.F l) (st l 0) = runF (flow_Loops.F l) (st l l.length)) ∧ (¬ (∀ k, k < l.length → good (KK l) k) → runF (flow_Loops.F l) (st l 0) = some ([], 90)) := by
 refine runF_chk (F := flow_Loops.F l) (st l) (good (KK l)) (fun k hk hg hp => runF_step ?_) (fun k hk hg hp => runF_end ?_)
 all_goals
  have hkk := KK_at hk
  have m4 := (opn_mem (KK l) k hg).2.2
  have hat := arr_take (KK l) k hg
  have hal := arr_len (KK l) k
  dsimp only [st, flow_Loops.F]
  rw [if_pos (by omega), elt_lt hk]
  simp only [Option.bind_some]
 ·-- goes on
  by_cases h28 : l[k].Op = 28
  ·rw [if_pos h28] at hkk
   unfold good at hp
   rw [hkk] at hp
   simp only at hp
   rw [if_pos h28]
   unfold flow_open_push_s2.f
   rw [if_neg (by omega), elt_lt (by omega)]
   simp only [Option.bind_some]
   rw [if_neg (by simp)]
   unfold flow_Loops.j2
   rw [wrap_succ _ (by omega), wrap_succ _ (by omega), OL_succ, hkk]
   simp only [arr, opn, hkk, List.length_cons, Int.toNat_natCast, List.append_nil]
  ·rw [if_neg h28] at hkk
   rw [if_neg h28]
   by_cases h29 : l[k].Op = 29
   ·rw [if_pos h29] at hkk
    rw [if_pos h29]
    have hA := may_place (hm _ (List.getElem_mem hk)) (.inr (.inr h29))
    unfold good at hp
    rw [hkk] at hp
    simp only at hp
    cases ho : opn (KK l) k with
    | nil => rw [ho] at hp; cases hp
    | cons b T =>
     rw [ho] at hp hat m4
     simp only [List.head?_cons, Option.some.injEq] at hp
     have hb : b < k := ((opn_mem (KK l) k hg).1 b).1 (by rw [ho]; simp) |>.2.1
     have hbl : b < l.length := by omega
     have hel : elt (arr (KK l) k) (IntKind.i64.wrap (((b :: T).length : Int) - 1)) = some (b : Int) := by
      simp only [List.length_cons] at hat m4 ⊢
      rw [wrap_pred _ (by omega) (by omega), elt_nat]
      have := congrArg (fun z => z[T.length]?) hat
      simp only [List.reverse_cons, List.map_append, List.map_cons, List.map_nil] at this
      rw [List.getElem?_take_of_lt (by omega), List.getElem?_append_right (by simp)] at this
      simpa using this
     unfold flow_open_pop_s2.f
     rw [if_neg (by simp; omega), hel]
     simp only [Option.bind_some]
     have hbA : l[k].A = (b : Int) := by omega
     rw [← hp] at hkk
     unfold flow_open_pop_s2.j1
     rw [if_neg (by simp [hbA])]
     simp only [Option.bind_some, Bool.not_true, Bool.false_eq_true, if_false]
     rw [hbA, elt_lt hbl]
     simp only [Option.bind_some]
     rw [if_pos (by have := OL_le (KK l) k; simp; omega)]
     unfold flow_Loops.j2
     rw [wrap_succ _ (by omega), OL_succ, hkk]
     simp only [List.length_cons] at m4 ⊢
     rw [wrap_pred _ (by omega) (by omega)]
     simp only [arr, opn, hkk, ho, List.tail_cons, List.map_append, List.map_cons, List.map_nil, gF, turns_at hbl, Nat.add_sub_cancel]
   ·rw [if_neg h29] at hkk
    rw [if_neg h29]
    unfold flow_Loops.j2
    rw [wrap_succ _ (by omega), OL_succ, hkk]
    simp only [arr, opn, hkk, List.append_nil]
 ·-- stops
  by_cases h28 : l[k].Op = 28
  ·rw [if_pos h28] at hkk
   unfold good at hp
   rw [hkk] at hp
   simp only at hp
   rw [if_pos h28]
   unfold flow_open_push_s2.f
   rw [if_pos (by omega)]
   rfl
  ·rw [if_neg h28] at hkk
   rw [if_neg h28]
   by_cases h29 : l[k].Op = 29
   ·rw [if_pos h29] at hkk
    rw [if_pos h29]
    have hA := may_place (hm _ (List.getElem_mem hk)) (.inr (.inr h29))
    unfold good at hp
    rw [hkk] at hp
    simp only at hp
    unfold flow_open_pop_s2.f
    cases ho : opn (KK l) k with
    | nil => rw [if_pos (by simp)]; rfl
    | cons b T =>
     rw [ho] at hp hat m4
     simp only [List.head?_cons, Option.some.injEq] at hp
     have hel : elt (arr (KK l) k) (IntKind.i64.wrap (((b :: T).length : Int) - 1)) = some (b : Int) := by
      simp only [List.length_cons] at hat m4 ⊢
      rw [wrap_pred _ (by omega) (by omega), elt_nat]
      have := congrArg (fun z => z[T.length]?) hat
      simp only [List.reverse_cons, List.map_append, List.map_cons, List.map_nil] at this
      rw [List.getElem?_take_of_lt (by omega), List.getElem?_append_right (by simp)] at this
      simpa using this
     rw [if_neg (by simp; omega), hel]
     simp only [Option.bind_some]
     unfold flow_open_pop_s2.j1
     rw [if_pos (by simp; omega)]
     rfl
   ·rw [if_neg h29] at hkk
    unfold good at hp
    rw [hkk] at hp
    exact absurd trivial hp
end FlowPure
namespace FlowPure
def hasB (x : flow_Loop) (a : Int) : Bool := (decide (a > x.From)) && (decide (a ≤ x.To))
theorem hasB_iff {x : flow_Loop} {a : Int} : hasB x a = true ↔ x.From < a ∧ a ≤ x.To := by
 unfold hasB; rw [Bool.and_eq_true, decide_eq_true_eq, decide_eq_true_eq]
theorem hasB_no {x : flow_Loop} {a : Int} : hasB x a = false ↔ ¬ (x.From < a ∧ a ≤ x.To) := by
 rw [← hasB_iff, Bool.not_eq_true]
theorem contains_into {s : List flow_Loop} {a b c d : Int} (hl : s.length < 4611686018427387904) : slices_ContainsFunc_flow_Loop_flow_Loop_s1.f s a b c d = some (s.any fun x => hasB x b && !hasB x d) := by
 unfold slices_ContainsFunc_flow_Loop_flow_Loop_s1.f slices_IndexFunc_flow_Loop_flow_Loop_s1.f
 rw [runF_step (t := .l1 ((0 : Nat) : Int)) rfl]
 obtain ⟨r, hr, hc⟩ := runF_scan (F := slices_IndexFunc_flow_Loop_flow_Loop_s1.F s a b c d) (n := s.length) (b := -1) (a := fun k => (k : Int)) (fun k => .l1 (k : Int)) (fun k => if h : k < s.length then hasB s[k] b && !hasB s[k] d else false) (fun k hk => by
  dsimp only [slices_IndexFunc_flow_Loop_flow_Loop_s1.F]
  rw [if_pos (by omega), elt_lt hk]
  simp only [Option.bind_some]
  have : flow_jumps_1_s1.f s[k] a b c d = some (hasB s[k] b && !hasB s[k] d) := by
   unfold flow_jumps_1_s1.f flow_Loop_has.f
   simp only [Option.bind_some]
   show ((if hasB s[k] b = true then some (!hasB s[k] d) else some false).bind fun t15 => some t15) = _
   cases hasB s[k] b <;> rfl
  rw [this]
  simp only [Option.bind_some, dif_pos hk, wrap_succ k (by omega)]
  cases hasB s[k] b && !hasB s[k] d <;> rfl) (by dsimp only [slices_IndexFunc_flow_Loop_flow_Loop_s1.F]; rw [if_neg (by omega)])
 rw [hr]
 simp only [Option.bind_some]
 congr 1
 rw [Bool.eq_iff_iff]
 simp only [decide_eq_true_eq]
 rw [List.any_eq_true]
 rcases hc with ⟨k, hk, hp, rfl⟩ | ⟨hn, rfl⟩
 ·rw [dif_pos hk] at hp
  exact ⟨fun _ => ⟨_, List.getElem_mem hk, hp⟩, fun _ => by omega⟩
 ·refine ⟨fun h => by omega, fun ⟨x, hx, hp⟩ => ?_⟩
  obtain ⟨k, hk, rfl⟩ := List.mem_iff_getElem.1 hx
  have := hn k hk
  rw [dif_pos hk] at this
  rw [this] at hp; cases hp
def Jk (l : List api_Instr) (R : Nat × Nat → Prop) (k : Nat) : Prop := ∀ x, l[k]? = some x → (x.Op = 26 ∨ x.Op = 27) → (k : Int) < x.A ∧ x.A < l.length ∧ ∀ y, R y → (y.1 : Int) < x.A → x.A ≤ y.2 → y.1 < k ∧ k ≤ y.2
def Jm (l : List api_Instr) (R : Nat × Nat → Prop) : Prop := ∀ k, k < l.length → Jk l R k
theorem prog_jumps {l : List api_Instr} {O : List (Nat × Nat)} {R : Nat × Nat → Prop} (hl : l.length ≤ 200) (ho : O.length ≤ 200) (hR : ∀ x, x ∈ O ↔ R x) :
    (Jm l R → flow_jumps.f l (O.map (gF l)) = some true) ∧ (¬ Jm l R → flow_jumps.f l (O.map (gF l)) = some false) := by
 unfold flow_jumps.f
 rw [runF_step (t := .l1 ((0 : Nat) : Int)) rfl]
 have val : ∀ k (hk : k < l.length), (l[k].Op = 26 ∨ l[k].Op = 27) → (((if ((decide (l[k].A ≤ (k : Int))) || (decide (l[k].A ≥ (l.length : Int)))) = true then (some true) else ((slices_ContainsFunc_flow_Loop_flow_Loop_s1.f (O.map (gF l)) l[k].Op l[k].A l[k].B k).bind fun t49 => some t49)) = some true ∧ ¬ Jk l R k) ∨ ((if ((decide (l[k].A ≤ (k : Int))) || (decide (l[k].A ≥ (l.length : Int)))) = true then (some true) else ((slices_ContainsFunc_flow_Loop_flow_Loop_s1.f (O.map (gF l)) l[k].Op l[k].A l[k].B k).bind fun t49 => some t49)) = some false ∧ Jk l R k)) := by
  intro k hk hop
  by_cases hA : l[k].A ≤ (k : Int) ∨ l[k].A ≥ (l.length : Int)
  ·left
   rw [if_pos (by simpa using hA)]
   refine ⟨rfl, fun h => ?_⟩
   have := h l[k] (List.getElem?_eq_getElem hk) hop
   omega
  ·rw [if_neg (by simpa using hA), contains_into (by simp; omega)]
   simp only [Option.bind_some]
   cases hb : (O.map (gF l)).any fun x => hasB x l[k].A && !hasB x (k : Int) with
   | true =>
    left
    refine ⟨rfl, fun h => ?_⟩
    rw [List.any_eq_true] at hb
    obtain ⟨z, hz, hb⟩ := hb
    rw [List.mem_map] at hz
    obtain ⟨y, hy, rfl⟩ := hz
    have := (h l[k] (List.getElem?_eq_getElem hk) hop).2.2 y ((hR y).1 hy)
    rw [Bool.and_eq_true, Bool.not_eq_true', hasB_iff, hasB_no] at hb
    dsimp only [gF] at hb
    omega
   | false =>
    right
    refine ⟨rfl, fun x hx _ => ?_⟩
    rw [List.getElem?_eq_getElem hk] at hx
    cases hx
    refine ⟨by omega, by omega, fun y hy h1 h2 => ?_⟩
    have := List.any_eq_false.1 hb _ (List.mem_map_of_mem (f := gF l) ((hR y).2 hy))
    rw [Bool.and_eq_true, Bool.not_eq_true', hasB_iff, hasB_no] at this
    dsimp only [gF] at this
    omega
 have key := runF_chk (F := flow_jumps.F l (O.map (gF l))) (n := l.length) (b := false) (fun k => .l1 (k : Int)) (Jk l R) (fun k hk _ hp => runF_step (by
  dsimp only [flow_jumps.F]
  rw [if_pos (by omega), elt_lt hk]
  simp only [Option.bind_some]
  unfold flow_jumps.j1
  rw [wrap_succ k (by omega)]
  by_cases hop : l[k].Op = 26 ∨ l[k].Op = 27
  ·rw [if_neg (by simp; omega)]
   rcases val k hk hop with ⟨-, h⟩ | ⟨h, -⟩
   ·exact absurd hp h
   ·rw [h]; rfl
  ·rw [if_pos (by simp; omega)])) (fun k hk _ hp => runF_end (by
  dsimp only [flow_jumps.F]
  rw [if_pos (by omega), elt_lt hk]
  simp only [Option.bind_some]
  by_cases hop : l[k].Op = 26 ∨ l[k].Op = 27
  ·rw [if_neg (by simp; omega)]
   rcases val k hk hop with ⟨h, -⟩ | ⟨-, h⟩
   ·rw [h]; rfl
   ·exact absurd h hp
  ·refine absurd (fun x hx h => absurd h ?_) hp
   rw [List.getElem?_eq_getElem hk] at hx
   cases hx; exact hop))
 refine ⟨fun h => ?_, fun h => key.2 h⟩
 refine (key.1 h).trans (runF_end ?_)
 dsimp only [flow_jumps.F]
 rw [if_neg (by omega)]
def lastOk (l : List api_Instr) : Prop := ∀ x, l[l.length - 1]? = some x → x.Op = 31 ∨ x.Op = 32
def Known (l : List api_Instr) : Prop := 1 ≤ l.length ∧ l.length ≤ 200 ∧ ∀ x ∈ l, may x = true
def Fine (l : List api_Instr) : Prop := Run (KK l) l.length ∧ lastOk l ∧ Jm l fun x => Pr (KK l) l.length x.1 x.2
theorem prog_loops {l : List api_Instr} (hlen : l.length < 4611686018427387904) (hw : ∀ x ∈ l, wf_api_Instr x) :
    (¬ Known l → flow_Loops.f l = some ([], 40)) ∧ (Known l → Fine l → flow_Loops.f l = some ((RL (KK l) l.length).map (gF l), 0)) ∧ (Known l → ¬ Fine l → flow_Loops.f l = some ([], 90)) := by
 unfold flow_Loops.f
 refine ⟨fun hk => runF_end ?_, ?_⟩
 ·dsimp only [flow_Loops.F]
  by_cases hn : l.length = 0 ∨ l.length > 200
  ·rw [if_pos (by rw [Bool.or_eq_true, decide_eq_true_eq, decide_eq_true_eq]; omega)]; rfl
  ·rw [if_neg (by rw [Bool.or_eq_true, decide_eq_true_eq, decide_eq_true_eq]; omega), contains_may hlen hw]
   have : (l.any fun x => !may x) = true := by
    refine Classical.byContradiction fun hc => hk ⟨by omega, by omega, fun x hx => ?_⟩
    have := List.any_eq_false.1 (Bool.eq_false_iff.2 hc) x hx
    simpa using this
   rw [this]; rfl
 suffices hs : Known l → (Fine l → runF (flow_Loops.F l) .start = some ((RL (KK l) l.length).map (gF l), 0)) ∧ (¬ Fine l → runF (flow_Loops.F l) .start = some ([], 90)) from ⟨fun a b => (hs a).1 b, fun a b => (hs a).2 b⟩
 rintro ⟨n1, n2, hm⟩
 have e0 : runF (flow_Loops.F l) .start = runF (flow_Loops.F l) (st l 0) := runF_step (by
  dsimp only [flow_Loops.F]
  rw [if_neg (by rw [Bool.or_eq_true, decide_eq_true_eq, decide_eq_true_eq]; omega), contains_may hlen hw]
  have : (l.any fun x => !may x) = false := by
   rw [List.any_eq_false]; intro x hx; simp [hm x hx]
  rw [this]; rfl)
 rw [e0]
 obtain ⟨h1, h2⟩ := loops_steps n2 hm
 by_cases hg : ∀ k, k < l.length → good (KK l) k
 case neg => exact ⟨fun h => absurd h.1.1 hg, fun _ => h2 hg⟩
 rw [h1 hg]
 have hlast : l.length - 1 < l.length := by omega
 have wl : IntKind.i64.wrap ((l.length : Int) - 1) = ((l.length - 1 : Nat) : Int) := wrap_pred _ (by omega) (by omega)
 have m4 := (opn_mem (KK l) l.length hg).2.2
 have e1 : flow_Loops.F l (st l l.length) = ((if ((opn (KK l) l.length).length : Int) > 0 then (some true) else some (!((decide (l[l.length - 1].Op = 31)) || (decide (l[l.length - 1].Op = 32))))).bind fun t92 => (if t92 = true then (some true) else ((flow_jumps.f l ((OL (KK l) l.length).map (gF l))).bind fun t95 => some (!t95))).bind fun t96 => if t96 = true then (flow_Loops.j1 l) else (some (.inr ((srt109 ((OL (KK l) l.length).map (gF l)).toArray).toList, 0)))) := by
  dsimp only [flow_Loops.F, st]
  rw [if_neg (by omega), wl, elt_lt hlast, if_pos (show ((OL (KK l) l.length).map (gF l)).length < 4611686018427387904 by have := OL_le (KK l) l.length; simp; omega)]
  simp only [Option.bind_some, flow_last.f]
 have lasteq : lastOk l ↔ (l[l.length - 1].Op = 31 ∨ l[l.length - 1].Op = 32) := by
  unfold lastOk
  constructor
  ·intro h; exact h _ (List.getElem?_eq_getElem hlast)
  ·intro h x hx; rw [List.getElem?_eq_getElem hlast] at hx; cases hx; exact h
 by_cases hS : opn (KK l) l.length = []
 case neg =>
  refine ⟨fun h => absurd h.1.2 hS, fun _ => runF_end ?_⟩
  rw [e1, if_pos (by cases ho : opn (KK l) l.length with | nil => exact absurd ho hS | cons => simp)]
  rfl
 have hrun : Run (KK l) l.length := ⟨hg, hS⟩
 obtain ⟨o1, o2⟩ := run_pairs hrun
 rw [hS] at e1
 rw [if_neg (by simp)] at e1
 simp only [Option.bind_some] at e1
 by_cases hL : lastOk l
 case neg =>
  refine ⟨fun h => absurd h.2.1 hL, fun _ => runF_end ?_⟩
  rw [e1, if_pos (by have := mt lasteq.2 hL; simp; omega)]
  rfl
 rw [if_neg (by have := lasteq.1 hL; simp; omega)] at e1
 obtain ⟨j1, j2⟩ := prog_jumps (R := fun x => Pr (KK l) l.length x.1 x.2) n2 (Nat.le_trans (OL_le _ _) n2) (mem_OL o2)
 by_cases hJ : Jm l fun x => Pr (KK l) l.length x.1 x.2
 ·refine ⟨fun _ => runF_end ?_, fun h => absurd ⟨hrun, hL, hJ⟩ h⟩
  rw [e1, j1 hJ]
  simp only [Option.bind_some, Bool.not_true, Bool.false_eq_true, if_false]
  obtain ⟨sp, ss⟩ := srt109_ok ((OL (KK l) l.length).map (gF l)).toArray
  rw [sorted_RL (key := fun x : flow_Loop => x.From) (g := gF l) (fun _ => rfl) o1 o2 sp ss]
 ·refine ⟨fun h => absurd h.2.2 hJ, fun _ => runF_end ?_⟩
  rw [e1, j2 hJ]
  rfl
end FlowPure
namespace FlowPure
theorem ms2 (x y : Int) : ([x, y].mergeSort fun x y => decide (x ≤ y)) = if x ≤ y then [x, y] else [y, x] := by
 by_cases h : x ≤ y
 ·rw [if_pos h]
  exact List.mergeSort_of_pairwise (by simp [h])
 ·rw [if_neg h]
  have hp : [x, y].mergeSort (fun x y => decide (x ≤ y)) = [y, x].mergeSort (fun x y => decide (x ≤ y)) := by
   have p1 := (List.mergeSort_perm [x, y] fun x y => decide (x ≤ y)).trans ((List.Perm.swap y x []).trans (List.mergeSort_perm [y, x] fun x y => decide (x ≤ y)).symm)
   refine List.Perm.eq_of_pairwise (le := fun a b => a ≤ b) (fun a b _ _ h1 h2 => Int.le_antisymm h1 h2) ?_ ?_ p1
   ·exact (List.pairwise_mergeSort (le := fun x y => decide (x ≤ y)) (fun a b c h1 h2 => by simp at *; omega) (fun a b => by simp; omega) _).imp fun h => by simpa using h
   ·exact (List.pairwise_mergeSort (le := fun x y => decide (x ≤ y)) (fun a b c h1 h2 => by simp at *; omega) (fun a b => by simp; omega) _).imp fun h => by simpa using h
  rw [hp]
  exact List.mergeSort_of_pairwise (by simp; omega)
theorem ct2 (x y : Int) : Lib.compact [x, y] = if x = y then [x] else [x, y] := by
 by_cases h : x = y
 ·subst h; simp [Lib.compact, Lib.compactUpTo, Lib.keeps, List.range_succ]
 ·simp [Lib.compact, Lib.compactUpTo, Lib.keeps, List.range_succ, h, Ne.symm h]
theorem ct1 (x : Int) : Lib.compact [x] = [x] := by simp [Lib.compact, Lib.compactUpTo, Lib.keeps, List.range_succ]
theorem ct0 : Lib.compact ([] : List Int) = [] := by simp [Lib.compact, Lib.compactUpTo]
def ways (l : List api_Instr) (a : Nat) : List Int := match l[a]? with
 | none => []
 | some x => if x.Op = 31 ∨ x.Op = 32 then [] else if x.Op = 26 then [x.A] else if x.Op = 27 then (if x.A = ((a + 1 : Nat) : Int) then [x.A] else [((a + 1 : Nat) : Int), x.A]) else if x.Op = 29 then [x.A + 1, ((a + 1 : Nat) : Int)] else [((a + 1 : Nat) : Int)]
theorem j2_ways (l : List api_Instr) (a : Int) (s : List Int) (h : s.length < 4611686018427387904) : flow_Ways.j2 l a s = some (Lib.compact (s.mergeSort fun x y => decide (x ≤ y)), 0) := by
 unfold flow_Ways.j2
 rw [if_pos h, if_pos (by rw [List.length_mergeSort]; exact h)]
theorem leads_eq (n : Fin 33) : op_Leads.f (n.1 : Int) = some (decide (n.1 = 26 ∨ n.1 = 27 ∨ n.1 = 29)) := by
 revert n; decide +kernel
theorem op_lt {i : api_Instr} (hw : wf_api_Instr i) (h : may i = true) : 0 ≤ i.Op ∧ i.Op < 33 := by
 obtain ⟨h0, h1⟩ := wf_op hw
 refine ⟨h0, ?_⟩
 rcases Int.lt_or_le i.Op 33 with z | z
 ·exact z
 ·unfold may op_Bounds.f op_Known.f at h
  rw [wrap_id (by omega) (by omega)] at h
  simp only [Option.bind_some] at h
  rw [if_pos (by simp; omega)] at h
  simp at h
  omega
theorem prog_ways {l : List api_Instr} (hlen : l.length < 4611686018427387904) (hw : ∀ x ∈ l, wf_api_Instr x) :
    (∀ a, ¬ Known l → flow_Ways.f l a = some ([], 40)) ∧ (∀ a, Known l → ¬ Fine l → flow_Ways.f l a = some ([], 90)) ∧ (∀ a : Int, Known l → Fine l → (a < 0 ∨ a ≥ l.length) → flow_Ways.f l a = some ([], 2)) ∧ (∀ a : Nat, Known l → Fine l → a < l.length → flow_Ways.f l a = some (ways l a, 0)) := by
 obtain ⟨a1, a2, a3⟩ := prog_loops hlen hw
 unfold flow_Ways.f flow_Check.f
 refine ⟨fun a h => ?_, fun a h hf => ?_, fun a h hf ha => ?_, fun a h hf ha => ?_⟩
 ·rw [a1 h]; rfl
 ·rw [a3 h hf]; rfl
 ·rw [a2 h hf]
  simp only [Option.bind_some]
  rw [if_neg (by simp), if_pos (by rw [Bool.or_eq_true, decide_eq_true_eq, decide_eq_true_eq]; exact ha)]
 ·rw [a2 h hf]
  simp only [Option.bind_some]
  rw [if_neg (by simp), if_neg (by rw [Bool.or_eq_true, decide_eq_true_eq, decide_eq_true_eq]; omega), elt_lt ha]
  simp only [Option.bind_some]
  have hm := h.2.2 _ (List.getElem_mem ha)
  have hop := op_lt (hw _ (List.getElem_mem ha)) hm
  have hJ := hf.2.2 a ha
  have hn := h.2.1
  unfold ways
  rw [List.getElem?_eq_getElem ha]
  dsimp only
  generalize hx : l[a] = x at hm hop
  have hgoes : op_Goes.f x.Op = some (decide (x.Op ≠ 26 ∧ x.Op ≠ 31 ∧ x.Op ≠ 32)) := by
   unfold op_Goes.f op_Known.f
   rw [wrap_id (by omega) (by omega)]
   simp only [Option.bind_some]
   congr 1
   rw [Bool.eq_iff_iff]
   simp only [Bool.and_eq_true, decide_eq_true_eq]
   omega
  have hleads : op_Leads.f x.Op = some (decide (x.Op = 26 ∨ x.Op = 27 ∨ x.Op = 29)) := by
   obtain ⟨n, hn⟩ := Int.eq_ofNat_of_zero_le hop.1
   have := leads_eq ⟨n, by omega⟩
   dsimp only at this
   rw [hn]
   have e : (n : Int) = (Int.ofNat n) := rfl
   rw [this]
   congr 1
   rw [Bool.eq_iff_iff, decide_eq_true_eq, decide_eq_true_eq]
   omega
  have wa : IntKind.i64.wrap ((a : Int) + 1) = ((a + 1 : Nat) : Int) := wrap_succ a (by omega)
  rw [hgoes]
  simp only [Option.bind_some]
  rw [wa, if_pos (show (([] : List Int).length + [((a + 1 : Nat) : Int)].length) * 8 ≤ 140737488355328 by simp)]
  unfold flow_Ways.j1
  rw [hleads]
  simp only [Option.bind_some, List.nil_append]
  by_cases h31 : x.Op = 31 ∨ x.Op = 32
  ·rw [if_neg (by rw [decide_eq_true_eq]; omega), if_neg (by omega), if_neg (by rw [decide_eq_true_eq]; omega), if_pos h31, j2_ways _ _ _ (by simp)]
   simp [ct0]
  ·rw [if_neg h31]
   by_cases h26 : x.Op = 26
   ·have hp := may_place hm (.inl h26)
    rw [if_neg (by rw [decide_eq_true_eq]; omega), if_neg (by omega), if_pos (by rw [decide_eq_true_eq]; omega), if_pos h26, if_pos (by simp), j2_ways _ _ _ (by simp)]
    simp [ct1]
   ·rw [if_pos (by rw [decide_eq_true_eq]; omega), if_neg h26]
    by_cases h29 : x.Op = 29
    ·have hp := may_place hm (.inr (.inr h29))
     have hA : x.A < a := by
      have hk : KK l a = .again x.A.toNat := by rw [KK_at ha, hx, if_neg (by omega), if_pos h29]
      obtain ⟨T, hT⟩ := again_mem hf.1.1 ha hk
      have := ((opn_mem (KK l) a fun j hj => hf.1.1 j (by omega)).1 x.A.toNat).1 (by rw [hT]; simp)
      omega
     have wA : IntKind.i64.wrap (x.A + 1) = x.A + 1 := wrap_id (by omega) (by omega)
     rw [if_pos h29, if_pos (by simp), if_neg (by omega), if_pos h29, wA, j2_ways _ _ _ (by simp)]
     simp only [List.singleton_append]
     rw [ms2, if_neg (by omega), ct2, if_neg (by omega)]
    ·rw [if_neg h29, if_neg h29]
     by_cases h27 : x.Op = 27
     ·have hj := (hJ x (by rw [List.getElem?_eq_getElem ha, hx]) (.inr h27)).1
      rw [if_pos (by rw [decide_eq_true_eq]; omega), if_pos h27, if_pos (by simp), j2_ways _ _ _ (by simp)]
      simp only [List.singleton_append]
      rw [ms2, if_pos (by omega), ct2]
      by_cases e : x.A = ((a + 1 : Nat) : Int)
      ·rw [if_pos e.symm, if_pos e, e]
      ·rw [if_neg (Ne.symm e), if_neg e]
     ·rw [if_neg (by rw [decide_eq_true_eq]; omega), if_neg h27, j2_ways _ _ _ (by simp)]
      simp [ct1]
end FlowPure
namespace FlowPure
def goodB (K : Nat → Kn) (i : Nat) : Bool := match K i with
 | .loop => decide ((opn K i).length < 4)
 | .again a => decide ((opn K i).head? = some a)
 | .other => true
theorem goodB_iff {K : Nat → Kn} {i : Nat} : goodB K i = true ↔ good K i := by
 unfold goodB good
 cases K i <;> simp
def fineB (l : List api_Instr) : Bool :=
 ((List.range l.length).all (goodB (KK l)) && (opn (KK l) l.length).isEmpty) && ((match l[l.length - 1]? with | some x => decide (x.Op = 31 ∨ x.Op = 32) | none => true) &&
  (List.range l.length).all fun k => match l[k]? with
   | some x => if x.Op = 26 ∨ x.Op = 27 then decide ((k : Int) < x.A) && decide (x.A < l.length) && (RL (KK l) l.length).all fun y => decide ((y.1 : Int) < x.A → x.A ≤ y.2 → y.1 < k ∧ k ≤ y.2) else true
   | none => true)
theorem fineB_iff {l : List api_Instr} : fineB l = true ↔ Fine l := by
 unfold fineB Fine Run
 rw [Bool.and_eq_true, Bool.and_eq_true, Bool.and_eq_true]
 refine and_congr (and_congr ?_ (by simp)) (and_congr ?_ ?_)
 ·rw [List.all_eq_true]
  constructor
  ·intro h i hi; exact goodB_iff.1 (h i (List.mem_range.2 hi))
  ·intro h i hi; exact goodB_iff.2 (h i (List.mem_range.1 hi))
 ·unfold lastOk
  cases h : l[l.length - 1]? with
  | none => simp
  | some x => simp
 ·unfold Jm
  rw [List.all_eq_true]
  constructor
  ·intro h k hk x hx hop
   have := h k (List.mem_range.2 hk)
   rw [hx] at this
   dsimp only at this
   rw [if_pos hop, Bool.and_eq_true, Bool.and_eq_true, decide_eq_true_eq, decide_eq_true_eq, List.all_eq_true] at this
   refine ⟨this.1.1, this.1.2, fun y hy a b => ?_⟩
   have := this.2 y ((mem_RL y).2 hy)
   rw [decide_eq_true_eq] at this
   exact this a b
  ·intro h k hk
   have := h k (List.mem_range.1 hk)
   cases hx : l[k]? with
   | none => rfl
   | some x =>
    dsimp only
    by_cases hop : x.Op = 26 ∨ x.Op = 27
    ·have := this x hx hop
     rw [if_pos hop, Bool.and_eq_true, Bool.and_eq_true, decide_eq_true_eq, decide_eq_true_eq, List.all_eq_true]
     refine ⟨⟨this.1, this.2.1⟩, fun y hy => ?_⟩
     rw [decide_eq_true_eq]
     exact this.2.2 y ((mem_RL y).1 hy)
    ·rw [if_neg hop]
instance (x : api_Instr) : Decidable (wf_api_Instr x) := by unfold wf_api_Instr; infer_instance
def knownB (l : List api_Instr) : Bool := decide (1 ≤ l.length) && decide (l.length ≤ 200) && l.all fun x => may x && decide (wf_api_Instr x)
theorem knownB_ok {l : List api_Instr} (h : knownB l = true) : Known l ∧ (∀ x ∈ l, wf_api_Instr x) ∧ l.length < 4611686018427387904 := by
 unfold knownB at h
 rw [Bool.and_eq_true, Bool.and_eq_true, decide_eq_true_eq, decide_eq_true_eq, List.all_eq_true] at h
 refine ⟨⟨h.1.1, h.1.2, fun x hx => ?_⟩, fun x hx => ?_, by omega⟩
 ·have := h.2 x hx; rw [Bool.and_eq_true] at this; exact this.1
 ·have := h.2 x hx; rw [Bool.and_eq_true, decide_eq_true_eq] at this; exact this.2
end FlowPure
namespace FlowPure
def WF (l : List api_Instr) (a : Nat) (x : api_Instr) (W : List Int) : Prop :=
 (W.length = 0 ↔ (x.Op = 31 ∨ x.Op = 32)) ∧ W.length ≤ 2 ∧ ∀ i (hi : i < W.length), 0 ≤ W[i] ∧ W[i] < l.length ∧ (W[i] ≤ a → x.Op = 29 ∧ W[i] = x.A + 1) ∧ (∀ h : 0 < i, W[i - 1] < W[i]) ∧
     ∀ y : Nat × Nat, Pr (KK l) l.length y.1 y.2 → (y.1 : Int) < W[i] → W[i] ≤ y.2 → y.1 ≤ a ∧ a ≤ y.2
theorem ways_facts {l : List api_Instr} (hk : Known l) (hf : Fine l) {a : Nat} (ha : a < l.length) : WF l a l[a] (ways l a) := by
 obtain ⟨o1, o2⟩ := run_pairs hf.1
 obtain ⟨-, -, hN, -⟩ := (run_iff (R := RL (KK l) l.length) fun h => ⟨fun x => mem_RL x, RL_nodup h⟩).1 hf.1
 have hJ := hf.2.2 a ha
 have hm := hk.2.2 _ (List.getElem_mem ha)
 have hlast : ¬ (l[a].Op = 31 ∨ l[a].Op = 32) → a + 1 < l.length := by
  intro h
  rcases Nat.lt_or_ge (a + 1) l.length with z | z
  ·exact z
  ·have e : l.length - 1 = a := by omega
   have := hf.2.1 l[a] (by rw [e, List.getElem?_eq_getElem ha])
   exact absurd this h
 have hag : l[a].Op = 29 → 0 ≤ l[a].A ∧ l[a].A < a ∧ KK l a = .again l[a].A.toNat := by
  intro h29
  have hp := may_place hm (.inr (.inr h29))
  have hkk : KK l a = .again l[a].A.toNat := by rw [KK_at ha, if_neg (by omega), if_pos h29]
  obtain ⟨T, hT⟩ := again_mem hf.1.1 ha hkk
  have := ((opn_mem (KK l) a fun j hj => hf.1.1 j (by omega)).1 l[a].A.toNat).1 (by rw [hT]; simp)
  exact ⟨hp.1, by omega, hkk⟩
 have hnext : ∀ x : Nat × Nat, Pr (KK l) l.length x.1 x.2 → (x.1 : Int) < ((a + 1 : Nat) : Int) → ((a + 1 : Nat) : Int) ≤ x.2 → x.1 ≤ a ∧ a ≤ x.2 := fun x _ h1 h2 => by omega
 have hjmp : (l[a].Op = 26 ∨ l[a].Op = 27) → (a : Int) < l[a].A ∧ l[a].A < l.length ∧ ∀ x : Nat × Nat, Pr (KK l) l.length x.1 x.2 → (x.1 : Int) < l[a].A → l[a].A ≤ x.2 → x.1 ≤ a ∧ a ≤ x.2 := by
  intro h
  have := hJ _ (List.getElem?_eq_getElem ha) h
  exact ⟨this.1, this.2.1, fun x hx h1 h2 => by have := this.2.2 x hx h1 h2; omega⟩
 have hback : l[a].Op = 29 → ∀ x : Nat × Nat, Pr (KK l) l.length x.1 x.2 → (x.1 : Int) < l[a].A + 1 → l[a].A + 1 ≤ x.2 → x.1 ≤ a ∧ a ≤ x.2 := by
  intro h29 x hx h1 h2
  obtain ⟨q1, q2, q3⟩ := hag h29
  obtain ⟨b1, b2⟩ := o2 a _ ha q3
  have pa : Pr (KK l) l.length l[a].A.toNat a := ⟨b1, ha, b2, q3⟩
  refine ⟨by omega, ?_⟩
  by_cases e : x.1 = l[a].A.toNat
  ·obtain ⟨t0, -, -, hu⟩ := o1 _ pa.1 b2
   have e1 := hu _ pa
   have e2 := hu x.2 (by rw [← e]; exact hx)
   omega
  ·exact hN _ _ _ _ hx pa (by omega) (by omega)
 have hway : ways l a = if l[a].Op = 31 ∨ l[a].Op = 32 then [] else if l[a].Op = 26 then [l[a].A] else if l[a].Op = 27 then (if l[a].A = ((a + 1 : Nat) : Int) then [l[a].A] else [((a + 1 : Nat) : Int), l[a].A]) else if l[a].Op = 29 then [l[a].A + 1, ((a + 1 : Nat) : Int)] else [((a + 1 : Nat) : Int)] := by
  unfold ways
  rw [List.getElem?_eq_getElem ha]
 rw [hway]
 clear hway
 generalize l[a] = x at *
 by_cases h31 : x.Op = 31 ∨ x.Op = 32
 ·rw [if_pos h31]
  exact ⟨by simpa using h31, by simp, fun i hi => by simp at hi⟩
 ·have hl := hlast h31
  rw [if_neg h31]
  have one : ∀ w : Int, (0 ≤ w ∧ w < l.length ∧ (w ≤ a → x.Op = 29 ∧ w = x.A + 1) ∧ ∀ y : Nat × Nat, Pr (KK l) l.length y.1 y.2 → (y.1 : Int) < w → w ≤ y.2 → y.1 ≤ a ∧ a ≤ y.2) → WF l a x [w] := by
   intro w hw
   refine ⟨by simpa using h31, by simp, fun i hi => ?_⟩
   obtain rfl : i = 0 := by simpa using hi
   exact ⟨hw.1, hw.2.1, hw.2.2.1, fun h => absurd h (by omega), hw.2.2.2⟩
  have two : ∀ v w : Int, v < w → (0 ≤ v ∧ v < l.length ∧ (v ≤ a → x.Op = 29 ∧ v = x.A + 1) ∧ ∀ y : Nat × Nat, Pr (KK l) l.length y.1 y.2 → (y.1 : Int) < v → v ≤ y.2 → y.1 ≤ a ∧ a ≤ y.2) → (0 ≤ w ∧ w < l.length ∧ (w ≤ a → x.Op = 29 ∧ w = x.A + 1) ∧ ∀ y : Nat × Nat, Pr (KK l) l.length y.1 y.2 → (y.1 : Int) < w → w ≤ y.2 → y.1 ≤ a ∧ a ≤ y.2) → WF l a x [v, w] := by
   intro v w hlt hv hw
   refine ⟨by simpa using h31, by simp, fun i hi => ?_⟩
   rcases i with _ | _ | i
   ·exact ⟨hv.1, hv.2.1, hv.2.2.1, fun h => absurd h (by omega), hv.2.2.2⟩
   ·exact ⟨hw.1, hw.2.1, hw.2.2.1, fun _ => hlt, hw.2.2.2⟩
   ·simp at hi; omega
  by_cases h26 : x.Op = 26
  ·rw [if_pos h26]
   obtain ⟨j1, j2, j3⟩ := hjmp (.inl h26)
   exact one _ ⟨by omega, j2, fun h => by omega, j3⟩
  ·rw [if_neg h26]
   by_cases h27 : x.Op = 27
   ·rw [if_pos h27]
    obtain ⟨j1, j2, j3⟩ := hjmp (.inr h27)
    by_cases e : x.A = ((a + 1 : Nat) : Int)
    ·rw [if_pos e]
     exact one _ ⟨by omega, j2, fun h => by omega, j3⟩
    ·rw [if_neg e]
     exact two _ _ (by omega) ⟨by omega, by omega, fun h => by omega, hnext⟩ ⟨by omega, j2, fun h => by omega, j3⟩
   ·rw [if_neg h27]
    by_cases h29 : x.Op = 29
    ·rw [if_pos h29]
     obtain ⟨q1, q2, q3⟩ := hag h29
     exact two _ _ (by omega) ⟨by omega, by omega, fun _ => ⟨h29, rfl⟩, hback h29⟩ ⟨by omega, by omega, fun h => by omega, hnext⟩
    ·rw [if_neg h29]
     exact one _ ⟨by omega, by omega, fun h => by omega, hnext⟩
end FlowPure
namespace TypesPure
open FlowPure
theorem concat2 {x y : List Int} (h : x.length + y.length ≤ 140737488355328) : slices_Concat_uint8_uint8.f [x, y] = some (x ++ y) := by
 unfold slices_Concat_uint8_uint8.f
 have w1 : IntKind.i64.wrap ((0 : Int) + (x.length : Int)) = x.length := by rw [wrap_id (by omega) (by omega)]; omega
 have w2 : IntKind.i64.wrap ((x.length : Int) + (y.length : Int)) = ((x.length + y.length : Nat) : Int) := by rw [wrap_id (by omega) (by omega)]; omega
 have i1 : IntKind.i64.wrap ((0 : Int) + 1) = 1 := by decide
 have i2 : IntKind.i64.wrap ((1 : Int) + 1) = 2 := by decide
 rw [runF_step (t := .l1 0 0) rfl, runF_step (t := .l1 (x.length : Int) 1), runF_step (t := .l1 ((x.length + y.length : Nat) : Int) 2), runF_step (t := .l2 [] 0), runF_step (t := .l2 x 1), runF_step (t := .l2 (x ++ y) 2), runF_end]
 ·dsimp only [slices_Concat_uint8_uint8.F]; rw [if_neg (by simp)]
 ·dsimp only [slices_Concat_uint8_uint8.F]; rw [if_pos (by simp), show elt [x, y] 1 = some y from rfl]; simp only [Option.bind_some]; rw [if_pos (by omega), i2]
 ·dsimp only [slices_Concat_uint8_uint8.F]; rw [if_pos (by simp), show elt [x, y] 0 = some x from rfl]; simp only [Option.bind_some]; rw [if_pos (by simp; omega), i1]; rfl
 ·dsimp only [slices_Concat_uint8_uint8.F]; rw [if_neg (by simp), if_pos (by omega)]
 ·dsimp only [slices_Concat_uint8_uint8.F]; rw [if_pos (by simp), show elt [x, y] 1 = some y from rfl]; simp only [Option.bind_some]; rw [w2, if_neg (by omega)]; unfold slices_Concat_uint8_uint8.j1; rw [w2, i2]
 ·dsimp only [slices_Concat_uint8_uint8.F]; rw [if_pos (by simp), show elt [x, y] 0 = some x from rfl]; simp only [Option.bind_some]; rw [w1, if_neg (by omega)]; unfold slices_Concat_uint8_uint8.j1; rw [w1, i1]
theorem clone8 {x : List Int} (h : x.length ≤ 140737488355328) : slices_Clone_uint8_uint8.f x = some x := by
 unfold slices_Clone_uint8_uint8.f
 rw [nilOr_same (by rintro rfl; rfl), if_pos (by simp; omega)]; rfl
theorem cloneRows {x : List types_Row} (h : x.length ≤ 200) : slices_Clone_types_Row_types_Row.f x = some x := by
 unfold slices_Clone_types_Row_types_Row.f
 rw [nilOr_same (by rintro rfl; rfl), if_pos (by simp; omega)]; rfl
theorem repeat2 (a : Int) : slices_Repeat_uint8_uint8.f [a] 2 = some [a, a] := by
 unfold slices_Repeat_uint8_uint8.f
 have m : math_bits_Mul.f (IntKind.u64.wrap (([a] : List Int).length : Int)) (IntKind.u64.wrap 2) = some (0, 2) := by show math_bits_Mul.f (IntKind.u64.wrap 1) (IntKind.u64.wrap 2) = some (0, 2); decide +kernel
 have w2 : IntKind.i64.wrap 2 = 2 := by decide
 rw [runF_step (t := .l1 [a, 0] 1), runF_step (t := .l1 [a, a] 2), runF_end]
 ·dsimp only [slices_Repeat_uint8_uint8.F]; rw [if_neg (by simp)]
 ·dsimp only [slices_Repeat_uint8_uint8.F]; rw [if_pos (by simp), if_pos (by simp), if_pos (by simp)]; rfl
 ·dsimp only [slices_Repeat_uint8_uint8.F]
  rw [if_neg (by omega)]
  unfold slices_Repeat_uint8_uint8.j1
  rw [m]
  simp only [Option.bind_some]
  rw [if_neg (by decide)]
  unfold slices_Repeat_uint8_uint8.j2
  dsimp only
  rw [w2, if_pos (by omega)]; rfl
theorem same8 {x y : List Int} (h : x.length < 4611686018427387904) : slices_Equal_uint8_uint8.f x y = some (decide (x = y)) := by
 unfold slices_Equal_uint8_uint8.f
 by_cases hl : x.length = y.length
 ·rw [runF_step (t := .l1 ((0 : Nat) : Int)) (by dsimp only [slices_Equal_uint8_uint8.F]; rw [if_neg (by omega)]; rfl)]
  obtain ⟨r, hr, hc⟩ := runF_scan (F := slices_Equal_uint8_uint8.F x y) (n := x.length) (b := true) (a := fun _ => false) (fun k => .l1 (k : Int)) (fun k => decide (x[k]? ≠ y[k]?)) (fun k hk => by
   have hk' : k < y.length := by omega
   dsimp only [slices_Equal_uint8_uint8.F]
   rw [if_pos (by omega), elt_lt hk, elt_lt hk', List.getElem?_eq_getElem hk, List.getElem?_eq_getElem hk']
   simp only [Option.bind_some, Option.some.injEq, ne_eq, wrap_succ k (by omega), decide_eq_true_eq]
   by_cases e : x[k] = y[k]
   ·rw [if_neg (by simpa using e), if_neg (by simpa using e)]
   ·rw [if_pos (by simpa using e), if_pos (by simpa using e)]) (by dsimp only [slices_Equal_uint8_uint8.F]; rw [if_neg (by omega)])
  rw [hr]
  congr 1
  rcases hc with ⟨k, hk, hp, rfl⟩ | ⟨hn, rfl⟩
  ·rw [eq_comm, decide_eq_false_iff_not]
   rintro rfl; simp at hp
  ·rw [eq_comm, decide_eq_true_eq]
   refine List.ext_getElem? fun k => ?_
   rcases Nat.lt_or_ge k x.length with z | z
   ·have := hn k z; simpa using this
   ·rw [List.getElem?_eq_none z, List.getElem?_eq_none (by omega)]
 ·rw [runF_end (r := false) (by dsimp only [slices_Equal_uint8_uint8.F]; rw [if_pos (by omega)])]
  congr 1
  rw [eq_comm, decide_eq_false_iff_not]
  rintro rfl; exact hl rfl
structure TE where
 G : List api_Value
 P : List api_Value
 M : List api_Method
 res : Int
 K : List Int
def there (E : TE) (i : api_Instr) : Bool := if i.Op = 1 then decide (i.A < E.P.length) else if i.Op = 2 ∨ i.Op = 3 then decide (i.A < E.K.length) else if i.Op = 4 ∨ i.Op = 5 then decide (i.A < E.G.length) else if i.Op = 30 then decide (i.A < E.M.length) else true
theorem there_eq (E : TE) (mig : Int) (ar lo : List Int) (re : Bool) (fu sta he : Int) (co : List api_Instr) (i : api_Instr) : types_look_there_s1.f E.G E.P E.M mig ar lo E.res re fu sta he co E.K i = some (there E i) := by
 unfold types_look_there_s1.f types_look_there_s1.j2 types_look_there_s1.j3 types_look_there_s1.j1 there
 by_cases h1 : i.Op = 1
 ·simp [h1]
 ·by_cases h2 : i.Op = 2
  ·simp [h2]
  ·by_cases h3 : i.Op = 3
   ·simp [h3]
   ·by_cases h4 : i.Op = 4
    ·simp [h4]
    ·by_cases h5 : i.Op = 5
     ·simp [h5]
     ·by_cases h6 : i.Op = 30
      ·simp [h6]
      ·simp [h1, h2, h3, h4, h5, h6]
theorem contains_there {E : TE} {mig : Int} {ar lo : List Int} {re : Bool} {fu sta he : Int} {co l : List api_Instr} (hl : l.length < 4611686018427387904) : slices_ContainsFunc_api_Instr_api_Instr_s2.f l E.G E.P E.M mig ar lo E.res re fu sta he co E.K = some (l.any fun x => !there E x) := by
 unfold slices_ContainsFunc_api_Instr_api_Instr_s2.f slices_IndexFunc_api_Instr_api_Instr_s2.f
 rw [runF_step (t := .l1 ((0 : Nat) : Int)) rfl]
 obtain ⟨r, hr, hc⟩ := runF_scan (F := slices_IndexFunc_api_Instr_api_Instr_s2.F l E.G E.P E.M mig ar lo E.res re fu sta he co E.K) (n := l.length) (b := -1) (a := fun k => (k : Int)) (fun k => .l1 (k : Int)) (fun k => if h : k < l.length then !there E l[k] else false) (fun k hk => by
  dsimp only [slices_IndexFunc_api_Instr_api_Instr_s2.F]
  rw [if_pos (by omega), elt_lt hk]
  simp only [Option.bind_some]
  unfold types_Rows_1_s1.f
  rw [there_eq]
  simp only [Option.bind_some, dif_pos hk, wrap_succ k (by omega)]
  cases there E l[k] <;> rfl) (by dsimp only [slices_IndexFunc_api_Instr_api_Instr_s2.F]; rw [if_neg (by omega)])
 rw [hr]
 simp only [Option.bind_some]
 congr 1
 rw [Bool.eq_iff_iff]
 simp only [decide_eq_true_eq, List.any_eq_true]
 rcases hc with ⟨k, hk, hp, rfl⟩ | ⟨hn, rfl⟩
 ·rw [dif_pos hk] at hp
  exact ⟨fun _ => ⟨_, List.getElem_mem hk, hp⟩, fun _ => by omega⟩
 ·refine ⟨fun h => by omega, fun ⟨x, hx, hp⟩ => ?_⟩
  obtain ⟨k, hk, rfl⟩ := List.mem_iff_getElem.1 hx
  have := hn k hk
  rw [dif_pos hk, hp] at this; cases this
theorem may_named {i : api_Instr} (hw : wf_api_Instr i) (h : may i = true) (ho : i.Op = 1 ∨ i.Op = 2 ∨ i.Op = 3 ∨ i.Op = 4 ∨ i.Op = 5 ∨ i.Op = 30) : 0 ≤ i.A := by
 unfold may at h
 have e : (op_Bounds.f i.Op).map (·.1) = some 0 := by rcases ho with e | e | e | e | e | e <;> rw [e] <;> decide +kernel
 cases hb : op_Bounds.f i.Op with
 | none => rw [hb] at e; cases e
 | some b =>
  rw [hb] at e h
  simp at e h; omega
def At {α : Type} (xs : List α) (d : α) (a : Int) : α := xs[a.toNat]?.getD d
theorem elt_At {α : Type} {xs : List α} {a : Int} (d : α) (h0 : 0 ≤ a) (h1 : a < xs.length) : elt xs a = some (At xs d a) := by
 have : a.toNat < xs.length := by omega
 rw [elt_int h0 this]
 simp [At, this]
def named (E : TE) (i : api_Instr) : Int := if i.Op = 1 then (At E.P api_Value.zero i.A).Kind else if i.Op = 4 ∨ i.Op = 5 then (At E.G api_Value.zero i.A).Kind else At E.K 0 i.A
theorem named_eq {E : TE} {mig : Int} {ar lo : List Int} {re : Bool} {fu sta he : Int} {co : List api_Instr} {rows : List types_Row} {i : api_Instr} (hw : wf_api_Instr i) (hm : may i = true) (ht : there E i = true) (ho : i.Op = 1 ∨ i.Op = 2 ∨ i.Op = 3 ∨ i.Op = 4 ∨ i.Op = 5) :
    types_look_named_s1.f E.G E.P E.M mig ar lo E.res re fu sta he co E.K rows i = some (named E i, rows) := by
 have h0 := may_named hw hm (by omega)
 unfold types_look_named_s1.f types_look_named_s1.j1 named
 unfold there at ht
 rcases ho with e | e | e | e | e
 ·simp only [e, if_true, decide_eq_true_eq] at ht ⊢
  rw [elt_At api_Value.zero h0 ht]; rfl
 ·simp [e] at ht ⊢
  rw [elt_At 0 h0 ht]; rfl
 ·simp [e] at ht ⊢
  rw [elt_At 0 h0 ht]; rfl
 ·simp [e] at ht ⊢
  rw [elt_At api_Value.zero h0 ht]; rfl
 ·simp [e] at ht ⊢
  rw [elt_At api_Value.zero h0 ht]; rfl
end TypesPure
namespace TypesPure
open FlowPure
def ofOk (n : Nat) (o : Option (op_Shape × Bool)) : Bool := match o with
 | none => false
 | some s => if s.2 = true then decide (s.1.Takes.length ≤ 3 ∧ s.1.Gives.length ≤ 2) && decide (n ≠ 31) else decide (s.1.Takes = [] ∧ s.1.Gives = []) && decide (n = 1 ∨ n = 2 ∨ n = 3 ∨ n = 4 ∨ n = 5 ∨ n = 7 ∨ n = 8 ∨ n = 30 ∨ n = 31)
theorem of_all (n : Fin 33) : ofOk n.1 (op_Of.f (n.1 : Int)) = true := by revert n; decide +kernel
theorem of_some {x : Int} (h0 : 0 ≤ x) (h1 : x < 33) : ∃ s : op_Shape × Bool, op_Of.f x = some s ∧ ((s.2 = true ∧ s.1.Takes.length ≤ 3 ∧ s.1.Gives.length ≤ 2 ∧ x ≠ 31) ∨ (s = (⟨[], []⟩, false) ∧ (x = 1 ∨ x = 2 ∨ x = 3 ∨ x = 4 ∨ x = 5 ∨ x = 7 ∨ x = 8 ∨ x = 30 ∨ x = 31))) := by
 obtain ⟨n, rfl⟩ := Int.eq_ofNat_of_zero_le h0
 have := of_all ⟨n, by omega⟩
 dsimp only at this
 cases ho : op_Of.f (n : Int) with
 | none => rw [ho] at this; cases this
 | some s =>
  rw [ho] at this
  refine ⟨s, rfl, ?_⟩
  unfold ofOk at this
  dsimp only at this
  by_cases hs : s.2 = true
  ·rw [if_pos hs, Bool.and_eq_true, decide_eq_true_eq, decide_eq_true_eq] at this
   exact .inl ⟨hs, this.1.1, this.1.2, by omega⟩
  ·rw [if_neg hs, Bool.and_eq_true, decide_eq_true_eq, decide_eq_true_eq] at this
   obtain ⟨⟨t, g⟩, b⟩ := s
   obtain ⟨⟨rfl, rfl⟩, h⟩ := this
   simp only [Bool.not_eq_true] at hs
   subst hs
   exact .inr ⟨rfl, by omega⟩
def two (row : List Int) : List Int := row.drop (row.length - 2)
def shapeC (E : TE) (i : api_Instr) (row : List Int) : List Int × List Int := match op_Of.f i.Op with
 | none => ([], [])
 | some s => if s.2 = true then (s.1.Takes, s.1.Gives)
  else if i.Op = 1 ∨ i.Op = 2 ∨ i.Op = 4 then ([], [named E i])
  else if i.Op = 3 ∨ i.Op = 5 then ([named E i], [])
  else if i.Op = 30 then ((At E.M api_Method.zero i.A).Args, [(At E.M api_Method.zero i.A).Result])
  else if i.Op = 31 then ([E.res], [])
  else if i.Op = 8 then ([0, 0], (two row).reverse)
  else ([0], if row = [] then [] else [row.getLastD 0, row.getLastD 0])
theorem two_len (row : List Int) : (two row).length ≤ 2 := by unfold two; simp; omega
theorem two_last {row : List Int} (h : row ≠ []) : (two row).drop ((two row).length - 1) = [row.getLastD 0] := by
 have hp : 0 < row.length := List.length_pos_iff.2 h
 have e : row = row.dropLast ++ [row.getLast h] := (List.dropLast_concat_getLast h).symm
 have hl : row.getLastD 0 = row.getLast h := by rw [List.getLastD_eq_getLast?, List.getLast?_eq_some_getLast h]; rfl
 unfold two
 rw [List.drop_drop, List.length_drop, hl]
 have : row.length - 2 + (row.length - (row.length - 2) - 1) = row.dropLast.length := by rw [List.length_dropLast]; omega
 rw [this]
 conv => lhs; rw [e]
 rw [List.drop_left' (by simp)]
theorem shape_eq {E : TE} {mig : Int} {ar lo : List Int} {re : Bool} {fu sta he : Int} {co : List api_Instr} {rows : List types_Row} {i : api_Instr} {row : List Int} (hw : wf_api_Instr i) (hm : may i = true) (ht : there E i = true) (hrow : row.length ≤ 100000) :
    types_look_shape_s1.f E.G E.P E.M mig ar lo E.res re fu sta he co E.K rows i row = some (⟨(shapeC E i row).1, (shapeC E i row).2⟩, rows) := by
 obtain ⟨o0, o1⟩ := op_lt hw hm
 obtain ⟨s, hs, h⟩ := of_some o0 o1
 unfold types_look_shape_s1.f shapeC
 rw [hs]
 simp only [Option.bind_some]
 rcases h with ⟨h2, -, -, -⟩ | ⟨rfl, ho⟩
 ·rw [if_pos h2, if_pos h2]
 ·simp only [Bool.false_eq_true, if_false]
  have w : IntKind.i64.wrap ((row.length : Int) - 2) = (row.length : Int) - 2 := wrap_id (by omega) (by omega)
  have e : (if (IntKind.i64.wrap ((row.length : Int) - 2)) > 0 then IntKind.i64.wrap ((row.length : Int) - 2) else 0 : Int) = ((row.length - 2 : Nat) : Int) := by rw [w]; split <;> omega
  rw [e, if_pos (by omega)]
  have et : ((row.length - 2 : Nat) : Int).toNat = row.length - 2 := by omega
  rw [et, clone8 (by simp; omega)]
  simp only [Option.bind_some]
  change (if i.Op = 1 then types_look_shape_s1.j3 _ _ _ _ _ _ _ _ _ _ _ _ _ _ _ _ _ (two row) _ else _) = _
  have hj : ∀ b : Bool, b = decide (i.Op = 1 ∨ i.Op = 2 ∨ i.Op = 4) → types_look_shape_s1.j3 E.G E.P E.M mig ar lo E.res re fu sta he co E.K rows i row (⟨[], []⟩, false) (two row) b = some (⟨(if i.Op = 1 ∨ i.Op = 2 ∨ i.Op = 4 then ([], [named E i])
   else if i.Op = 3 ∨ i.Op = 5 then ([named E i], [])
   else if i.Op = 30 then ((At E.M api_Method.zero i.A).Args, [(At E.M api_Method.zero i.A).Result])
   else if i.Op = 31 then ([E.res], [])
   else if i.Op = 8 then ([0, 0], (two row).reverse)
   else ([0], if row = [] then [] else [row.getLastD 0, row.getLastD 0]) : List Int × List Int).1, (if i.Op = 1 ∨ i.Op = 2 ∨ i.Op = 4 then ([], [named E i])
   else if i.Op = 3 ∨ i.Op = 5 then ([named E i], [])
   else if i.Op = 30 then ((At E.M api_Method.zero i.A).Args, [(At E.M api_Method.zero i.A).Result])
   else if i.Op = 31 then ([E.res], [])
   else if i.Op = 8 then ([0, 0], (two row).reverse)
   else ([0], if row = [] then [] else [row.getLastD 0, row.getLastD 0]) : List Int × List Int).2⟩, rows) := by
   rintro b rfl
   unfold types_look_shape_s1.j3
   by_cases h124 : i.Op = 1 ∨ i.Op = 2 ∨ i.Op = 4
   ·rw [if_pos (by simpa using h124), named_eq hw hm ht (by omega), if_pos h124]; rfl
   ·rw [if_neg (by simpa using h124), if_neg h124]
    have hj4 : ∀ b : Bool, b = decide (i.Op = 3 ∨ i.Op = 5) → types_look_shape_s1.j4 E.G E.P E.M mig ar lo E.res re fu sta he co E.K rows i row (⟨[], []⟩, false) (two row) b = some (⟨(if i.Op = 3 ∨ i.Op = 5 then ([named E i], [])
     else if i.Op = 30 then ((At E.M api_Method.zero i.A).Args, [(At E.M api_Method.zero i.A).Result])
     else if i.Op = 31 then ([E.res], [])
     else if i.Op = 8 then ([0, 0], (two row).reverse)
     else ([0], if row = [] then [] else [row.getLastD 0, row.getLastD 0]) : List Int × List Int).1, (if i.Op = 3 ∨ i.Op = 5 then ([named E i], [])
     else if i.Op = 30 then ((At E.M api_Method.zero i.A).Args, [(At E.M api_Method.zero i.A).Result])
     else if i.Op = 31 then ([E.res], [])
     else if i.Op = 8 then ([0, 0], (two row).reverse)
     else ([0], if row = [] then [] else [row.getLastD 0, row.getLastD 0]) : List Int × List Int).2⟩, rows) := by
     rintro b rfl
     unfold types_look_shape_s1.j4
     by_cases h35 : i.Op = 3 ∨ i.Op = 5
     ·rw [if_pos (by simpa using h35), named_eq hw hm ht (by omega), if_pos h35]; rfl
     ·rw [if_neg (by simpa using h35), if_neg h35]
      by_cases h30 : i.Op = 30
      ·have a0 := may_named hw hm (by omega)
       have a1 : i.A < E.M.length := by simpa [there, h30] using ht
       rw [if_pos h30, if_pos h30, elt_At api_Method.zero a0 a1]; rfl
      ·rw [if_neg h30, if_neg h30]
       by_cases h31 : i.Op = 31
       ·rw [if_pos h31, if_pos h31]; rfl
       ·rw [if_neg h31, if_neg h31]
        by_cases h8 : i.Op = 8
        ·have := two_len row
         rw [if_pos h8, if_pos h8, if_pos (by omega), if_pos (by simp)]; rfl
        ·rw [if_neg h8, if_neg h8]
         by_cases h7 : i.Op = 7
         ·rw [if_pos h7]
          by_cases hr : row = []
          ·subst hr; rfl
          ·have hp : 0 < row.length := List.length_pos_iff.2 hr
           have t1 := two_len row
           have t2 : 0 < (two row).length := by unfold two; simp; omega
           have w1 : IntKind.i64.wrap (((two row).length : Int) - 1) = (((two row).length - 1 : Nat) : Int) := by rw [wrap_id (by omega) (by omega)]; omega
           rw [if_pos (by omega), w1, if_pos (by omega), if_neg hr]
           have et : (((two row).length - 1 : Nat) : Int).toNat = (two row).length - 1 := by omega
           rw [et, two_last hr, repeat2]; rfl
         ·omega
    by_cases h3 : i.Op = 3
    ·rw [if_pos h3]; exact hj4 _ (by simp [h3])
    ·rw [if_neg h3]; exact hj4 _ (by simp [h3])
  by_cases h1 : i.Op = 1
  ·rw [if_pos h1]; exact hj _ (by simp [h1])
  ·rw [if_neg h1]
   by_cases h2 : i.Op = 2
   ·rw [if_pos h2]; exact hj _ (by simp [h2])
   ·rw [if_neg h2]; exact hj _ (by simp [h1, h2])
theorem gives_len {E : TE} {i : api_Instr} {row : List Int} (hw : wf_api_Instr i) (hm : may i = true) : (shapeC E i row).2.length ≤ 2 := by
 obtain ⟨o0, o1⟩ := op_lt hw hm
 obtain ⟨s, hs, h⟩ := of_some o0 o1
 have := two_len row
 unfold shapeC
 rw [hs]
 dsimp only
 rcases h with ⟨h2, -, h3, -⟩ | ⟨rfl, ho⟩
 ·rw [if_pos h2]; exact h3
 ·rw [if_neg (by simp)]
  split
  ·simp
  ·split
   ·simp
   ·split
    ·simp
    ·split
     ·simp
     ·split
      ·simpa using this
      ·dsimp only; split <;> simp
theorem takes_len {E : TE} {i : api_Instr} {row : List Int} (hw : wf_api_Instr i) (hm : may i = true) (hM : ∀ m ∈ E.M, m.Args.length < 4611686018427387904) : (shapeC E i row).1.length < 4611686018427387904 := by
 obtain ⟨o0, o1⟩ := op_lt hw hm
 obtain ⟨s, hs, h⟩ := of_some o0 o1
 unfold shapeC
 rw [hs]
 dsimp only
 rcases h with ⟨h2, h3, -, -⟩ | ⟨rfl, ho⟩
 ·rw [if_pos h2]; dsimp only; omega
 ·rw [if_neg (by simp)]
  split
  ·simp
  ·split
   ·simp
   ·split
    ·unfold At
     dsimp only
     rcases Nat.lt_or_ge i.A.toNat E.M.length with z | z
     ·rw [List.getElem?_eq_getElem z]; exact hM _ (List.getElem_mem z)
     ·rw [List.getElem?_eq_none z]; simp [api_Method.zero]
    ·split
     ·simp
     ·split
      ·simp
      ·simp
def takesB (t row : List Int) : Bool := (t.zip (row.drop (row.length - t.length))).all fun x => decide (x.1 = 0 ∨ x.1 = x.2)
def afterC (E : TE) (i : api_Instr) (row : List Int) : List Int × Int := if row.length < (shapeC E i row).1.length then ([], 101) else if takesB (shapeC E i row).1 row = true then (row.take (row.length - (shapeC E i row).1.length) ++ (shapeC E i row).2, 0) else ([], 100)
theorem after_eq {E : TE} {mig : Int} {ar lo : List Int} {re : Bool} {fu sta he : Int} {co : List api_Instr} {rows : List types_Row} {i : api_Instr} {row : List Int} (hw : wf_api_Instr i) (hm : may i = true) (ht : there E i = true) (hrow : row.length ≤ 100000) (hM : ∀ m ∈ E.M, m.Args.length < 4611686018427387904) :
    types_look_after_s1.f E.G E.P E.M mig ar lo E.res re fu sta he co E.K rows i row = some (afterC E i row, rows) := by
 have hg := gives_len (E := E) (row := row) hw hm
 have htk := takes_len (E := E) (row := row) hw hm hM
 unfold types_look_after_s1.f afterC
 have hs := shape_eq (mig := mig) (ar := ar) (lo := lo) (re := re) (fu := fu) (sta := sta) (he := he) (co := co) (rows := rows) hw hm ht hrow
 generalize shapeC E i row = sh at hg htk hs ⊢
 obtain ⟨t, g⟩ := sh
 dsimp only at hg htk hs ⊢
 have w : IntKind.i64.wrap ((row.length : Int) - (t.length : Int)) = (row.length : Int) - t.length := wrap_id (by omega) (by omega)
 by_cases hlt : row.length < t.length
 ·rw [if_pos hlt, runF_end]
  dsimp only [types_look_after_s1.F]
  rw [hs]
  simp only [Option.bind_some]
  rw [w, if_pos (by omega)]
 ·rw [if_neg hlt, runF_step (t := .l1 (⟨t, g⟩, rows) ((0 : Nat) : Int))]
  ·obtain ⟨r, hr, hc⟩ := runF_scan (F := types_look_after_s1.F E.G E.P E.M mig ar lo E.res re fu sta he co E.K rows i row) (n := t.length) (b := ((row.take (row.length - t.length) ++ g, 0), rows)) (a := fun _ => (([], 100), rows)) (fun k => .l1 (⟨t, g⟩, rows) (k : Int)) (fun k => match (t.zip (row.drop (row.length - t.length)))[k]? with | some x => !decide (x.1 = 0 ∨ x.1 = x.2) | none => false) (fun k hk => by
    dsimp only [types_look_after_s1.F]
    have hk2 : row.length - t.length + k < row.length := by omega
    have w2 : IntKind.i64.wrap ((row.length : Int) - t.length + k) = ((row.length - t.length + k : Nat) : Int) := by rw [wrap_id (by omega) (by omega)]; omega
    rw [if_pos (by omega), elt_lt hk, w, w2, elt_lt hk2]
    simp only [Option.bind_some, wrap_succ k (by omega)]
    rw [List.getElem?_eq_getElem (by simp; omega), List.getElem_zip, List.getElem_drop]
    dsimp only
    by_cases h0 : t[k] = 0
    ·simp [h0]
    ·by_cases h1 : t[k] = row[row.length - t.length + k]
     ·simp [h1]
     ·simp [h0, h1]) (by
    dsimp only [types_look_after_s1.F]
    have et : ((row.length : Int) - t.length).toNat = row.length - t.length := by omega
    rw [if_neg (by omega), w, if_pos (by omega), et, concat2 (by simp; omega)]; rfl)
   rw [hr]
   congr 1
   unfold takesB
   rcases hc with ⟨k, hk, hp, rfl⟩ | ⟨hn, rfl⟩
   ·rw [if_neg]
    intro hall
    rw [List.all_eq_true] at hall
    split at hp
    ·rename_i x hx
     have := hall x (List.mem_of_getElem? hx)
     rw [this] at hp; cases hp
    ·cases hp
   ·rw [if_pos]
    rw [List.all_eq_true]
    intro x hx
    obtain ⟨k, hk, hx⟩ := List.mem_iff_getElem.1 hx
    have h2 := hn k (by simp at hk; omega)
    rw [List.getElem?_eq_getElem hk, hx] at h2
    dsimp only at h2
    rw [Bool.not_eq_false'] at h2
    exact h2
  ·dsimp only [types_look_after_s1.F]
   rw [hs]
   simp only [Option.bind_some]
   rw [w, if_neg (by omega)]; rfl
theorem after_len {E : TE} {i : api_Instr} {row : List Int} (hw : wf_api_Instr i) (hm : may i = true) : (afterC E i row).1.length ≤ row.length + 2 := by
 have hg := gives_len (E := E) (row := row) hw hm
 unfold afterC
 split
 ·simp
 ·split
  ·simp; omega
  ·simp
end TypesPure
namespace TypesPure
open FlowPure
def R0 : types_Row := types_Row.zero
def put (next : List Int) : List types_Row → List Int → Int × List types_Row
 | rows, [] => (0, rows)
 | rows, w :: ws => if (At rows R0 w).Reached = true ∧ (At rows R0 w).Kinds ≠ next then (100, rows) else put next (rows.set w.toNat ⟨true, next⟩) ws
def placeC (E : TE) (l : List api_Instr) (rows : List types_Row) (a : Nat) : Int × List types_Row :=
 if (At rows R0 a).Reached = true then (if (afterC E (At l api_Instr.zero a) (At rows R0 a).Kinds).2 ≠ 0 then ((afterC E (At l api_Instr.zero a) (At rows R0 a).Kinds).2, rows) else put (afterC E (At l api_Instr.zero a) (At rows R0 a).Kinds).1 rows (FlowPure.ways l a)) else (0, rows)
theorem At_nat {α : Type} {xs : List α} {d : α} {a : Nat} (h : a < xs.length) : At xs d (a : Int) = xs[a] := by
 unfold At
 rw [show ((a : Int).toNat) = a from by omega, List.getElem?_eq_getElem h]; rfl
structure Well (E : TE) (l : List api_Instr) : Prop where
 known : Known l
 fine : Fine l
 wf : ∀ x ∈ l, wf_api_Instr x
 th : ∀ x ∈ l, there E x = true
 M : ∀ m ∈ E.M, m.Args.length < 4611686018427387904
def Sz (k : Nat) (rows : List types_Row) : Prop := rows.length = 200 ∧ ∀ r ∈ rows, r.Kinds.length ≤ 2 * k
theorem put_sz {k : Nat} {next : List Int} (hn : next.length ≤ 2 * k) : ∀ (ws : List Int) (rows : List types_Row), Sz k rows → Sz k (put next rows ws).2
 | [], rows, h => h
 | w :: ws, rows, h => by
  unfold put
  split
  ·exact h
  ·refine put_sz hn ws _ ⟨by rw [List.length_set]; exact h.1, fun r hr => ?_⟩
   rcases List.mem_or_eq_of_mem_set hr with hr | rfl
   ·exact h.2 r hr
   ·exact hn
theorem At_mem {α : Type} {xs : List α} {d : α} {a : Int} {p : α → Prop} (hd : p d) (h : ∀ x ∈ xs, p x) : p (At xs d a) := by
 unfold At
 rcases Nat.lt_or_ge a.toNat xs.length with z | z
 ·rw [List.getElem?_eq_getElem z]; exact h _ (List.getElem_mem z)
 ·rw [List.getElem?_eq_none z]; exact hd
theorem place_sz {E : TE} {l : List api_Instr} (W : Well E l) {k : Nat} (hk : k < l.length) {rows : List types_Row} (h : Sz k rows) : Sz (k + 1) (placeC E l rows k).2 := by
 have h' : Sz (k + 1) rows := ⟨h.1, fun r hr => by have := h.2 r hr; omega⟩
 unfold placeC
 split
 ·split
  ·exact h'
  ·refine put_sz ?_ _ _ h'
   have hm := W.known.2.2 _ (List.getElem_mem hk)
   have hw := W.wf _ (List.getElem_mem hk)
   rw [At_nat hk]
   have := after_len (E := E) (row := (At rows R0 (k : Int)).Kinds) hw hm
   have h2 : (At rows R0 (k : Int)).Kinds.length ≤ 2 * k := At_mem (p := fun r : types_Row => r.Kinds.length ≤ 2 * k) (by simp [R0, types_Row.zero]) h.2
   omega
 ·exact h'
theorem place_eq {E : TE} {mig : Int} {ar lo : List Int} {re : Bool} {fu sta he : Int} {l : List api_Instr} (W : Well E l) {rows : List types_Row} {k : Nat} (hk : k < l.length) (h : Sz k rows) :
    types_look_place_s1.f E.G E.P E.M mig ar lo E.res re fu sta he l E.K rows (k : Int) = some (placeC E l rows k) := by
 have hn : l.length ≤ 200 := W.known.2.1
 have hm := W.known.2.2 _ (List.getElem_mem hk)
 have hw := W.wf _ (List.getElem_mem hk)
 have ht := W.th _ (List.getElem_mem hk)
 have hk2 : k < rows.length := by rw [h.1]; omega
 have hr : rows[k].Kinds.length ≤ 2 * k := h.2 _ (List.getElem_mem hk2)
 have ha := after_eq (mig := mig) (ar := ar) (lo := lo) (re := re) (fu := fu) (sta := sta) (he := he) (co := l) (rows := rows) hw hm ht (row := rows[k].Kinds) (by omega) W.M
 have hl := after_len (E := E) (row := rows[k].Kinds) hw hm
 have hws := (prog_ways (by omega) W.wf).2.2.2 k W.known W.fine hk
 unfold types_look_place_s1.f placeC
 rw [At_nat hk2, At_nat hk]
 by_cases hre : rows[k].Reached = true
 ·rw [if_pos hre]
  by_cases hq : (afterC E l[k] rows[k].Kinds).2 ≠ 0
  ·rw [if_pos hq, runF_end]
   dsimp only [types_look_place_s1.F]
   rw [elt_lt hk2]
   simp only [Option.bind_some]
   rw [if_neg (by simp [hre]), elt_lt hk]
   simp only [Option.bind_some]
   rw [ha]
   simp only [Option.bind_some]
   rw [if_pos hq]
  ·rw [if_neg hq, runF_step (t := .l1 (afterC E l[k] rows[k].Kinds, rows) (FlowPure.ways l k, 0) rows ((0 : Nat) : Int)) (by
    dsimp only [types_look_place_s1.F]
    rw [elt_lt hk2]
    simp only [Option.bind_some]
    rw [if_neg (by simp [hre]), elt_lt hk]
    simp only [Option.bind_some]
    rw [ha]
    simp only [Option.bind_some]
    rw [if_neg hq, hws]; rfl)]
   have hf := ways_facts W.known W.fine hk
   have key : ∀ (ws : List Int) (j : Nat) (rs : List types_Row), (FlowPure.ways l k).drop j = ws → rs.length = 200 → (∀ r ∈ rs, r.Kinds.length ≤ 2 * k + 2) → runF (types_look_place_s1.F E.G E.P E.M mig ar lo E.res re fu sta he l E.K rows k) (.l1 (afterC E l[k] rows[k].Kinds, rows) (FlowPure.ways l k, 0) rs (j : Int)) = some (put (afterC E l[k] rows[k].Kinds).1 rs ws) := by
    intro ws
    induction ws with
    | nil =>
     intro j rs hd hrs _
     have hj : (FlowPure.ways l k).length ≤ j := by simpa using hd
     refine runF_end ?_
     dsimp only [types_look_place_s1.F]
     rw [if_neg (by omega)]; rfl
    | cons w ws ih =>
     intro j rs hd hrs hsz
     have hj : j < (FlowPure.ways l k).length := by
      rcases Nat.lt_or_ge j (FlowPure.ways l k).length with z | z
      ·exact z
      ·rw [List.drop_eq_nil_of_le z] at hd; cases hd
     have hw' : (FlowPure.ways l k)[j] = w := by
      have := congrArg (fun z => z[0]?) hd
      simp [List.getElem?_eq_getElem hj] at this
      exact this
     obtain ⟨w0, w1, -⟩ := hf.2.2 j hj
     rw [hw'] at w0 w1
     have hle := hf.2.1
     unfold put
     have hel : elt rs w = some (At rs R0 w) := elt_At R0 w0 (by rw [hrs]; omega)
     have hs8 : slices_Equal_uint8_uint8.f (At rs R0 w).Kinds (afterC E l[k] rows[k].Kinds).1 = some (decide ((At rs R0 w).Kinds = (afterC E l[k] rows[k].Kinds).1)) := same8 (by
      have : (At rs R0 w).Kinds.length ≤ 2 * k + 2 := At_mem (p := fun r : types_Row => r.Kinds.length ≤ 2 * k + 2) (by simp [R0, types_Row.zero]) hsz
      omega)
     have step : ∀ b : Bool, b = decide ((At rs R0 w).Reached = true ∧ (At rs R0 w).Kinds ≠ (afterC E l[k] rows[k].Kinds).1) → types_look_place_s1.F E.G E.P E.M mig ar lo E.res re fu sta he l E.K rows k (.l1 (afterC E l[k] rows[k].Kinds, rows) (FlowPure.ways l k, 0) rs (j : Int)) = if b = true then some (.inr (100, rs)) else some (.inl (.l1 (afterC E l[k] rows[k].Kinds, rows) (FlowPure.ways l k, 0) (rs.set w.toNat ⟨true, (afterC E l[k] rows[k].Kinds).1⟩) ((j + 1 : Nat) : Int))) := by
      rintro b rfl
      dsimp only [types_look_place_s1.F]
      rw [if_pos (by omega), elt_lt hj, hw']
      simp only [Option.bind_some]
      rw [hel]
      simp only [Option.bind_some, wrap_succ j (by omega)]
      rw [hs8]
      by_cases q1 : (At rs R0 w).Reached = true
      ·by_cases q2 : (At rs R0 w).Kinds = (afterC E l[k] rows[k].Kinds).1
       ·simp [q1, q2]
       ·simp [q1, q2]
      ·simp [q1]
     by_cases hc : (At rs R0 w).Reached = true ∧ (At rs R0 w).Kinds ≠ (afterC E l[k] rows[k].Kinds).1
     ·rw [if_pos hc, runF_end (r := (100, rs))]
      rw [step true (by rw [eq_comm, decide_eq_true_eq]; exact hc), if_pos rfl]
     ·rw [if_neg hc, runF_step (t := .l1 (afterC E l[k] rows[k].Kinds, rows) (FlowPure.ways l k, 0) (rs.set w.toNat ⟨true, (afterC E l[k] rows[k].Kinds).1⟩) ((j + 1 : Nat) : Int))]
      ·refine ih (j + 1) _ ?_ (by rw [List.length_set]; exact hrs) fun r hr => ?_
       ·rw [← List.drop_drop, hd]; rfl
       ·rcases List.mem_or_eq_of_mem_set hr with hr | rfl
        ·exact hsz r hr
        ·dsimp only; omega
      ·rw [step false (by rw [eq_comm, decide_eq_false_iff_not]; exact hc), if_neg (by simp)]
   exact key _ 0 rows rfl h.1 fun r hr => by have := h.2 r hr; omega
 ·rw [if_neg hre, runF_end]
  dsimp only [types_look_place_s1.F]
  rw [elt_lt hk2]
  simp only [Option.bind_some]
  rw [if_pos (by simpa using hre)]
def rows0 : List types_Row := (List.replicate 200 types_Row.zero).set 0 ⟨true, []⟩
def rowsAt (E : TE) (l : List api_Instr) : Nat → Int × List types_Row
 | 0 => (0, rows0)
 | k + 1 => if (rowsAt E l k).1 ≠ 0 then rowsAt E l k else placeC E l (rowsAt E l k).2 k
def rowsC (E : TE) (l : List api_Instr) : List types_Row × Int := if (rowsAt E l l.length).1 ≠ 0 then ([], (rowsAt E l l.length).1) else ((rowsAt E l l.length).2.take l.length, 0)
theorem rowsAt_sz {E : TE} {l : List api_Instr} (W : Well E l) : ∀ k, k ≤ l.length → Sz k (rowsAt E l k).2
 | 0, _ => ⟨by show rows0.length = 200; unfold rows0; rw [List.length_set, List.length_replicate], fun r hr => by
  unfold rowsAt rows0 at hr
  rcases List.mem_or_eq_of_mem_set hr with hr | rfl
  ·rw [List.eq_of_mem_replicate hr]; exact Nat.zero_le _
  ·exact Nat.zero_le _⟩
 | k + 1, hk => by
  have ih := rowsAt_sz W k (by omega)
  unfold rowsAt
  split
  ·exact ⟨ih.1, fun r hr => by have := ih.2 r hr; omega⟩
  ·exact place_sz W hk ih
def envOf (m : api_Module) (x : api_Method) : TE := ⟨m.Globals, m.Pool, m.Methods, x.Result, x.Args ++ x.Locals⟩
end TypesPure
namespace TypesPure
open FlowPure
def l2s (rows : List types_Row) : types_Rows.S := .l2 rows rows 0
theorem clones {m : api_Module} {k : Int} {rows : List types_Row} (h : rows.length ≤ 200) (hs : ∀ r ∈ rows, r.Kinds.length ≤ 1000) : runF (types_Rows.F m k) (l2s rows) = some (rows, 0) := by
 refine (runF_up (F := types_Rows.F m k) (n := rows.length) (fun j => .l2 rows rows (j : Int)) (fun j hj => ?_)).trans (runF_end ?_)
 ·dsimp only [types_Rows.F]
  have := hs _ (List.getElem_mem hj)
  rw [if_pos (by omega), elt_lt hj]
  simp only [Option.bind_some]
  rw [clone8 (by omega)]
  simp only [Option.bind_some, wrap_succ j (by omega)]
  have e : rows.set (j : Int).toNat ({ rows[j] with Kinds := rows[j].Kinds } : types_Row) = rows := by
   rw [show (j : Int).toNat = j from by omega]
   exact List.set_getElem_self hj
  rw [e]
 ·dsimp only [types_Rows.F]
  rw [if_neg (by omega)]
end TypesPure
namespace TypesPure
open FlowPure
theorem rows_well {m : api_Module} {k : Int} {x : api_Method} (h0 : 0 ≤ k) (h1 : k < m.Methods.length) (hx : elt m.Methods k = some x) (W : Well (envOf m x) x.Code) (hlen : x.Args.length + x.Locals.length ≤ 140737488355328) :
    types_Rows.f m k = some (rowsC (envOf m x) x.Code) := by
 have hn : x.Code.length ≤ 200 := W.known.2.1
 have hp : 1 ≤ x.Code.length := W.known.1
 unfold types_Rows.f
 have hck : flow_Check.f x.Code = some 0 := by
  unfold flow_Check.f
  rw [(prog_loops (by omega) W.wf).2.1 W.known W.fine]; rfl
 have hth : slices_ContainsFunc_api_Instr_api_Instr_s2.f x.Code m.Globals m.Pool m.Methods m.Migrate x.Args x.Locals x.Result x.Reads x.Fuel x.Stack x.Heap x.Code (x.Args ++ x.Locals) = some false := by
  refine (contains_there (E := envOf m x) (l := x.Code) (by omega)).trans ?_
  congr 1
  rw [List.any_eq_false]
  intro y hy
  rw [W.th y hy]; simp
 rw [runF_step (t := .l1 x (x.Args ++ x.Locals) rows0 ((0 : Nat) : Int)) (by
  dsimp only [types_Rows.F]
  rw [if_neg (by simp; omega), hx]
  simp only [Option.bind_some]
  rw [hck]
  simp only [Option.bind_some]
  rw [if_neg (by simp), concat2 hlen]
  simp only [Option.bind_some]
  rw [hth]
  simp only [Option.bind_some]
  rfl)]
 have key : ∀ j, j ≤ x.Code.length → runF (types_Rows.F m k) (.l1 x (x.Args ++ x.Locals) rows0 ((0 : Nat) : Int)) = if (rowsAt (envOf m x) x.Code j).1 ≠ 0 then some ([], (rowsAt (envOf m x) x.Code j).1) else runF (types_Rows.F m k) (.l1 x (x.Args ++ x.Locals) (rowsAt (envOf m x) x.Code j).2 (j : Int)) := by
  intro j
  induction j with
  | zero => intro _; rfl
  | succ j ih =>
   intro hj
   rw [ih (by omega)]
   have hz := rowsAt_sz W j (by omega)
   by_cases he : (rowsAt (envOf m x) x.Code j).1 ≠ 0
   ·have e1 : rowsAt (envOf m x) x.Code (j + 1) = rowsAt (envOf m x) x.Code j := by rw [rowsAt, if_pos he]
    rw [e1, if_pos he, if_pos he]
   ·have e1 : rowsAt (envOf m x) x.Code (j + 1) = placeC (envOf m x) x.Code (rowsAt (envOf m x) x.Code j).2 j := by rw [rowsAt, if_neg he]
    rw [e1, if_neg he]
    have hpl := place_eq (mig := m.Migrate) (ar := x.Args) (lo := x.Locals) (re := x.Reads) (fu := x.Fuel) (sta := x.Stack) (he := x.Heap) W (k := j) (by omega) hz
    have hpl : types_look_place_s1.f m.Globals m.Pool m.Methods m.Migrate x.Args x.Locals x.Result x.Reads x.Fuel x.Stack x.Heap x.Code (x.Args ++ x.Locals) (rowsAt (envOf m x) x.Code j).2 (j : Int) = _ := hpl
    generalize placeC (envOf m x) x.Code (rowsAt (envOf m x) x.Code j).2 j = pr at hpl ⊢
    by_cases hq : pr.1 ≠ 0
    ·rw [if_pos hq, runF_end]
     dsimp only [types_Rows.F]
     rw [if_pos (by omega), hpl]
     simp only [Option.bind_some]
     rw [if_pos hq]
    ·rw [if_neg hq]
     refine runF_step ?_
     dsimp only [types_Rows.F]
     rw [if_pos (by omega), hpl]
     simp only [Option.bind_some]
     rw [if_neg hq, wrap_succ j (by omega)]
 rw [key _ (Nat.le_refl _)]
 unfold rowsC
 by_cases he : (rowsAt (envOf m x) x.Code x.Code.length).1 ≠ 0
 ·rw [if_pos he, if_pos he]
 ·rw [if_neg he, if_neg he]
  have hz := rowsAt_sz W _ (Nat.le_refl _)
  have hl : ((rowsAt (envOf m x) x.Code x.Code.length).2.take x.Code.length).length ≤ 200 := by rw [List.length_take]; omega
  rw [runF_step (t := l2s ((rowsAt (envOf m x) x.Code x.Code.length).2.take x.Code.length)) (by
   dsimp only [types_Rows.F]
   rw [if_neg (by omega), if_pos (by omega), show ((x.Code.length : Int)).toNat = x.Code.length from by omega, cloneRows hl]; rfl)]
  exact clones hl fun r hr => by have := hz.2 r (List.mem_of_mem_take hr); omega
theorem rows_out {m : api_Module} {k : Int} (h : ¬ (0 ≤ k ∧ k < m.Methods.length)) : types_Rows.f m k = some ([], 2) := by
 unfold types_Rows.f
 rw [runF_end]
 dsimp only [types_Rows.F]
 rw [if_pos (by simp; omega)]
theorem rows_else {m : api_Module} {k : Int} {x : api_Method} (h0 : 0 ≤ k) (h1 : k < m.Methods.length) (hx : elt m.Methods k = some x) (hl : x.Code.length < 4611686018427387904) (hw : ∀ i ∈ x.Code, wf_api_Instr i) (hlen : x.Args.length + x.Locals.length ≤ 140737488355328) :
    (¬ Known x.Code → types_Rows.f m k = some ([], 40)) ∧ (Known x.Code → ¬ Fine x.Code → types_Rows.f m k = some ([], 90)) ∧ (Known x.Code → Fine x.Code → (∃ i ∈ x.Code, there (envOf m x) i = false) → types_Rows.f m k = some ([], 100)) := by
 obtain ⟨a1, a2, a3⟩ := prog_loops hl hw
 unfold types_Rows.f
 refine ⟨fun h => ?_, fun h hf => ?_, fun h hf ht => ?_⟩
 ·rw [runF_end]
  dsimp only [types_Rows.F]
  rw [if_neg (by simp; omega), hx]
  simp only [Option.bind_some]
  unfold flow_Check.f
  rw [a1 h]; rfl
 ·rw [runF_end]
  dsimp only [types_Rows.F]
  rw [if_neg (by simp; omega), hx]
  simp only [Option.bind_some]
  unfold flow_Check.f
  rw [a3 h hf]; rfl
 ·have hth : slices_ContainsFunc_api_Instr_api_Instr_s2.f x.Code m.Globals m.Pool m.Methods m.Migrate x.Args x.Locals x.Result x.Reads x.Fuel x.Stack x.Heap x.Code (x.Args ++ x.Locals) = some true := by
   refine (contains_there (E := envOf m x) (l := x.Code) (by omega)).trans ?_
   congr 1
   rw [List.any_eq_true]
   obtain ⟨i, hi, ht⟩ := ht
   exact ⟨i, hi, by rw [ht]; rfl⟩
  rw [runF_end]
  dsimp only [types_Rows.F]
  rw [if_neg (by simp; omega), hx]
  simp only [Option.bind_some]
  unfold flow_Check.f
  rw [a2 h hf]
  simp only [Option.bind_some]
  rw [if_neg (by simp), concat2 hlen]
  simp only [Option.bind_some]
  rw [hth]
  simp only [Option.bind_some]
  rfl
end TypesPure
namespace TypesPure
open FlowPure
def g (rows : List types_Row) (p : Nat) : types_Row := rows[p]?.getD R0
theorem At_g (rows : List types_Row) (w : Int) : At rows R0 w = g rows w.toNat := rfl
theorem g_set {rows : List types_Row} {k p : Nat} {v : types_Row} (h : k < rows.length) : g (rows.set k v) p = if p = k then v else g rows p := by
 unfold g
 by_cases e : p = k
 ·subst e; rw [if_pos rfl, List.getElem?_set_self h]; rfl
 ·rw [if_neg e, List.getElem?_set_ne (by omega)]
structure Put (next : List Int) (rows : List types_Row) (ws : List Int) (rows' : List types_Row) : Prop where
 len : rows'.length = rows.length
 keep : ∀ p, (g rows p).Reached = true → g rows' p = g rows p
 ways : ∀ w ∈ ws, g rows' w.toNat = ⟨true, next⟩
 new : ∀ p, (g rows' p).Reached = true → (g rows p).Reached = true ∨ ∃ w ∈ ws, w.toNat = p
 old : ∀ p, ¬ (g rows' p).Reached = true → g rows' p = g rows p
theorem put_ok {next : List Int} : ∀ (ws : List Int) (rows : List types_Row), (∀ w ∈ ws, w.toNat < rows.length) → (put next rows ws).1 = 0 → Put next rows ws (put next rows ws).2
 | [], rows, _, _ => ⟨rfl, fun _ _ => rfl, fun w hw => by simp at hw, fun p h => .inl h, fun _ _ => rfl⟩
 | w :: ws, rows, hl, h => by
  unfold put at h ⊢
  by_cases hc : (At rows R0 w).Reached = true ∧ (At rows R0 w).Kinds ≠ next
  ·rw [if_pos hc] at h; cases h
  ·rw [if_neg hc] at h ⊢
   have hw : w.toNat < rows.length := hl w (by simp)
   have ih := put_ok ws _ (fun u hu => by rw [List.length_set]; exact hl u (by simp [hu])) h
   have same : (g rows w.toNat).Reached = true → g rows w.toNat = ⟨true, next⟩ := by
    intro hr
    rw [At_g] at hc
    generalize g rows w.toNat = r at hc hr
    obtain ⟨a, b⟩ := r
    dsimp only at hr hc
    subst hr
    have : b = next := by
     refine Classical.byContradiction fun hb => hc ⟨rfl, hb⟩
    rw [this]
   have hs := fun p => g_set (rows := rows) (p := p) (v := (⟨true, next⟩ : types_Row)) hw
   refine ⟨by rw [ih.len, List.length_set], fun p hp => ?_, fun u hu => ?_, fun p hp => ?_, fun p hp => ?_⟩
   ·have e : g (rows.set w.toNat ⟨true, next⟩) p = g rows p := by
     rw [hs]
     by_cases e : p = w.toNat
     ·subst e; rw [if_pos rfl, same hp]
     ·rw [if_neg e]
    rw [ih.keep p (by rw [e]; exact hp), e]
   ·rcases List.mem_cons.1 hu with rfl | hu
    ·have e : g (rows.set u.toNat ⟨true, next⟩) u.toNat = ⟨true, next⟩ := by rw [hs, if_pos rfl]
     rw [ih.keep _ (by rw [e]), e]
    ·exact ih.ways u hu
   ·rcases ih.new p hp with h1 | ⟨u, hu, e⟩
    ·rw [hs] at h1
     by_cases e : p = w.toNat
     ·exact .inr ⟨w, by simp, e.symm⟩
     ·rw [if_neg e] at h1; exact .inl h1
    ·exact .inr ⟨u, by simp [hu], e⟩
   ·have h1 := ih.old p hp
    rw [hs] at h1
    by_cases e : p = w.toNat
    ·rw [if_pos e] at h1; rw [h1] at hp; exact absurd rfl hp
    ·rw [if_neg e] at h1; exact h1
structure Inv (E : TE) (l : List api_Instr) (t : Nat) (rows : List types_Row) : Prop where
 len : rows.length = 200
 r0 : g rows 0 = ⟨true, []⟩
 un : ∀ p, ¬ (g rows p).Reached = true → (g rows p).Kinds = []
 top : ∀ p, (g rows p).Reached = true → p < l.length
 led : ∀ p, (g rows p).Reached = true → p = 0 ∨ ∃ q, q < p ∧ q < t ∧ (g rows q).Reached = true ∧ (p : Int) ∈ FlowPure.ways l q
 done : ∀ q (hq : q < l.length), q < t → (g rows q).Reached = true → (afterC E l[q] (g rows q).Kinds).2 = 0 ∧ ∀ w ∈ FlowPure.ways l q, g rows w.toNat = ⟨true, (afterC E l[q] (g rows q).Kinds).1⟩
theorem back_pair {l : List api_Instr} (hk : Known l) (hf : Fine l) {a : Nat} (ha : a < l.length) (h29 : l[a].Op = 29) : 0 ≤ l[a].A ∧ l[a].A < a ∧ Pr (KK l) l.length l[a].A.toNat a ∧ KK l l[a].A.toNat = .loop := by
 obtain ⟨o1, o2⟩ := run_pairs hf.1
 have hm := hk.2.2 _ (List.getElem_mem ha)
 have hp := may_place hm (.inr (.inr h29))
 have hkk : KK l a = .again l[a].A.toNat := by rw [KK_at ha, if_neg (by omega), if_pos h29]
 obtain ⟨T, hT⟩ := again_mem hf.1.1 ha hkk
 have := ((opn_mem (KK l) a fun j hj => hf.1.1 j (by omega)).1 l[a].A.toNat).1 (by rw [hT]; simp)
 obtain ⟨b1, b2⟩ := o2 a _ ha hkk
 exact ⟨hp.1, by omega, ⟨b1, ha, b2, hkk⟩, b2⟩
theorem ways_loop {l : List api_Instr} {a : Nat} (ha : a < l.length) (h : l[a].Op = 28) : FlowPure.ways l a = [((a + 1 : Nat) : Int)] := by
 unfold FlowPure.ways
 rw [List.getElem?_eq_getElem ha]
 dsimp only
 rw [if_neg (by omega), if_neg (by omega), if_neg (by omega), if_neg (by omega)]
theorem inv_zero {E : TE} {l : List api_Instr} (hl : 1 ≤ l.length) : Inv E l 0 rows0 := by
 have h0 : (0 : Nat) < (List.replicate 200 types_Row.zero).length := by rw [List.length_replicate]; omega
 have hs := fun p => g_set (p := p) (v := (⟨true, []⟩ : types_Row)) h0
 have hz : ∀ p, g (List.replicate 200 types_Row.zero) p = R0 := by
  intro p
  unfold g
  rcases Nat.lt_or_ge p 200 with z | z
  ·rw [List.getElem?_eq_getElem (by rw [List.length_replicate]; exact z), List.getElem_replicate]; rfl
  ·rw [List.getElem?_eq_none (by rw [List.length_replicate]; exact z)]; rfl
 have hg : ∀ p, g rows0 p = if p = 0 then ⟨true, []⟩ else R0 := fun p => by unfold rows0; rw [hs, hz]
 have hr : ∀ p, (g rows0 p).Reached = true → p = 0 := by
  intro p hp
  rw [hg] at hp
  by_cases e : p = 0
  ·exact e
  ·rw [if_neg e] at hp; cases hp
 refine ⟨by unfold rows0; rw [List.length_set, List.length_replicate], by rw [hg, if_pos rfl], fun p hp => ?_, fun p hp => by have := hr p hp; omega, fun p hp => .inl (hr p hp), fun q _ hq => by omega⟩
 rw [hg]; split <;> rfl
theorem inv_step {E : TE} {l : List api_Instr} (W : Well E l) {t : Nat} (ht : t < l.length) {rows : List types_Row} (I : Inv E l t rows) (h : (placeC E l rows t).1 = 0) : Inv E l (t + 1) (placeC E l rows t).2 := by
 have hn : l.length ≤ 200 := W.known.2.1
 unfold placeC at h ⊢
 rw [At_g, show ((t : Int)).toNat = t from by omega, At_nat ht] at h ⊢
 by_cases hre : (g rows t).Reached = true
 ·rw [if_pos hre] at h ⊢
  by_cases he : (afterC E l[t] (g rows t).Kinds).2 ≠ 0
  ·rw [if_pos he] at h; exact absurd h he
  ·rw [if_neg he] at h ⊢
   have he : (afterC E l[t] (g rows t).Kinds).2 = 0 := Classical.not_not.1 he
   have hf := ways_facts W.known W.fine ht
   have hin : ∀ w ∈ FlowPure.ways l t, 0 ≤ w ∧ w < l.length := by
    intro w hw
    obtain ⟨i, hi, rfl⟩ := List.mem_iff_getElem.1 hw
    have := hf.2.2 i hi
    exact ⟨this.1, this.2.1⟩
   have P := put_ok (next := (afterC E l[t] (g rows t).Kinds).1) (FlowPure.ways l t) rows (fun w hw => by have := hin w hw; rw [I.len]; omega) h
   generalize (put (afterC E l[t] (g rows t).Kinds).1 rows (FlowPure.ways l t)).2 = rows' at P ⊢
   -- what a way back leads to was reached
   have back : ∀ w ∈ FlowPure.ways l t, w.toNat ≤ t → (g rows w.toNat).Reached = true := by
    intro w hw hle
    obtain ⟨i, hi, rfl⟩ := List.mem_iff_getElem.1 hw
    obtain ⟨w0, w1, w2, -, -⟩ := hf.2.2 i hi
    obtain ⟨h29, e⟩ := w2 (by omega)
    obtain ⟨a0, a1, pr, kl⟩ := back_pair W.known W.fine ht h29
    have desc : ∀ r, r ≤ t → l[t].A.toNat < r → (g rows r).Reached = true → (g rows l[t].A.toNat).Reached = true := by
     intro r
     induction r using Nat.strongRecOn with
     | _ r ih =>
      intro hr hA hg
      rcases I.led r hg with e0 | ⟨q, q1, q2, q3, q4⟩
      ·omega
      ·have hq : q < l.length := by omega
       obtain ⟨j, hj, ej⟩ := List.mem_iff_getElem.1 q4
       obtain ⟨-, -, -, -, hy⟩ := (ways_facts W.known W.fine hq).2.2 j hj
       have := hy (l[t].A.toNat, t) pr (by rw [ej]; dsimp only; omega) (by rw [ej]; dsimp only; omega)
       dsimp only at this
       by_cases eq : q = l[t].A.toNat
       ·rw [← eq]; exact q3
       ·exact ih q q1 (by omega) (by omega) q3
    have hA := desc t (Nat.le_refl _) (by omega) hre
    have hAl : l[t].A.toNat < l.length := by omega
    have hop : l[l[t].A.toNat].Op = 28 := (loop_iff hAl).1 kl
    have := (I.done _ hAl (by omega) hA).2 ((l[t].A.toNat + 1 : Nat) : Int) (by rw [ways_loop hAl hop]; simp)
    have e2 : (FlowPure.ways l t)[i].toNat = (((l[t].A.toNat + 1 : Nat) : Int)).toNat := by rw [e]; omega
    rw [e2, this]
   have was : ∀ p, p ≤ t → (g rows' p).Reached = true → (g rows p).Reached = true := by
    intro p hp hr
    rcases P.new p hr with h1 | ⟨w, hw, rfl⟩
    ·exact h1
    ·exact back w hw hp
   refine ⟨by rw [P.len, I.len], by rw [P.keep 0 (by rw [I.r0]), I.r0], fun p hp => ?_, fun p hp => ?_, fun p hp => ?_, fun q hq hqt hr => ?_⟩
   ·have e := P.old p hp
    rw [e] at hp ⊢; exact I.un p hp
   ·rcases P.new p hp with h1 | ⟨w, hw, rfl⟩
    ·exact I.top p h1
    ·have := hin w hw; omega
   ·have carry : (g rows p).Reached = true → p = 0 ∨ ∃ q, q < p ∧ q < t + 1 ∧ (g rows' q).Reached = true ∧ (p : Int) ∈ FlowPure.ways l q := by
     intro h1
     rcases I.led p h1 with e | ⟨q, q1, q2, q3, q4⟩
     ·exact .inl e
     ·exact .inr ⟨q, q1, by omega, by rw [P.keep q q3]; exact q3, q4⟩
    rcases P.new p hp with h1 | ⟨w, hw, e⟩
    ·exact carry h1
    ·rcases Nat.lt_or_ge t p with z | z
     ·have := hin w hw
      have ep : (p : Int) = w := by omega
      exact .inr ⟨t, z, by omega, by rw [P.keep t hre]; exact hre, by rw [ep]; exact hw⟩
     ·exact carry (was p z hp)
   ·have h1 := was q (by omega) hr
    rw [P.keep q h1]
    by_cases e : q = t
    ·subst e; exact ⟨he, P.ways⟩
    ·obtain ⟨d1, d2⟩ := I.done q hq (by omega) h1
     refine ⟨d1, fun w hw => ?_⟩
     rw [P.keep _ (by rw [d2 w hw]), d2 w hw]
 ·rw [if_neg hre]
  refine ⟨I.len, I.r0, I.un, I.top, fun p hp => ?_, fun q hq hqt hr => ?_⟩
  ·rcases I.led p hp with e | ⟨q, q1, q2, q3, q4⟩
   ·exact .inl e
   ·exact .inr ⟨q, q1, by omega, q3, q4⟩
  ·by_cases e : q = t
   ·subst e; exact absurd hr hre
   ·exact I.done q hq (by omega) hr
theorem rowsAt_inv {E : TE} {l : List api_Instr} (W : Well E l) : ∀ k, k ≤ l.length → (rowsAt E l k).1 = 0 → Inv E l k (rowsAt E l k).2
 | 0, _, _ => inv_zero W.known.1
 | k + 1, hk, h => by
  unfold rowsAt at h ⊢
  by_cases he : (rowsAt E l k).1 ≠ 0
  ·rw [if_pos he] at h; exact absurd h he
  ·rw [if_neg he] at h ⊢
   exact inv_step W hk (rowsAt_inv W k (by omega) (Classical.not_not.1 he)) h
structure Told (E : TE) (l : List api_Instr) (rows : List types_Row) : Prop where
 len : rows.length = l.length
 r0 : g rows 0 = ⟨true, []⟩
 un : ∀ p, ¬ (g rows p).Reached = true → (g rows p).Kinds = []
 led : ∀ p, (g rows p).Reached = true → p = 0 ∨ ∃ q, q < p ∧ (g rows q).Reached = true ∧ (p : Int) ∈ FlowPure.ways l q
 done : ∀ q (hq : q < l.length), (g rows q).Reached = true → (afterC E l[q] (g rows q).Kinds).2 = 0 ∧ ∀ w ∈ FlowPure.ways l q, g rows w.toNat = ⟨true, (afterC E l[q] (g rows q).Kinds).1⟩
 sz : ∀ r ∈ rows, r.Kinds.length ≤ 400
theorem g_take {rows : List types_Row} {n : Nat} (hu : ∀ p, n ≤ p → g rows p = R0) (p : Nat) : g (rows.take n) p = g rows p := by
 rcases Nat.lt_or_ge p n with z | z
 ·unfold g; rw [List.getElem?_take_of_lt z]
 ·rw [hu p z]; unfold g; rw [List.getElem?_eq_none (by rw [List.length_take]; omega)]; rfl
theorem rows_told {E : TE} {l : List api_Instr} (W : Well E l) (h : (rowsC E l).2 = 0) : Told E l (rowsC E l).1 := by
 have hn : l.length ≤ 200 := W.known.2.1
 unfold rowsC at h ⊢
 by_cases he : (rowsAt E l l.length).1 ≠ 0
 ·rw [if_pos he] at h; exact absurd h he
 ·rw [if_neg he]
  have I := rowsAt_inv W _ (Nat.le_refl _) (Classical.not_not.1 he)
  have S := rowsAt_sz W _ (Nat.le_refl _)
  generalize (rowsAt E l l.length).2 = rows at I S ⊢
  have hu : ∀ p, l.length ≤ p → g rows p = R0 := by
   intro p hp
   have hr : ¬ (g rows p).Reached = true := fun h => by have := I.top p h; omega
   have hk := I.un p hr
   generalize g rows p = r at hr hk ⊢
   obtain ⟨a, b⟩ := r
   dsimp only at hr hk
   subst hk
   rw [Bool.not_eq_true] at hr
   subst hr; rfl
  have e := g_take hu
  refine ⟨by rw [List.length_take, I.len]; omega, by rw [e, I.r0], fun p hp => by rw [e] at hp ⊢; exact I.un p hp, fun p hp => ?_, fun q hq hr => ?_, fun r hr => by have := S.2 r (List.mem_of_mem_take hr); omega⟩
  ·rw [e] at hp
   rcases I.led p hp with e0 | ⟨q, q1, -, q3, q4⟩
   ·exact .inl e0
   ·exact .inr ⟨q, q1, by rw [e]; exact q3, q4⟩
  ·rw [e] at hr ⊢
   obtain ⟨d1, d2⟩ := I.done q hq hq hr
   exact ⟨d1, fun w hw => by rw [e]; exact d2 w hw⟩
theorem rows_err {E : TE} {l : List api_Instr} (h : (rowsC E l).2 ≠ 0) : (rowsC E l).1 = [] := by
 unfold rowsC at h ⊢
 by_cases he : (rowsAt E l l.length).1 ≠ 0
 ·rw [if_pos he]
 ·rw [if_neg he] at h; exact absurd rfl h
end TypesPure
deriving instance DecidableEq for types_Row
namespace TypesPure
open FlowPure
def greatM (x : api_Method) : Bool := decide ((x.Args.length : Int) > 100) || decide ((x.Locals.length : Int) > 100) || decide ((x.Code.length : Int) > 300)
def greatB (m : api_Module) : Bool := ((decide ((m.Globals.length : Int) > 100) || decide ((m.Pool.length : Int) > 100)) || decide ((m.Methods.length : Int) > 40)) || m.Methods.any greatM
theorem great_eq (m : api_Module) : capstanlaw08_Great.f m = some (greatB m) := by
 unfold capstanlaw08_Great.f greatB
 by_cases h : ((decide ((m.Globals.length : Int) > 100) || decide ((m.Pool.length : Int) > 100)) || decide ((m.Methods.length : Int) > 40)) = true
 ·rw [h, runF_end (r := true)]; rfl
  dsimp only [capstanlaw08_Great.F]; rw [if_pos h]
 ·rw [runF_step (t := .l1 ((0 : Nat) : Int)) (by dsimp only [capstanlaw08_Great.F]; rw [if_neg h]; rfl)]
  have hlen : m.Methods.length ≤ 40 := by
   simp only [Bool.not_eq_true, Bool.or_eq_false_iff, decide_eq_false_iff_not] at h; omega
  have h' := h
  rw [Bool.not_eq_true] at h
  rw [h, Bool.false_or]
  obtain ⟨r, hr, hc⟩ := runF_scan (F := capstanlaw08_Great.F m) (n := m.Methods.length) (b := false) (a := fun _ => true) (fun k => .l1 (k : Int)) (fun k => if h : k < m.Methods.length then greatM m.Methods[k] else false) (fun k hk => by
   dsimp only [capstanlaw08_Great.F]
   rw [if_pos (by omega), elt_lt hk]
   simp only [Option.bind_some]
   unfold capstanlaw07_Great.f
   simp only [Option.bind_some, dif_pos hk, wrap_succ k (by omega)]
   unfold greatM
   cases decide ((m.Methods[k].Args.length : Int) > 100) <;> cases decide ((m.Methods[k].Locals.length : Int) > 100) <;> simp <;> split <;> rfl) (by dsimp only [capstanlaw08_Great.F]; rw [if_neg (by omega)])
  rw [hr]
  congr 1
  rcases hc with ⟨k, hk, hp, rfl⟩ | ⟨hn, rfl⟩
  ·rw [dif_pos hk] at hp
   rw [eq_comm, List.any_eq_true]
   exact ⟨_, List.getElem_mem hk, hp⟩
  ·rw [eq_comm, List.any_eq_false]
   intro x hx
   obtain ⟨k, hk, rfl⟩ := List.mem_iff_getElem.1 hx
   have := hn k hk
   rw [dif_pos hk] at this
   rw [this]; simp
structure Small (m : api_Module) : Prop where
 G : m.Globals.length ≤ 100
 P : m.Pool.length ≤ 100
 M : m.Methods.length ≤ 40
 x : ∀ x ∈ m.Methods, x.Args.length ≤ 100 ∧ x.Locals.length ≤ 100 ∧ x.Code.length ≤ 300
theorem small_of {m : api_Module} (h : greatB m = false) : Small m := by
 unfold greatB at h
 simp only [Bool.or_eq_false_iff, decide_eq_false_iff_not, List.any_eq_false] at h
 obtain ⟨⟨⟨h1, h2⟩, h3⟩, h4⟩ := h
 refine ⟨by omega, by omega, by omega, fun x hx => ?_⟩
 have := h4 x hx
 unfold greatM at this
 simp only [Bool.not_eq_true, Bool.or_eq_false_iff, decide_eq_false_iff_not] at this
 omega
def H (rows : List types_Row) : Nat → Int
 | 0 => 0
 | k + 1 => if ((g rows k).Kinds.length : Int) > H rows k then ((g rows k).Kinds.length : Int) else H rows k
theorem H_nonneg (rows : List types_Row) : ∀ k, 0 ≤ H rows k
 | 0 => by simp [H]
 | k + 1 => by have := H_nonneg rows k; unfold H; split <;> omega
theorem H_ge (rows : List types_Row) : ∀ k p, p < k → ((g rows p).Kinds.length : Int) ≤ H rows k
 | 0, p, h => by omega
 | k + 1, p, h => by
  unfold H
  by_cases e : p = k
  ·subst e; split <;> omega
  ·have := H_ge rows k p (by omega); split <;> omega
theorem g_lt {rows : List types_Row} {k : Nat} (h : k < rows.length) : g rows k = rows[k] := by unfold g; rw [List.getElem?_eq_getElem h]; rfl
theorem height_eq {rows : List types_Row} (h : rows.length < 4611686018427387904) : types_Height.f rows = some (H rows rows.length) := by
 unfold types_Height.f
 rw [runF_step (t := .l1 (H rows 0) ((0 : Nat) : Int)) rfl]
 refine (runF_up (F := types_Height.F rows) (n := rows.length) (fun k => .l1 (H rows k) (k : Int)) (fun k hk => ?_)).trans (runF_end ?_)
 ·dsimp only [types_Height.F]
  rw [if_pos (by omega), elt_lt hk]
  simp only [Option.bind_some, wrap_succ k (by omega)]
  rw [show H rows (k + 1) = if ((g rows k).Kinds.length : Int) > H rows k then ((g rows k).Kinds.length : Int) else H rows k from rfl, g_lt hk]
 ·dsimp only [types_Height.F]
  rw [if_neg (by omega)]
end TypesPure
namespace TypesPure
open FlowPure
theorem rows_cases {m : api_Module} {k : Int} (hm : wf_api_Module m) (S : Small m) : (∃ e, e ≠ 0 ∧ types_Rows.f m k = some ([], e)) ∨
    (∃ x rows, 0 ≤ k ∧ k < m.Methods.length ∧ elt m.Methods k = some x ∧ x ∈ m.Methods ∧ Well (envOf m x) x.Code ∧ rowsC (envOf m x) x.Code = (rows, 0) ∧ types_Rows.f m k = some (rows, 0) ∧ Told (envOf m x) x.Code rows) := by
 by_cases hr : 0 ≤ k ∧ k < m.Methods.length
 ·obtain ⟨h0, h1⟩ := hr
  have hkl : k.toNat < m.Methods.length := by omega
  have hx := elt_int h0 hkl
  generalize hxe : m.Methods[k.toNat] = x at hx
  have hxm : x ∈ m.Methods := by rw [← hxe]; exact List.getElem_mem hkl
  have hs := S.x x hxm
  have hwx : ∀ i ∈ x.Code, wf_api_Instr i := ((hm.2.2.1.2 x hxm).2.2.2.2.2.2.2).2
  obtain ⟨e1, e2, e3⟩ := rows_else (m := m) (k := k) (x := x) h0 h1 hx (by omega) hwx (by omega)
  by_cases hkn : Known x.Code
  ·by_cases hf : Fine x.Code
   ·by_cases hth : ∃ i ∈ x.Code, there (envOf m x) i = false
    ·exact .inl ⟨100, by omega, e3 hkn hf hth⟩
    ·have W : Well (envOf m x) x.Code := ⟨hkn, hf, hwx, fun i hi => by
      cases ht : there (envOf m x) i
      ·exact absurd ⟨i, hi, ht⟩ hth
      ·rfl, fun y hy => by have := S.x y hy; omega⟩
     have hrow := rows_well h0 h1 hx W (by omega)
     by_cases he : (rowsC (envOf m x) x.Code).2 = 0
     ·have hp : rowsC (envOf m x) x.Code = ((rowsC (envOf m x) x.Code).1, 0) := by rw [← he]
      exact .inr ⟨x, _, h0, h1, hx, hxm, W, hp, hrow.trans (congrArg some hp), rows_told W he⟩
     ·refine .inl ⟨_, he, ?_⟩
      rw [hrow, ← rows_err he]
   ·exact .inl ⟨90, by omega, e2 hkn hf⟩
  ·exact .inl ⟨40, by omega, e1 hkn⟩
 ·exact .inl ⟨2, by omega, rows_out hr⟩
end TypesPure
namespace FlowPure
def tm (l : List api_Instr) (R : List (Nat × Nat)) (a : Nat) : Int := R.foldl (fun n x => if x.1 < a ∧ a ≤ x.2 then IntKind.i64.wrap (n * turns l x.1) else n) 1
theorem tm_snoc (l : List api_Instr) (R : List (Nat × Nat)) (x : Nat × Nat) (a : Nat) : tm l (R ++ [x]) a = if x.1 < a ∧ a ≤ x.2 then IntKind.i64.wrap (tm l R a * turns l x.1) else tm l R a := by
 unfold tm; rw [List.foldl_append]; rfl
def tms (l : List api_Instr) : List Int := (List.range l.length).map fun a => tm l (RL (KK l) l.length) a
theorem map_range_set {g : Nat → Int} {n m : Nat} {v : Int} : ((List.range n).map g).set m v = (List.range n).map fun a => if a = m then v else g a := by
 apply List.ext_getElem?
 intro i
 rw [List.getElem?_set]
 by_cases h : m = i
 ·subst h
  rw [if_pos rfl]
  by_cases hm : m < n
  ·rw [if_pos (by simpa using hm)]; simp [hm]
  ·rw [if_neg (by simpa using hm)]; simp [hm]
 ·rw [if_neg h]
  by_cases hm : i < n
  ·simp [hm, Ne.symm h]
  ·simp [hm]
theorem repeat_one {n : Nat} (h1 : 1 ≤ n) (h2 : n ≤ 200) : slices_Repeat_int_int.f [1] n = some (List.replicate n 1) := by
 unfold slices_Repeat_int_int.f
 have wu : IntKind.u64.wrap (n : Int) = n := by
  simp only [IntKind.wrap, IntKind.bits, IntKind.signed]; simp; omega
 have w1 : IntKind.u64.wrap ((([1] : List Int).length : Nat) : Int) = 1 := by
  simp [IntKind.wrap, IntKind.bits, IntKind.signed]
 have hs : slices_Repeat_int_int.F [1] n .start = some (.inl (.l1 (List.replicate 1 1 ++ List.replicate (n - 1) 0) ((1 : Nat) : Int))) := by
  dsimp only [slices_Repeat_int_int.F]
  rw [if_neg (by omega)]
  unfold slices_Repeat_int_int.j1 math_bits_Mul.f
  rw [w1, wu, if_pos (by omega)]
  simp only [Option.bind_some]
  have e1 : (1 * (n : Int) / 18446744073709551616) = 0 := by omega
  have e2 : (1 * (n : Int) % 18446744073709551616) = n := by omega
  rw [e1, e2, if_neg (by rw [Bool.or_eq_true, decide_eq_true_eq, decide_eq_true_eq]; omega)]
  unfold slices_Repeat_int_int.j2
  dsimp only
  rw [wrap_id (by omega) (by omega), if_pos (by omega)]
  have e3 : ((n : Int)).toNat = n := rfl
  rw [e3]
  obtain ⟨m, rfl⟩ : ∃ m, n = m + 1 := ⟨n - 1, by omega⟩
  simp [List.replicate_succ]
 rw [runF_step hs]
 have key : ∀ d x, 1 ≤ x → x + d = n → runF (slices_Repeat_int_int.F [1] n) (.l1 (List.replicate x 1 ++ List.replicate (n - x) 0) (x : Int)) = some (List.replicate n 1) := by
  intro d
  induction d using Nat.strongRecOn with
  | ind d ih =>
   intro x hx hd
   by_cases hz : d = 0
   ·subst hz
    obtain rfl : x = n := by omega
    refine runF_end ?_
    dsimp only [slices_Repeat_int_int.F]
    rw [if_neg (by simp)]
    simp
   ·have hlen : (List.replicate x (1 : Int) ++ List.replicate (n - x) 0).length = n := by simp; omega
    rw [runF_step (t := .l1 (List.replicate (x + min x (n - x)) 1 ++ List.replicate (n - (x + min x (n - x))) 0) ((x + min x (n - x) : Nat) : Int)) ?_]
    ·exact ih (n - (x + min x (n - x))) (by omega) _ (by omega) (by omega)
    ·dsimp only [slices_Repeat_int_int.F]
     rw [hlen, if_pos (by omega), if_pos (by omega), if_pos (by omega)]
     have e3 : ((x : Int)).toNat = x := rfl
     rw [e3, wrap_id (by omega) (by omega)]
     have hc : min x (n - x) ≤ x := Nat.min_le_left _ _
     have hc2 : min x (n - x) ≤ n - x := Nat.min_le_right _ _
     generalize min x (n - x) = c at hc hc2 ⊢
     have t1 : (List.replicate x (1 : Int) ++ List.replicate (n - x) 0).take x = List.replicate x 1 := by
      rw [List.take_append_of_le_length (by simp)]; simp
     have t2 : (List.replicate x (1 : Int) ++ List.replicate (n - x) 0).take c = List.replicate c 1 := by
      rw [List.take_append_of_le_length (by simp; omega)]; simp; omega
     have t3 : (List.replicate x (1 : Int) ++ List.replicate (n - x) 0).drop (x + c) = List.replicate (n - (x + c)) 0 := by
      rw [List.drop_append]; simp; omega
     rw [t1, t2, t3, List.replicate_append_replicate]
     rfl
 exact key (n - 1) 1 (by omega) (by omega)
theorem prog_times {l : List api_Instr} (hlen : l.length < 4611686018427387904) (hw : ∀ x ∈ l, wf_api_Instr x) :
    (¬ Known l → flow_Times.f l = some ([], 40)) ∧ (Known l → Fine l → flow_Times.f l = some (tms l, 0)) ∧ (Known l → ¬ Fine l → flow_Times.f l = some ([], 90)) := by
 obtain ⟨a1, a2, a3⟩ := prog_loops hlen hw
 unfold flow_Times.f
 refine ⟨fun h => runF_end ?_, fun h hf => ?_, fun h hf => runF_end ?_⟩
 ·dsimp only [flow_Times.F]; rw [a1 h]; rfl
 ·obtain ⟨o1, o2⟩ := run_pairs hf.1
  have hR := RL_len o1
  obtain ⟨n1, n2, hm⟩ := h
  rw [runF_step (t := .l1 ((RL (KK l) l.length).map (gF l), 0) (List.replicate l.length 1) ((0 : Nat) : Int)) (by
   dsimp only [flow_Times.F]
   rw [a2 ⟨n1, n2, hm⟩ hf]
   simp only [Option.bind_some]
   rw [if_neg (by simp), repeat_one n1 n2]; rfl)]
  have key := runF_chk (F := flow_Times.F l) (n := (RL (KK l) l.length).length) (b := ([], 0)) (fun q => .l1 ((RL (KK l) l.length).map (gF l), 0) ((List.range l.length).map fun a => tm l ((RL (KK l) l.length).take q) a) (q : Int)) (fun _ => True) (fun q hq _ _ => by
   have hp := (mem_RL _).1 (List.getElem_mem hq)
   obtain ⟨t0, h0, hle, hu⟩ := o1 _ hp.1 hp.2.2.1
   have := hu _ hp
   have e : elt ((RL (KK l) l.length).map (gF l)) (q : Int) = some (gF l (RL (KK l) l.length)[q]) := by rw [elt_lt (by simpa using hq), List.getElem_map]
   generalize hx : (RL (KK l) l.length)[q] = x at hp h0 hle hu this e
   have htl : x.2 < l.length := hp.2.1
   rw [runF_step (t := .l2 ((RL (KK l) l.length).map (gF l), 0) q (gF l x) ((List.range l.length).map fun a => tm l ((RL (KK l) l.length).take q) a) ((x.1 + 1 : Nat) : Int)) (by
    dsimp only [flow_Times.F]
    rw [if_pos (by simp; omega), e]
    simp only [Option.bind_some]
    have : IntKind.i64.wrap ((gF l x).From + 1) = ((x.1 + 1 : Nat) : Int) := wrap_succ x.1 (by omega)
    rw [this])]
   have inner := runF_up (F := flow_Times.F l) (n := x.2 - x.1) (fun j => .l2 ((RL (KK l) l.length).map (gF l), 0) q (gF l x) ((List.range l.length).map fun a => if x.1 < a ∧ a < x.1 + 1 + j then IntKind.i64.wrap (tm l ((RL (KK l) l.length).take q) a * turns l x.1) else tm l ((RL (KK l) l.length).take q) a) ((x.1 + 1 + j : Nat) : Int)) (fun j hj => by
    have e2 : elt ((List.range l.length).map fun a => if x.1 < a ∧ a < x.1 + 1 + j then IntKind.i64.wrap (tm l ((RL (KK l) l.length).take q) a * turns l x.1) else tm l ((RL (KK l) l.length).take q) a) ((x.1 + 1 + j : Nat) : Int) = some (tm l ((RL (KK l) l.length).take q) (x.1 + 1 + j)) := by
     rw [elt_lt (by simp; omega)]
     simp
    dsimp only [flow_Times.F]
    rw [if_pos (by dsimp only [gF]; omega), e2]
    simp only [Option.bind_some]
    have e3 : ((x.1 + 1 + j : Nat) : Int).toNat = x.1 + 1 + j := rfl
    rw [wrap_succ _ (by omega), e3, map_range_set]
    refine congrArg some (congrArg Sum.inl ?_)
    have : ∀ (u v : List Int), u = v → (flow_Times.S.l2 ((RL (KK l) l.length).map (gF l), 0) (q : Int) (gF l x) u ((x.1 + 1 + j + 1 : Nat) : Int)) = .l2 ((RL (KK l) l.length).map (gF l), 0) (q : Int) (gF l x) v ((x.1 + 1 + (j + 1) : Nat) : Int) := by
     rintro u v rfl; rfl
    refine this _ _ (List.map_congr_left fun a ha => ?_)
    by_cases hz : a = x.1 + 1 + j
    ·subst hz
     rw [if_pos rfl, if_pos (by omega)]; rfl
    ·rw [if_neg hz]
     by_cases hz2 : x.1 < a ∧ a < x.1 + 1 + j
     ·rw [if_pos hz2, if_pos (by omega)]
     ·rw [if_neg hz2, if_neg (by omega)])
   have i0 : ((List.range l.length).map fun a => tm l ((RL (KK l) l.length).take q) a) = (List.range l.length).map fun a => if x.1 < a ∧ a < x.1 + 1 + 0 then IntKind.i64.wrap (tm l ((RL (KK l) l.length).take q) a * turns l x.1) else tm l ((RL (KK l) l.length).take q) a := by
    refine List.map_congr_left fun a _ => ?_
    rw [if_neg (by omega)]
   rw [i0]
   refine inner.trans (runF_step ?_)
   dsimp only [flow_Times.F]
   rw [if_neg (by dsimp only [gF]; omega), wrap_succ _ (by omega)]
   refine congrArg some (congrArg Sum.inl ?_)
   have : ∀ (u v : List Int), u = v → (flow_Times.S.l1 ((RL (KK l) l.length).map (gF l), 0) u ((q + 1 : Nat) : Int)) = .l1 ((RL (KK l) l.length).map (gF l), 0) v ((q + 1 : Nat) : Int) := by
    rintro u v rfl; rfl
   refine this _ _ (List.map_congr_left fun a ha => ?_)
   rw [take_succ _ _ hq, tm_snoc, hx]
   by_cases hz : x.1 < a ∧ a ≤ x.2
   ·rw [if_pos hz, if_pos (by omega)]
   ·rw [if_neg hz, if_neg (by omega)]) (fun q _ _ h => absurd trivial h)
  have e0 : List.replicate l.length (1 : Int) = (List.range l.length).map fun a => tm l ((RL (KK l) l.length).take 0) a := by
   apply List.ext_getElem?
   intro i
   by_cases hi : i < l.length
   ·simp [hi, tm]
   ·simp [hi]
  rw [e0]
  refine (key.1 fun _ _ => trivial).trans (runF_end ?_)
  dsimp only [flow_Times.F]
  rw [if_neg (by simp), List.take_length]; rfl
 ·dsimp only [flow_Times.F]; rw [a3 h hf]; rfl
end FlowPure
namespace CallsPure
def nm (c : List api_Instr) : List Int := (c.filter fun i => decide (i.Op = 30)).map fun i => i.A
def badN (n : Nat) (a : Int) : Bool := decide (a < 0) || decide (a ≥ (n : Int))
def whomL (n : Nat) (c : List api_Instr) : List Int := ((List.range n).map fun k : Nat => (k : Int)).filter fun a => decide (a ∈ nm c)
theorem nm_cons (i : api_Instr) (c : List api_Instr) : nm (i :: c) = if i.Op = 30 then i.A :: nm c else nm c := by
 unfold nm
 by_cases h : i.Op = 30
 ·rw [List.filter_cons_of_pos (by simpa using h), if_pos h]; rfl
 ·rw [List.filter_cons_of_neg (by simpa using h), if_neg h]
theorem nm_len (c : List api_Instr) : (nm c).length ≤ c.length := by unfold nm; rw [List.length_map]; exact List.length_filter_le _ _
theorem compact_rises {zs : List Int} (hs : zs.Pairwise (· ≤ ·)) : ∀ m, m ≤ zs.length → (Lib.compactUpTo zs.toArray m).Pairwise (· < ·) ∧ ∀ a, a ∈ Lib.compactUpTo zs.toArray m ↔ a ∈ zs.take m
 | 0, _ => ⟨by simp [Lib.compactUpTo], by simp [Lib.compactUpTo]⟩
 | m + 1, hm => by
  obtain ⟨i1, i2⟩ := compact_rises hs m (by omega)
  have hg : ∀ q, q < zs.length → zs.toArray[q]! = zs[q]! := fun q hq => by simp [hq]
  have hm0 : zs.toArray[m]! = zs[m] := by simp [show m < zs.length by omega]
  rw [Lib.compactUpTo_succ, hm0]
  have ht : zs.take (m + 1) = zs.take m ++ [zs[m]] := by rw [List.take_succ_eq_append_getElem (by omega)]
  by_cases hk : Lib.keeps zs.toArray m = true
  ·rw [if_pos hk]
   refine ⟨List.pairwise_append.2 ⟨i1, by simp, fun a ha b hb => ?_⟩, fun a => by rw [ht, List.mem_append, List.mem_append, i2]⟩
   rw [List.mem_singleton] at hb; subst hb
   have ha' := (i2 a).1 ha
   obtain ⟨q, hq, rfl⟩ := List.mem_iff_getElem.1 ha'
   rw [List.length_take] at hq
   rw [List.getElem_take]
   have hq' : q < m := by omega
   have h1 : zs[q] ≤ zs[m - 1] := by
    by_cases e : q = m - 1
    ·subst e; exact Int.le_refl _
    ·exact List.pairwise_iff_getElem.1 hs q (m - 1) (by omega) (by omega) (by omega)
   have h2 : zs[m - 1] ≤ zs[m] := List.pairwise_iff_getElem.1 hs (m - 1) m (by omega) (by omega) (by omega)
   have h3 : zs[m] ≠ zs[m - 1] := by
    simp only [Lib.keeps, decide_eq_true_eq] at hk
    rcases hk with e | e
    ·omega
    ·rw [hm0] at e
     simpa [show m - 1 < zs.length by omega] using e
   omega
  ·rw [if_neg hk, List.append_nil]
   refine ⟨i1, fun a => ?_⟩
   rw [i2, ht, List.mem_append, List.mem_singleton]
   refine ⟨.inl, fun h => h.elim id fun e => ?_⟩
   simp only [Lib.keeps, decide_eq_true_eq] at hk
   have hmp : 0 < m := by omega
   have e2 : zs[m] = zs[m - 1] := by
    have : ¬ zs.toArray[m]! ≠ zs.toArray[m - 1]! := fun h => hk (.inr h)
    rw [hm0] at this
    simpa [show m - 1 < zs.length by omega] using this
   subst e
   rw [e2]
   exact List.mem_iff_getElem.2 ⟨m - 1, by rw [List.length_take]; omega, List.getElem_take⟩
theorem rises_eq {a b : List Int} (h1 : a.Pairwise (· < ·)) (h2 : b.Pairwise (· < ·)) (h : ∀ x, x ∈ a ↔ x ∈ b) : a = b := by
 have n1 : a.Nodup := h1.imp fun h => Int.ne_of_lt h
 have n2 : b.Nodup := h2.imp fun h => Int.ne_of_lt h
 exact List.Perm.eq_of_pairwise (le := fun a b : Int => a < b) (fun x y _ _ h3 h4 => absurd h3 (by omega)) h1 h2 ((List.perm_ext_iff_of_nodup n1 n2).2 h)
theorem range_rises (n : Nat) : ((List.range n).map fun k : Nat => (k : Int)).Pairwise (· < ·) := List.pairwise_map.2 (List.pairwise_lt_range.imp fun h => by omega)
theorem compact_whom {n : Nat} {c : List api_Instr} (hb : (nm c).any (badN n) = false) : Lib.compact ((nm c).mergeSort fun x y => decide (x ≤ y)) = whomL n c := by
 have hs : ((nm c).mergeSort fun x y => decide (x ≤ y)).Pairwise (· ≤ ·) := by
  have := List.pairwise_mergeSort (le := fun x y : Int => decide (x ≤ y)) (fun a b c h1 h2 => by simp at *; omega) (fun a b => by simp; omega) (nm c)
  exact this.imp fun h => by simpa using h
 obtain ⟨h1, h2⟩ := compact_rises hs _ (Nat.le_refl _)
 refine rises_eq h1 ((range_rises n).filter _) fun a => ?_
 rw [show Lib.compact ((nm c).mergeSort fun x y => decide (x ≤ y)) = Lib.compactUpTo _ _ from rfl, h2, List.take_length, List.mem_mergeSort, whomL, List.mem_filter, decide_eq_true_eq]
 refine ⟨fun h => ⟨?_, h⟩, fun h => h.2⟩
 have := List.any_eq_false.1 hb a h
 simp only [badN, Bool.or_eq_true, decide_eq_true_eq, not_or] at this
 exact List.mem_map.2 ⟨a.toNat, List.mem_range.2 (by omega), by omega⟩
theorem named_run {m : api_Module} {k : Int} {x : api_Method} {G P : List api_Value} {M : List api_Method} {mg k0 : Int} (hc : x.Code.length ≤ 300) : ∀ (c pre : List api_Instr) (l : List Int), x.Code = pre ++ c → l.length ≤ pre.length →
    runF (calls_named_1_s1.F (fun s x => bif s.2 then none else calls_Whom.y1 m k s.1.1 s.1.2 x) (([], 0), false) G P M mg k0) (.l1 x ((l, 0), false) (pre.length : Int)) =
     some (if (nm c).any (badN m.Methods.length) = true then ((l ++ (nm c).takeWhile fun a => !badN m.Methods.length a, 2), true) else ((l ++ nm c, 0), false))
 | [], pre, l, he, hl => by
  refine runF_end ?_
  dsimp only [calls_named_1_s1.F]
  rw [if_neg (by rw [he]; simp)]
  simp [nm]
 | i :: c, pre, l, he, hl => by
  have hlen : pre.length < x.Code.length := by rw [he]; simp
  have hi : x.Code[pre.length] = i := by simp [he]
  have hn := nm_len (i :: c)
  by_cases ho : i.Op = 30
  ·by_cases hb : badN m.Methods.length i.A = true
   ·refine runF_end ?_
    dsimp only [calls_named_1_s1.F]
    rw [if_pos (by omega), elt_lt hlen, hi]
    simp only [Option.bind_some]
    rw [if_pos ho]
    dsimp only [cond_false, calls_Whom.y1]
    have hb2 : (decide (i.A < 0) || decide (i.A ≥ (m.Methods.length : Int))) = true := hb
    rw [if_pos hb2]
    simp only [Option.bind_some]
    rw [nm_cons, if_pos ho, if_pos (by simp), if_pos (by simp [hb])]
    simp [hb]
   ·rw [runF_step (t := .l1 x ((l ++ [i.A], 0), false) ((pre ++ [i]).length : Int)) (by
     dsimp only [calls_named_1_s1.F]
     rw [if_pos (by omega), elt_lt hlen, hi]
     simp only [Option.bind_some]
     rw [if_pos ho]
     dsimp only [cond_false, calls_Whom.y1]
     have hb2 : ¬ (decide (i.A < 0) || decide (i.A ≥ (m.Methods.length : Int))) = true := hb
     rw [if_neg hb2, if_pos (by simp; omega)]
     simp only [Option.bind_some]
     rw [if_neg (by simp), wrap_succ pre.length (by omega), List.length_append]; rfl)]
    rw [named_run hc c (pre ++ [i]) (l ++ [i.A]) (by rw [he]; simp) (by simp; omega)]
    have hb' : badN m.Methods.length i.A = false := by simpa using hb
    rw [nm_cons, if_pos ho, List.any_cons, hb', Bool.false_or, List.takeWhile_cons, hb']
    simp
  ·rw [runF_step (t := .l1 x ((l, 0), false) ((pre ++ [i]).length : Int)) (by
    dsimp only [calls_named_1_s1.F]
    rw [if_pos (by omega), elt_lt hlen, hi]
    simp only [Option.bind_some]
    rw [if_neg ho]
    simp only [Option.bind_some]
    rw [if_neg (by simp), wrap_succ pre.length (by omega), List.length_append]; rfl)]
   rw [named_run hc c (pre ++ [i]) l (by rw [he]; simp) (by simp; omega), nm_cons, if_neg ho]
def whomC (n : Nat) (c : List api_Instr) : List Int × Int := if (nm c).any (badN n) = true then ([], 2) else (whomL n c, 0)
theorem prog_whom {m : api_Module} {k : Nat} (hk : k < m.Methods.length) (hc : m.Methods[k].Code.length ≤ 300) : calls_Whom.f m k = some (whomC m.Methods.length m.Methods[k].Code) := by
 unfold calls_Whom.f calls_named.f calls_named_1_s1.f
 have hn := nm_len m.Methods[k].Code
 rw [if_neg (by simp; omega)]
 simp only [Option.bind_some]
 rw [runF_step (t := .l1 m.Methods[k] (([], 0), false) (([] : List api_Instr).length : Int)) (by
  dsimp only [calls_named_1_s1.F]; rw [elt_lt hk]; rfl), named_run hc m.Methods[k].Code [] [] rfl (by simp)]
 unfold whomC
 by_cases hb : (nm m.Methods[k].Code).any (badN m.Methods.length) = true
 ·rw [if_pos hb, if_pos hb]; rfl
 ·rw [if_neg hb, if_neg hb]
  simp only [Option.bind_some, List.nil_append]
  rw [if_neg (by simp), if_pos (by omega), if_pos (by rw [List.length_mergeSort]; omega), compact_whom (by simpa using hb)]
end CallsPure
namespace CallsPure
def whoms (m : api_Module) : List (List Int) := m.Methods.map fun x => whomL m.Methods.length x.Code
def anyBad (m : api_Module) : Bool := m.Methods.any fun x => (nm x.Code).any (badN m.Methods.length)
structure Fit (m : api_Module) : Prop where
 M : m.Methods.length ≤ 40
 x : ∀ x ∈ m.Methods, x.Code.length ≤ 300
theorem prog_all {m : api_Module} (S : Fit m) : calls_all.f m = some (if anyBad m = true then ([], 2) else (whoms m, 0)) := by
 unfold calls_all.f
 rw [runF_step (t := .l1 [] ((0 : Nat) : Int)) rfl]
 have : ∀ (c pre : List api_Method), m.Methods = pre ++ c → runF (calls_all.F m) (.l1 (pre.map fun x => whomL m.Methods.length x.Code) (pre.length : Int)) = some (if (c.any fun x => (nm x.Code).any (badN m.Methods.length)) = true then ([], 2) else (whoms m, 0)) := by
  intro c
  induction c with
  | nil =>
   intro pre he
   refine runF_end ?_
   dsimp only [calls_all.F]
   rw [if_neg (by rw [he]; simp)]
   simp [whoms, he]
  | cons x c ih =>
   intro pre he
   have hlen : pre.length < m.Methods.length := by rw [he]; simp
   have hx : m.Methods[pre.length] = x := by simp [he]
   have hw := prog_whom hlen (S.x _ (List.getElem_mem hlen))
   rw [hx] at hw
   have hM := S.M
   by_cases hb : (nm x.Code).any (badN m.Methods.length) = true
   ·rw [List.any_cons, hb, Bool.true_or, if_pos rfl]
    refine runF_end ?_
    dsimp only [calls_all.F]
    rw [if_pos (by omega), hw]
    simp only [Option.bind_some, whomC]
    rw [if_pos hb, if_pos (by simp)]
   ·have hb' : (nm x.Code).any (badN m.Methods.length) = false := by simpa using hb
    rw [List.any_cons, hb', Bool.false_or, ← ih (pre ++ [x]) (by rw [he]; simp)]
    refine runF_step ?_
    dsimp only [calls_all.F]
    rw [if_pos (by omega), hw]
    simp only [Option.bind_some, whomC]
    rw [if_neg hb, if_neg (by simp), if_pos (by simp; omega), wrap_succ pre.length (by omega), List.length_append, List.map_append]; rfl
 exact this _ [] rfl
def ready (W : List (List Int)) (out : List Int) (k : Nat) : Bool := decide (¬ (k : Int) ∈ out) && (W.getD k []).all fun a => decide (a ∈ out)
def nextOf (W : List (List Int)) (out : List Int) : Option Nat := (List.range W.length).find? (ready W out)
def ordN (W : List (List Int)) : Nat → List Int → List Int × Int
 | 0, out => (out, 0)
 | f + 1, out => match nextOf W out with
  | none => ([], 110)
  | some k => ordN W f (out ++ [(k : Int)])
theorem whoms_at {m : api_Module} {k : Nat} (hk : k < m.Methods.length) : (whoms m).getD k [] = whomL m.Methods.length m.Methods[k].Code := by
 simp [whoms, List.getD_eq_getElem?_getD, hk]
theorem whomL_len (n : Nat) (c : List api_Instr) : (whomL n c).length ≤ n := by unfold whomL; exact Nat.le_trans (List.length_filter_le _ _) (by simp)
end CallsPure
namespace CallsPure
theorem mset_new {l : List (Int × Int)} {k v : Int} : (∀ p ∈ l, p.1 ≠ k) → mset l k v = l ++ [(k, v)] := by
 induction l with
 | nil => intro _; rfl
 | cons p l ih =>
  intro h
  rw [mset, if_neg (h p (by simp)), ih fun q hq => h q (List.mem_cons_of_mem _ hq)]; rfl
theorem mget_map {g : Nat → Int} {q : Nat} : ∀ {S : List Nat}, q ∈ S → mget (S.map fun a : Nat => ((a : Int), g a)) q = some (g q)
 | s :: S, h => by
  rw [List.map_cons, mget]
  by_cases e : s = q
  ·subst e; rw [if_pos rfl]
  ·rw [if_neg (by simp; omega)]
   exact mget_map ((List.mem_cons.1 h).resolve_left (Ne.symm e))
theorem mdel_map {g : Nat → Int} {q : Nat} : ∀ {S : List Nat}, S.Nodup → mdel (S.map fun a : Nat => ((a : Int), g a)) q = (S.filter fun a => decide (a ≠ q)).map fun a : Nat => ((a : Int), g a)
 | [], _ => rfl
 | s :: S, h => by
  rw [List.map_cons, mdel]
  by_cases e : s = q
  ·subst e
   rw [if_pos rfl, List.filter_cons_of_neg (by simp), List.filter_eq_self.2]
   intro a ha
   have := (List.nodup_cons.1 h).1
   simp; intro e; subst e; exact this ha
  ·rw [if_neg (by simp; omega), List.filter_cons_of_pos (by simpa using e), List.map_cons, mdel_map (List.nodup_cons.1 h).2]
theorem mup_map {g : Nat → Int} {q : Nat} {u : Int} {S : List Nat} : mup (S.map fun a : Nat => ((a : Int), g a)) q u = S.map fun a : Nat => ((a : Int), if a = q then u else g a) := by
 unfold mup
 rw [List.map_map]
 refine List.map_congr_left fun a _ => ?_
 by_cases e : a = q
 ·subst e; simp
 ·have e2 : ¬ (a : Int) = (q : Int) := by omega
  simp [e, e2]
theorem contains_eq {l : List Int} {n : Int} (hl : l.length ≤ 100) : slices_Contains_int_int.f l n = some (decide (n ∈ l)) := by
 unfold slices_Contains_int_int.f
 have : ∀ (c pre : List Int), l = pre ++ c → ∃ i : Int, runF (slices_Index_int_int.F l n) (.l1 (pre.length : Int)) = some i ∧ decide (i ≥ 0) = decide (n ∈ c) := by
  intro c
  induction c with
  | nil =>
   intro pre he
   refine ⟨-1, runF_end ?_, by simp⟩
   dsimp only [slices_Index_int_int.F]; rw [if_neg (by rw [he]; simp)]
  | cons i c ih =>
   intro pre he
   have hlen : pre.length < l.length := by rw [he]; simp
   have hi : l[pre.length] = i := by simp [he]
   by_cases h : n = i
   ·refine ⟨(pre.length : Int), runF_end ?_, by simp [h]⟩
    dsimp only [slices_Index_int_int.F]
    rw [if_pos (by omega), elt_lt hlen, hi]
    simp only [Option.bind_some]
    rw [if_pos h]
   ·obtain ⟨r, h1, h2⟩ := ih (pre ++ [i]) (by rw [he]; simp)
    refine ⟨r, ?_, by rw [h2]; simp [h]⟩
    rw [← h1]
    refine runF_step ?_
    dsimp only [slices_Index_int_int.F]
    rw [if_pos (by omega), elt_lt hlen, hi]
    simp only [Option.bind_some]
    rw [if_neg h, wrap_succ pre.length (by omega), List.length_append]; rfl
 obtain ⟨i, h1, h2⟩ := this l [] rfl
 unfold slices_Index_int_int.f
 rw [runF_step (t := .l1 ((([] : List Int).length : Nat) : Int)) rfl, h1]
 simp only [Option.bind_some]
 rw [h2]
def cnt (W : List (List Int)) (out : List Int) (k : Nat) : Nat := ((W.getD k []).filter fun a => decide (¬ a ∈ out)).length
def rest (W : List (List Int)) (out : List Int) : List Nat := (List.range W.length).filter fun k => decide (¬ (k : Int) ∈ out)
def leftM (W : List (List Int)) (out : List Int) : List (Int × Int) := (rest W out).map fun k : Nat => ((k : Int), (cnt W out k : Int))
theorem rest_nodup (W : List (List Int)) (out : List Int) : (rest W out).Nodup := List.nodup_range.filter _
theorem mem_rest {W : List (List Int)} {out : List Int} {k : Nat} : k ∈ rest W out ↔ k < W.length ∧ ¬ (k : Int) ∈ out := by unfold rest; rw [List.mem_filter, List.mem_range, decide_eq_true_eq]
theorem rest_len (W : List (List Int)) (out : List Int) : (rest W out).length ≤ W.length := Nat.le_trans (List.length_filter_le _ _) (by simp)
theorem ok_map {g : Nat → Int} {S : List Nat} (h : S.Nodup) (hl : ∀ a ∈ S, a < 100) (hs : S.length ≤ 100) : okKeys (S.map fun a : Nat => ((a : Int), g a)) = true := by
 simp only [okKeys, Bool.and_eq_true, decide_eq_true_eq, List.all_eq_true]
 refine ⟨⟨?_, ?_⟩, by rw [List.length_map]; omega⟩
 ·rw [List.map_map]
  exact h.map _ fun a b hab e => hab (by simp only [Function.comp] at e; omega)
 ·intro p hp
  obtain ⟨a, ha, rfl⟩ := List.mem_map.1 hp
  have := hl a ha
  simp; omega
theorem nodup_keys {g : Nat → Int} {S : List Nat} (h : S.Nodup) : ((S.map fun a : Nat => ((a : Int), g a)).map fun p => p.1).Nodup := by
 rw [List.map_map]; exact h.map _ fun a b hab e => hab (by simp only [Function.comp] at e; omega)
theorem rest_sorted (W : List (List Int)) (out : List Int) : sortedKeys (leftM W out) = (rest W out).map fun k : Nat => (k : Int) := by
 unfold sortedKeys leftM
 rw [List.map_map]
 have : (rest W out).Pairwise (· < ·) := List.pairwise_lt_range.filter _
 refine List.mergeSort_of_pairwise ?_
 refine List.pairwise_map.2 (this.imp fun h => ?_)
 simp; omega
theorem cnt_zero {W : List (List Int)} {out : List Int} {k : Nat} : cnt W out k = 0 ↔ ((W.getD k []).all fun a => decide (a ∈ out)) = true := by
 unfold cnt
 rw [List.length_eq_zero_iff, List.filter_eq_nil_iff, List.all_eq_true]
 exact ⟨fun h a ha => by simpa using h a ha, fun h a ha => by simpa using h a ha⟩
theorem next_rest (W : List (List Int)) (out : List Int) : nextOf W out = (rest W out).find? fun k => decide (cnt W out k = 0) := by
 unfold nextOf rest
 rw [List.find?_filter]
 congr 1
 funext k
 unfold ready
 rw [Bool.eq_iff_iff]
 simp only [Bool.and_eq_true, decide_eq_true_eq, cnt_zero]
theorem cnt_more {W : List (List Int)} {out : List Int} {k q : Nat} (hn : (W.getD q []).Nodup) (hk : ¬ (k : Int) ∈ out) : cnt W (out ++ [(k : Int)]) q = if (k : Int) ∈ W.getD q [] then cnt W out q - 1 else cnt W out q := by
 unfold cnt
 generalize W.getD q [] = l at hn
 have e : ∀ l : List Int, l.Nodup → (l.filter fun a => decide (¬ a ∈ out ++ [(k : Int)])).length = if (k : Int) ∈ l then (l.filter fun a => decide (¬ a ∈ out)).length - 1 else (l.filter fun a => decide (¬ a ∈ out)).length := by
  intro l
  induction l with
  | nil => intro _; simp
  | cons a l ih =>
   intro hn
   obtain ⟨h1, h2⟩ := List.nodup_cons.1 hn
   have ih := ih h2
   by_cases ha : a = (k : Int)
   ·subst ha
    rw [if_neg h1] at ih
    rw [List.filter_cons_of_neg (by simp), ih, if_pos (by simp), List.filter_cons_of_pos (by simpa using hk), List.length_cons, Nat.add_sub_cancel]
   ·have hm : ((k : Int) ∈ a :: l) ↔ (k : Int) ∈ l := by simp [Ne.symm ha]
    by_cases hao : a ∈ out
    ·rw [List.filter_cons_of_neg (by simp [hao]), List.filter_cons_of_neg (by simpa using hao), ih]
     simp only [hm]
    ·rw [List.filter_cons_of_pos (by simp [hao, ha]), List.filter_cons_of_pos (by simpa using hao), List.length_cons, ih, List.length_cons]
     simp only [hm]
     by_cases hkl : (k : Int) ∈ l
     ·rw [if_pos hkl, if_pos hkl]
      have : 0 < (l.filter fun a => decide (¬ a ∈ out)).length := List.length_pos_of_mem (List.mem_filter.2 ⟨hkl, by simpa using hk⟩)
      omega
     ·rw [if_neg hkl, if_neg hkl]
 exact e l hn
theorem rest_more (W : List (List Int)) (out : List Int) (k : Nat) : rest W (out ++ [(k : Int)]) = (rest W out).filter fun a => decide (a ≠ k) := by
 unfold rest
 rw [List.filter_filter]
 refine List.filter_congr fun a _ => ?_
 rw [Bool.eq_iff_iff]
 simp only [Bool.and_eq_true, decide_eq_true_eq, List.mem_append, List.mem_singleton, not_or]
 exact ⟨fun h => ⟨by have := h.2; omega, h.1⟩, fun h => ⟨h.2, by have := h.1; omega⟩⟩
theorem prog_walk {m : api_Module} {W : List (List Int)} {out : List Int} {k : Nat} (hW : ∀ q, (W.getD q []).Nodup) (hWl : ∀ q, (W.getD q []).length ≤ 40) (hk : ¬ (k : Int) ∈ out) (hout : (out.length + 1) * 8 ≤ 140737488355328) : ∀ (f : Nat) (R : List Nat), R.length = f → R.Nodup → (∀ q ∈ R, q ∈ rest W (out ++ [(k : Int)])) → ∀ r,
    runD (calls_Order.F m) (.l2 (W, 0) (leftM W (out ++ [(k : Int)])) (out ++ [(k : Int)])) = some r →
    runD (calls_Order.F m) (.l4 (W, 0) out (k : Int) ((rest W (out ++ [(k : Int)])).map fun q : Nat => ((q : Int), if q ∈ R then (cnt W out q : Int) else (cnt W (out ++ [(k : Int)]) q : Int))) (R.map fun q : Nat => ((q : Int), (cnt W out q : Int)))) = some r := by
 intro f
 induction f with
 | zero =>
  intro R hR _ _ r hr
  obtain rfl := List.eq_nil_of_length_eq_zero hR
  refine runD_step ?_ hr
  dsimp only [calls_Order.F]
  rw [if_pos (by simp), if_pos (by simpa using hout)]
  simp [leftM]
 | succ f ih =>
  intro R hR hn hsub r hr
  have hne : R ≠ [] := fun e => by rw [e] at hR; cases hR
  generalize hl : (R.map fun q : Nat => ((q : Int), (cnt W out q : Int))) = l
  have hlne : l ≠ [] := fun e => hne (by rw [e] at hl; simpa using hl)
  refine runD_any (l := (picks l).map fun z => .p5 (W, 0) out (k : Int) ((rest W (out ++ [(k : Int)])).map fun q : Nat => ((q : Int), if q ∈ R then (cnt W out q : Int) else (cnt W (out ++ [(k : Int)]) q : Int))) z.1.1 z.1.2 z.2) ?_ (by simpa using picks_ne hlne) fun t ht => ?_
  ·dsimp only [calls_Order.F]
   rw [if_neg (by simpa using hlne)]
  ·obtain ⟨⟨⟨z1, z2⟩, z3⟩, hz, rfl⟩ := List.mem_map.1 ht
   obtain ⟨j, h1, h2⟩ := of_picks hz
   dsimp only at h1 h2
   rw [← hl, List.getElem?_map, Option.map_eq_some_iff] at h1
   obtain ⟨q, h3, h4⟩ := h1
   obtain ⟨rfl, rfl⟩ : (q : Int) = z1 ∧ (cnt W out q : Int) = z2 := by simpa using h4
   have hjl : j < R.length := (List.getElem?_eq_some_iff.1 h3).1
   have hqR : q ∈ R := List.mem_of_getElem? h3
   have hq := hsub q hqR
   obtain ⟨hq1, hq2⟩ := mem_rest.1 hq
   have hmem : ∀ a, a ∈ R.eraseIdx j ↔ a ∈ R ∧ a ≠ q := by
    intro a
    rw [List.mem_eraseIdx_iff_getElem]
    have hRj : R[j] = q := by rw [List.getElem?_eq_getElem hjl] at h3; simpa using h3
    constructor
    ·rintro ⟨i, hi, hij, rfl⟩
     exact ⟨List.getElem_mem hi, fun e => hij ((List.getElem_inj hn).1 (e.trans hRj.symm))⟩
    ·rintro ⟨ha, hne⟩
     obtain ⟨i, hi, rfl⟩ := List.mem_iff_getElem.1 ha
     exact ⟨i, hi, fun e => hne (by subst e; exact hRj), rfl⟩
   have hz3 : z3 = (R.eraseIdx j).map fun q : Nat => ((q : Int), (cnt W out q : Int)) := by rw [h2, ← hl, eraseIdx_map']
   have IH := ih (R.eraseIdx j) (by rw [List.length_eraseIdx_of_lt hjl]; omega) (hn.eraseIdx j) (fun a ha => hsub a ((hmem a).1 ha).1) r hr
   refine runD_step ?_ IH
   dsimp only [calls_Order.F]
   have hel : elt W (q : Int) = some (W.getD q []) := by rw [elt_lt hq1]; simp [List.getD_eq_getElem?_getD, hq1]
   have hc : cnt W out q ≤ 40 := Nat.le_trans (List.length_filter_le _ _) (hWl q)
   rw [hel]
   simp only [Option.bind_some]
   rw [contains_eq (by have := hWl q; omega)]
   simp only [Option.bind_some]
   have hmore := cnt_more (hW q) hk
   by_cases hkq : (k : Int) ∈ W.getD q []
   ·rw [if_pos hkq] at hmore
    have hpos : 0 < cnt W out q := List.length_pos_of_mem (List.mem_filter.2 ⟨hkq, by simpa using hk⟩)
    have hg : mget ((rest W (out ++ [(k : Int)])).map fun q : Nat => ((q : Int), if q ∈ R then (cnt W out q : Int) else (cnt W (out ++ [(k : Int)]) q : Int))) (q : Int) = some (cnt W out q : Int) := by
     rw [mget_map (g := fun q => if q ∈ R then (cnt W out q : Int) else (cnt W (out ++ [(k : Int)]) q : Int)) hq, if_pos hqR]
    rw [if_pos (by simpa using hkq), hg, if_pos ⟨nodup_keys (rest_nodup _ _), rfl⟩, Option.getD_some, wrap_id (by omega) (by omega), mup_map, hz3, mup_map]
    congr 4
    ·refine List.map_congr_left fun a _ => ?_
     by_cases e : a = q
     ·subst e
      rw [if_pos rfl, if_neg (fun h => ((hmem a).1 h).2 rfl), hmore]
      congr 1; omega
     ·rw [if_neg e]
      simp only [hmem, e, ne_eq, not_false_eq_true, and_true]
    ·refine List.map_congr_left fun a ha => ?_
     rw [if_neg ((hmem a).1 ha).2]
   ·rw [if_neg hkq] at hmore
    rw [if_neg (by simpa using hkq), hz3]
    congr 4
    refine List.map_congr_left fun a _ => ?_
    by_cases e : a = q
    ·subst e
     rw [if_pos hqR, if_neg (fun h => ((hmem a).1 h).2 rfl), hmore]
    ·simp only [hmem, e, ne_eq, not_false_eq_true, and_true]
theorem prog_rest {m : api_Module} {W : List (List Int)} (hW : ∀ q, (W.getD q []).Nodup) (hWl : ∀ q, (W.getD q []).length ≤ 40) (hl : W.length ≤ 40) : ∀ (f : Nat) (out : List Int), out.length + f ≤ 40 → (rest W out).length = f → runD (calls_Order.F m) (.l2 (W, 0) (leftM W out) out) = some (ordN W f out) := by
 intro f
 induction f with
 | zero =>
  intro out ho hr
  refine runD_end ?_
  dsimp only [calls_Order.F]
  rw [if_neg (by unfold leftM; rw [List.length_map]; omega)]; rfl
 | succ f ih =>
  intro out ho hr
  have hlt : ∀ a ∈ rest W out, a < 100 := fun a ha => by have := (mem_rest.1 ha).1; omega
  have hrl := rest_len W out
  unfold ordN
  rw [next_rest]
  have scan : ∀ (c pre : List Nat), rest W out = pre ++ c → runD (calls_Order.F m) (.l3 (W, 0) (leftM W out) out (pre.length : Int)) = some (match c.find? (fun k => decide (cnt W out k = 0)) with | none => ([], 110) | some k => ordN W f (out ++ [(k : Int)])) := by
   intro c
   induction c with
   | nil =>
    intro pre he
    refine runD_end ?_
    dsimp only [calls_Order.F]
    rw [rest_sorted, List.length_map, if_neg (by rw [he]; simp)]
    unfold calls_Order.j1
    rw [if_pos (by omega)]; rfl
   | cons k c ihc =>
    intro pre he
    have hlen : pre.length < (rest W out).length := by rw [he]; simp
    have hi : (rest W out)[pre.length] = k := by simp [he]
    have hkm : k ∈ rest W out := by rw [he]; simp
    obtain ⟨hk1, hk2⟩ := mem_rest.1 hkm
    have hel : elt ((rest W out).map fun k : Nat => (k : Int)) (pre.length : Int) = some (k : Int) := by
     rw [elt_lt (by rw [List.length_map]; exact hlen), List.getElem_map, hi]
    have hg : mget (leftM W out) (k : Int) = some (cnt W out k : Int) := mget_map (g := fun k => (cnt W out k : Int)) hkm
    by_cases hc : cnt W out k = 0
    ·rw [List.find?_cons_of_pos (by simpa using hc)]
     have hlr : (rest W (out ++ [(k : Int)])).length = f := by
      rw [rest_more]
      have h2 : (rest W out).length = ((rest W out).filter fun a => decide (a ≠ k)).length + 1 := by
       have e : ∀ l : List Nat, l.Nodup → k ∈ l → l.length = (l.filter fun a => decide (a ≠ k)).length + 1 := by
        intro l
        induction l with
        | nil => intro _ h; cases h
        | cons a l ih2 =>
         intro hn hm
         obtain ⟨n1, n2⟩ := List.nodup_cons.1 hn
         by_cases ea : a = k
         ·subst ea
          rw [List.filter_cons_of_neg (by simp), List.filter_eq_self.2, List.length_cons]
          intro b hb
          simp; intro e; subst e; exact n1 hb
         ·rw [List.filter_cons_of_pos (by simpa using ea), List.length_cons, List.length_cons, ih2 n2 ((List.mem_cons.1 hm).resolve_left (Ne.symm ea))]
       exact e _ (rest_nodup W out) hkm
      omega
     have IH := ih (out ++ [(k : Int)]) (by simp; omega) hlr
     refine runD_step (t := .l4 (W, 0) out (k : Int) ((rest W (out ++ [(k : Int)])).map fun q : Nat => ((q : Int), if q ∈ rest W (out ++ [(k : Int)]) then (cnt W out q : Int) else (cnt W (out ++ [(k : Int)]) q : Int))) ((rest W (out ++ [(k : Int)])).map fun q : Nat => ((q : Int), (cnt W out q : Int)))) ?_ (prog_walk hW hWl hk2 (by omega) _ _ rfl (rest_nodup _ _) (fun q h => h) _ IH)
     dsimp only [calls_Order.F]
     rw [rest_sorted, List.length_map, if_pos (by omega), hel]
     simp only [Option.bind_some]
     rw [hg, Option.getD_some, if_pos (by omega)]
     unfold calls_Order.j1 leftM
     rw [if_neg (by omega), mdel_map (g := fun k => (cnt W out k : Int)) (rest_nodup W out), ← rest_more]
     congr 4
     refine List.map_congr_left fun a ha => ?_
     rw [if_pos ha]
    ·rw [List.find?_cons_of_neg (by simpa using hc), ← ihc (pre ++ [k]) (by rw [he]; simp)]
     have : runD (calls_Order.F m) (.l3 (W, 0) (leftM W out) out ((pre ++ [k]).length : Int)) = some _ := ihc (pre ++ [k]) (by rw [he]; simp)
     rw [this]
     refine runD_step ?_ this
     dsimp only [calls_Order.F]
     rw [rest_sorted, List.length_map, if_pos (by omega), hel]
     simp only [Option.bind_some]
     rw [hg, Option.getD_some, if_neg (by omega), wrap_succ pre.length (by omega), List.length_append]; rfl
  refine runD_step ?_ (scan (rest W out) [] rfl)
  dsimp only [calls_Order.F]
  have hok : okKeys (leftM W out) = true := ok_map (g := fun k => (cnt W out k : Int)) (rest_nodup W out) hlt (by omega)
  rw [if_pos (by unfold leftM; rw [List.length_map]; omega), if_pos hok]; rfl
theorem whomL_nodup (n : Nat) (c : List api_Instr) : (whomL n c).Nodup := ((range_rises n).imp fun h => Int.ne_of_lt h).filter _
theorem prog_order {m : api_Module} (S : Fit m) : calls_Order.f m = some (if anyBad m = true then ([], 2) else ordN (whoms m) m.Methods.length []) := by
 have hM := S.M
 have hWl : (whoms m).length = m.Methods.length := by simp [whoms]
 have hat : ∀ q, (whoms m).getD q [] = [] ∨ ∃ c, (whoms m).getD q [] = whomL m.Methods.length c := by
  intro q
  by_cases hq : q < m.Methods.length
  ·exact .inr ⟨_, whoms_at hq⟩
  ·exact .inl (by simp [List.getD_eq_getElem?_getD, List.getElem?_eq_none (show (whoms m).length ≤ q by omega)])
 unfold calls_Order.f
 by_cases hb : anyBad m = true
 ·rw [if_pos hb]
  refine runD_end ?_
  dsimp only [calls_Order.F]
  rw [prog_all S, if_pos hb]
  simp only [Option.bind_some]
  rw [if_pos (by simp)]
 ·rw [if_neg hb]
  refine runD_step (t := .l1 (whoms m, 0) ((List.range 0).map fun k : Nat => ((k : Int), (((whoms m).getD k []).length : Int))) ((0 : Nat) : Int)) (by
   dsimp only [calls_Order.F]
   rw [prog_all S, if_neg hb]
   simp only [Option.bind_some]
   rw [if_neg (by simp)]; rfl) ?_
  have lay : ∀ (j k : Nat), k + j = m.Methods.length → runD (calls_Order.F m) (.l1 (whoms m, 0) ((List.range k).map fun k : Nat => ((k : Int), (((whoms m).getD k []).length : Int))) (k : Int)) = some (ordN (whoms m) m.Methods.length []) := by
   intro j
   induction j with
   | zero =>
    intro k hk
    obtain rfl : k = m.Methods.length := by omega
    have hr : rest (whoms m) [] = List.range m.Methods.length := by unfold rest; rw [hWl]; exact List.filter_eq_self.2 fun a _ => by simp
    have hm : leftM (whoms m) [] = (List.range m.Methods.length).map fun k : Nat => ((k : Int), (((whoms m).getD k []).length : Int)) := by
     unfold leftM; rw [hr]
     refine List.map_congr_left fun a _ => ?_
     unfold cnt
     rw [List.filter_eq_self.2 fun a _ => by simp]
    refine runD_step (t := .l2 (whoms m, 0) (leftM (whoms m) []) []) (by
     dsimp only [calls_Order.F]
     rw [if_neg (by omega), hm]) (prog_rest (fun q => ?_) (fun q => ?_) (by omega) _ _ (by simp; omega) (by rw [hr, List.length_range]))
    ·rcases hat q with e | ⟨c, e⟩
     ·rw [e]; exact List.nodup_nil
     ·rw [e]; exact whomL_nodup _ _
    ·rcases hat q with e | ⟨c, e⟩
     ·rw [e]; simp
     ·rw [e]; exact Nat.le_trans (whomL_len _ _) hM
   | succ j ih =>
    intro k hk
    refine runD_step ?_ (ih (k + 1) (by omega))
    have hkl : k < (whoms m).length := by omega
    dsimp only [calls_Order.F]
    rw [if_pos (by omega), elt_lt hkl]
    simp only [Option.bind_some]
    rw [mset_new, wrap_succ k (by omega), List.range_succ, List.map_append]
    ·congr 4
     simp [List.getD_eq_getElem?_getD, hkl]
    ·intro p hp
     obtain ⟨a, ha, rfl⟩ := List.mem_map.1 hp
     have := List.mem_range.1 ha
     simp; omega
  exact lay m.Methods.length 0 (by omega)
end CallsPure
namespace CostPure
open FlowPure TypesPure CallsPure
def In (x : Int) : Prop := -9223372036854775808 ≤ x ∧ x < 9223372036854775808
theorem in_id {x : Int} (h : In x) : IntKind.i64.wrap x = x := wrap_id h.1 h.2
theorem in_wrap (x : Int) : In (IntKind.i64.wrap x) := by
 unfold In
 simp only [IntKind.wrap, IntKind.bits, IntKind.signed]
 first | omega | (split <;> omega) | (simp; omega)
theorem tm_in (l : List api_Instr) (R : List (Nat × Nat)) (a : Nat) : In (tm l R a) := by
 unfold tm
 have : ∀ (R : List (Nat × Nat)) (n : Int), In n → In (R.foldl (fun n x => if x.1 < a ∧ a ≤ x.2 then IntKind.i64.wrap (n * turns l x.1) else n) n) := by
  intro R
  induction R with
  | nil => intro n h; exact h
  | cons x R ih =>
   intro n h
   rw [List.foldl_cons]
   refine ih _ ?_
   split
   ·exact in_wrap _
   ·exact h
 exact this R 1 ⟨by omega, by omega⟩
theorem tms_len (l : List api_Instr) : (tms l).length = l.length := by simp [tms]
theorem tms_in (l : List api_Instr) (i : Nat) (h : i < (tms l).length) : In (tms l)[i] := by
 have : (tms l)[i] = tm l (RL (KK l) l.length) i := by simp [tms]
 rw [this]; exact tm_in _ _ _
theorem H_le {rows : List types_Row} (h : ∀ r ∈ rows, r.Kinds.length ≤ 400) : ∀ k, H rows k ≤ 400
 | 0 => by unfold H; omega
 | k + 1 => by
  have i := H_le h k
  have : (g rows k).Kinds.length ≤ 400 := by
   by_cases hk : k < rows.length
   ·rw [g_lt hk]; exact h _ (List.getElem_mem hk)
   ·unfold g; simp [List.getElem?_eq_none (show rows.length ≤ k by omega), R0, types_Row.zero]
  unfold H; split <;> omega
end CostPure
namespace CostPure
open FlowPure TypesPure CallsPure
theorem rows_ok {m : api_Module} {k : Nat} (hm : wf_api_Module m) (S : Small m) (hk : k < m.Methods.length) : ∃ rows e, types_Rows.f m k = some (rows, e) ∧
    (e = 0 → rows.length = m.Methods[k].Code.length ∧ Known m.Methods[k].Code ∧ Fine m.Methods[k].Code ∧ ∀ r ∈ rows, r.Kinds.length ≤ 400) := by
 have h0 : (0 : Int) ≤ (k : Int) := by omega
 have h1 : (k : Int) < m.Methods.length := by omega
 have hx := elt_lt hk
 generalize hxe : m.Methods[k] = x at hx
 have hxm : x ∈ m.Methods := by rw [← hxe]; exact List.getElem_mem hk
 have hs := S.x x hxm
 have hwx : ∀ i ∈ x.Code, wf_api_Instr i := ((hm.2.2.1.2 x hxm).2.2.2.2.2.2.2).2
 obtain ⟨e1, e2, e3⟩ := rows_else (m := m) (k := k) (x := x) h0 h1 hx (by omega) hwx (by omega)
 by_cases hkn : Known x.Code
 ·by_cases hf : Fine x.Code
  ·by_cases hth : ∃ i ∈ x.Code, there (envOf m x) i = false
   ·exact ⟨[], 100, e3 hkn hf hth, by omega⟩
   ·have W : Well (envOf m x) x.Code := ⟨hkn, hf, hwx, fun i hi => by
     cases ht : there (envOf m x) i
     ·exact absurd ⟨i, hi, ht⟩ hth
     ·rfl, fun y hy => by have := S.x y hy; omega⟩
    exact ⟨_, _, rows_well h0 h1 hx W (by omega), fun he => ⟨(rows_told W he).len, hkn, hf, (rows_told W he).sz⟩⟩
  ·exact ⟨[], 90, e2 hkn hf, by omega⟩
 ·exact ⟨[], 40, e1 hkn, by omega⟩
def highC (x : api_Method) (r : types_Row) (al : Nat) (oc : api_Cert) : Int := IntKind.i64.wrap (IntKind.i64.wrap (IntKind.i64.wrap (IntKind.i64.wrap ((x.Args.length : Int) + (x.Locals.length : Int)) + (r.Kinds.length : Int)) - (al : Int)) + oc.Stack)
def stepC (al : List Nat) (kn : List api_Cert) (x : api_Method) (t : Int) (r : types_Row) (o : api_Instr) (s : api_Cert) : api_Cert :=
 if o.Op = 30 then ⟨IntKind.i64.wrap (IntKind.i64.wrap (s.Fuel + t) + IntKind.i64.wrap (t * (kn.getD o.A.toNat api_Cert.zero).Fuel)),
  if r.Reached = true ∧ highC x r (al.getD o.A.toNat 0) (kn.getD o.A.toNat api_Cert.zero) > s.Stack then highC x r (al.getD o.A.toNat 0) (kn.getD o.A.toNat api_Cert.zero) else s.Stack,
  IntKind.i64.wrap ((if o.Op = 22 then IntKind.i64.wrap (s.Heap + IntKind.i64.wrap (t * o.A)) else s.Heap) + IntKind.i64.wrap (t * (kn.getD o.A.toNat api_Cert.zero).Heap))⟩
 else ⟨IntKind.i64.wrap (s.Fuel + t), s.Stack, if o.Op = 22 then IntKind.i64.wrap (s.Heap + IntKind.i64.wrap (t * o.A)) else s.Heap⟩
def runC (al : List Nat) (kn : List api_Cert) (x : api_Method) (rows : List types_Row) (ts : List Int) : List api_Instr → Nat → api_Cert → api_Cert
 | [], _, s => s
 | o :: c, i, s => runC al kn x rows ts c (i + 1) (stepC al kn x (ts.getD i 0) (g rows i) o s)
def oneC (al : List Nat) (kn : List api_Cert) (x : api_Method) (rows : List types_Row) : api_Cert := runC al kn x rows (tms x.Code) x.Code 0 ⟨0, (x.Args.length : Int) + (x.Locals.length : Int) + H rows rows.length, 0⟩
def alens (m : api_Module) : List Nat := m.Methods.map fun x => x.Args.length
theorem prog_one {m : api_Module} {k : Nat} {kn : List api_Cert} (hm : wf_api_Module m) (S : Small m) (hk : k < m.Methods.length) (hb : (nm m.Methods[k].Code).any (badN m.Methods.length) = false) (hkn : kn.length = m.Methods.length)
    {rows : List types_Row} (hr : types_Rows.f m k = some (rows, 0)) : cost_one.f m k kn = some (oneC (alens m) kn m.Methods[k] rows) := by
 obtain ⟨rows', e', g1, g3⟩ := rows_ok hm S hk
 rw [hr] at g1
 obtain ⟨rfl, rfl⟩ : rows = rows' ∧ (0 : Int) = e' := by simpa using g1
 obtain ⟨hlen, hK, hF, hsz⟩ := g3 rfl
 have hx := elt_lt hk
 have hxm := List.getElem_mem hk
 generalize m.Methods[k] = x at hx hxm hb hlen hK hF
 have hs := S.x x hxm
 have hwx : ∀ i ∈ x.Code, wf_api_Instr i := ((hm.2.2.1.2 x hxm).2.2.2.2.2.2.2).2
 have hl300 : x.Code.length ≤ 300 := hs.2.2
 have t1 := (prog_times (l := x.Code) (by omega) hwx).2.1 hK hF
 have hH0 := H_nonneg rows rows.length
 have hH1 := H_le hsz rows.length
 have hn0 : IntKind.i64.wrap (IntKind.i64.wrap ((x.Args.length : Int) + (x.Locals.length : Int)) + H rows rows.length) = (x.Args.length : Int) + (x.Locals.length : Int) + H rows rows.length := by
  rw [wrap_id (x := (x.Args.length : Int) + (x.Locals.length : Int)) (by omega) (by omega), wrap_id (by omega) (by omega)]
 have main : ∀ (c pre : List api_Instr), x.Code = pre ++ c → (nm c).any (badN m.Methods.length) = false → ∀ f s h : Int, In f → In h → runF (cost_one.F m k kn) (.l1 x (tms x.Code, 0) (pre.length : Int) f s h x.Result x.Reads x.Fuel x.Stack x.Heap rows) = some (runC (alens m) kn x rows (tms x.Code) c pre.length ⟨f, s, h⟩) := by
  intro c
  induction c with
  | nil =>
   intro pre he _ f s h _ _
   refine runF_end ?_
   dsimp only [cost_one.F]; rw [if_neg (by rw [he]; simp)]; rfl
  | cons i c ih =>
   intro pre he hb f s h hf hh
   have hpl : pre.length < x.Code.length := by rw [he]; simp
   have hi : x.Code[pre.length] = i := by simp [he]
   have htl : pre.length < (tms x.Code).length := by rw [tms_len]; exact hpl
   have ht := elt_lt htl
   have hti := tms_in x.Code pre.length htl
   have htd : (tms x.Code).getD pre.length 0 = (tms x.Code)[pre.length] := by simp [List.getD_eq_getElem?_getD, htl]
   generalize (tms x.Code)[pre.length] = t at ht hti htd
   have hrl : pre.length < rows.length := by omega
   have hrw := elt_lt hrl
   have hgr := g_lt hrl
   generalize rows[pre.length] = rw_ at hrw hgr
   have hnx : ((pre ++ [i]).length : Int) = IntKind.i64.wrap ((pre.length : Int) + 1) := by rw [wrap_succ pre.length (by omega), List.length_append]; rfl
   have hheap : ∀ v : Int, v = (if i.Op = 22 then i.A else 0) → IntKind.i64.wrap (h + IntKind.i64.wrap (t * v)) = if i.Op = 22 then IntKind.i64.wrap (h + IntKind.i64.wrap (t * i.A)) else h := by
    intro v hv
    by_cases h22 : i.Op = 22
    ·rw [if_pos h22] at hv ⊢; rw [hv]
    ·rw [if_neg h22] at hv ⊢; rw [hv, Int.mul_zero, show IntKind.i64.wrap 0 = 0 from rfl, Int.add_zero, in_id hh]
   have hfuel : IntKind.i64.wrap (f + IntKind.i64.wrap (t * 1)) = IntKind.i64.wrap (f + t) := by rw [Int.mul_one, in_id hti]
   have hpstep : ∀ q, cost_one.j2 m k kn x (tms x.Code, 0) (pre.length : Int) f s h x.Result x.Reads x.Fuel x.Stack x.Heap rows i (if i.Op = 22 then i.A else 0) = some (.inl q) → runF (cost_one.F m k kn) (.l1 x (tms x.Code, 0) (pre.length : Int) f s h x.Result x.Reads x.Fuel x.Stack x.Heap rows) = runF (cost_one.F m k kn) q := by
    intro q hq
    refine runF_step ?_
    dsimp only [cost_one.F]
    rw [if_pos (by omega), elt_lt hpl, hi]
    simp only [Option.bind_some]
    by_cases h22 : i.Op = 22
    ·rw [if_pos h22] at hq ⊢; exact hq
    ·rw [if_neg h22] at hq ⊢; exact hq
   rw [runC, htd, hgr, ← List.length_singleton (a := i), ← List.length_append]
   generalize hh' : (if i.Op = 22 then IntKind.i64.wrap (h + IntKind.i64.wrap (t * i.A)) else h) = h' at hheap
   have hih' : In h' := by rw [← hh']; split; exact in_wrap _; exact hh
   by_cases h30 : i.Op = 30
   ·rw [nm_cons, if_pos h30, List.any_cons, Bool.or_eq_false_iff] at hb
    have hA := hb.1
    simp only [badN, Bool.or_eq_false_iff, decide_eq_false_iff_not] at hA
    have hA1 : i.A.toNat < m.Methods.length := by omega
    have e1 := elt_int (xs := m.Methods) (by omega) hA1
    have e2 := elt_int (xs := kn) (by omega) (by omega : i.A.toNat < kn.length)
    have d1 : (alens m).getD i.A.toNat 0 = m.Methods[i.A.toNat].Args.length := by simp [alens, List.getD_eq_getElem?_getD, hA1]
    have d2 : kn.getD i.A.toNat api_Cert.zero = kn[i.A.toNat] := by simp [List.getD_eq_getElem?_getD, (by omega : i.A.toNat < kn.length)]
    rw [stepC, if_pos h30, d1, d2]
    dsimp only
    rw [hh']
    generalize m.Methods[i.A.toNat] = om at e1
    generalize kn[i.A.toNat] = oc at e2
    rw [← ih (pre ++ [i]) (by rw [he]; simp) hb.2 _ _ _ (in_wrap _) (in_wrap _)]
    refine hpstep _ ?_
    unfold cost_one.j2 cost_sum_often_s3.f
    rw [ht]
    simp only [Option.bind_some]
    rw [if_pos h30, e1]
    simp only [Option.bind_some]
    rw [e2]
    simp only [Option.bind_some]
    unfold cost_taker_call_s3.f cost_sum_often_s3.f cost_sum_high_s3.f
    simp only [Option.bind_some]
    rw [hrw]
    simp only [Option.bind_some]
    rw [hfuel, hheap _ rfl]
    unfold cost_one.j1
    rw [hnx]
    by_cases hre : rw_.Reached = true
    ·rw [if_pos hre]
     simp only [Option.bind_some, hre, true_and]; rfl
    ·rw [if_neg hre]
     simp only [Option.bind_some]
     rw [if_neg (fun h => hre h.1)]
   ·rw [nm_cons, if_neg h30] at hb
    rw [stepC, if_neg h30]
    dsimp only
    rw [hh', ← ih (pre ++ [i]) (by rw [he]; simp) hb _ _ _ (in_wrap _) hih']
    refine hpstep _ ?_
    unfold cost_one.j2 cost_sum_often_s3.f
    rw [ht]
    simp only [Option.bind_some]
    rw [if_neg h30, hfuel, hheap _ rfl]
    unfold cost_one.j1
    rw [hnx]
 unfold cost_one.f oneC
 refine Eq.trans ?_ (main x.Code [] rfl hb 0 ((x.Args.length : Int) + (x.Locals.length : Int) + H rows rows.length) 0 ⟨by omega, by omega⟩ ⟨by omega, by omega⟩)
 refine runF_step ?_
 dsimp only [cost_one.F]
 rw [hx]
 simp only [Option.bind_some]
 rw [hr]
 simp only [Option.bind_some]
 rw [t1]
 simp only [Option.bind_some]
 rw [height_eq (by omega)]
 simp only [Option.bind_some]
 unfold cost_sum_high_s2.f
 simp only [Option.bind_some]
 rw [hn0]
 congr 2
 by_cases h0 : (x.Args.length : Int) + (x.Locals.length : Int) + H rows rows.length > 0
 ·rw [if_pos h0]; rfl
 ·rw [if_neg h0, show (x.Args.length : Int) + (x.Locals.length : Int) + H rows rows.length = 0 by omega]; rfl
end CostPure
namespace CostPure
open FlowPure TypesPure CallsPure
theorem ordN_ok {W : List (List Int)} : ∀ (f : Nat) (out : List Int), (∀ a ∈ out, 0 ≤ a ∧ a < W.length) → (ordN W f out).2 = 0 → (ordN W f out).1.length = out.length + f ∧ ∀ a ∈ (ordN W f out).1, 0 ≤ a ∧ a < W.length
 | 0, out, h, _ => ⟨rfl, h⟩
 | f + 1, out, h, h0 => by
  unfold ordN at h0 ⊢
  cases hn : nextOf W out with
  | none => rw [hn] at h0; simp at h0
  | some k =>
   rw [hn] at h0
   have hk : k < W.length := List.mem_range.1 (List.mem_of_find?_eq_some hn)
   obtain ⟨i1, i2⟩ := ordN_ok f (out ++ [(k : Int)]) (fun a ha => by
    rcases List.mem_append.1 ha with h1 | h1
    ·exact h a h1
    ·rw [List.mem_singleton] at h1; subst h1; omega) h0
   refine ⟨?_, i2⟩
   dsimp only; rw [i1]; simp; omega
end CostPure
namespace CostPure
open FlowPure TypesPure CallsPure
def fitB (c : api_Cert) (x : api_Method) : Bool := decide (((0 ≤ c.Fuel ∧ c.Fuel ≤ x.Fuel ∧ c.Fuel ≤ 1048576) ∧ 0 ≤ c.Stack ∧ c.Stack ≤ x.Stack ∧ c.Stack ≤ 256) ∧ 0 ≤ c.Heap ∧ c.Heap ≤ x.Heap ∧ c.Heap ≤ 1024)
theorem fits_ite (b y : Bool) : (if b = true then some y else some false) = some (b && y) := by cases b <;> rfl
theorem prog_fits (c : api_Cert) (x : api_Method) : cost_Fits.f c x = some (fitB c x) := by
 unfold cost_Fits.f cost_within.f fitB
 simp only [Option.bind_some, fits_ite]
 congr 1
 rw [Bool.eq_iff_iff]
 simp
 omega
noncomputable def rowsM (m : api_Module) (k : Nat) : List types_Row × Int := (types_Rows.f m k).getD ([], 0)
noncomputable def errM (m : api_Module) : Int := (((List.range m.Methods.length).map fun k => (rowsM m k).2).find? fun e => decide (e ≠ 0)).getD 0
def methM (m : api_Module) (k : Nat) : api_Method := m.Methods.getD k api_Method.zero
noncomputable def oneM (m : api_Module) (kn : List api_Cert) (k : Nat) : api_Cert := oneC (alens m) kn (methM m k) (rowsM m k).1
def certsC (one : List api_Cert → Nat → api_Cert) (fit : Nat → api_Cert → Bool) : List Int → List api_Cert → Option (List api_Cert)
 | [], l => some l
 | a :: o, l => if fit a.toNat (one l a.toNat) = true then certsC one fit o (l.set a.toNat (one l a.toNat)) else none
noncomputable def costsC (m : api_Module) : List api_Cert × Int :=
 if anyBad m = true then ([], 2) else
 if (ordN (whoms m) m.Methods.length []).2 ≠ 0 then ([], (ordN (whoms m) m.Methods.length []).2) else
 if errM m ≠ 0 then ([], errM m) else
 match certsC (oneM m) (fun k c => fitB c (methM m k)) (ordN (whoms m) m.Methods.length []).1 (List.replicate m.Methods.length api_Cert.zero) with
 | none => ([], 120)
 | some l => (l, 0)
theorem methM_at {m : api_Module} {k : Nat} (h : k < m.Methods.length) : methM m k = m.Methods[k] := by simp [methM, List.getD_eq_getElem?_getD, h]
theorem errM_zero {m : api_Module} (h : errM m = 0) : ∀ k, k < m.Methods.length → (rowsM m k).2 = 0 := by
 intro k hk
 unfold errM at h
 cases hf : ((List.range m.Methods.length).map fun k => (rowsM m k).2).find? fun e => decide (e ≠ 0) with
 | none =>
  have := List.find?_eq_none.1 hf _ (List.mem_map.2 ⟨k, List.mem_range.2 hk, rfl⟩)
  simpa using this
 | some e =>
  rw [hf] at h
  have := List.find?_some hf
  simp at this h
  exact absurd h this
theorem prog_costs {m : api_Module} (hm : wf_api_Module m) (S : Small m) : cost_Costs.f m = some (costsC m) := by
 have hM := S.M
 have F : Fit m := ⟨S.M, fun x hx => (S.x x hx).2.2⟩
 have p0 := prog_order F
 unfold cost_Costs.f costsC
 by_cases hb : anyBad m = true
 ·rw [if_pos hb] at p0 ⊢
  refine runF_end ?_
  dsimp only [cost_Costs.F]; rw [p0]; simp only [Option.bind_some]; rw [if_pos (by simp)]
 ·rw [if_neg hb] at p0 ⊢
  have hok := ordN_ok (W := whoms m) m.Methods.length [] (by simp)
  have hWl : (whoms m).length = m.Methods.length := by simp [whoms]
  generalize ordN (whoms m) m.Methods.length [] = oe at p0 hok
  obtain ⟨o, e⟩ := oe
  dsimp only
  by_cases he : e = 0
  ·subst he
   obtain ⟨ho1, ho2⟩ := hok rfl
   have hol : o.length = m.Methods.length := by simpa using ho1
   rw [if_neg (by simp), runF_step (t := .l1 (o, 0) ((0 : Nat) : Int)) (by dsimp only [cost_Costs.F]; rw [p0]; simp only [Option.bind_some]; rw [if_neg (by simp)]; rfl)]
   have hrow : ∀ k, k < m.Methods.length → types_Rows.f m k = some (rowsM m k) := by
    intro k hk
    obtain ⟨rows, e, g1, -⟩ := rows_ok hm S hk
    unfold rowsM; rw [g1]; rfl
   have go : errM m = 0 → ∀ (c pre : List Int) (l : List api_Cert), o = pre ++ c → l.length = m.Methods.length → runF (cost_Costs.F m) (.l2 (o, 0) l (pre.length : Int)) = some (match certsC (oneM m) (fun k c => fitB c (methM m k)) c l with | none => ([], 120) | some l => (l, 0)) := by
    intro he0 c
    induction c with
    | nil =>
     intro pre l hp hl
     refine runF_end ?_
     dsimp only [cost_Costs.F]; rw [if_neg (by rw [hp]; simp)]; rfl
    | cons a c ih =>
     intro pre l hp hl
     have hpl : pre.length < o.length := by rw [hp]; simp
     have hi : o[pre.length] = a := by simp [hp]
     obtain ⟨a0, a1⟩ := ho2 a (by rw [hp]; simp)
     have hk : a.toNat < m.Methods.length := by omega
     have hak : ((a.toNat : Nat) : Int) = a := by omega
     have hbk : (nm m.Methods[a.toNat].Code).any (badN m.Methods.length) = false := by
      have := List.any_eq_false.1 (show (m.Methods.any fun x => (nm x.Code).any (badN m.Methods.length)) = false by simpa [anyBad] using hb) _ (List.getElem_mem hk)
      simpa using this
     have hr2 : types_Rows.f m a.toNat = some ((rowsM m a.toNat).1, 0) := by rw [hrow _ hk, ← errM_zero he0 _ hk]
     have c1 := prog_one (kn := l) hm S hk hbk hl hr2
     rw [hak, ← methM_at hk] at c1
     have c1 : cost_one.f m a l = some (oneM m l a.toNat) := c1
     have f1 := prog_fits (oneM m l a.toNat) (methM m a.toNat)
     have e1 := elt_int (xs := l) a0 (by omega)
     have e2 : elt (l.set a.toNat (oneM m l a.toNat)) a = some (oneM m l a.toNat) := by
      rw [elt_int (xs := l.set a.toNat (oneM m l a.toNat)) a0 (by rw [List.length_set]; omega)]; simp
     have e3 := elt_int (xs := m.Methods) a0 hk
     rw [← methM_at hk] at e3
     rw [certsC]
     by_cases hf : fitB (oneM m l a.toNat) (methM m a.toNat) = true
     ·rw [if_pos hf, ← ih (pre ++ [a]) _ (by rw [hp]; simp) (by rw [List.length_set]; exact hl)]
      refine runF_step ?_
      dsimp only [cost_Costs.F]
      rw [if_pos (by omega), elt_lt hpl, hi]; simp only [Option.bind_some]
      rw [c1]; simp only [Option.bind_some]
      rw [e1]; simp only [Option.bind_some]
      rw [e2]; simp only [Option.bind_some]
      rw [e3]; simp only [Option.bind_some]
      rw [f1]; simp only [Option.bind_some]
      rw [if_neg (by simp [hf]), wrap_succ pre.length (by omega), List.length_append]; rfl
     ·rw [if_neg hf]
      refine runF_end ?_
      dsimp only [cost_Costs.F]
      rw [if_pos (by omega), elt_lt hpl, hi]; simp only [Option.bind_some]
      rw [c1]; simp only [Option.bind_some]
      rw [e1]; simp only [Option.bind_some]
      rw [e2]; simp only [Option.bind_some]
      rw [e3]; simp only [Option.bind_some]
      rw [f1]; simp only [Option.bind_some]
      rw [if_pos (by simpa using hf)]
   have scan : ∀ (j k : Nat), k + j = m.Methods.length → runF (cost_Costs.F m) (.l1 (o, 0) (k : Int)) = match ((List.range' k j).map fun k => (rowsM m k).2).find? (fun e => decide (e ≠ 0)) with
       | some e => some ([], e)
       | none => runF (cost_Costs.F m) (.l1 (o, 0) (m.Methods.length : Int)) := by
    intro j
    induction j with
    | zero => intro k hk; simp at hk; subst hk; simp
    | succ j ihj =>
     intro k hk
     have hr := hrow k (by omega)
     rw [List.range'_succ, List.map_cons, List.find?_cons]
     by_cases he : (rowsM m k).2 = 0
     ·rw [show decide ((rowsM m k).2 ≠ 0) = false by simpa using he]
      dsimp only
      rw [← ihj (k + 1) (by omega)]
      refine runF_step ?_
      dsimp only [cost_Costs.F]
      unfold types_Check.f
      rw [if_pos (by omega), hr]; simp only [Option.bind_some]
      rw [if_neg (by simpa using he), wrap_succ k (by omega)]
     ·rw [show decide ((rowsM m k).2 ≠ 0) = true by simpa using he]
      refine runF_end ?_
      dsimp only [cost_Costs.F]
      unfold types_Check.f
      rw [if_pos (by omega), hr]; simp only [Option.bind_some]
      rw [if_pos he]
   rw [scan m.Methods.length 0 (by omega), ← List.range_eq_range']
   have hE : errM m = (((List.range m.Methods.length).map fun k => (rowsM m k).2).find? fun e => decide (e ≠ 0)).getD 0 := rfl
   cases hf : ((List.range m.Methods.length).map fun k => (rowsM m k).2).find? fun e => decide (e ≠ 0) with
   | some e =>
    rw [hf] at hE
    have hne : e ≠ 0 := by have := List.find?_some hf; simpa using this
    rw [hE, Option.getD_some, if_pos hne]
   | none =>
    rw [hf] at hE
    have hE : errM m = 0 := hE
    rw [if_neg (by simpa using hE)]
    have := go hE o [] (List.replicate o.length api_Cert.zero) rfl (by rw [List.length_replicate]; exact hol)
    rw [hol] at this
    rw [← this]
    refine runF_step ?_
    dsimp only [cost_Costs.F]
    rw [if_neg (by omega), if_pos (by omega)]
    simp [hol]
  ·rw [if_pos he]
   refine runF_end ?_
   dsimp only [cost_Costs.F]; rw [p0]; simp only [Option.bind_some]; rw [if_pos he]
end CostPure
namespace CostPure
open FlowPure TypesPure CallsPure
def aL1 : List api_Instr := [⟨2, 0, 0⟩, ⟨31, 0, 0⟩]
def aL2 : List api_Instr := [⟨28, 3, 0⟩, ⟨1, 0, 0⟩, ⟨22, 4, 0⟩, ⟨6, 0, 0⟩, ⟨29, 0, 0⟩, ⟨1, 0, 0⟩, ⟨31, 0, 0⟩]
def aL3 : List api_Instr := [⟨1, 0, 0⟩, ⟨30, 0, 0⟩, ⟨31, 0, 0⟩]
theorem crow1 : capstanlaw12_row.f [2, 0, 31, 0] = some aL1 := by
 unfold capstanlaw12_row.f
 rw [runF_step (t := .l1 [] 0) rfl, runF_step (t := .l1 [⟨2, 0, 0⟩] 2) rfl, runF_step (t := .l1 aL1 4) rfl, runF_end rfl]
theorem crow2 : capstanlaw12_row.f [28, 3, 1, 0, 22, 4, 6, 0, 29, 0, 1, 0, 31, 0] = some aL2 := by
 unfold capstanlaw12_row.f
 rw [runF_step (t := .l1 [] 0) rfl, runF_step (t := .l1 (aL2.take 1) 2) rfl, runF_step (t := .l1 (aL2.take 2) 4) rfl, runF_step (t := .l1 (aL2.take 3) 6) rfl, runF_step (t := .l1 (aL2.take 4) 8) rfl, runF_step (t := .l1 (aL2.take 5) 10) rfl, runF_step (t := .l1 (aL2.take 6) 12) rfl, runF_step (t := .l1 aL2 14) rfl, runF_end rfl]
theorem crow3 : capstanlaw12_row.f [1, 0, 30, 0, 31, 0] = some aL3 := by
 unfold capstanlaw12_row.f
 rw [runF_step (t := .l1 [] 0) rfl, runF_step (t := .l1 (aL3.take 1) 2) rfl, runF_step (t := .l1 (aL3.take 2) 4) rfl, runF_step (t := .l1 aL3 6) rfl, runF_end rfl]
def aX1 : api_Method := ⟨[1], [], 1, false, 1048576, 256, 1024, aL1⟩
def aX2 : api_Method := ⟨[], [], 1, false, 1048576, 256, 1024, aL2⟩
def aX3 : api_Method := ⟨[], [], 1, false, 1048576, 256, 1024, aL3⟩
def aM : api_Module := ⟨[], [⟨1, 3, 0⟩], [aX1, aX2, aX3], -1⟩
def aThere (x : api_Method) : Bool := x.Code.all fun i => there (envOf aM x) i
theorem a_small : Small aM := small_of (by decide +kernel)
theorem a_wf : wf_api_Module aM := by
 have h : ∀ x ∈ aM.Methods, wf_api_Method x := by
  intro x hx
  simp only [aM, List.mem_cons, List.not_mem_nil, or_false] at hx
  rcases hx with rfl | rfl | rfl <;> (refine ⟨?_, ?_, by decide, trivial, by decide, by decide, by decide, by decide, ?_⟩) <;> simp [aX1, aX2, aX3, aL1, aL2, aL3, maxLen, wf_api_Instr] <;> decide
 exact ⟨by simp [aM], by simp [aM, maxLen, wf_api_Value]; decide, ⟨by simp [aM, maxLen], h⟩, by decide⟩
theorem a_checks : ((knownB aL1 && fineB aL1) && aThere aX1) = true ∧ ((knownB aL2 && fineB aL2) && aThere aX2) = true ∧ ((knownB aL3 && fineB aL3) && aThere aX3) = true := by decide +kernel
theorem a_well {k : Nat} {x : api_Method} (hk : k < aM.Methods.length) (hx : aM.Methods[k] = x) (h : ((knownB x.Code && fineB x.Code) && aThere x) = true) : types_Rows.f aM k = some (rowsC (envOf aM x) x.Code) := by
 rw [Bool.and_eq_true, Bool.and_eq_true] at h
 obtain ⟨k1, k2, k3⟩ := knownB_ok h.1.1
 have h3 := h.2
 unfold aThere at h3
 rw [List.all_eq_true] at h3
 have hxm : x ∈ aM.Methods := by rw [← hx]; exact List.getElem_mem hk
 exact rows_well (m := aM) (x := x) (by omega) (by omega) (by rw [elt_lt hk, hx]) ⟨k1, fineB_iff.1 h.1.2, k2, h3, fun y hy => by have := a_small.x y hy; omega⟩ (by have := a_small.x x hxm; omega)
theorem certs_cons {one : List api_Cert → Nat → api_Cert} {fit : Nat → api_Cert → Bool} {a : Int} {o : List Int} {l : List api_Cert} {c : api_Cert} (h : one l a.toNat = c) (hf : fit a.toNat c = true) : certsC one fit (a :: o) l = certsC one fit o (l.set a.toNat c) := by
 subst h; rw [certsC, if_pos hf]
theorem a_costs : cost_Costs.f aM = some ([⟨2, 2, 0⟩, ⟨15, 1, 12⟩, ⟨5, 2, 0⟩], 0) := by
 rw [prog_costs a_wf a_small]
 obtain ⟨c1, c2, c3⟩ := a_checks
 have w1 : rowsM aM 0 = rowsC (envOf aM aX1) aL1 := by unfold rowsM; have := a_well (k := 0) (x := aX1) (by decide) rfl c1; rw [show ((0 : Nat) : Int) = 0 from rfl] at this; rw [show ((0 : Nat) : Int) = 0 from rfl, this]; rfl
 have w2 : rowsM aM 1 = rowsC (envOf aM aX2) aL2 := by unfold rowsM; rw [a_well (k := 1) (x := aX2) (by decide) rfl c2]; rfl
 have w3 : rowsM aM 2 = rowsC (envOf aM aX3) aL3 := by unfold rowsM; rw [a_well (k := 2) (x := aX3) (by decide) rfl c3]; rfl
 have he : errM aM = 0 := by
  unfold errM
  rw [show List.range aM.Methods.length = [0, 1, 2] from rfl, List.map_cons, List.map_cons, List.map_cons, List.map_nil, w1, w2, w3]
  decide +kernel
 have h0 : anyBad aM = false := by decide +kernel
 have ho : ordN (whoms aM) aM.Methods.length [] = ([0, 1, 2], 0) := by decide +kernel
 have o1 : ∀ kn, oneM aM kn 0 = oneC (alens aM) kn aX1 (rowsC (envOf aM aX1) aL1).1 := fun kn => by unfold oneM; rw [w1]; rfl
 have o2 : ∀ kn, oneM aM kn 1 = oneC (alens aM) kn aX2 (rowsC (envOf aM aX2) aL2).1 := fun kn => by unfold oneM; rw [w2]; rfl
 have o3 : ∀ kn, oneM aM kn 2 = oneC (alens aM) kn aX3 (rowsC (envOf aM aX3) aL3).1 := fun kn => by unfold oneM; rw [w3]; rfl
 have e1 : oneC (alens aM) [api_Cert.zero, api_Cert.zero, api_Cert.zero] aX1 (rowsC (envOf aM aX1) aL1).1 = ⟨2, 2, 0⟩ := by kernel_rfl
 have e2 : oneC (alens aM) [⟨2, 2, 0⟩, api_Cert.zero, api_Cert.zero] aX2 (rowsC (envOf aM aX2) aL2).1 = ⟨15, 1, 12⟩ := by kernel_rfl
 have e3 : oneC (alens aM) [⟨2, 2, 0⟩, ⟨15, 1, 12⟩, api_Cert.zero] aX3 (rowsC (envOf aM aX3) aL3).1 = ⟨5, 2, 0⟩ := by kernel_rfl
 unfold costsC
 rw [if_neg (by rw [h0]; simp), ho, if_neg (by simp), he, if_neg (by simp)]
 have hr : (List.replicate aM.Methods.length api_Cert.zero) = [api_Cert.zero, api_Cert.zero, api_Cert.zero] := rfl
 rw [hr]
 have s1 : certsC (oneM aM) (fun k c => fitB c (methM aM k)) [0, 1, 2] [api_Cert.zero, api_Cert.zero, api_Cert.zero] = some [⟨2, 2, 0⟩, ⟨15, 1, 12⟩, ⟨5, 2, 0⟩] :=
  (certs_cons (a := 0) ((o1 _).trans e1) (by decide +kernel)).trans ((certs_cons (a := 1) ((o2 _).trans e2) (by decide +kernel)).trans ((certs_cons (a := 2) ((o3 _).trans e3) (by decide +kernel)).trans rfl))
 rw [s1]
theorem cawake : capstanlaw12_awake.f = some true := by
 unfold capstanlaw12_awake.f capstanlaw12_declared.f
 rw [crow1, crow2, crow3]
 simp only [Option.bind_some]
 have h : cost_Costs.f (⟨[], [⟨1, 3, 0⟩], [⟨[1], [], 1, false, 1048576, 256, 1024, aL1⟩, ⟨[], [], 1, false, 1048576, 256, 1024, aL2⟩, ⟨[], [], 1, false, 1048576, 256, 1024, aL3⟩], -1⟩ : api_Module) = some ([⟨2, 2, 0⟩, ⟨15, 1, 12⟩, ⟨5, 2, 0⟩], 0) := a_costs
 rw [h]
 rfl
end CostPure
namespace FlowPure
def fullT (T : Nat → Int) : List (Nat × Nat) → Int
 | [] => 1
 | x :: s => T x.1 * fullT T s
def remT (T F : Nat → Int) (p a : Nat) : List (Nat × Nat) → Int
 | [] => if a < p then 1 else 0
 | x :: s => if a ≤ x.1 then T x.1 * fullT T s else if x.2 < a then 0 else (F x.1 - 1) * fullT T s + remT T F p a s
def at1 (a p : Nat) : Int := if a = p then 1 else 0
structure Lps (R : List (Nat × Nat)) (T : Nat → Int) : Prop where
 lt : ∀ x ∈ R, x.1 < x.2
 nest : ∀ x ∈ R, ∀ y ∈ R, x.1 < y.1 → y.1 < x.2 → y.2 < x.2
 one : ∀ x ∈ R, ∀ y ∈ R, (x.1 = y.1 ∨ x.2 = y.2) → x = y
 part : ∀ x ∈ R, ∀ y ∈ R, x.1 ≠ y.2
 pos : ∀ x ∈ R, 1 ≤ T x.1
structure Around (R : List (Nat × Nat)) (p : Nat) (s : List (Nat × Nat)) : Prop where
 mem : ∀ x ∈ s, x ∈ R
 on : ∀ x ∈ s, x.1 < p ∧ p ≤ x.2
 up : s.Pairwise fun x y => x.1 < y.1
theorem Around.tail {R : List (Nat × Nat)} {p : Nat} {x : Nat × Nat} {s : List (Nat × Nat)} (h : Around R p (x :: s)) : Around R p s :=
 ⟨fun y hy => h.mem y (by simp [hy]), fun y hy => h.on y (by simp [hy]), (List.pairwise_cons.1 h.up).2⟩
def Live (R : List (Nat × Nat)) (T F : Nat → Int) (a : Nat) : Prop := ∀ x ∈ R, x.1 < a → a ≤ x.2 → 1 ≤ F x.1 ∧ F x.1 ≤ T x.1
theorem full_pos {R : List (Nat × Nat)} {T : Nat → Int} (L : Lps R T) : ∀ s : List (Nat × Nat), (∀ x ∈ s, x ∈ R) → 1 ≤ fullT T s
 | [], _ => by simp [fullT]
 | x :: s, h => by
  have a := L.pos x (h x (by simp))
  have b := full_pos L s (fun y hy => h y (by simp [hy]))
  have : (1 : Int) * 1 ≤ T x.1 * fullT T s := Int.mul_le_mul a b (by omega) (by omega)
  simp only [fullT]; omega
section
variable {R : List (Nat × Nat)} {T F G : Nat → Int} {p a b : Nat}
theorem rem_nonneg (L : Lps R T) (hF : Live R T F a) : ∀ s, Around R p s → 0 ≤ remT T F p a s
 | [], _ => by unfold remT; split <;> omega
 | x :: s, h => by
  have f := full_pos L s h.tail.mem
  have g := L.pos x (h.mem x (by simp))
  have r := rem_nonneg L hF s h.tail
  unfold remT
  split
  ·have : (0 : Int) ≤ T x.1 * fullT T s := Int.mul_nonneg (by omega) (by omega)
   omega
  ·split
   ·omega
   ·have := hF x (h.mem x (by simp)) (by omega) (by omega)
    have : (0 : Int) ≤ (F x.1 - 1) * fullT T s := Int.mul_nonneg (by omega) (by omega)
    omega
theorem rem_enter (L : Lps R T) {c : Nat} : ∀ s, Around R p s → (∀ y ∈ s, c < y.1) → c < p → remT T G p (c + 1) s + at1 (c + 1) p = fullT T s
 | [], _, _, hp => by
  unfold remT at1 fullT
  by_cases h : c + 1 < p
  ·rw [if_pos h, if_neg (by omega)]; rfl
  ·rw [if_neg h, if_pos (by omega)]; rfl
 | y :: s, h, hc, _ => by
  have := hc y (by simp)
  have on := h.on y (by simp)
  have e : at1 (c + 1) p = 0 := by unfold at1; rw [if_neg (by omega)]
  unfold remT
  rw [if_pos (by omega), e]; simp only [fullT]; omega
theorem rem_end (L : Lps R T) {x : Nat × Nat} (hx : x ∈ R) : ∀ s, Around R p s → (∀ y ∈ s, x.1 < y.1) → p ≤ x.2 → remT T F p x.2 s = 0
 | [], _, _, hp => by unfold remT; rw [if_neg (by omega)]
 | y :: s, h, hc, hp => by
  have hy := h.mem y (by simp)
  have on := h.on y (by simp)
  have := hc y (by simp)
  have n := L.nest x hx y hy this (by omega)
  have l := L.lt y hy
  unfold remT
  rw [if_neg (by omega), if_pos n]
theorem rem_next (L : Lps R T) (hG : ∀ x ∈ R, x.1 = a → G a = T a) (hS : ∀ x ∈ R, x.1 < a → a < x.2 → G x.1 = F x.1) (hE : ∀ x ∈ R, x.2 = a → F x.1 = 1) : ∀ s, Around R p s → remT T G p (a + 1) s + at1 (a + 1) p = remT T F p a s
 | [], _ => by
  unfold remT at1
  by_cases h1 : a + 1 < p
  ·rw [if_pos h1, if_neg (by omega), if_pos (by omega)]; rfl
  ·rw [if_neg h1]
   by_cases h2 : a + 1 = p
   ·rw [if_pos h2, if_pos (by omega)]; rfl
   ·rw [if_neg h2, if_neg (by omega)]; rfl
 | x :: s, h => by
  have on := h.on x (by simp)
  have hx := h.mem x (by simp)
  have up := (List.pairwise_cons.1 h.up).1
  have l := L.lt x hx
  by_cases h1 : a + 1 ≤ x.1
  ·have e : at1 (a + 1) p = 0 := by unfold at1; rw [if_neg (by omega)]
   unfold remT
   rw [if_pos h1, if_pos (by omega), e]; omega
  ·by_cases h2 : a = x.1
   ·have := rem_enter (G := G) L s h.tail (c := a) (fun y hy => by have := up y hy; omega) (by omega)
    have g := hG x hx h2.symm
    unfold remT
    rw [if_neg (by omega), if_neg (by omega), if_pos (by omega), ← h2, g, Int.sub_mul, Int.one_mul]
    omega
   ·by_cases h3 : x.2 < a
    ·have e : at1 (a + 1) p = 0 := by unfold at1; rw [if_neg (by omega)]
     unfold remT
     rw [if_neg (by omega), if_pos (by omega), if_neg (by omega), if_pos h3, e]; rfl
    ·by_cases h4 : x.2 = a
     ·have e : at1 (a + 1) p = 0 := by unfold at1; rw [if_neg (by omega)]
      have re := rem_end (F := F) L hx s h.tail up on.2
      have f1 := hE x hx h4
      rw [h4] at re
      unfold remT
      rw [if_neg (by omega), if_pos (by omega), if_neg (by omega), if_neg h3, e, re, f1]; simp
     ·have r := rem_next L hG hS hE s h.tail
      have g := hS x hx (by omega) (by omega)
      unfold remT
      rw [if_neg (by omega), if_neg (by omega), if_neg (by omega), if_neg h3, g]
      omega
theorem rem_back (L : Lps R T) {x : Nat × Nat} (hx : x ∈ R) (hG : G x.1 = F x.1 - 1) (hS : ∀ y ∈ R, y ≠ x → G y.1 = F y.1) : ∀ s, Around R p s → (x.1 < p → p ≤ x.2 → x ∈ s) → remT T G p (x.1 + 1) s + at1 (x.1 + 1) p = remT T F p x.2 s
 | [], _, hm => by
  have l := L.lt x hx
  have hn : ¬ (x.1 < p ∧ p ≤ x.2) := fun h => by have := hm h.1 h.2; cases this
  unfold remT at1
  by_cases h1 : x.2 < p
  ·rw [if_pos h1]
   by_cases h2 : x.1 + 1 < p
   ·rw [if_pos h2, if_neg (by omega)]; rfl
   ·rw [if_neg h2, if_pos (by omega)]; rfl
  ·rw [if_neg h1, if_neg (by omega), if_neg (by omega)]; rfl
 | y :: s, h, hm => by
  have on := h.on y (by simp)
  have hy := h.mem y (by simp)
  have up := (List.pairwise_cons.1 h.up).1
  have l := L.lt x hx
  have ly := L.lt y hy
  by_cases hxy : y = x
  ·subst hxy
   have en := rem_enter (G := G) L s h.tail (c := y.1) up on.1
   have re := rem_end (F := F) L hy s h.tail up on.2
   unfold remT
   rw [if_neg (by omega), if_neg (by omega), if_neg (by omega), if_neg (by omega), hG, re, Int.sub_mul, Int.one_mul]
   omega
  ·have hm' : x.1 < p → p ≤ x.2 → x ∈ s := fun h1 h2 => by
    rcases List.mem_cons.1 (hm h1 h2) with e | e
    ·exact absurd e.symm hxy
    ·exact e
   have n1 : y.1 ≠ x.1 := fun e => hxy (L.one y hy x hx (.inl e))
   have n2 : y.2 ≠ x.2 := fun e => hxy (L.one y hy x hx (.inr e))
   have n3 := L.part y hy x hx
   have n4 := L.part x hx y hy
   by_cases h1 : x.2 ≤ y.1
   ·have e : at1 (x.1 + 1) p = 0 := by unfold at1; rw [if_neg (by omega)]
    unfold remT
    rw [if_pos (by omega), if_pos h1, e]; omega
   ·by_cases h2 : y.2 < x.2
    ·-- y is ahead of x, or within it
     have hz : y.2 < x.1 + 1 := by
      refine Classical.byContradiction fun hc => ?_
      by_cases h3 : y.1 < x.1
      ·have := L.nest y hy x hx h3 (by omega); omega
      ·have := up x (hm' (by omega) (by omega)); omega
     have e : at1 (x.1 + 1) p = 0 := by unfold at1; rw [if_neg (by omega)]
     unfold remT
     rw [if_neg (by omega), if_pos hz, if_neg h1, if_pos h2, e]; rfl
    ·have h3 : y.1 < x.1 := by
      refine Classical.byContradiction fun hc => ?_
      have := L.nest x hx y hy (by omega) (by omega); omega
     have r := rem_back L hx hG hS s h.tail hm'
     have g := hS y hy hxy
     unfold remT
     rw [if_neg (by omega), if_neg (by omega), if_neg h1, if_neg h2, g]
     omega
end
end FlowPure
namespace FlowPure
theorem run_lps {l : List api_Instr} (hk : Known l) (hf : Fine l) : Lps (RL (KK l) l.length) (turns l) := by
 obtain ⟨o1, o2⟩ := run_pairs hf.1
 obtain ⟨-, -, hN, -⟩ := (run_iff (R := RL (KK l) l.length) fun h => ⟨fun x => mem_RL x, RL_nodup h⟩).1 hf.1
 have hu : ∀ x ∈ RL (KK l) l.length, ∀ y ∈ RL (KK l) l.length, (x.1 = y.1 ∨ x.2 = y.2) → x = y := by
  intro x hx y hy h
  have px := (mem_RL x).1 hx
  have py := (mem_RL y).1 hy
  have e1 : x.1 = y.1 := by
   rcases h with h | h
   ·exact h
   ·have := px.2.2.2; rw [h, py.2.2.2] at this; injection this with e; exact e.symm
  obtain ⟨t0, -, -, hu⟩ := o1 _ px.1 px.2.2.1
  have := hu _ px
  have := hu y.2 (by rw [e1]; exact py)
  exact Prod.ext e1 (by omega)
 have hp : ∀ x ∈ RL (KK l) l.length, ∀ y ∈ RL (KK l) l.length, x.1 ≠ y.2 := by
  intro x hx y hy h
  have px := (mem_RL x).1 hx
  have py := (mem_RL y).1 hy
  have := px.2.2.1; rw [h, py.2.2.2] at this; exact Kn.noConfusion this
 refine ⟨fun x hx => ?_, fun x hx y hy h1 h2 => ?_, hu, hp, fun x hx => ?_⟩
 ·have px := (mem_RL x).1 hx
  obtain ⟨t0, -, hle, hu⟩ := o1 _ px.1 px.2.2.1
  have := hu _ px
  have := hp x hx x hx
  omega
 ·have px := (mem_RL x).1 hx
  have py := (mem_RL y).1 hy
  have := hN _ _ _ _ px py h1 h2
  have : y.2 ≠ x.2 := fun e => by have := hu y hy x hx (.inr e); subst this; omega
  omega
 ·have px := (mem_RL x).1 hx
  rw [turns_at px.1]
  exact (may_turns (hk.2.2 _ (List.getElem_mem px.1)) ((loop_iff px.1).1 px.2.2.1)).1
def ar (l : List api_Instr) (p : Nat) : List (Nat × Nat) := (RL (KK l) l.length).filter fun x => decide (x.1 < p ∧ p ≤ x.2)
theorem around {l : List api_Instr} (hf : Fine l) (p : Nat) : Around (RL (KK l) l.length) p (ar l p) :=
 ⟨fun x hx => (List.mem_filter.1 hx).1, fun x hx => by simpa using (List.mem_filter.1 hx).2, (RL_sorted (run_pairs hf.1).1).sublist List.filter_sublist⟩
theorem mem_ar {l : List api_Instr} {p : Nat} {x : Nat × Nat} (hx : x ∈ RL (KK l) l.length) (h1 : x.1 < p) (h2 : p ≤ x.2) : x ∈ ar l p := List.mem_filter.2 ⟨hx, by simp; exact ⟨h1, h2⟩⟩
theorem pow_one (n : Nat) : (1 : Int) ≤ 100 ^ n := by
 induction n with
 | zero => simp
 | succ n ih => rw [Int.pow_succ]; omega
theorem fold_full {T : Nat → Int} : ∀ (s : List (Nat × Nat)) (acc B : Int), 1 ≤ acc → acc ≤ B → B * 100 ^ s.length ≤ 100000000 → (∀ x ∈ s, 1 ≤ T x.1 ∧ T x.1 ≤ 100) → s.foldl (fun n x => IntKind.i64.wrap (n * T x.1)) acc = acc * fullT T s ∧ acc * fullT T s ≤ 100000000
 | [], acc, B, h1, h2, h3, _ => by simp [fullT] at *; omega
 | x :: s, acc, B, h1, h2, h3, h4 => by
  have t := h4 x (by simp)
  have a1 : acc * T x.1 ≤ B * 100 := Int.mul_le_mul h2 t.2 (by omega) (by omega)
  have a2 : (1 : Int) * 1 ≤ acc * T x.1 := Int.mul_le_mul h1 t.1 (by omega) (by omega)
  have pw := pow_one s.length
  have e : B * 100 * 100 ^ s.length = B * 100 ^ (x :: s).length := by rw [List.length_cons, Int.pow_succ, Int.mul_assoc, Int.mul_comm 100]
  have a3 : B * 100 * 1 ≤ B * 100 * 100 ^ s.length := Int.mul_le_mul_of_nonneg_left pw (by omega)
  have ih := fold_full s (acc * T x.1) (B * 100) (by omega) a1 (by rw [e]; exact h3) (fun y hy => h4 y (by simp [hy]))
  rw [List.foldl_cons, wrap_id (by omega) (by omega)]
  simp only [fullT]
  rw [← Int.mul_assoc]
  exact ih
theorem tm_full {l : List api_Instr} (hk : Known l) (hf : Fine l) {p : Nat} (hp : p < l.length) : tm l (RL (KK l) l.length) p = fullT (turns l) (ar l p) ∧ fullT (turns l) (ar l p) ≤ 100000000 := by
 obtain ⟨-, -, -, hD⟩ := (run_iff (R := RL (KK l) l.length) fun h => ⟨fun x => mem_RL x, RL_nodup h⟩).1 hf.1
 have L := run_lps hk hf
 have e : tm l (RL (KK l) l.length) p = (ar l p).foldl (fun n x => IntKind.i64.wrap (n * turns l x.1)) 1 := by
  unfold tm ar
  rw [List.foldl_filter]
  simp only [decide_eq_true_eq]
 have h4 : (ar l p).length ≤ 4 := by
  have := hD p hp
  unfold ar
  simpa only [Bool.decide_and] using this
 have h5 : (100 : Int) ^ (ar l p).length ≤ 100 ^ 4 := by
  have : (100 : Nat) ^ (ar l p).length ≤ 100 ^ 4 := Nat.pow_le_pow_right (by omega) h4
  exact_mod_cast this
 have h6 : (100 : Int) ^ 4 = 100000000 := by decide
 have := fold_full (T := turns l) (ar l p) 1 1 (by omega) (by omega) (by omega) (fun x hx => by
  have hx' := (around hf p).mem x hx
  have px := (mem_RL x).1 hx'
  rw [turns_at px.1]
  have := may_turns (hk.2.2 _ (List.getElem_mem px.1)) ((loop_iff px.1).1 px.2.2.1)
  omega)
 rw [Int.one_mul] at this
 rw [e]; exact this
def sumTo (f : Nat → Int) : Nat → Int
 | 0 => 0
 | n + 1 => sumTo f n + f n
theorem sumTo_le {f g : Nat → Int} : ∀ n, (∀ p, p < n → f p ≤ g p) → sumTo f n ≤ sumTo g n
 | 0, _ => by simp [sumTo]
 | n + 1, h => by
  have := sumTo_le n (fun p hp => h p (by omega))
  have := h n (by omega)
  simp only [sumTo]; omega
theorem sumTo_congr {f g : Nat → Int} (n : Nat) (h : ∀ p, p < n → f p = g p) : sumTo f n = sumTo g n :=
 Int.le_antisymm (sumTo_le n fun p hp => by rw [h p hp]; exact Int.le_refl _) (sumTo_le n fun p hp => by rw [h p hp]; exact Int.le_refl _)
end FlowPure
namespace CostPure
open FlowPure TypesPure CallsPure
def calC (kn : List api_Cert) (o : api_Instr) : api_Cert := if o.Op = 30 then kn.getD o.A.toNat api_Cert.zero else api_Cert.zero
def sumC (f : Nat → api_Instr → Int) : List api_Instr → Nat → Int
 | [], _ => 0
 | o :: c, i => f i o + sumC f c (i + 1)
theorem mul_bd {t a A B : Int} (t0 : 0 ≤ t) (t1 : t ≤ A) (a0 : 0 ≤ a) (a1 : a ≤ B) : 0 ≤ t * a ∧ t * a ≤ A * B :=
 ⟨Int.mul_nonneg t0 a0, Int.mul_le_mul t1 a1 a0 (by omega)⟩
theorem runC_fuel {al : List Nat} {kn : List api_Cert} {x : api_Method} {rows : List types_Row} {ts : List Int} (hk : ∀ o, 0 ≤ (calC kn o).Fuel ∧ (calC kn o).Fuel ≤ 1048576) (ht : ∀ i, 0 ≤ ts.getD i 0 ∧ ts.getD i 0 ≤ 100000000) :
    ∀ (c : List api_Instr) (i : Nat) (s : api_Cert), 0 ≤ s.Fuel → s.Fuel + (c.length : Int) * 200000000000000 ≤ 4611686018427387904 → (runC al kn x rows ts c i s).Fuel = s.Fuel + sumC (fun i o => ts.getD i 0 * (1 + (calC kn o).Fuel)) c i
 | [], _, s, _, _ => by rw [runC, sumC, Int.add_zero]
 | o :: c, i, s, h0, h1 => by
  obtain ⟨t0, t1⟩ := ht i
  obtain ⟨k0, k1⟩ := hk o
  obtain ⟨m0, m1⟩ := mul_bd t0 t1 k0 k1
  have e : (stepC al kn x (ts.getD i 0) (g rows i) o s).Fuel = s.Fuel + ts.getD i 0 * (1 + (calC kn o).Fuel) := by
   rw [Int.mul_add, Int.mul_one]
   unfold stepC calC at *
   simp only [List.length_cons] at h1
   split
   ·rename_i h30
    rw [if_pos h30] at m0 m1
    dsimp only
    rw [wrap_id (x := ts.getD i 0 * _) (by omega) (by omega), wrap_id (x := s.Fuel + _) (by omega) (by omega), wrap_id (by omega) (by omega)]
    omega
   ·dsimp only [api_Cert.zero]
    rw [wrap_id (by omega) (by omega)]; omega
  rw [runC, sumC, runC_fuel hk ht c (i + 1) _ (by rw [e, Int.mul_add, Int.mul_one]; omega) (by rw [e, Int.mul_add, Int.mul_one]; simp only [List.length_cons] at h1; omega), e]
  omega
def newC (o : api_Instr) : Int := if o.Op = 22 then o.A else 0
theorem runC_heap {al : List Nat} {kn : List api_Cert} {x : api_Method} {rows : List types_Row} {ts : List Int} (hk : ∀ o, 0 ≤ (calC kn o).Heap ∧ (calC kn o).Heap ≤ 1048576) (ht : ∀ i, 0 ≤ ts.getD i 0 ∧ ts.getD i 0 ≤ 100000000) :
    ∀ (c : List api_Instr) (i : Nat) (s : api_Cert), (∀ o ∈ c, 0 ≤ newC o ∧ newC o ≤ 1048576) → 0 ≤ s.Heap → s.Heap + (c.length : Int) * 300000000000000 ≤ 4611686018427387904 → (runC al kn x rows ts c i s).Heap = s.Heap + sumC (fun i o => ts.getD i 0 * (newC o + (calC kn o).Heap)) c i
 | [], _, s, _, _, _ => by rw [runC, sumC, Int.add_zero]
 | o :: c, i, s, hn, h0, h1 => by
  obtain ⟨t0, t1⟩ := ht i
  obtain ⟨k0, k1⟩ := hk o
  obtain ⟨n0, n1⟩ := hn o (List.mem_cons_self ..)
  obtain ⟨m0, m1⟩ := mul_bd t0 t1 k0 k1
  obtain ⟨q0, q1⟩ := mul_bd t0 t1 n0 n1
  have e : (stepC al kn x (ts.getD i 0) (g rows i) o s).Heap = s.Heap + ts.getD i 0 * (newC o + (calC kn o).Heap) := by
   rw [Int.mul_add]
   unfold stepC calC newC at *
   simp only [List.length_cons] at h1
   split
   ·rename_i h30
    rw [if_pos h30] at m0 m1
    have h22 : ¬ o.Op = 22 := by omega
    simp only [if_neg h22, Int.mul_zero]
    rw [wrap_id (x := ts.getD i 0 * _) (by omega) (by omega), wrap_id (by omega) (by omega)]
    omega
   ·dsimp only [api_Cert.zero]
    by_cases h22 : o.Op = 22
    ·rw [if_pos h22] at q0 q1
     rw [if_pos h22, if_pos h22, wrap_id (x := ts.getD i 0 * _) (by omega) (by omega), wrap_id (by omega) (by omega)]; omega
    ·rw [if_neg h22, if_neg h22]; omega
  rw [runC, sumC, runC_heap hk ht c (i + 1) _ (fun o ho => hn o (List.mem_cons_of_mem _ ho)) (by rw [e, Int.mul_add]; omega) (by rw [e, Int.mul_add]; simp only [List.length_cons] at h1; omega), e]
  omega
theorem stepC_stack {al : List Nat} {kn : List api_Cert} {x : api_Method} {t : Int} {r : types_Row} {o : api_Instr} {s : api_Cert} : s.Stack ≤ (stepC al kn x t r o s).Stack ∧ (o.Op = 30 → r.Reached = true → highC x r (al.getD o.A.toNat 0) (kn.getD o.A.toNat api_Cert.zero) ≤ (stepC al kn x t r o s).Stack) := by
 unfold stepC
 split
 ·rename_i h30
  dsimp only
  split
  ·rename_i h; exact ⟨by omega, fun _ _ => by omega⟩
  ·rename_i h
   exact ⟨by omega, fun _ hr => Int.not_lt.1 fun z => h ⟨hr, z⟩⟩
 ·rename_i h30; exact ⟨by dsimp only; omega, fun h => absurd h h30⟩
theorem runC_stack {al : List Nat} {kn : List api_Cert} {x : api_Method} {rows : List types_Row} {ts : List Int} : ∀ (c : List api_Instr) (i : Nat) (s : api_Cert), s.Stack ≤ (runC al kn x rows ts c i s).Stack ∧
    ∀ j (h : j < c.length), c[j].Op = 30 → (g rows (i + j)).Reached = true → highC x (g rows (i + j)) (al.getD c[j].A.toNat 0) (kn.getD c[j].A.toNat api_Cert.zero) ≤ (runC al kn x rows ts c i s).Stack
 | [], i, s => ⟨by rw [runC]; omega, fun j h => absurd h (by simp)⟩
 | o :: c, i, s => by
  obtain ⟨a1, a2⟩ := stepC_stack (al := al) (kn := kn) (x := x) (t := ts.getD i 0) (r := g rows i) (o := o) (s := s)
  obtain ⟨b1, b2⟩ := runC_stack (al := al) (kn := kn) (x := x) (rows := rows) (ts := ts) c (i + 1) (stepC al kn x (ts.getD i 0) (g rows i) o s)
  rw [runC]
  refine ⟨by omega, fun j h h30 hr => ?_⟩
  cases j with
  | zero => have := a2 h30 hr; simp only [List.getElem_cons_zero, Nat.add_zero] at *; omega
  | succ j =>
   have := b2 j (by simpa using h) (by simpa using h30) (by rw [show i + 1 + j = i + (j + 1) by omega]; exact hr)
   rw [show i + 1 + j = i + (j + 1) by omega] at this
   simpa using this
theorem sumC_snoc {f : Nat → api_Instr → Int} {o : api_Instr} : ∀ (c : List api_Instr) (i : Nat), sumC f (c ++ [o]) i = sumC f c i + f (i + c.length) o
 | [], i => by simp [sumC]
 | a :: c, i => by
  rw [List.cons_append, sumC, sumC, sumC_snoc c (i + 1), show i + 1 + c.length = i + (a :: c).length by simp; omega]; omega
theorem sumC_to {f : Nat → api_Instr → Int} {c : List api_Instr} (d : api_Instr) : ∀ n, n ≤ c.length → sumC f (c.take n) 0 = sumTo (fun p => f p (c.getD p d)) n
 | 0, _ => by simp [sumC, sumTo]
 | n + 1, h => by
  have hn : n < c.length := by omega
  rw [List.take_add_one, List.getElem?_eq_getElem hn, Option.toList_some, sumC_snoc, sumC_to d n (by omega), sumTo]
  rw [List.length_take, Nat.min_eq_left (by omega), Nat.zero_add, List.getD_eq_getElem?_getD, List.getElem?_eq_getElem hn]; rfl
theorem sumC_all {f : Nat → api_Instr → Int} {c : List api_Instr} (d : api_Instr) : sumC f c 0 = sumTo (fun p => f p (c.getD p d)) c.length := by
 have := sumC_to (f := f) (c := c) d c.length (Nat.le_refl _)
 rwa [List.take_length] at this
theorem tms_at {l : List api_Instr} (hk : Known l) (hf : Fine l) {p : Nat} (hp : p < l.length) : (tms l).getD p 0 = fullT (turns l) (ar l p) := by
 rw [← (tm_full hk hf hp).1]
 simp [tms, List.getD_eq_getElem?_getD, hp]
theorem tms_bd {l : List api_Instr} (hk : Known l) (hf : Fine l) (i : Nat) : 0 ≤ (tms l).getD i 0 ∧ (tms l).getD i 0 ≤ 100000000 := by
 by_cases h : i < l.length
 ·rw [tms_at hk hf h]
  have := full_pos (run_lps hk hf) (ar l i) (around hf i).mem
  exact ⟨by omega, (tm_full hk hf h).2⟩
 ·rw [List.getD_eq_getElem?_getD, List.getElem?_eq_none (by simp [tms]; omega)]; simp
theorem one_fuel {al : List Nat} {kn : List api_Cert} {x : api_Method} {rows : List types_Row} (hK : Known x.Code) (hF : Fine x.Code) (hk : ∀ o, 0 ≤ (calC kn o).Fuel ∧ (calC kn o).Fuel ≤ 1048576) (d : api_Instr) :
    (oneC al kn x rows).Fuel = sumTo (fun p => fullT (turns x.Code) (ar x.Code p) * (1 + (calC kn (x.Code.getD p d)).Fuel)) x.Code.length := by
 have hl : x.Code.length ≤ 200 := hK.2.1
 unfold oneC
 rw [runC_fuel hk (tms_bd hK hF) x.Code 0 _ (by simp) (by dsimp only; omega), sumC_all d]
 dsimp only
 rw [Int.zero_add]
 exact sumTo_congr _ fun p hp => by rw [tms_at hK hF hp]
theorem one_heap {al : List Nat} {kn : List api_Cert} {x : api_Method} {rows : List types_Row} (hK : Known x.Code) (hF : Fine x.Code) (hn : ∀ o ∈ x.Code, 0 ≤ newC o ∧ newC o ≤ 1048576) (hk : ∀ o, 0 ≤ (calC kn o).Heap ∧ (calC kn o).Heap ≤ 1048576) (d : api_Instr) :
    (oneC al kn x rows).Heap = sumTo (fun p => fullT (turns x.Code) (ar x.Code p) * (newC (x.Code.getD p d) + (calC kn (x.Code.getD p d)).Heap)) x.Code.length := by
 have hl : x.Code.length ≤ 200 := hK.2.1
 unfold oneC
 rw [runC_heap hk (tms_bd hK hF) x.Code 0 _ hn (by simp) (by dsimp only; omega), sumC_all d]
 dsimp only
 rw [Int.zero_add]
 exact sumTo_congr _ fun p hp => by rw [tms_at hK hF hp]
end CostPure
namespace CostPure
open FlowPure TypesPure CallsPure
def lf (s : List Int) (i : Nat) : Int := s.getD i 0
theorem lf_elt {s : List Int} {i : Nat} (h : i < s.length) : elt s (i : Int) = some (lf s i) := by
 rw [elt_lt h]; unfold lf; rw [List.getD_eq_getElem?_getD, List.getElem?_eq_getElem h]; rfl
theorem lf_set {s : List Int} {i j : Nat} {v : Int} (h : i < s.length) : lf (s.set i v) j = if j = i then v else lf s j := by
 unfold lf
 rw [List.getD_eq_getElem?_getD, List.getD_eq_getElem?_getD, List.getElem?_set]
 by_cases e : i = j
 ·subst e; rw [if_pos rfl, if_pos h, if_pos rfl]; rfl
 ·rw [if_neg e, if_neg (Ne.symm e)]
structure Mv (l : List api_Instr) (s : List Int) (a : Nat) (s2 : List Int) (b : Nat) : Prop where
 ln : s2.length = s.length
 live : Live (RL (KK l) l.length) (turns l) (lf s2) b
 rem : ∀ p, p < l.length → remT (turns l) (lf s2) p b (ar l p) + at1 b p = remT (turns l) (lf s) p a (ar l p)
 way : (b : Int) ∈ FlowPure.ways l a
theorem way_next {l : List api_Instr} {a : Nat} (ha : a < l.length) (h : l[a].Op ≠ 31 ∧ l[a].Op ≠ 32 ∧ l[a].Op ≠ 26) : ((a + 1 : Nat) : Int) ∈ FlowPure.ways l a := by
 unfold FlowPure.ways
 rw [List.getElem?_eq_getElem ha]
 dsimp only
 rw [if_neg (by omega), if_neg h.2.2]
 split
 ·split
  ·rename_i e; rw [e]; simp
  ·simp
 ·split <;> simp
section
variable {l : List api_Instr} {s : List Int} {a : Nat} (hk : Known l) (hf : Fine l) (ha : a < l.length) (hs : s.length = l.length) (hl : Live (RL (KK l) l.length) (turns l) (lf s) a)
include hk hf ha
theorem mv_loop1 : ∀ x ∈ RL (KK l) l.length, x.1 = a → l[a].Op = 28 := by
 intro x hx e
 have px := (mem_RL x).1 hx
 exact (loop_iff ha).1 (e ▸ px.2.2.1)
theorem mv_again1 : ∀ x ∈ RL (KK l) l.length, x.2 = a → l[a].Op = 29 ∧ l[a].A = (x.1 : Int) := by
 intro x hx e
 have px := (mem_RL x).1 hx
 exact (again_iff ha hk.2.2).1 (e ▸ px.2.2.2)
theorem mv_back1 (h29 : l[a].Op = 29) : 0 ≤ l[a].A ∧ l[a].A < a ∧ (l[a].A.toNat, a) ∈ RL (KK l) l.length := by
 have hm := hk.2.2 _ (List.getElem_mem ha)
 have hp := may_place hm (.inr (.inr h29))
 have hkk : KK l a = .again l[a].A.toNat := (again_iff ha hk.2.2).2 ⟨h29, by omega⟩
 obtain ⟨o1, o2⟩ := run_pairs hf.1
 obtain ⟨b1, b2⟩ := o2 a _ ha hkk
 have hx := (mem_RL (l[a].A.toNat, a)).2 ⟨b1, ha, b2, hkk⟩
 have := (run_lps hk hf).lt _ hx
 dsimp only at this
 exact ⟨hp.1, by omega, hx⟩
include hl
theorem mv_next (h28 : l[a].Op ≠ 28) (h29 : l[a].Op ≠ 29) (hw : l[a].Op ≠ 31 ∧ l[a].Op ≠ 32 ∧ l[a].Op ≠ 26) : Mv l s a s (a + 1) := by
 have L := run_lps hk hf
 refine ⟨rfl, fun x hx x1 x2 => ?_, fun p hp => ?_, way_next ha hw⟩
 ·have : x.1 ≠ a := fun e => h28 (mv_loop1 hk hf ha x hx e)
  exact hl x hx (by omega) (by omega)
 ·rw [rem_next (p := p) (G := lf s) (F := lf s) (a := a) L (fun x hx e => absurd (mv_loop1 hk hf ha x hx e) h28) (fun x hx _ _ => rfl) (fun x hx e => absurd (mv_again1 hk hf ha x hx e).1 h29) _ (around hf p)]
include hs
theorem mv_turn (h28 : l[a].Op = 28) : Mv l s a (s.set a l[a].A) (a + 1) := by
 have L := run_lps hk hf
 have hA := may_turns (hk.2.2 _ (List.getElem_mem ha)) h28
 have hTa : turns l a = l[a].A := turns_at ha
 have hal : a < s.length := by omega
 refine ⟨by simp, fun x hx x1 x2 => ?_, fun p hp => ?_, way_next ha (by omega)⟩
 ·rw [lf_set hal]
  by_cases e : x.1 = a
  ·rw [if_pos e, e, hTa]; omega
  ·rw [if_neg e]; exact hl x hx (by omega) (by omega)
 ·rw [rem_next (p := p) (G := lf (s.set a l[a].A)) (F := lf s) (a := a) L (fun x hx e => by rw [lf_set hal, if_pos rfl, hTa]) (fun x hx x1 x2 => by rw [lf_set hal, if_neg (by omega)]) (fun x hx e => by have := (mv_again1 hk hf ha x hx e).1; omega) _ (around hf p)]
theorem mv_again (h29 : l[a].Op = 29) : 1 ≤ lf s l[a].A.toNat ∧ lf s l[a].A.toNat ≤ 100 ∧ (lf s l[a].A.toNat - 1 > 0 → Mv l s a (s.set l[a].A.toNat (lf s l[a].A.toNat - 1)) (l[a].A.toNat + 1)) ∧
    (¬ lf s l[a].A.toNat - 1 > 0 → Mv l s a (s.set l[a].A.toNat (lf s l[a].A.toNat - 1)) (a + 1)) := by
 have L := run_lps hk hf
 obtain ⟨b1, b2, b3⟩ := mv_back1 hk hf ha h29
 have hb : l[a].A.toNat < s.length := by omega
 have lv := hl _ b3 (by dsimp only; omega) (Nat.le_refl _)
 dsimp only at lv
 have tb : turns l l[a].A.toNat ≤ 100 := by
  have px := (mem_RL _).1 b3
  rw [turns_at px.1]
  exact (may_turns (hk.2.2 _ (List.getElem_mem px.1)) ((loop_iff px.1).1 px.2.2.1)).2.1
 have h28 : l[a].Op ≠ 28 := by omega
 refine ⟨lv.1, by omega, fun hpos => ?_, fun hpos => ?_⟩
 ·refine ⟨by simp, fun x hx x1 x2 => ?_, fun p hp => ?_, ?_⟩
  ·rw [lf_set hb]
   by_cases e : x.1 = l[a].A.toNat
   ·rw [if_pos e, e]; omega
   ·rw [if_neg e]
    have := L.nest x hx _ b3 (by dsimp only; omega) (by dsimp only; omega)
    dsimp only at this
    exact hl x hx (by omega) (by omega)
  ·have eq := rem_back (p := p) (G := lf (s.set l[a].A.toNat (lf s l[a].A.toNat - 1))) (F := lf s) L b3 (by rw [lf_set hb, if_pos rfl]) (fun y hy hne => by rw [lf_set hb, if_neg (fun e => hne (L.one y hy _ b3 (.inl e)))]) _ (around hf p) (fun x1 x2 => mem_ar b3 x1 x2)
   dsimp only at eq
   rw [eq]
  ·unfold FlowPure.ways
   rw [List.getElem?_eq_getElem ha]
   dsimp only
   rw [if_neg (by omega), if_neg (by omega), if_neg (by omega), if_pos h29, show ((l[a].A.toNat + 1 : Nat) : Int) = l[a].A + 1 by omega]
   simp
 ·have hone : lf s l[a].A.toNat = 1 := by omega
  have hx1 : ∀ x ∈ RL (KK l) l.length, x.1 = l[a].A.toNat → x.2 = a := fun x hx e => by
   have := L.one x hx _ b3 (.inl e); rw [this]
  refine ⟨by simp, fun x hx x1 x2 => ?_, fun p hp => ?_, way_next ha (by omega)⟩
  ·have n1 : x.1 ≠ a := fun e => h28 (mv_loop1 hk hf ha x hx e)
   rw [lf_set hb, if_neg (fun e => by have := hx1 x hx e; omega)]
   exact hl x hx (by omega) (by omega)
  ·rw [rem_next (p := p) (G := lf (s.set l[a].A.toNat (lf s l[a].A.toNat - 1))) (F := lf s) (a := a) L (fun x hx e => absurd (mv_loop1 hk hf ha x hx e) h28) (fun x hx x1 x2 => by rw [lf_set hb, if_neg (fun e => by have := hx1 x hx e; omega)]) (fun x hx e => by
    have := (mv_again1 hk hf ha x hx e).2
    have e6 : x.1 = l[a].A.toNat := by omega
    rw [e6]; exact hone) _ (around hf p)]
end
end CostPure
namespace CostPure
open FlowPure TypesPure CallsPure
structure Fr where
 k : Nat
 a : Nat
 s : List Int
noncomputable def codeM (m : api_Module) (k : Nat) : List api_Instr := (methM m k).Code
noncomputable def rowM (m : api_Module) (k : Nat) : List types_Row := (rowsM m k).1
theorem sumTo_sum {f g : Nat → Int} : ∀ n, sumTo (fun p => f p + g p) n = sumTo f n + sumTo g n
 | 0 => by simp [sumTo]
 | n + 1 => by simp only [sumTo, sumTo_sum n]; omega
theorem sumTo_pick {w : Nat → Int} {a : Nat} : ∀ n, sumTo (fun p => at1 a p * w p) n = if a < n then w a else 0
 | 0 => by simp [sumTo]
 | n + 1 => by
  simp only [sumTo, sumTo_pick n]
  unfold at1
  by_cases h1 : a = n
  ·subst h1; rw [if_neg (by omega), if_pos rfl, if_pos (by omega)]; omega
  ·rw [if_neg h1]
   by_cases h2 : a < n
   ·rw [if_pos h2, if_pos (by omega)]; omega
   ·rw [if_neg h2, if_neg (by omega)]; omega
theorem sumTo_nonneg {f : Nat → Int} : ∀ n, (∀ p, p < n → 0 ≤ f p) → 0 ≤ sumTo f n
 | 0, _ => by simp [sumTo]
 | n + 1, h => by
  have := sumTo_nonneg n (fun p hp => h p (by omega))
  have := h n (by omega)
  simp only [sumTo]; omega
section
variable (m : api_Module) (w : Nat → Nat → Int)
noncomputable def rem (f : Fr) : Int := sumTo (fun p => remT (turns (codeM m f.k)) (lf f.s) p f.a (ar (codeM m f.k) p) * w f.k p) (codeM m f.k).length
noncomputable def rest (f : Fr) : Int := rem m w f + w f.k f.a
noncomputable def remS : List Fr → Int
 | [] => 0
 | f :: r => rem m w f + remS r
noncomputable def full (k : Nat) : Int := sumTo (fun p => fullT (turns (codeM m k)) (ar (codeM m k) p) * w k p) (codeM m k).length
theorem remS_snoc (f : Fr) : ∀ l, remS m w (l ++ [f]) = remS m w l + rem m w f
 | [] => by simp [remS]
 | g :: l => by rw [List.cons_append, remS, remS, remS_snoc f l]; omega
end
structure Cx (m : api_Module) (L : List api_Cert) : Prop where
 M : m.Methods.length ≤ 40
 well : ∀ k, k < m.Methods.length → Well (envOf m (methM m k)) (codeM m k)
 told : ∀ k, k < m.Methods.length → TypesPure.Told (envOf m (methM m k)) (codeM m k) (rowM m k)
 eqn : ∀ k, k < m.Methods.length → L.getD k api_Cert.zero = oneC (alens m) L (methM m k) (rowM m k)
 rng : ∀ k, (0 ≤ (L.getD k api_Cert.zero).Fuel ∧ (L.getD k api_Cert.zero).Fuel ≤ 1048576) ∧ (0 ≤ (L.getD k api_Cert.zero).Stack ∧ (L.getD k api_Cert.zero).Stack ≤ 256) ∧ 0 ≤ (L.getD k api_Cert.zero).Heap ∧ (L.getD k api_Cert.zero).Heap ≤ 1024
 sz : ∀ k, k < m.Methods.length → (methM m k).Args.length ≤ 100 ∧ (methM m k).Locals.length ≤ 100
 call : ∀ k, k < m.Methods.length → ∀ o ∈ codeM m k, o.Op = 30 → 0 ≤ o.A ∧ o.A < m.Methods.length
structure Ok (m : api_Module) (f : Fr) : Prop where
 k : f.k < m.Methods.length
 a : f.a < (codeM m f.k).length
 re : (g (rowM m f.k) f.a).Reached = true
 ln : f.s.length = (codeM m f.k).length
 live : Live (RL (KK (codeM m f.k)) (codeM m f.k).length) (turns (codeM m f.k)) (lf f.s) f.a
def opAt (m : api_Module) (k p : Nat) : api_Instr := (methM m k).Code.getD p api_Instr.zero
def calAt (m : api_Module) (L : List api_Cert) (k p : Nat) : api_Cert := calC L (opAt m k p)
def W1 (m : api_Module) (L : List api_Cert) (k p : Nat) : Int := 1 + (calAt m L k p).Fuel
def W2 (m : api_Module) (L : List api_Cert) (k p : Nat) : Int := newC (opAt m k p) + (calAt m L k p).Heap
theorem opAt_lt {m : api_Module} {k p : Nat} (h : p < (codeM m k).length) : opAt m k p = (codeM m k)[p] := by
 unfold opAt codeM at *
 rw [List.getD_eq_getElem?_getD, List.getElem?_eq_getElem h]; rfl
theorem may_new {i : api_Instr} (h : may i = true) (ho : i.Op = 22) : 0 ≤ i.A ∧ i.A ≤ 1048576 := by
 unfold may at h
 have e : ∃ b, op_Bounds.f i.Op = some b ∧ 0 ≤ b.1 ∧ b.2 ≤ 1048576 := by rw [ho]; exact ⟨_, rfl, by decide +kernel, by decide +kernel⟩
 obtain ⟨b, e, h0, h1⟩ := e
 rw [e] at h
 simp at h; omega
section
variable {m : api_Module} {L : List api_Cert} (X : Cx m L)
include X
theorem cal_bd (o : api_Instr) : (0 ≤ (calC L o).Fuel ∧ (calC L o).Fuel ≤ 1048576) ∧ 0 ≤ (calC L o).Heap ∧ (calC L o).Heap ≤ 1048576 := by
 unfold calC
 split
 ·have := X.rng o.A.toNat; omega
 ·simp [api_Cert.zero]
theorem new_bd {k : Nat} (hk : k < m.Methods.length) {o : api_Instr} (ho : o ∈ codeM m k) : 0 ≤ newC o ∧ newC o ≤ 1048576 := by
 unfold newC
 split
 ·rename_i h; exact may_new ((X.well k hk).known.2.2 o ho) h
 ·omega
theorem W1_pos {k p : Nat} : 1 ≤ W1 m L k p := by have := cal_bd X (opAt m k p); unfold W1 calAt; omega
theorem W2_nonneg {k p : Nat} (hk : k < m.Methods.length) (hp : p < (codeM m k).length) : 0 ≤ W2 m L k p := by
 have := cal_bd X (opAt m k p)
 have := new_bd X hk (show opAt m k p ∈ codeM m k by rw [opAt_lt hp]; exact List.getElem_mem hp)
 unfold W2 calAt; omega
theorem full_fuel {k : Nat} (hk : k < m.Methods.length) : (L.getD k api_Cert.zero).Fuel = full m (W1 m L) k := by
 have W := X.well k hk
 rw [X.eqn k hk, one_fuel W.known W.fine (fun o => (cal_bd X o).1) api_Instr.zero]; rfl
theorem full_heap {k : Nat} (hk : k < m.Methods.length) : (L.getD k api_Cert.zero).Heap = full m (W2 m L) k := by
 have W := X.well k hk
 rw [X.eqn k hk, one_heap W.known W.fine (fun o ho => new_bd X hk ho) (fun o => (cal_bd X o).2) api_Instr.zero]; rfl
theorem rem_pos {w : Nat → Nat → Int} {f : Fr} (O : Ok m f) (hw : ∀ p, p < (codeM m f.k).length → 0 ≤ w f.k p) : 0 ≤ rem m w f := by
 have W := X.well f.k O.k
 refine sumTo_nonneg _ fun p hp => Int.mul_nonneg (rem_nonneg (run_lps W.known W.fine) O.live _ (around W.fine p)) (hw p hp)
theorem rest_mv {w : Nat → Nat → Int} {f : Fr} {b : Nat} {s2 : List Int} (O : Ok m f) (hw : ∀ p, p < (codeM m f.k).length → 0 ≤ w f.k p) (h : Mv (codeM m f.k) f.s f.a s2 b) : Ok m ⟨f.k, b, s2⟩ ∧ rest m w ⟨f.k, b, s2⟩ = rem m w f := by
 have W := X.well f.k O.k
 have T := X.told f.k O.k
 have hf := ways_facts W.known W.fine O.a
 obtain ⟨i, hi, e⟩ := List.mem_iff_getElem.1 h.way
 obtain ⟨w0, w1, -⟩ := hf.2.2 i hi
 have hb : b < (codeM m f.k).length := by rw [e] at w1; omega
 have hr := (T.done f.a O.a O.re).2 _ h.way
 refine ⟨⟨O.k, hb, by dsimp only; rw [show ((b : Int)).toNat = b from rfl] at hr; rw [hr], by dsimp only; rw [h.ln]; exact O.ln, h.live⟩, ?_⟩
 have e1 : rest m w ⟨f.k, b, s2⟩ = sumTo (fun p => (remT (turns (codeM m f.k)) (lf s2) p b (ar (codeM m f.k) p) + at1 b p) * w f.k p) (codeM m f.k).length := by
  unfold rest rem
  dsimp only
  have := sumTo_pick (w := w f.k) (a := b) (codeM m f.k).length
  rw [if_pos hb] at this
  rw [← this, ← sumTo_sum]
  exact sumTo_congr _ fun p hp => by rw [Int.add_mul]
 rw [e1]
 exact sumTo_congr _ fun p hp => by rw [h.rem p hp]
theorem rem_last {w : Nat → Nat → Int} {f : Fr} (O : Ok m f) (h1 : f.a + 1 = (codeM m f.k).length) (h31 : (opAt m f.k f.a).Op = 31) : rem m w f = 0 := by
 have W := X.well f.k O.k
 have h : ∀ p, p < (codeM m f.k).length → remT (turns (codeM m f.k)) (lf f.s) p f.a (ar (codeM m f.k) p) = 0 := by
  intro p hp
  have A := around W.fine p
  cases hs : ar (codeM m f.k) p with
  | nil => unfold remT; rw [if_neg (by omega)]
  | cons x s =>
   rw [hs] at A
   have px := (mem_RL x).1 (A.mem x (by simp))
   have lt := (run_lps W.known W.fine).lt x (A.mem x (by simp))
   have ne : x.2 ≠ f.a := fun e => by
    have h29 := (mv_again1 W.known W.fine O.a x (A.mem x (by simp)) e).1
    rw [← opAt_lt O.a] at h29; omega
   have := px.2.1
   unfold remT
   rw [if_neg (by omega), if_pos (by omega)]
 unfold rem
 rw [show sumTo (fun p => remT (turns (codeM m f.k)) (lf f.s) p f.a (ar (codeM m f.k) p) * w f.k p) (codeM m f.k).length = sumTo (fun _ => 0) (codeM m f.k).length from sumTo_congr _ fun p hp => by rw [h p hp, Int.zero_mul]]
 generalize (codeM m f.k).length = n
 induction n with
 | zero => rfl
 | succ n ih => rw [sumTo, ih]; rfl
theorem rest_start {w : Nat → Nat → Int} {k : Nat} (hk : k < m.Methods.length) : Ok m ⟨k, 0, List.replicate (codeM m k).length 0⟩ ∧ rest m w ⟨k, 0, List.replicate (codeM m k).length 0⟩ = full m w k := by
 have W := X.well k hk
 have T := X.told k hk
 have h1 : 0 < (codeM m k).length := W.known.1
 refine ⟨⟨hk, h1, by dsimp only; rw [T.r0], by simp, fun x hx x1 x2 => by dsimp only at x1; omega⟩, ?_⟩
 have e1 : rest m w ⟨k, 0, List.replicate (codeM m k).length 0⟩ = sumTo (fun p => (remT (turns (codeM m k)) (lf (List.replicate (codeM m k).length 0)) p 0 (ar (codeM m k) p) + at1 0 p) * w k p) (codeM m k).length := by
  unfold rest rem
  dsimp only
  have := sumTo_pick (w := w k) (a := 0) (codeM m k).length
  rw [if_pos h1] at this
  rw [← this, ← sumTo_sum]
  exact sumTo_congr _ fun p hp => by rw [Int.add_mul]
 rw [e1]
 refine sumTo_congr _ fun p hp => ?_
 congr 1
 have on := (around W.fine p).on
 cases hs : ar (codeM m k) p with
 | nil =>
  unfold remT at1 fullT
  by_cases e : 0 < p
  ·rw [if_pos e, if_neg (by omega)]; rfl
  ·rw [if_neg e, if_pos (by omega)]; rfl
 | cons x s =>
  have := on x (by rw [hs]; simp)
  unfold remT at1
  rw [if_pos (Nat.zero_le _), if_neg (by omega)]
  simp only [fullT]; omega
end
def Ch (m : api_Module) : Nat → List Fr → Prop
 | _, [] => False
 | k, [f] => Ok m f ∧ f.k = k
 | k, f :: h :: r => (Ok m f ∧ f.k = k) ∧ (opAt m f.k f.a).Op = 30 ∧ Ch m (opAt m f.k f.a).A.toNat (h :: r)
theorem ch_first {m : api_Module} {k : Nat} {f : Fr} {r : List Fr} (h : Ch m k (f :: r)) : Ok m f ∧ f.k = k := by
 cases r with
 | nil => exact h
 | cons g r => exact h.1
theorem ch_ok {m : api_Module} : ∀ {r : List Fr} {k : Nat}, Ch m k r → ∀ f ∈ r, Ok m f
 | [], _, h, _, hf => by cases hf
 | [f], _, h, x, hx => by rw [List.mem_singleton] at hx; subst hx; exact h.1
 | f :: g :: r, k, h, x, hx => by
  rcases List.mem_cons.1 hx with rfl | hx
  ·exact h.1.1
  ·exact ch_ok h.2.2 x hx
theorem ch_set {m : api_Module} {f f2 : Fr} (h2 : Ok m f2) (hk : f2.k = f.k) : ∀ {r : List Fr} {k : Nat}, Ch m k (r ++ [f]) → Ch m k (r ++ [f2])
 | [], _, h => ⟨h2, by rw [hk]; exact h.2⟩
 | [x], _, h => ⟨h.1, h.2.1, h2, by rw [hk]; exact h.2.2.2⟩
 | x :: y :: r, _, h => ⟨h.1, h.2.1, ch_set (r := y :: r) h2 hk h.2.2⟩
theorem ch_push {m : api_Module} {f f2 : Fr} (h2 : Ok m f2) (h30 : (opAt m f.k f.a).Op = 30) (hk : f2.k = (opAt m f.k f.a).A.toNat) : ∀ {r : List Fr} {k : Nat}, Ch m k (r ++ [f]) → Ch m k (r ++ [f, f2])
 | [], _, h => ⟨h, h30, h2, hk⟩
 | [x], _, h => ⟨h.1, h.2.1, h.2.2, h30, h2, hk⟩
 | x :: y :: r, _, h => ⟨h.1, h.2.1, ch_push (r := y :: r) h2 h30 hk h.2.2⟩
theorem ch_pop {m : api_Module} {f f2 : Fr} : ∀ {r : List Fr} {k : Nat}, Ch m k (r ++ [f, f2]) → Ch m k (r ++ [f]) ∧ (opAt m f.k f.a).Op = 30
 | [], _, h => ⟨h.1, h.2.1⟩
 | [x], _, h => ⟨⟨h.1, h.2.1, h.2.2.1⟩, h.2.2.2.1⟩
 | x :: y :: r, _, h => by
  obtain ⟨a, b⟩ := ch_pop (r := y :: r) h.2.2
  exact ⟨⟨h.1, h.2.1, a⟩, b⟩
noncomputable def own (m : api_Module) (f : Fr) : Int := ((methM m f.k).Args.length : Int) + ((methM m f.k).Locals.length : Int) + ((g (rowM m f.k) f.a).Kinds.length : Int)
noncomputable def argsOf (m : api_Module) (k : Nat) : Int := ((methM m k).Args.length : Int)
noncomputable def highS (m : api_Module) : List Fr → Int
 | [] => 0
 | [f] => own m f
 | f :: h :: r => own m f - argsOf m (opAt m f.k f.a).A.toNat + highS m (h :: r)
theorem alens_at (m : api_Module) (j : Nat) : ((alens m).getD j 0 : Nat) = (methM m j).Args.length := by
 unfold alens methM
 rw [List.getD_eq_getElem?_getD, List.getD_eq_getElem?_getD, List.getElem?_map]
 cases m.Methods[j]? <;> rfl
section
variable {m : api_Module} {L : List api_Cert} (X : Cx m L)
include X
theorem kinds_le {k : Nat} (hk : k < m.Methods.length) (p : Nat) : (g (rowM m k) p).Kinds.length ≤ 400 := by
 have T := X.told k hk
 by_cases hp : p < (rowM m k).length
 ·rw [g_lt hp]; exact T.sz _ (List.getElem_mem hp)
 ·unfold g; simp [List.getElem?_eq_none (show (rowM m k).length ≤ p by omega), R0, types_Row.zero]
theorem own_bd {f : Fr} (O : Ok m f) : 0 ≤ own m f ∧ own m f ≤ 600 := by
 have := X.sz f.k O.k
 have := kinds_le X O.k f.a
 unfold own; omega
theorem own_stack {f : Fr} (O : Ok m f) : own m f ≤ (L.getD f.k api_Cert.zero).Stack ∧ ((opAt m f.k f.a).Op = 30 → own m f - argsOf m (opAt m f.k f.a).A.toNat + (L.getD (opAt m f.k f.a).A.toNat api_Cert.zero).Stack ≤ (L.getD f.k api_Cert.zero).Stack) := by
 have T := X.told f.k O.k
 have hr : f.a < (rowM m f.k).length := by rw [T.len]; exact O.a
 have hH := H_ge (rowM m f.k) (rowM m f.k).length f.a hr
 rw [X.eqn f.k O.k]
 unfold oneC
 obtain ⟨a1, a2⟩ := runC_stack (al := alens m) (kn := L) (x := methM m f.k) (rows := rowM m f.k) (ts := tms (methM m f.k).Code) (methM m f.k).Code 0 ⟨0, ((methM m f.k).Args.length : Int) + ((methM m f.k).Locals.length : Int) + H (rowM m f.k) (rowM m f.k).length, 0⟩
 refine ⟨by unfold own; dsimp only at a1; omega, fun h30 => ?_⟩
 have hc : f.a < (methM m f.k).Code.length := O.a
 have ho : opAt m f.k f.a = (methM m f.k).Code[f.a] := opAt_lt O.a
 have := a2 f.a hc (by rw [← ho]; exact h30) (by rw [Nat.zero_add]; exact O.re)
 rw [Nat.zero_add, ← ho] at this
 refine Int.le_trans ?_ this
 have s1 := X.sz f.k O.k
 have k1 := kinds_le X O.k f.a
 have c1 := X.call f.k O.k _ (show opAt m f.k f.a ∈ codeM m f.k by rw [ho]; exact List.getElem_mem hc) h30
 have s2 := X.sz (opAt m f.k f.a).A.toNat (by omega)
 have r1 := X.rng (opAt m f.k f.a).A.toNat
 unfold highC own argsOf
 rw [alens_at]
 generalize (L.getD (opAt m f.k f.a).A.toNat api_Cert.zero).Stack = q at r1
 generalize ((methM m (opAt m f.k f.a).A.toNat).Args.length) = c at s2
 rw [wrap_id (x := ((methM m f.k).Args.length : Int) + ((methM m f.k).Locals.length : Int)) (by omega) (by omega), wrap_id (x := ((methM m f.k).Args.length : Int) + ((methM m f.k).Locals.length : Int) + _) (by omega) (by omega), wrap_id (x := ((methM m f.k).Args.length : Int) + ((methM m f.k).Locals.length : Int) + _ - _) (by omega) (by omega), wrap_id (by omega) (by omega)]
 omega
theorem high_le : ∀ (r : List Fr) (k : Nat), Ch m k r → highS m r ≤ (L.getD k api_Cert.zero).Stack
 | [], _, h => h.elim
 | [f], k, h => by have := (own_stack X h.1).1; rw [h.2] at this; exact this
 | f :: g :: r, k, h => by
  have a := (own_stack X h.1.1).2 h.2.1
  have b := high_le (g :: r) _ h.2.2
  rw [h.1.2] at a
  rw [highS, ← h.1.2] at *
  omega
end
end CostPure
namespace CostPure
open FlowPure TypesPure CallsPure
theorem certs_len {one : List api_Cert → Nat → api_Cert} {fit : Nat → api_Cert → Bool} : ∀ (o : List Int) (l r : List api_Cert), certsC one fit o l = some r → r.length = l.length ∧ ∀ j : Nat, (j : Int) ∉ o → (∀ a ∈ o, 0 ≤ a) → r.getD j api_Cert.zero = l.getD j api_Cert.zero
 | [], l, r, h => by
  rw [certsC] at h; injection h with h; subst h; exact ⟨rfl, fun _ _ _ => rfl⟩
 | a :: o, l, r, h => by
  rw [certsC] at h
  split at h
  ·obtain ⟨h1, h2⟩ := certs_len o _ r h
   refine ⟨by rw [h1, List.length_set], fun j hj h0 => ?_⟩
   rw [h2 j (fun hh => hj (List.mem_cons_of_mem _ hh)) (fun b hb => h0 b (List.mem_cons_of_mem _ hb))]
   have hne : a.toNat ≠ j := fun e => hj (by have := h0 a (List.mem_cons_self ..); rw [show ((j : Nat) : Int) = a by omega]; exact List.mem_cons_self ..)
   rw [List.getD_eq_getElem?_getD, List.getD_eq_getElem?_getD, List.getElem?_set_ne hne]
  ·cases h
theorem certs_again {n : Nat} {one one2 : List api_Cert → Nat → api_Cert} {fit fit2 : Nat → api_Cert → Bool} (h1 : ∀ kn k, k < n → one2 kn k = one kn k) : ∀ (o : List Int) (l r : List api_Cert), l.length = n → (∀ a ∈ o, 0 ≤ a ∧ a < n) → o.Nodup → certsC one fit o l = some r →
    (∀ a ∈ o, fit a.toNat (r.getD a.toNat api_Cert.zero) = true) ∧ ((∀ a ∈ o, fit2 a.toNat (r.getD a.toNat api_Cert.zero) = true) → certsC one2 fit2 o l = some r) ∧ (∀ r2, certsC one2 fit2 o l = some r2 → r2 = r)
 | [], l, r, _, _, _, h => by
  rw [certsC] at h ⊢; exact ⟨fun _ h => absurd h (by simp), fun _ => h, fun r2 h2 => by rw [h] at h2; exact (Option.some.inj h2).symm⟩
 | a :: o, l, r, hl, ho, hn, h => by
  rw [certsC] at h
  split at h
  ·rename_i hf
   obtain ⟨a0, a1⟩ := ho a (List.mem_cons_self ..)
   have hno := (List.nodup_cons.1 hn)
   obtain ⟨g1, g2⟩ := certs_len o _ r h
   have hr : r.getD a.toNat api_Cert.zero = one l a.toNat := by
    rw [g2 a.toNat (by rw [show ((a.toNat : Nat) : Int) = a by omega]; exact hno.1) (fun b hb => (ho b (List.mem_cons_of_mem _ hb)).1)]
    rw [List.getD_eq_getElem?_getD, List.getElem?_set_self (by omega)]; rfl
   have ih := certs_again (fit2 := fit2) h1 o (l.set a.toNat (one l a.toNat)) r (by rw [List.length_set]; exact hl) (fun b hb => ho b (List.mem_cons_of_mem _ hb)) hno.2 h
   obtain ⟨i1, i2, i3⟩ := ih
   refine ⟨fun b hb => ?_, fun hall => ?_, fun r2 h2 => ?_⟩
   ·rcases List.mem_cons.1 hb with rfl | hb
    ·rw [hr]; exact hf
    ·exact i1 b hb
   ·rw [certsC, h1 _ _ (by omega), if_pos (by rw [← hr]; exact hall a (List.mem_cons_self ..))]
    exact i2 fun b hb => hall b (List.mem_cons_of_mem _ hb)
   ·rw [certsC, h1 _ _ (by omega)] at h2
    split at h2
    ·exact i3 r2 h2
    ·cases h2
  ·cases h
theorem ordN_nodup {W : List (List Int)} (hr : ∀ (out : List Int) (k : Nat), ready W out k = true → (k : Int) ∉ out) : ∀ (f : Nat) (out : List Int), out.Nodup → (ordN W f out).2 = 0 → (ordN W f out).1.Nodup
 | 0, _, h, _ => h
 | f + 1, out, h, h0 => by
  unfold ordN at h0 ⊢
  cases hn : nextOf W out with
  | none => rw [hn] at h0; simp at h0
  | some k =>
   rw [hn] at h0
   have hk := List.find?_some hn
   exact ordN_nodup hr f (out ++ [(k : Int)]) (List.nodup_append.2 ⟨h, by simp, by
    intro a ha b hb hab
    rw [List.mem_singleton] at hb; subst hb; subst hab
    exact hr _ _ hk ha⟩) h0
theorem covers {o : List Int} {n : Nat} (hl : o.length = n) (hn : o.Nodup) (ho : ∀ a ∈ o, 0 ≤ a ∧ a < (n : Int)) {k : Nat} (hk : k < n) : (k : Int) ∈ o := by
 refine Classical.byContradiction fun hk' => ?_
 have h1 : ((k : Int) :: o).Nodup := List.nodup_cons.2 ⟨hk', hn⟩
 have h2 : ((k : Int) :: o) ⊆ (List.range n).map fun j : Nat => (j : Int) := by
  intro a ha
  rcases List.mem_cons.1 ha with rfl | ha
  ·exact List.mem_map.2 ⟨k, List.mem_range.2 hk, rfl⟩
  ·obtain ⟨a0, a1⟩ := ho a ha
   exact List.mem_map.2 ⟨a.toNat, List.mem_range.2 (by omega), by omega⟩
 have := nodup_len _ _ h1 h2
 simp at this
 omega
end CostPure
namespace CostPure
open FlowPure TypesPure CallsPure
theorem ready_new {W : List (List Int)} (out : List Int) (k : Nat) (h : ready W out k = true) : (k : Int) ∉ out := by
 unfold ready at h
 rw [Bool.and_eq_true] at h
 exact of_decide_eq_true h.1
theorem certs_each {one : List api_Cert → Nat → api_Cert} {fit : Nat → api_Cert → Bool} : ∀ (o pre : List Int) (l r : List api_Cert), certsC one fit o l = some r → (pre ++ o).Nodup → (∀ a ∈ pre ++ o, 0 ≤ a) → (∀ a ∈ o, a.toNat < l.length) →
    ∀ i (h : i < o.length), ∃ kn, r.getD o[i].toNat api_Cert.zero = one kn o[i].toNat ∧ ∀ j : Nat, (j : Int) ∈ pre ++ o.take i → kn.getD j api_Cert.zero = r.getD j api_Cert.zero
 | [], _, _, _, _, _, _, _ => fun i h => absurd h (by simp)
 | a :: o, pre, l, r, h, hn, h0, hl => by
  intro i hi
  rw [certsC] at h
  split at h
  ·have e : pre ++ a :: o = (pre ++ [a]) ++ o := by simp
   have hlen := certs_len o _ r h
   rcases i with _ | i
   ·refine ⟨l, ?_, fun j hj => ?_⟩
    ·have hno : a ∉ o := (List.nodup_cons.1 (List.nodup_append.1 hn).2.1).1
     have ha := h0 a (by simp)
     have := hlen.2 a.toNat (by rw [show ((a.toNat : Nat) : Int) = a by omega]; exact hno) (fun b hb => h0 b (by simp [hb]))
     simp only [List.getElem_cons_zero]
     rw [this, List.getD_eq_getElem?_getD, List.getElem?_set_self (hl a (by simp))]; rfl
    ·simp only [List.take_zero, List.append_nil] at hj
     have hd := (List.nodup_append.1 hn).2.2
     have hjo : (j : Int) ∉ o := fun hh => hd _ hj _ (List.mem_cons_of_mem _ hh) rfl
     have hja : (j : Int) ≠ a := fun hh => hd _ hj _ (List.mem_cons_self ..) hh
     have ha := h0 a (by simp)
     have := hlen.2 j hjo (fun b hb => h0 b (by simp [hb]))
     rw [this, List.getD_eq_getElem?_getD, List.getD_eq_getElem?_getD, List.getElem?_set_ne (by omega)]
   ·obtain ⟨kn, k1, k2⟩ := certs_each o (pre ++ [a]) _ r h (by rw [← e]; exact hn) (by rw [← e]; exact h0) (fun b hb => by rw [List.length_set]; exact hl b (List.mem_cons_of_mem _ hb)) i (by simpa using hi)
    refine ⟨kn, by simpa using k1, fun j hj => k2 j ?_⟩
    simpa using hj
  ·cases h
theorem ordN_ready {W : List (List Int)} : ∀ (f : Nat) (out o : List Int), ordN W f out = (o, 0) → out <+: o ∧ ∀ i, out.length ≤ i → (h : i < o.length) → ∃ k : Nat, o[i] = (k : Int) ∧ ready W (o.take i) k = true
 | 0, out, o, h => by
  obtain rfl : out = o := (Prod.mk.inj h).1
  exact ⟨List.prefix_refl _, fun i h1 h2 => by omega⟩
 | f + 1, out, o, h => by
  unfold ordN at h
  cases hn : nextOf W out with
  | none => rw [hn] at h; simp at h
  | some k =>
   rw [hn] at h
   obtain ⟨p, q⟩ := ordN_ready f (out ++ [(k : Int)]) o h
   refine ⟨(List.prefix_append _ _).trans p, fun i h1 h2 => ?_⟩
   by_cases e : i = out.length
   ·subst e
    obtain ⟨t, rfl⟩ := p
    exact ⟨k, by simp, by rw [List.append_assoc, List.take_left]; exact List.find?_some hn⟩
   ·exact q i (by simp; omega) h2
theorem stepC_kn {al : List Nat} {kn kn2 : List api_Cert} {x : api_Method} {t : Int} {r : types_Row} {o : api_Instr} {s : api_Cert} (h : o.Op = 30 → kn.getD o.A.toNat api_Cert.zero = kn2.getD o.A.toNat api_Cert.zero) : stepC al kn x t r o s = stepC al kn2 x t r o s := by
 unfold stepC
 by_cases h30 : o.Op = 30
 ·rw [if_pos h30, if_pos h30, h h30]
 ·rw [if_neg h30, if_neg h30]
theorem runC_kn {al : List Nat} {kn kn2 : List api_Cert} {x : api_Method} {rows : List types_Row} {ts : List Int} : ∀ (c : List api_Instr) (i : Nat) (s : api_Cert), (∀ o ∈ c, o.Op = 30 → kn.getD o.A.toNat api_Cert.zero = kn2.getD o.A.toNat api_Cert.zero) → runC al kn x rows ts c i s = runC al kn2 x rows ts c i s
 | [], _, _, _ => rfl
 | o :: c, i, s, h => by
  rw [runC, runC, stepC_kn (h o (by simp)), runC_kn c (i + 1) _ fun o ho => h o (by simp [ho])]
theorem cx_of {m : api_Module} {L : List api_Cert} (hm : wf_api_Module m) (S : Small m) (h : costsC m = (L, 0)) : L.length = m.Methods.length ∧ Cx m L ∧ (∀ k, k < m.Methods.length → types_Rows.f m k = some (rowM m k, 0)) ∧ ∀ k, k < m.Methods.length → fitB (L.getD k api_Cert.zero) (methM m k) = true := by
 revert h
 unfold costsC
 by_cases hb : anyBad m = true
 ·rw [if_pos hb]; intro h; simp at h
 rw [if_neg hb]
 have hok := ordN_ok (W := whoms m) m.Methods.length [] (by simp)
 have hnd := ordN_nodup (W := whoms m) ready_new m.Methods.length [] (by simp)
 have hre := fun o => ordN_ready (W := whoms m) m.Methods.length [] o
 have hWl : (whoms m).length = m.Methods.length := by simp [whoms]
 generalize ordN (whoms m) m.Methods.length [] = oe at hok hnd hre
 obtain ⟨o, e⟩ := oe
 dsimp only at hok hnd hre ⊢
 by_cases he : e = 0
 case neg => rw [if_pos he]; intro h; exact absurd (Prod.mk.inj h).2 he
 subst he
 rw [if_neg (by simp)]
 by_cases hE : errM m = 0
 case neg => rw [if_pos hE]; intro h; exact absurd (Prod.mk.inj h).2 hE
 rw [if_neg (by simpa using hE)]
 obtain ⟨ho1, ho2⟩ := hok rfl
 have hnd := hnd rfl
 obtain ⟨-, hre⟩ := hre o rfl
 have hol : o.length = m.Methods.length := by simpa using ho1
 have hr : ∀ a ∈ o, 0 ≤ a ∧ a < (m.Methods.length : Int) := fun a ha => by have := ho2 a ha; rw [hWl] at this; exact this
 have hcov : ∀ k, k < m.Methods.length → (k : Int) ∈ o := fun k hk => covers hol hnd hr hk
 have hl0 : (List.replicate m.Methods.length api_Cert.zero).length = m.Methods.length := by simp
 cases hA : certsC (oneM m) (fun k c => fitB c (methM m k)) o (List.replicate m.Methods.length api_Cert.zero) with
 | none => intro h; simp at h
 | some L' =>
  intro h
  obtain rfl : L' = L := (Prod.mk.inj h).1
  obtain ⟨a1, -, -⟩ := certs_again (one2 := oneM m) (fit2 := fun k c => fitB c (methM m k)) (fun _ _ _ => rfl) o _ L' hl0 hr hnd hA
  have hL : L'.length = m.Methods.length := by rw [(certs_len o _ L' hA).1, hl0]
  have fits : ∀ k, k < m.Methods.length → fitB (L'.getD k api_Cert.zero) (methM m k) = true := fun k hk => by
   have := a1 _ (hcov k hk)
   rwa [Int.toNat_natCast] at this
  have hbk : ∀ k, k < m.Methods.length → ∀ o ∈ codeM m k, o.Op = 30 → 0 ≤ o.A ∧ o.A < m.Methods.length := by
   intro k hk i hi h30
   have hb1 : (nm m.Methods[k].Code).any (badN m.Methods.length) = false := by
    have := List.any_eq_false.1 (show (m.Methods.any fun x => (nm x.Code).any (badN m.Methods.length)) = false by simpa [anyBad] using hb) _ (List.getElem_mem hk)
    simpa using this
   unfold codeM at hi
   rw [methM_at hk] at hi
   have := List.any_eq_false.1 hb1 i.A (List.mem_map.2 ⟨i, List.mem_filter.2 ⟨hi, by simpa using h30⟩, rfl⟩)
   simp only [badN, Bool.or_eq_true, decide_eq_true_eq, not_or] at this
   omega
  have rows : ∀ k, k < m.Methods.length → Well (envOf m (methM m k)) (codeM m k) ∧ TypesPure.Told (envOf m (methM m k)) (codeM m k) (rowM m k) ∧ types_Rows.f m k = some (rowM m k, 0) := by
   intro k hk
   have h0 := errM_zero hE k hk
   rcases rows_cases (k := k) hm S with ⟨e, he, hR⟩ | ⟨x, rows, -, -, hx, -, W, -, hR, T⟩
   ·unfold rowsM at h0; rw [hR] at h0; exact absurd h0 he
   ·rw [elt_lt hk] at hx
    obtain rfl : m.Methods[k] = x := by simpa using hx
    have : rowM m k = rows := by unfold rowM rowsM; rw [hR]; rfl
    rw [this]
    unfold codeM
    rw [methM_at hk]
    exact ⟨W, T, hR⟩
  refine ⟨hL, ⟨S.M, fun k hk => (rows k hk).1, fun k hk => (rows k hk).2.1, fun k hk => ?_, fun k => ?_, fun k hk => ?_, hbk⟩, fun k hk => (rows k hk).2.2, fits⟩
  ·obtain ⟨i, hi, hik⟩ := List.mem_iff_getElem.1 (hcov k hk)
   obtain ⟨kn, k1, k2⟩ := certs_each o [] _ L' hA (by simpa using hnd) (fun a ha => (hr a (by simpa using ha)).1) (fun a ha => by have := hr a ha; rw [hl0]; omega) i hi
   obtain ⟨j, hj, hrd⟩ := hre i (by simp) hi
   obtain rfl : j = k := by omega
   rw [hj, Int.toNat_natCast] at k1
   rw [k1]
   unfold oneM oneC
   refine runC_kn _ _ _ fun c hc h30 => k2 _ ?_
   have hcb := hbk j hk c hc h30
   unfold ready at hrd
   rw [Bool.and_eq_true, List.all_eq_true] at hrd
   have hW : c.A ∈ (whoms m).getD j [] := by
    rw [whoms_at hk]
    unfold whomL
    have hc' : c ∈ m.Methods[j].Code := by rw [methM_at hk] at hc; exact hc
    refine List.mem_filter.2 ⟨List.mem_map.2 ⟨c.A.toNat, List.mem_range.2 (by omega), by omega⟩, ?_⟩
    exact decide_eq_true (List.mem_map.2 ⟨c, List.mem_filter.2 ⟨hc', by simpa using h30⟩, rfl⟩)
   have := hrd.2 _ hW
   rw [show ((c.A.toNat : Nat) : Int) = c.A by omega]
   simpa using this
  ·by_cases hk : k < m.Methods.length
   ·have := fits k hk
    unfold fitB at this
    simp only [decide_eq_true_eq] at this
    omega
   ·rw [List.getD_eq_getElem?_getD, List.getElem?_eq_none (by omega)]
    simp [api_Cert.zero]
  ·rw [methM_at hk]
   have := S.x _ (List.getElem_mem hk)
   omega
end CostPure
namespace CostPure
open FlowPure TypesPure CallsPure
def toF (f : Fr) : capstanlaw12_frame := ⟨(f.k : Int), (f.a : Int), f.s⟩
noncomputable def rowsL (m : api_Module) : List (List types_Row) := (List.range m.Methods.length).map (rowM m)
theorem rowsL_at {m : api_Module} {k : Nat} (hk : k < m.Methods.length) : elt (rowsL m) (k : Int) = some (rowM m k) := by
 rw [elt_lt (by unfold rowsL; simpa using hk)]; simp [rowsL]
theorem meth_elt {m : api_Module} {k : Nat} (hk : k < m.Methods.length) : elt m.Methods (k : Int) = some (methM m k) := by
 rw [elt_lt hk, methM_at hk]
theorem code_elt {m : api_Module} {k p : Nat} (hp : p < (codeM m k).length) : elt (methM m k).Code (p : Int) = some (opAt m k p) := by
 rw [opAt_lt hp]; exact elt_lt hp
theorem top_elt (init : List Fr) (top : Fr) : elt ((init ++ [top]).map toF) (init.length : Int) = some (toF top) := by
 rw [elt_lt (by simp)]; simp
theorem top_set (init : List Fr) (top : Fr) (v : capstanlaw12_frame) : ((init ++ [top]).map toF).set init.length v = init.map toF ++ [v] := by
 rw [List.map_append, List.set_append_right _ _ (by simp)]; simp
theorem top_len {init : List Fr} {top : Fr} (h : init.length ≤ 6000) : IntKind.i64.wrap ((((init ++ [top]).map toF).length : Int) - 1) = (init.length : Int) := by
 rw [List.length_map, List.length_append, List.length_singleton, wrap_id (by omega) (by omega)]; omega
section
variable {m : api_Module} {L : List api_Cert} (X : Cx m L) (k0 : Int) (ways : List Bool)
include X
theorem row_len {k : Nat} (hk : k < m.Methods.length) : (rowM m k).length = (codeM m k).length := (X.told k hk).len
theorem run_l1 {init : List Fr} {top : Fr} (O : Ok m top) (hi : init.length ≤ 6000) (asked fuel stack heap : Int) (hf : fuel < 6000) :
    capstanlaw12_run.F m (rowsL m) k0 ways 6000 (.l1 ((init ++ [top]).map toF) asked fuel stack heap) = some (.inl (.l2 ((init ++ [top]).map toF) asked fuel stack heap (toF top) (opAt m top.k top.a) 0 0)) := by
 have hl := row_len X O.k
 have ha := O.a
 dsimp only [capstanlaw12_run.F]
 rw [if_pos hf, top_len hi, top_elt]
 simp only [Option.bind_some]
 have e1 : (toF top).k = (top.k : Int) := rfl
 have e2 : (toF top).at_ = (top.a : Int) := rfl
 have e3 : (toF top).left = top.s := rfl
 rw [e1, e2, if_neg (by omega), rowsL_at O.k]
 simp only [Option.bind_some]
 rw [hl, decide_eq_false (by omega)]
 unfold capstanlaw12_run.j1
 rw [if_neg (by simp), e1, meth_elt O.k]
 simp only [Option.bind_some]
 rw [e2, code_elt O.a]
 simp only [Option.bind_some]
 rw [e3]
 have hm : opAt m top.k top.a ∈ codeM m top.k := by rw [opAt_lt O.a]; exact List.getElem_mem O.a
 have hb : (opAt m top.k top.a).Op = 29 → 0 ≤ (opAt m top.k top.a).A ∧ (opAt m top.k top.a).A < top.s.length := by
  intro h29
  have W := X.well top.k O.k
  rw [opAt_lt O.a] at h29 ⊢
  have := mv_back1 W.known W.fine O.a h29
  rw [O.ln]; omega
 have hc := X.call top.k O.k _ hm
 have hrl : ((rowsL m).length : Int) = (m.Methods.length : Int) := by simp [rowsL]
 unfold capstanlaw12_run.j2
 generalize opAt m top.k top.a = i at hb hc
 by_cases h30 : i.Op = 30
 ·have := hc h30
  rw [if_pos h30, if_neg (by omega), if_neg (by omega), if_neg (by omega), if_neg (by simp)]
 ·rw [if_neg h30]
  by_cases h29 : i.Op = 29
  ·have := hb h29
   rw [if_pos h29, if_neg (by omega), decide_eq_false (by omega), if_neg (by simp)]
  ·rw [if_neg h29, if_neg (by simp)]
theorem run_high {fs : List capstanlaw12_frame} (asked fuel stack heap : Int) (x : capstanlaw12_frame) (i : api_Instr) : ∀ (r pre : List Fr) (k : Nat) (v : Int), fs = (pre ++ r).map toF → (pre ++ r).length ≤ 6001 → Ch m k r → -1000 * (pre.length : Int) ≤ v → v ≤ 1000 * (pre.length : Int) →
    runF (capstanlaw12_run.F m (rowsL m) k0 ways 6000) (.l2 fs asked fuel stack heap x i v (pre.length : Int)) = runF (capstanlaw12_run.F m (rowsL m) k0 ways 6000) (.l2 fs asked fuel stack heap x i (v + highS m r) (fs.length : Int))
 | [], _, _, _, _, _, h, _, _ => h.elim
 | f :: r, pre, k, v, he, hn, h, h0, h1 => by
  obtain ⟨O, -⟩ := ch_first h
  have hl := row_len X O.k
  have ha := O.a
  have hfl : fs.length = pre.length + (r.length + 1) := by rw [he]; simp
  have w : IntKind.i64.wrap ((fs.length : Int) - 1) = (pre.length : Int) + r.length := by
   rw [wrap_id (by omega) (by simp at hn; omega)]; omega
  have e1 : elt fs (pre.length : Int) = some (toF f) := by
   rw [elt_lt (by omega)]; subst he; simp
  have s1 := X.sz f.k O.k
  have k1 := kinds_le X O.k f.a
  have er : elt (rowM m f.k) (f.a : Int) = some (g (rowM m f.k) f.a) := by rw [elt_lt (by omega), g_lt (by omega)]
  simp only [List.length_append, List.length_cons] at hn
  have go : ∀ q, (if (pre.length : Int) < (pre.length : Int) + r.length then ((elt fs (pre.length : Int)).bind fun x589 => (elt (methM m f.k).Code x589.at_).bind fun x593 => (elt m.Methods x593.A).bind fun x599 => capstanlaw12_run.j3 m (rowsL m) k0 ways 6000 fs asked fuel stack heap x i (pre.length : Int) (IntKind.i64.wrap ((v + own m f) - (x599.Args.length : Int)))) else (capstanlaw12_run.j3 m (rowsL m) k0 ways 6000 fs asked fuel stack heap x i (pre.length : Int) (v + own m f))) = q → capstanlaw12_run.F m (rowsL m) k0 ways 6000 (.l2 fs asked fuel stack heap x i v (pre.length : Int)) = q := by
   intro q hq
   have ek : (toF f).k = (f.k : Int) := rfl
   have ea : (toF f).at_ = (f.a : Int) := rfl
   dsimp only [capstanlaw12_run.F]
   rw [w, if_pos (by omega), e1]
   simp only [Option.bind_some]
   rw [ek, meth_elt O.k]
   simp only [Option.bind_some]
   rw [rowsL_at O.k]
   simp only [Option.bind_some]
   rw [ea, er]
   simp only [Option.bind_some]
   have wr : IntKind.i64.wrap (IntKind.i64.wrap (IntKind.i64.wrap (v + ((methM m f.k).Args.length : Int)) + ((methM m f.k).Locals.length : Int)) + ((g (rowM m f.k) f.a).Kinds.length : Int)) = v + own m f := by
    rw [wrap_id (x := v + _) (by omega) (by omega), wrap_id (x := v + _ + _) (by omega) (by omega), wrap_id (by omega) (by omega)]
    unfold own; omega
   rw [wr]
   rw [e1] at hq
   simp only [Option.bind_some] at hq
   rw [ea] at hq
   exact hq
  have ob := own_bd X O
  cases r with
  | nil =>
   refine runF_step (go _ ?_)
   rw [if_neg (by simp)]
   unfold capstanlaw12_run.j3
   rw [wrap_succ pre.length (by omega), hfl]; rfl
  | cons f2 r =>
   have h30 := h.2.1
   have hm : opAt m f.k f.a ∈ codeM m f.k := by rw [opAt_lt O.a]; exact List.getElem_mem O.a
   have hc := X.call f.k O.k _ hm h30
   have hA : ((opAt m f.k f.a).A.toNat : Int) = (opAt m f.k f.a).A := by omega
   have s2 := X.sz (opAt m f.k f.a).A.toNat (by omega)
   have ih := run_high (fs := fs) asked fuel stack heap x i (f2 :: r) (pre ++ [f]) _ (v + own m f - argsOf m (opAt m f.k f.a).A.toNat) (by rw [he]; simp) (by simp; omega) h.2.2 (by unfold argsOf; simp; omega) (by unfold argsOf; simp; omega)
   rw [List.length_append, List.length_singleton] at ih
   refine (runF_step (go _ ?_)).trans (ih.trans ?_)
   ·rw [if_pos (by simp; omega), e1]
    simp only [Option.bind_some]
    have ea : (toF f).at_ = (f.a : Int) := rfl
    rw [ea, code_elt O.a]
    simp only [Option.bind_some]
    rw [← hA, meth_elt (by omega)]
    simp only [Option.bind_some]
    unfold capstanlaw12_run.j3
    rw [wrap_succ pre.length (by omega), wrap_id (by omega) (by omega), hA]; rfl
   ·rw [highS, show v + own m f - argsOf m (opAt m f.k f.a).A.toNat + highS m (f2 :: r) = v + (own m f - argsOf m (opAt m f.k f.a).A.toNat + highS m (f2 :: r)) by omega]
theorem run_l2 {init : List Fr} {top : Fr} {k : Nat} (C : Ch m k (init ++ [top])) (hi : init.length ≤ 6000) (asked fuel stack heap : Int) (x : capstanlaw12_frame) (i : api_Instr) :
    ∃ st : Int, st = (if highS m (init ++ [top]) > stack then highS m (init ++ [top]) else stack) ∧ ∀ q, capstanlaw12_run.j4 m (rowsL m) k0 ways 6000 ((init ++ [top]).map toF) asked fuel heap x i st = some q →
     runF (capstanlaw12_run.F m (rowsL m) k0 ways 6000) (.l2 ((init ++ [top]).map toF) asked fuel stack heap x i 0 0) = (match q with | .inl s => runF (capstanlaw12_run.F m (rowsL m) k0 ways 6000) s | .inr r => some r) := by
 have h := run_high X k0 ways (fs := (init ++ [top]).map toF) asked fuel stack heap x i (init ++ [top]) [] k 0 rfl (by simp; omega) C (by simp) (by simp)
 rw [Int.zero_add] at h
 refine ⟨_, rfl, fun q hq => ?_⟩
 have e : capstanlaw12_run.F m (rowsL m) k0 ways 6000 (.l2 ((init ++ [top]).map toF) asked fuel stack heap x i (highS m (init ++ [top])) (((init ++ [top]).map toF).length : Int)) = some q := by
  rw [← hq]
  dsimp only [capstanlaw12_run.F]
  rw [top_len hi, if_neg (by simp; omega)]
  split
  ·rfl
  ·rfl
 refine Eq.trans h ?_
 cases q with
 | inl s => exact runF_step e
 | inr r => exact runF_end e
end
end CostPure
namespace CostPure
open FlowPure TypesPure CallsPure
section
variable {m : api_Module} {L : List api_Cert} (X : Cx m L)
include X
theorem W1_ok : ∀ k, k < m.Methods.length → ∀ p, p < (codeM m k).length → 0 ≤ W1 m L k p := fun k _ p _ => by have := W1_pos X (k := k) (p := p); omega
theorem W2_ok : ∀ k, k < m.Methods.length → ∀ p, p < (codeM m k).length → 0 ≤ W2 m L k p := fun k hk p hp => W2_nonneg X hk hp
theorem remS_pos {w : Nat → Nat → Int} (hw : ∀ k, k < m.Methods.length → ∀ p, p < (codeM m k).length → 0 ≤ w k p) : ∀ l : List Fr, (∀ f ∈ l, Ok m f) → 0 ≤ remS m w l
 | [], _ => by simp [remS]
 | f :: l, h => by
  have a := rem_pos X (h f (by simp)) (hw f.k (h f (by simp)).k)
  have b := remS_pos hw l fun x hx => h x (by simp [hx])
  rw [remS]; omega
end
def Good (c : api_Cert) (t : capstanlaw12_took) : Prop := t.over = true ∧ t.fuel = c.Fuel ∧ t.stack ≤ c.Stack ∧ t.heap = c.Heap
def Str (l : List api_Instr) : Prop := ∀ p (h : p < l.length), l[p].Op ≠ 26 ∧ l[p].Op ≠ 27 ∧ l[p].Op ≠ 32 ∧ (l[p].Op = 31 → p + 1 = l.length)
structure Shut (m : api_Module) (S : Nat → Prop) : Prop where
 st : ∀ k, S k → k < m.Methods.length → Str (codeM m k)
 cl : ∀ k, S k → k < m.Methods.length → ∀ o ∈ codeM m k, o.Op = 30 → S o.A.toNat
structure RInv (m : api_Module) (L : List api_Cert) (S : Nat → Prop) (k0 : Nat) (init : List Fr) (top : Fr) (fuel : Nat) (stack heap : Int) : Prop where
 ch : Ch m k0 (init ++ [top])
 il : init.length ≤ fuel
 f : (fuel : Int) + remS m (W1 m L) init + rest m (W1 m L) top = (L.getD k0 api_Cert.zero).Fuel
 s : stack ≤ (L.getD k0 api_Cert.zero).Stack
 h0 : 0 ≤ heap
 h : heap + remS m (W2 m L) init + rest m (W2 m L) top = (L.getD k0 api_Cert.zero).Heap
 rs : S top.k ∧ ∀ f ∈ init, S f.k
theorem RInv.ok {m : api_Module} {L : List api_Cert} {S : Nat → Prop} {k0 : Nat} {init : List Fr} {top : Fr} {fuel : Nat} {stack heap : Int} (R : RInv m L S k0 init top fuel stack heap) : Ok m top ∧ ∀ f ∈ init, Ok m f :=
 ⟨ch_ok R.ch top (by simp), fun f hf => ch_ok R.ch f (by simp [hf])⟩
theorem RInv.left {m : api_Module} {L : List api_Cert} {S : Nat → Prop} (X : Cx m L) {k0 : Nat} {init : List Fr} {top : Fr} {fuel : Nat} {stack heap : Int} (R : RInv m L S k0 init top fuel stack heap) : (fuel : Int) + 1 ≤ (L.getD k0 api_Cert.zero).Fuel ∧ heap + W2 m L top.k top.a ≤ (L.getD k0 api_Cert.zero).Heap ∧ 0 ≤ W2 m L top.k top.a := by
 obtain ⟨O, Oi⟩ := R.ok
 have a := rem_pos X O (W1_ok X top.k O.k)
 have b := remS_pos X (W1_ok X) init Oi
 have a2 := rem_pos X O (W2_ok X top.k O.k)
 have b2 := remS_pos X (W2_ok X) init Oi
 have c := W1_pos X (k := top.k) (p := top.a)
 have d := W2_ok X top.k O.k top.a O.a
 have f := R.f
 have h := R.h
 unfold rest at f h
 omega
theorem RInv.move {m : api_Module} {L : List api_Cert} {S : Nat → Prop} (X : Cx m L) {k0 : Nat} {init : List Fr} {top : Fr} {fuel : Nat} {stack heap st hp : Int} {b : Nat} {s2 : List Int} (R : RInv m L S k0 init top fuel stack heap)
    (M : Mv (codeM m top.k) top.s top.a s2 b) (h30 : (opAt m top.k top.a).Op ≠ 30) (hst : st ≤ (L.getD k0 api_Cert.zero).Stack) (h0 : 0 ≤ hp) (h1 : hp = heap + W2 m L top.k top.a) : RInv m L S k0 init ⟨top.k, b, s2⟩ (fuel + 1) st hp := by
 obtain ⟨O, Oi⟩ := R.ok
 obtain ⟨O2, r1⟩ := rest_mv X O (W1_ok X top.k O.k) M
 obtain ⟨-, r2⟩ := rest_mv X O (W2_ok X top.k O.k) M
 have c : W1 m L top.k top.a = 1 := by unfold W1 calAt calC; rw [if_neg h30]; rfl
 have f := R.f
 have h := R.h
 have il := R.il
 have e1 : rest m (W1 m L) top = rem m (W1 m L) top + W1 m L top.k top.a := rfl
 have e2 : rest m (W2 m L) top = rem m (W2 m L) top + W2 m L top.k top.a := rfl
 exact ⟨ch_set (f := top) O2 rfl R.ch, by omega, by omega, hst, h0, by omega, R.rs⟩
theorem RInv.push {m : api_Module} {L : List api_Cert} {S : Nat → Prop} (X : Cx m L) (hS : Shut m S) {k0 : Nat} {init : List Fr} {top : Fr} {fuel : Nat} {stack heap st : Int} (R : RInv m L S k0 init top fuel stack heap) (h30 : (opAt m top.k top.a).Op = 30) (hst : st ≤ (L.getD k0 api_Cert.zero).Stack)
    {j : Nat} (hj : (opAt m top.k top.a).A = (j : Int)) (hjn : j < m.Methods.length) : RInv m L S k0 (init ++ [top]) ⟨j, 0, List.replicate (codeM m j).length 0⟩ (fuel + 1) st heap := by
 obtain ⟨O, Oi⟩ := R.ok
 obtain ⟨O2, r1⟩ := rest_start X (w := W1 m L) hjn
 obtain ⟨-, r2⟩ := rest_start X (w := W2 m L) hjn
 have f := R.f
 have h := R.h
 have il := R.il
 have e1 : rest m (W1 m L) top = rem m (W1 m L) top + W1 m L top.k top.a := rfl
 have e2 : rest m (W2 m L) top = rem m (W2 m L) top + W2 m L top.k top.a := rfl
 have f1 := full_fuel X hjn
 have f2 := full_heap X hjn
 have g1 : W1 m L top.k top.a = 1 + (L.getD j api_Cert.zero).Fuel := by unfold W1 calAt calC; rw [if_pos h30, hj, Int.toNat_natCast]
 have g2 : W2 m L top.k top.a = (L.getD j api_Cert.zero).Heap := by unfold W2 calAt calC newC; rw [if_pos h30, if_neg (by omega), hj, Int.toNat_natCast, Int.zero_add]
 refine ⟨?_, by simp; omega, ?_, hst, R.h0, ?_, ?_, ?_⟩
 ·rw [List.append_assoc]; exact ch_push O2 h30 (by rw [hj]; rfl) R.ch
 ·rw [remS_snoc, r1, ← f1]; omega
 ·rw [remS_snoc, r2, ← f2]; omega
 ·have := hS.cl top.k R.rs.1 O.k _ (show opAt m top.k top.a ∈ codeM m top.k by rw [opAt_lt O.a]; exact List.getElem_mem O.a) h30
  rwa [hj] at this
 ·intro f hf
  rcases List.mem_append.1 hf with h | h
  ·exact R.rs.2 f h
  ·rw [List.mem_singleton] at h; subst h; exact R.rs.1
theorem RInv.last {m : api_Module} {L : List api_Cert} {S : Nat → Prop} (X : Cx m L) (hS : Shut m S) {k0 : Nat} {init : List Fr} {top : Fr} {fuel : Nat} {stack heap : Int} (R : RInv m L S k0 init top fuel stack heap) (h31 : (opAt m top.k top.a).Op = 31) : rest m (W1 m L) top = 1 ∧ rest m (W2 m L) top = 0 := by
 obtain ⟨O, -⟩ := R.ok
 have h1 := (hS.st top.k R.rs.1 O.k top.a O.a).2.2.2 (by rw [← opAt_lt O.a]; exact h31)
 have e1 : rest m (W1 m L) top = rem m (W1 m L) top + W1 m L top.k top.a := rfl
 have e2 : rest m (W2 m L) top = rem m (W2 m L) top + W2 m L top.k top.a := rfl
 have c : calAt m L top.k top.a = api_Cert.zero := by unfold calAt calC; rw [if_neg (by omega)]
 have n : newC (opAt m top.k top.a) = 0 := by unfold newC; rw [if_neg (by omega)]
 rw [e1, e2, rem_last X O h1 h31, rem_last X O h1 h31]
 unfold W1 W2
 rw [c, n]
 exact ⟨rfl, rfl⟩
theorem RInv.pop {m : api_Module} {L : List api_Cert} {S : Nat → Prop} (X : Cx m L) (hS : Shut m S) {k0 : Nat} {init : List Fr} {f top : Fr} {fuel : Nat} {stack heap st : Int} (R : RInv m L S k0 (init ++ [f]) top fuel stack heap) (h31 : (opAt m top.k top.a).Op = 31) (hst : st ≤ (L.getD k0 api_Cert.zero).Stack) : RInv m L S k0 init ⟨f.k, f.a + 1, f.s⟩ (fuel + 1) st heap := by
 obtain ⟨O, Oi⟩ := R.ok
 have Of := Oi f (by simp)
 have W := X.well f.k Of.k
 have hc := R.ch
 rw [List.append_assoc] at hc
 obtain ⟨c1, h30⟩ := ch_pop hc
 rw [opAt_lt Of.a] at h30
 have M := mv_next W.known W.fine Of.a Of.live (by omega) (by omega) (by omega)
 obtain ⟨O2, r1⟩ := rest_mv X Of (W1_ok X f.k Of.k) M
 obtain ⟨-, r2⟩ := rest_mv X Of (W2_ok X f.k Of.k) M
 obtain ⟨l1, l2⟩ := R.last X hS h31
 have rs := R.rs
 have hf := R.f
 have h := R.h
 have il := R.il
 rw [remS_snoc] at hf h
 have e1 : rest m (W1 m L) f = rem m (W1 m L) f + W1 m L f.k f.a := rfl
 have e2 : rest m (W2 m L) f = rem m (W2 m L) f + W2 m L f.k f.a := rfl
 exact ⟨ch_set (f := f) O2 rfl c1, by simp at il; omega, by omega, hst, R.h0, by omega, rs.2 f (by simp), fun z hz => rs.2 z (by simp [hz])⟩
section
variable {m : api_Module} {L : List api_Cert} {S : Nat → Prop} (X : Cx m L) (hS : Shut m S) (k1 : Int) (ways : List Bool)
include X hS
omit X hS in
theorem j5_eq {init : List Fr} {top : Fr} (hi : init.length ≤ 6000) {fuel : Nat} (hf : fuel ≤ 6000) (st asked hp : Int) (s2 : List Int) (b : Nat) :
    capstanlaw12_run.j5 m (rowsL m) k1 ways 6000 ((init ++ [top]).map toF) (fuel : Int) st ((init ++ [(⟨top.k, top.a, s2⟩ : Fr)]).map toF) asked (b : Int) hp = some (.inl (.l1 ((init ++ [(⟨top.k, b, s2⟩ : Fr)]).map toF) asked ((fuel + 1 : Nat) : Int) st hp)) := by
 unfold capstanlaw12_run.j5
 rw [top_len hi, top_elt]
 simp only [Option.bind_some]
 rw [Int.toNat_natCast, top_set, wrap_succ fuel (by omega)]
 simp [toF]
omit X hS in
theorem set_left_eq {init : List Fr} {top : Fr} (hi : init.length ≤ 6000) (s2 : List Int) :
    ((init ++ [top]).map toF).set (IntKind.i64.wrap ((((init ++ [top]).map toF).length : Int) - 1)).toNat (capstanlaw12_frame.set_left (toF top) s2) = (init ++ [(⟨top.k, top.a, s2⟩ : Fr)]).map toF := by
 rw [top_len hi, Int.toNat_natCast, top_set]; simp [toF]
theorem run_all {k0 : Nat} (hk0 : k0 < m.Methods.length) (hF : (L.getD k0 api_Cert.zero).Fuel ≤ 5000) : ∀ (d fuel : Nat) (init : List Fr) (top : Fr) (asked : Nat) (stack heap : Int), fuel + d = 6000 → asked ≤ fuel → RInv m L S k0 init top fuel stack heap →
    ∃ t, runF (capstanlaw12_run.F m (rowsL m) k1 ways 6000) (.l1 ((init ++ [top]).map toF) (asked : Int) (fuel : Int) stack heap) = some t ∧ Good (L.getD k0 api_Cert.zero) t := by
 intro d
 induction d with
 | zero =>
  intro fuel init top asked stack heap hd _ R
  have := (R.left X).1
  omega
 | succ d ih =>
  intro fuel init top asked stack heap hd has R
  obtain ⟨lf1, lf2, lf3⟩ := R.left X
  obtain ⟨O, Oi⟩ := R.ok
  have il := R.il
  have hi : init.length ≤ 6000 := by omega
  have W := X.well top.k O.k
  have e1 := run_l1 X k1 ways O hi (asked : Int) (fuel : Int) stack heap (by omega)
  obtain ⟨st, hst, e2⟩ := run_l2 X k1 ways R.ch hi (asked : Int) (fuel : Int) stack heap (toF top) (opAt m top.k top.a)
  have hs : st ≤ (L.getD k0 api_Cert.zero).Stack := by
   have := high_le X _ _ R.ch
   have := R.s
   rw [hst]; split <;> omega
  rw [runF_step e1]
  have wf1 : IntKind.i64.wrap ((fuel : Int) + 1) = ((fuel + 1 : Nat) : Int) := wrap_succ fuel (by omega)
  have R0 := X.rng k0
  have h0 := R.h0
  -- a result
  have done : (opAt m top.k top.a).Op = 31 → init = [] → capstanlaw12_run.j4 m (rowsL m) k1 ways 6000 ((init ++ [top]).map toF) (asked : Int) (fuel : Int) heap (toF top) (opAt m top.k top.a) st = some (.inr ⟨((fuel + 1 : Nat) : Int), st, heap, true⟩) →
      ∃ t, runF (capstanlaw12_run.F m (rowsL m) k1 ways 6000) (.l2 ((init ++ [top]).map toF) (asked : Int) (fuel : Int) stack heap (toF top) (opAt m top.k top.a) 0 0) = some t ∧ Good (L.getD k0 api_Cert.zero) t := by
   intro h31 hin h
   obtain ⟨l1, l2⟩ := R.last X hS h31
   have f := R.f
   have h2 := R.h
   rw [hin, l1] at f
   rw [hin, l2] at h2
   simp only [remS] at f h2
   exact ⟨_, e2 _ h, rfl, by dsimp only; omega, hs, by dsimp only; omega⟩
  -- on
  have onw : ∀ {init2 : List Fr} {top2 : Fr} {asked2 : Nat} {hp : Int}, capstanlaw12_run.j4 m (rowsL m) k1 ways 6000 ((init ++ [top]).map toF) (asked : Int) (fuel : Int) heap (toF top) (opAt m top.k top.a) st = some (.inl (.l1 ((init2 ++ [top2]).map toF) (asked2 : Int) ((fuel + 1 : Nat) : Int) st hp)) → asked2 ≤ fuel + 1 → RInv m L S k0 init2 top2 (fuel + 1) st hp →
      ∃ t, runF (capstanlaw12_run.F m (rowsL m) k1 ways 6000) (.l2 ((init ++ [top]).map toF) (asked : Int) (fuel : Int) stack heap (toF top) (opAt m top.k top.a) 0 0) = some t ∧ Good (L.getD k0 api_Cert.zero) t := by
   intro init2 top2 asked2 hp h ha R2
   obtain ⟨t, t1, t2⟩ := ih (fuel + 1) init2 top2 asked2 st hp (by omega) ha R2
   exact ⟨t, (e2 _ h).trans t1, t2⟩
  have ek : (toF top).k = (top.k : Int) := rfl
  have ea : (toF top).at_ = (top.a : Int) := rfl
  have el : (toF top).left = top.s := rfl
  have wa : IntKind.i64.wrap ((top.a : Int) + 1) = ((top.a + 1 : Nat) : Int) := wrap_succ top.a (by have := O.a; have := W.known.2.1; omega)
  have hsame : (⟨top.k, top.a, top.s⟩ : Fr) = top := rfl
  have hoq := opAt_lt O.a
  have hmem : opAt m top.k top.a ∈ codeM m top.k := by rw [hoq]; exact List.getElem_mem O.a
  have hcall := X.call top.k O.k _ hmem
  have hmay := W.known.2.2 _ hmem
  have hpA : (opAt m top.k top.a).Op = 22 → W2 m L top.k top.a = (opAt m top.k top.a).A := by
   intro h22
   unfold W2 calAt calC newC
   rw [if_pos h22, if_neg (by omega)]; simp [api_Cert.zero]
  have hpB : (opAt m top.k top.a).Op ≠ 22 → (opAt m top.k top.a).Op ≠ 30 → W2 m L top.k top.a = 0 := by
   intro h22 h30
   unfold W2 calAt calC newC
   rw [if_neg h22, if_neg h30]; simp [api_Cert.zero]
  have str := hS.st top.k R.rs.1 O.k top.a O.a
  rw [← hoq] at str
  -- moves
  have mv : ∀ {s2 : List Int} {b asked2 : Nat} {hp : Int}, (opAt m top.k top.a).Op ≠ 30 → Mv (codeM m top.k) top.s top.a s2 b → asked2 ≤ fuel + 1 → 0 ≤ hp → hp = heap + W2 m L top.k top.a →
      capstanlaw12_run.j4 m (rowsL m) k1 ways 6000 ((init ++ [top]).map toF) (asked : Int) (fuel : Int) heap (toF top) (opAt m top.k top.a) st = capstanlaw12_run.j5 m (rowsL m) k1 ways 6000 ((init ++ [top]).map toF) (fuel : Int) st ((init ++ [(⟨top.k, top.a, s2⟩ : Fr)]).map toF) (asked2 : Int) (b : Int) hp →
      ∃ t, runF (capstanlaw12_run.F m (rowsL m) k1 ways 6000) (.l2 ((init ++ [top]).map toF) (asked : Int) (fuel : Int) stack heap (toF top) (opAt m top.k top.a) 0 0) = some t ∧ Good (L.getD k0 api_Cert.zero) t := by
   intro s2 b asked2 hp h30 M ha hp0 hp1 h
   exact onw (h.trans (j5_eq k1 ways hi (by omega) st _ hp s2 b)) ha (R.move X M h30 hs hp0 hp1)
  have plain := fun (h28 : (opAt m top.k top.a).Op ≠ 28) (h29 : (opAt m top.k top.a).Op ≠ 29) (hw : (opAt m top.k top.a).Op ≠ 31 ∧ (opAt m top.k top.a).Op ≠ 32 ∧ (opAt m top.k top.a).Op ≠ 26) => mv_next W.known W.fine O.a O.live (by rw [← hoq]; exact h28) (by rw [← hoq]; exact h29) (by rw [← hoq]; exact hw)
  have h32 := str.2.2.1
  have h26 := str.1
  have h27 := str.2.1
  by_cases h31 : (opAt m top.k top.a).Op = 31
  ·rcases List.eq_nil_or_concat init with rfl | ⟨init2, f, hf⟩
   ·refine done h31 rfl ?_
    unfold capstanlaw12_run.j4
    rw [if_neg h32, if_pos h31, top_len hi, if_pos (by simp), if_pos (by simp), wf1]
   ·rw [List.concat_eq_append] at hf
    subst hf
    have R2 := R.pop X hS h31 hs
    refine onw (asked2 := asked) ?_ (by omega) R2
    have Of := Oi f (by simp)
    have Wf := X.well f.k Of.k
    have hl2 : (init2 ++ [f]).length = init2.length + 1 := by simp
    have et : ((init2 ++ [f] ++ [top]).map toF).take (init2.length + 1) = (init2 ++ [f]).map toF := by
     rw [List.map_append, List.take_left' (by simp)]
    unfold capstanlaw12_run.j4
    rw [if_neg h32, if_pos h31, top_len hi, hl2, if_pos (by simp; omega), if_neg (by omega), Int.toNat_natCast, et, wrap_id (x := ((init2.length + 1 : Nat) : Int) - 1) (by omega) (by omega), show ((init2.length + 1 : Nat) : Int) - 1 = (init2.length : Int) by omega, top_elt]
    simp only [Option.bind_some]
    rw [Int.toNat_natCast, top_set, wf1, show (toF f).at_ = (f.a : Int) from rfl, wrap_succ f.a (by have := Of.a; have := Wf.known.2.1; omega)]
    simp [toF]
  by_cases h30 : (opAt m top.k top.a).Op = 30
  ·obtain ⟨c0, c1⟩ := hcall h30
   have hA : (opAt m top.k top.a).A = ((opAt m top.k top.a).A.toNat : Int) := by omega
   have hj : (opAt m top.k top.a).A.toNat < m.Methods.length := by omega
   have hcl : (codeM m (opAt m top.k top.a).A.toNat).length ≤ 200 := (X.well _ hj).known.2.1
   refine onw (asked2 := asked) ?_ (by omega) (R.push X hS h30 hs hA hj)
   unfold capstanlaw12_run.j4
   rw [if_neg h32, if_neg h31, if_pos h30]
   generalize (opAt m top.k top.a).A.toNat = j at hA hj hcl ⊢
   rw [hA, meth_elt hj]
   simp only [Option.bind_some]
   unfold codeM at hcl
   rw [if_pos (by omega), if_pos (by simp; omega), wf1, Int.toNat_natCast]
   simp [toF, codeM]
  by_cases h22 : (opAt m top.k top.a).Op = 22
  ·have hn := new_bd X O.k hmem
   unfold newC at hn
   rw [if_pos h22] at hn
   have hw2 := hpA h22
   refine mv (hp := heap + (opAt m top.k top.a).A) (asked2 := asked) h30 (plain (by omega) (by omega) (by omega)) (by omega) (by omega) (by omega) ?_
   unfold capstanlaw12_run.j4
   rw [if_neg h32, if_neg h31, if_neg h30, if_pos h22, ea, wa, wrap_id (x := heap + _) (by omega) (by omega)]
  have hp0 := hpB h22 h30
  by_cases h28 : (opAt m top.k top.a).Op = 28
  ·have M := mv_turn W.known W.fine O.a O.ln O.live (by rw [← hoq]; exact h28)
   rw [← hoq] at M
   refine mv (hp := heap) (asked2 := asked) h30 M (by omega) (by omega) (by omega) ?_
   have hal : top.a < top.s.length := by rw [O.ln]; exact O.a
   unfold capstanlaw12_run.j4
   rw [if_neg h32, if_neg h31, if_neg h30, if_neg h22, if_pos h28, el, ea, lf_elt hal]
   simp only [Option.bind_some]
   rw [wa, Int.toNat_natCast, set_left_eq hi]
  by_cases h29 : (opAt m top.k top.a).Op = 29
  ·obtain ⟨b1, b2, b3⟩ := mv_back1 W.known W.fine O.a (by rw [← hoq]; exact h29)
   obtain ⟨m1, m2, m3, m4⟩ := mv_again W.known W.fine O.a O.ln O.live (by rw [← hoq]; exact h29)
   rw [← hoq] at b1 b2 m1 m2 m3 m4
   have hAa : (opAt m top.k top.a).A.toNat < top.s.length := by rw [O.ln]; have := O.a; omega
   have hal := W.known.2.1
   have haa := O.a
   have ev : elt top.s (opAt m top.k top.a).A = some (lf top.s (opAt m top.k top.a).A.toNat) := by
    conv => lhs; rw [show (opAt m top.k top.a).A = ((opAt m top.k top.a).A.toNat : Int) by omega]
    exact lf_elt hAa
   have ew : elt (top.s.set (opAt m top.k top.a).A.toNat (lf top.s (opAt m top.k top.a).A.toNat - 1)) (opAt m top.k top.a).A = some (lf top.s (opAt m top.k top.a).A.toNat - 1) := by
    have := lf_elt (s := top.s.set (opAt m top.k top.a).A.toNat (lf top.s (opAt m top.k top.a).A.toNat - 1)) (i := (opAt m top.k top.a).A.toNat) (by simpa using hAa)
    rw [lf_set hAa, if_pos rfl] at this
    rwa [show (((opAt m top.k top.a).A.toNat : Nat) : Int) = (opAt m top.k top.a).A by omega] at this
   have w5 : IntKind.i64.wrap ((opAt m top.k top.a).A + 1) = (((opAt m top.k top.a).A.toNat + 1 : Nat) : Int) := by rw [wrap_id (by omega) (by omega)]; omega
   have wv : IntKind.i64.wrap (lf top.s (opAt m top.k top.a).A.toNat - 1) = lf top.s (opAt m top.k top.a).A.toNat - 1 := wrap_id (by omega) (by omega)
   by_cases hpos : lf top.s (opAt m top.k top.a).A.toNat - 1 > 0
   ·refine mv (hp := heap) (asked2 := asked) h30 (m3 hpos) (by omega) (by omega) (by omega) ?_
    unfold capstanlaw12_run.j4
    rw [if_neg h32, if_neg h31, if_neg h30, if_neg h22, if_neg h28, if_pos h29, el, ev]
    simp only [Option.bind_some]
    rw [wv, ew]
    simp only [Option.bind_some]
    rw [if_pos hpos, w5, set_left_eq hi]
   ·refine mv (hp := heap) (asked2 := asked) h30 (m4 hpos) (by omega) (by omega) (by omega) ?_
    unfold capstanlaw12_run.j4
    rw [if_neg h32, if_neg h31, if_neg h30, if_neg h22, if_neg h28, if_pos h29, el, ev]
    simp only [Option.bind_some]
    rw [wv, ew]
    simp only [Option.bind_some]
    rw [if_neg hpos, ea, wa, set_left_eq hi]
  refine mv (hp := heap) (asked2 := asked) h30 (plain h28 h29 ⟨h31, h32, h26⟩) (by omega) (by omega) (by omega) ?_
  unfold capstanlaw12_run.j4
  rw [if_neg h32, if_neg h31, if_neg h30, if_neg h22, if_neg h28, if_neg h29, if_neg h26, if_neg h27, ea, wa]
end
end CostPure
namespace CostPure
open FlowPure TypesPure CallsPure
def setL (n : Nat) (l : List Int) : List Int := ((List.range n).map fun k : Nat => (k : Int)).filter fun a => decide (a ∈ l)
theorem mem_set {n : Nat} {l : List Int} (h : ∀ a ∈ l, 0 ≤ a ∧ a < (n : Int)) {a : Int} : a ∈ setL n l ↔ a ∈ l := by
 unfold setL
 rw [List.mem_filter, decide_eq_true_eq]
 refine ⟨fun h => h.2, fun ha => ⟨?_, ha⟩⟩
 have := h a ha
 exact List.mem_map.2 ⟨a.toNat, List.mem_range.2 (by omega), by omega⟩
theorem set_len (n : Nat) (l : List Int) : (setL n l).length ≤ n := by unfold setL; exact Nat.le_trans (List.length_filter_le _ _) (by simp)
theorem set_nodup (n : Nat) (l : List Int) : (setL n l).Nodup := ((range_rises n).imp fun h => Int.ne_of_lt h).filter _
theorem compact_set {n : Nat} {l : List Int} (h : ∀ a ∈ l, 0 ≤ a ∧ a < (n : Int)) : Lib.compact (l.mergeSort fun x y => decide (x ≤ y)) = setL n l := by
 have hs : (l.mergeSort fun x y => decide (x ≤ y)).Pairwise (· ≤ ·) := by
  have := List.pairwise_mergeSort (le := fun x y : Int => decide (x ≤ y)) (fun a b c h1 h2 => by simp at *; omega) (fun a b => by simp; omega) l
  exact this.imp fun h => by simpa using h
 obtain ⟨h1, h2⟩ := compact_rises hs _ (Nat.le_refl _)
 refine rises_eq h1 ((range_rises n).filter _) fun a => ?_
 rw [show Lib.compact (l.mergeSort fun x y => decide (x ≤ y)) = Lib.compactUpTo _ _ from rfl, h2, List.take_length, List.mem_mergeSort]
 exact (mem_set h).symm
theorem sum_sub {w : Int → Nat} : ∀ (a b : List Int), a.Nodup → (∀ x ∈ a, x ∈ b) → (a.map w).sum ≤ (b.map w).sum
 | [], b, _, _ => by simp
 | x :: a, b, hn, h => by
  obtain ⟨h1, h2⟩ := List.nodup_cons.1 hn
  have p := List.perm_cons_erase (h x (by simp))
  have ih := sum_sub (w := w) a (b.erase x) h2 fun y hy => (List.mem_erase_of_ne (show y ≠ x from fun e => h1 (by rw [← e]; exact hy))).2 (h y (by simp [hy]))
  have := (p.map w).sum_nat
  simp only [List.map_cons, List.sum_cons] at *
  omega
theorem sum_succ {w : Int → Nat} : ∀ l : List Int, (l.map fun a => w a + 1).sum = (l.map w).sum + l.length
 | [] => rfl
 | x :: l => by simp only [List.map_cons, List.sum_cons, List.length_cons, sum_succ l]; omega
theorem whom_in {n : Nat} {c : List api_Instr} : ∀ a ∈ whomL n c, 0 ≤ a ∧ a < (n : Int) := fun a ha => by
 obtain ⟨i, hi, rfl⟩ := List.mem_map.1 (List.mem_filter.1 ha).1
 have := List.mem_range.1 hi
 omega
theorem whom_prog {m : api_Module} (S : Fit m) (hb : anyBad m = false) {k : Nat} (hk : k < m.Methods.length) : calls_Whom.f m (k : Int) = some (whomL m.Methods.length (codeM m k), 0) := by
 have h1 : (nm m.Methods[k].Code).any (badN m.Methods.length) = false := by
  have := List.any_eq_false.1 (show (m.Methods.any fun x => (nm x.Code).any (badN m.Methods.length)) = false from hb) _ (List.getElem_mem hk)
  simpa using this
 rw [prog_whom hk (S.x _ (List.getElem_mem hk)), whomC, if_neg (by rw [h1]; simp)]
 unfold codeM
 rw [methM_at hk]
def Shuts (m : api_Module) (k0 : Nat) (r : List Int) : Prop := r.length ≤ m.Methods.length ∧ (∀ a ∈ r, 0 ≤ a ∧ a < (m.Methods.length : Int)) ∧ ∀ j, (j = (k0 : Int) ∨ j ∈ r) → ∀ c ∈ whomL m.Methods.length (codeM m j.toNat), c ∈ r
theorem lead_loop {m : api_Module} (S : Fit m) (hb : anyBad m = false) {v : Int → Nat} (hv : ∀ k : Nat, k < m.Methods.length → (whomL m.Methods.length (codeM m k)).length + ((whomL m.Methods.length (codeM m k)).map v).sum ≤ v (k : Int)) {B : Nat} (hB : B ≤ 1100000000000) {k0 : Nat} :
    ∀ (M : Nat) (out todo : List Int), (todo.map fun a => v a + 1).sum ≤ M → (∀ a ∈ todo, 0 ≤ a ∧ a < (m.Methods.length : Int)) → (∀ a ∈ out, 0 ≤ a ∧ a < (m.Methods.length : Int)) → todo.length ≤ 40 → out.length + (todo.map v).sum ≤ B →
     (∃ P : Int → Prop, (∀ j, P j → ∀ c ∈ whomL m.Methods.length (codeM m j.toNat), c ∈ out) ∧ ∀ j, (j = (k0 : Int) ∨ j ∈ out) → P j ∨ j ∈ todo) →
     ∃ r, runF (calls_Leads.F m (k0 : Int)) (.l1 out todo) = some (r, 0) ∧ Shuts m k0 r := by
 intro M
 induction M with
 | zero =>
  intro out todo hM
  cases todo with
  | cons j rest => simp at hM
  | nil =>
   intro _ ho _ hl ⟨P, p1, p2⟩
   refine ⟨setL m.Methods.length out, runF_end ?_, set_len _ _, fun a ha => ho a ((mem_set ho).1 ha), fun j hj c hc => (mem_set ho).2 ?_⟩
   ·have hl2 : out.length < 4611686018427387904 := by simp at hl; omega
    dsimp only [calls_Leads.F]
    rw [if_neg (by simp), if_pos hl2, if_pos (by rw [List.length_mergeSort]; exact hl2), compact_set ho]
   ·rw [mem_set ho] at hj
    have := (p2 j hj).resolve_right (by simp)
    exact p1 j this c hc
 | succ M ih =>
  intro out todo hM ht ho h40 hl ⟨P, p1, p2⟩
  cases todo with
  | nil => exact ih out [] (by simp) ht ho h40 hl ⟨P, p1, p2⟩
  | cons j rest =>
   obtain ⟨j0, j1⟩ := ht j (by simp)
   obtain ⟨k, rfl⟩ : ∃ k : Nat, j = (k : Int) := ⟨j.toNat, by omega⟩
   have hk : k < m.Methods.length := by omega
   have hv := hv k hk
   have hC := whom_in (n := m.Methods.length) (c := codeM m k)
   have hcl := whomL_len m.Methods.length (codeM m k)
   have hw := whom_prog S hb hk
   generalize hCe : whomL m.Methods.length (codeM m k) = C at hv hC hcl hw
   have hn := S.M
   have hrC : ∀ a ∈ rest ++ C, 0 ≤ a ∧ a < (m.Methods.length : Int) := fun a ha => by
    rcases List.mem_append.1 ha with h | h
    ·exact ht a (by simp [h])
    ·exact hC a h
   simp only [List.map_cons, List.sum_cons, List.length_cons] at hM hl h40
   have s1 := sum_sub (w := fun a => v a + 1) (setL m.Methods.length (rest ++ C)) (rest ++ C) (set_nodup _ _) fun a ha => (mem_set hrC).1 ha
   have s2 := sum_sub (w := v) (setL m.Methods.length (rest ++ C)) (rest ++ C) (set_nodup _ _) fun a ha => (mem_set hrC).1 ha
   rw [List.map_append, List.sum_append] at s1 s2
   have s3 := sum_succ (w := v) C
   obtain ⟨r, r1, r2⟩ := ih (out ++ C) (setL m.Methods.length (rest ++ C)) (by omega) (fun a ha => hrC a ((mem_set hrC).1 ha)) (fun a ha => by
    rcases List.mem_append.1 ha with h | h
    ·exact ho a h
    ·exact hC a h) (Nat.le_trans (set_len _ _) hn) (by rw [List.length_append]; omega) ⟨fun a => P a ∨ a = (k : Int), fun a ha c hc => by
     rcases ha with h | rfl
     ·exact List.mem_append.2 (.inl (p1 a h c hc))
     ·rw [Int.toNat_natCast, hCe] at hc; exact List.mem_append.2 (.inr hc), fun a ha => by
     rw [mem_set hrC]
     rw [List.mem_append] at ha ⊢
     by_cases hCa : a ∈ C
     ·exact .inr (.inr hCa)
     ·have : a = (k0 : Int) ∨ a ∈ out := by
       rcases ha with h | h | h
       ·exact .inl h
       ·exact .inr h
       ·exact absurd h hCa
      rcases p2 a this with h | h
      ·exact .inl (.inl h)
      ·rcases List.mem_cons.1 h with h | h
       ·exact .inl (.inr h)
       ·exact .inr (.inl h)⟩
   refine ⟨r, Eq.trans (runF_step ?_) r1, r2⟩
   have e1 : elt ((k : Int) :: rest) 0 = some (k : Int) := elt_lt (k := 0) (by simp)
   dsimp only [calls_Leads.F]
   rw [if_pos (by rw [List.length_cons]; omega), e1]
   simp only [Option.bind_some]
   rw [hw]
   simp only [Option.bind_some]
   have ed : (((k : Int) :: rest).drop ((1 : Int)).toNat) = rest := rfl
   rw [ed, if_pos (by rw [List.length_cons]; omega), if_pos (by omega), if_pos (by omega), if_pos (by rw [List.length_append]; omega), if_pos (by rw [List.length_mergeSort, List.length_append]; omega), compact_set hrC]
theorem pow_sum {o : List Int} (hn : o.Nodup) : ∀ i, i ≤ o.length → ((o.take i).map fun a => 2 ^ o.idxOf a).sum + 1 = 2 ^ i
 | 0, _ => by simp
 | i + 1, h => by
  have hi : i < o.length := by omega
  rw [List.take_add_one, List.getElem?_eq_getElem hi, Option.toList_some, List.map_append, List.sum_append]
  have := pow_sum hn i (by omega)
  simp only [List.map_cons, List.map_nil, List.sum_cons, List.sum_nil, hn.idxOf_getElem i hi, Nat.pow_succ]
  omega
theorem lead_ok {m : api_Module} (S : Small m) {L : List api_Cert} (h : costsC m = (L, 0)) {k0 : Nat} (hk0 : k0 < m.Methods.length) : ∃ r, calls_Leads.f m (k0 : Int) = some (r, 0) ∧ Shuts m k0 r := by
 have F : Fit m := ⟨S.M, fun x hx => (S.x x hx).2.2⟩
 have p := prog_order F
 unfold costsC at h
 by_cases hb : anyBad m = true
 ·rw [if_pos hb] at h; simp at h
 rw [if_neg hb] at h p
 have hok := ordN_ok (W := whoms m) m.Methods.length [] (by simp)
 have hnd := ordN_nodup (W := whoms m) ready_new m.Methods.length [] (by simp)
 have hre := fun o => ordN_ready (W := whoms m) m.Methods.length [] o
 have hWl : (whoms m).length = m.Methods.length := by simp [whoms]
 generalize ordN (whoms m) m.Methods.length [] = oe at hok hnd hre h p
 obtain ⟨o, e⟩ := oe
 dsimp only at hok hnd hre h
 by_cases he : e = 0
 case neg => rw [if_pos he] at h; exact absurd (Prod.mk.inj h).2 he
 subst he
 obtain ⟨ho1, ho2⟩ := hok rfl
 have hnd := hnd rfl
 obtain ⟨-, hre⟩ := hre o rfl
 have hol : o.length = m.Methods.length := by simpa using ho1
 have hr : ∀ a ∈ o, 0 ≤ a ∧ a < (m.Methods.length : Int) := fun a ha => by have := ho2 a ha; rw [hWl] at this; exact this
 have hb' : anyBad m = false := by simpa using hb
 have hv : ∀ k : Nat, k < m.Methods.length → (whomL m.Methods.length (codeM m k)).length + ((whomL m.Methods.length (codeM m k)).map fun a => 2 ^ o.idxOf a - 1).sum ≤ 2 ^ o.idxOf (k : Int) - 1 := by
  intro k hk
  obtain ⟨i, hi, hik⟩ := List.mem_iff_getElem.1 (covers hol hnd hr hk)
  obtain ⟨j, hj, hrd⟩ := hre i (by simp) hi
  obtain rfl : j = k := by omega
  unfold ready at hrd
  rw [Bool.and_eq_true, List.all_eq_true, whoms_at hk] at hrd
  have e1 : codeM m j = m.Methods[j].Code := by unfold codeM; rw [methM_at hk]
  rw [e1]
  have hs := sum_sub (w := fun a => 2 ^ o.idxOf a) (whomL m.Methods.length m.Methods[j].Code) (o.take i) (((range_rises _).imp fun h => Int.ne_of_lt h).filter _) fun a ha => by simpa using hrd.2 a ha
  have hp := pow_sum hnd i (by omega)
  have hx : o.idxOf (j : Int) = i := by rw [← hik]; exact hnd.idxOf_getElem i hi
  have e2 := sum_succ (w := fun a => 2 ^ o.idxOf a - 1) (whomL m.Methods.length m.Methods[j].Code)
  have e3 : (fun a : Int => 2 ^ o.idxOf a - 1 + 1) = fun a => 2 ^ o.idxOf a := funext fun a => Nat.sub_add_cancel Nat.one_le_two_pow
  rw [e3] at e2
  rw [hx]
  omega
 have hB : 2 ^ o.idxOf (k0 : Int) - 1 ≤ 1100000000000 := by
  have h1 : o.idxOf (k0 : Int) ≤ 40 := Nat.le_trans (Nat.le_of_lt (List.idxOf_lt_length_iff.2 (covers hol hnd hr hk0))) (by rw [hol]; exact S.M)
  have h2 : 2 ^ o.idxOf (k0 : Int) ≤ 2 ^ 40 := Nat.pow_le_pow_right (by omega) h1
  omega
 obtain ⟨r, r1, r2⟩ := lead_loop F hb' hv hB (k0 := k0) _ [] [(k0 : Int)] (Nat.le_refl _) (fun a ha => by rw [List.mem_singleton] at ha; subst ha; omega) (fun a ha => by cases ha) (by simp) (by simp) ⟨fun _ => False, fun _ h => h.elim, fun a ha => by
  rcases ha with h | h
  ·exact .inr (by simp [h])
  ·cases h⟩
 refine ⟨r, ?_, r2⟩
 unfold calls_Leads.f
 refine Eq.trans (runF_step ?_) r1
 dsimp only [calls_Leads.F]
 unfold calls_Check.f
 rw [p]
 simp only [Option.bind_some]
 rw [if_neg (by simp), if_neg (by simp; omega)]
end CostPure
namespace CostPure
open FlowPure TypesPure CallsPure
theorem known_ok {m : api_Module} {k : Int} (hm : wf_api_Module m) : capstanlaw12_known.f m k = some ([], [], false) ∨
    ∃ (k0 : Nat) (L : List api_Cert), k = (k0 : Int) ∧ k0 < m.Methods.length ∧ L.length = m.Methods.length ∧ Cx m L ∧ (L.getD k0 api_Cert.zero).Fuel ≤ 5000 ∧ fitB (L.getD k0 api_Cert.zero) (methM m k0) = true ∧ Small m ∧ costsC m = (L, 0) ∧ capstanlaw12_known.f m k = some (rowsL m, L, true) := by
 unfold capstanlaw12_known.f
 by_cases hg : ((greatB m || (decide (k < 0))) || (decide (k ≥ (m.Methods.length : Int)))) = true
 ·left
  refine runF_end ?_
  dsimp only [capstanlaw12_known.F]
  rw [great_eq]; simp only [Option.bind_some]
  rw [if_pos hg]
 have hg' := hg
 simp only [Bool.or_eq_true, decide_eq_true_eq, not_or] at hg'
 obtain ⟨⟨g0, k0⟩, k1⟩ := hg'
 have S := small_of (by simpa using g0)
 have hM := S.M
 have p1 := prog_costs hm S
 cases hA : costsC m with
 | mk L e =>
 rw [hA] at p1
 have start : ∀ b, (if ((decide (e ≠ 0)) || (decide ((L.length : Int) ≠ (m.Methods.length : Int)))) = true then (some true) else ((elt L k).bind fun x21 => some (decide (x21.Fuel > 5000)))) = some b → capstanlaw12_known.F m k .start = if b = true then (some (.inr ([], [], false))) else (some (.inl (.l1 (L, e) [] 0))) := by
  intro b hb
  dsimp only [capstanlaw12_known.F]
  rw [great_eq]; simp only [Option.bind_some]
  rw [if_neg hg, p1]; simp only [Option.bind_some]
  rw [hb]; rfl
 by_cases he : e = 0
 case neg =>
  left
  have hd : ((decide (e ≠ 0)) || (decide ((L.length : Int) ≠ (m.Methods.length : Int)))) = true := by simp [he]
  exact runF_end (start true (by rw [if_pos hd]))
 subst he
 obtain ⟨hL, X, hrows, hfit⟩ := cx_of hm S hA
 have hd : ¬ (((decide ((0 : Int) ≠ 0)) || (decide ((L.length : Int) ≠ (m.Methods.length : Int)))) = true) := by simp; omega
 obtain ⟨i, rfl⟩ : ∃ i : Nat, k = (i : Int) := ⟨k.toNat, by omega⟩
 have hi : i < m.Methods.length := by omega
 have hgi : L.getD i api_Cert.zero = L[i]'(by omega) := by rw [List.getD_eq_getElem?_getD, List.getElem?_eq_getElem (by omega)]; rfl
 have el := elt_lt (xs := L) (k := i) (by omega)
 rw [← hgi] at el
 by_cases hF : (L.getD i api_Cert.zero).Fuel > 5000
 ·left
  exact runF_end (start true (by rw [if_neg hd, el]; simp only [Option.bind_some]; rw [decide_eq_true hF]))
 right
 refine ⟨i, L, rfl, hi, hL, X, by omega, hfit i hi, S, rfl, ?_⟩
 rw [runF_step (t := .l1 (L, 0) (((List.range m.Methods.length).map (rowM m)).take 0) ((0 : Nat) : Int)) (start false (by rw [if_neg hd, el]; simp only [Option.bind_some]; rw [decide_eq_false hF]))]
 refine (runF_up (F := capstanlaw12_known.F m (i : Int)) (n := m.Methods.length) (fun j => .l1 (L, 0) (((List.range m.Methods.length).map (rowM m)).take j) (j : Int)) (fun j hj => ?_)).trans (runF_end ?_)
 ·have hl := (X.told j hj).len
  have em := meth_elt hj
  dsimp only [capstanlaw12_known.F]
  rw [if_pos (by omega), hrows j hj]
  simp only [Option.bind_some]
  rw [if_neg (by simp), em]
  simp only [Option.bind_some]
  rw [decide_eq_false (by unfold codeM at hl; omega), if_neg (by simp), if_pos (by simp; omega), wrap_succ j (by omega), take_succ _ j (by simpa using hj)]
  simp
 ·dsimp only [capstanlaw12_known.F]
  rw [if_neg (by omega), List.take_of_length_le (by simp)]; rfl
theorem straight_ok {l : List api_Instr} (hl : l.length ≤ 300) : ∃ b, capstanlaw12_straight.f l = some b ∧ (b = true → Str l) := by
 have key : ∀ d i, i + d = l.length → (∀ p (h : p < l.length), p < i → l[p].Op ≠ 26 ∧ l[p].Op ≠ 27 ∧ l[p].Op ≠ 32 ∧ (l[p].Op = 31 → p + 1 = l.length)) → ∃ b, runF (capstanlaw12_straight.F l) (.l1 (i : Int)) = some b ∧ (b = true → Str l) := by
  intro d
  induction d with
  | zero =>
   intro i hi h
   refine ⟨true, runF_end ?_, fun _ p hp => h p hp (by omega)⟩
   dsimp only [capstanlaw12_straight.F]
   rw [if_neg (by omega)]
  | succ d ih =>
   intro i hi h
   have hil : i < l.length := by omega
   have e1 := elt_lt hil
   have w1 : IntKind.i64.wrap ((l.length : Int) - 1) = (l.length : Int) - 1 := wrap_id (by omega) (by omega)
   by_cases hc : (((decide (l[i].Op = 26)) || (decide (l[i].Op = 27))) || (((decide (l[i].Op = 31)) || (decide (l[i].Op = 32))) && (decide ((i : Int) < (IntKind.i64.wrap ((l.length : Int) - 1)))))) = true
   ·refine ⟨false, runF_end ?_, by simp⟩
    dsimp only [capstanlaw12_straight.F]
    rw [if_pos (by omega), e1]
    simp only [Option.bind_some]
    rw [if_pos hc]
   ·by_cases h32 : l[i].Op = 32
    ·refine ⟨false, runF_end ?_, by simp⟩
     dsimp only [capstanlaw12_straight.F]
     rw [if_pos (by omega), e1]
     simp only [Option.bind_some]
     rw [if_neg hc, if_pos h32]
    ·have hs : capstanlaw12_straight.F l (.l1 (i : Int)) = some (.inl (.l1 ((i + 1 : Nat) : Int))) := by
      dsimp only [capstanlaw12_straight.F]
      rw [if_pos (by omega), e1]
      simp only [Option.bind_some]
      rw [if_neg hc, if_neg h32, wrap_succ i (by omega)]
     rw [runF_step hs]
     refine ih (i + 1) (by omega) fun p hp hpi => ?_
     by_cases e : p = i
     ·subst e
      rw [w1] at hc
      simp only [Bool.or_eq_true, Bool.and_eq_true, decide_eq_true_eq, not_or, not_and] at hc
      exact ⟨hc.1.1, hc.1.2, h32, fun h31 => by have := hc.2 (.inl h31); omega⟩
     ·exact h p hp (by omega)
 obtain ⟨b, b1, b2⟩ := key l.length 0 (by omega) fun p _ h => absurd h (by omega)
 exact ⟨b, by unfold capstanlaw12_straight.f; exact Eq.trans (runF_step rfl) b1, b2⟩
theorem law_just {m : api_Module} {k : Int} (hm : wf_api_Module m) : capstanlaw12_CostJust.f m k = some true := by
 unfold capstanlaw12_CostJust.f
 rcases known_ok (k := k) hm with h | ⟨k0, L, rfl, hk, hL, X, hF, hfit, S, hA, h⟩
 ·refine runF_end ?_
  dsimp only [capstanlaw12_CostJust.F]
  rw [cawake]; simp only [Option.bind_some]
  rw [if_neg (by simp), h]; rfl
 obtain ⟨r, r1, r0, r2, r3⟩ := lead_ok S hA hk
 have hnM := S.M
 have hcode : ∀ j, j < m.Methods.length → (methM m j).Code.length ≤ 300 := fun j hj => by rw [methM_at hj]; exact (S.x _ (List.getElem_mem hj)).2.2
 obtain ⟨b, b1, b2⟩ := straight_ok (hcode k0 hk)
 have st : capstanlaw12_CostJust.F m (k0 : Int) .start = if (!b) = true then (some (.inr true)) else (some (.inl (.l1 (rowsL m, L, true) (r, 0) 0))) := by
  dsimp only [capstanlaw12_CostJust.F]
  rw [cawake]; simp only [Option.bind_some]
  rw [if_neg (by simp), h]; simp only [Option.bind_some]
  rw [if_neg (by simp), r1]; simp only [Option.bind_some]
  rw [if_neg (by simp), meth_elt hk]; simp only [Option.bind_some]
  rw [b1]; rfl
 cases b with
 | false => exact runF_end (by rw [st]; rfl)
 | true =>
 rw [runF_step (by rw [st]; rfl)]
 have hs0 : Str (codeM m k0) := b2 rfl
 have hgi : L.getD k0 api_Cert.zero = L[k0]'(by omega) := by rw [List.getD_eq_getElem?_getD, List.getElem?_eq_getElem (by omega)]; rfl
 have el := elt_lt (xs := L) (k := k0) (by omega)
 rw [← hgi] at el
 have key : ∀ d i, i + d = r.length → (∀ p (h : p < r.length), p < i → Str (codeM m r[p].toNat)) → runF (capstanlaw12_CostJust.F m (k0 : Int)) (.l1 (rowsL m, L, true) (r, 0) (i : Int)) = some true := by
  intro d
  induction d with
  | zero =>
   intro i hi hall
   have Z : Shut m (fun j => j = k0 ∨ (j : Int) ∈ r) := by
    refine ⟨fun j hj hjn => ?_, fun j hj hjn o ho h30 => .inr ?_⟩
    ·rcases hj with rfl | hj
     ·exact hs0
     ·obtain ⟨p, hp, e⟩ := List.mem_iff_getElem.1 hj
      have := hall p hp (by omega)
      rwa [e, Int.toNat_natCast] at this
    ·have hc := X.call j hjn o ho h30
     have := r3 (j : Int) (by rcases hj with rfl | hj; exact .inl rfl; exact .inr hj) o.A (by
      rw [Int.toNat_natCast]
      exact List.mem_filter.2 ⟨List.mem_map.2 ⟨o.A.toNat, List.mem_range.2 (by omega), by omega⟩, decide_eq_true (List.mem_map.2 ⟨o, List.mem_filter.2 ⟨ho, by simpa using h30⟩, rfl⟩)⟩)
     rwa [show ((o.A.toNat : Nat) : Int) = o.A by omega]
   have W := X.well k0 hk
   have hc : (methM m k0).Code.length ≤ 200 := W.known.2.1
   obtain ⟨O, q1⟩ := rest_start X (w := W1 m L) hk
   obtain ⟨-, q2⟩ := rest_start X (w := W2 m L) hk
   have R0 := X.rng k0
   have f1 := full_fuel X hk
   have f2 := full_heap X hk
   obtain ⟨t, t1, t2, t3, t4, t5⟩ := run_all X Z (k0 : Int) [] hk hF 6000 0 [] ⟨k0, 0, List.replicate (codeM m k0).length 0⟩ 0 0 0 rfl (Nat.le_refl _) ⟨⟨O, rfl⟩, by simp, by rw [q1]; simp only [remS]; omega, by omega, Int.le_refl _, by rw [q2]; simp only [remS]; omega, .inl rfl, fun f hf => by cases hf⟩
   have er : capstanlaw12_run.f m (rowsL m) (k0 : Int) [] 6000 = some t := by
    unfold capstanlaw12_run.f
    rw [← t1]
    refine runF_step ?_
    dsimp only [capstanlaw12_run.F]
    rw [meth_elt hk]
    simp only [Option.bind_some]
    rw [if_pos (by omega), Int.toNat_natCast]; rfl
   refine runF_end ?_
   dsimp only [capstanlaw12_CostJust.F]
   rw [if_neg (by omega), er]; simp only [Option.bind_some]
   rw [if_pos t2, el]; simp only [Option.bind_some]
   rw [if_pos t3, if_pos t5]
   unfold capstanlaw12_CostJust.j2
   rw [decide_eq_true t4]
  | succ d ih =>
   intro i hi hall
   have hir : i < r.length := by omega
   have e1 := elt_lt hir
   have hr := r2 _ (List.getElem_mem hir)
   have hj : r[i].toNat < m.Methods.length := by omega
   have em := meth_elt hj
   rw [show ((r[i].toNat : Nat) : Int) = r[i] by omega] at em
   obtain ⟨b, b1, b2⟩ := straight_ok (hcode _ hj)
   have hst : capstanlaw12_CostJust.F m (k0 : Int) (.l1 (rowsL m, L, true) (r, 0) (i : Int)) = if (!b) = true then (some (.inr true)) else (some (.inl (.l1 (rowsL m, L, true) (r, 0) ((i + 1 : Nat) : Int)))) := by
    dsimp only [capstanlaw12_CostJust.F]
    rw [if_pos (by omega), e1]; simp only [Option.bind_some]
    rw [if_neg (by omega), decide_eq_false (by omega)]
    unfold capstanlaw12_CostJust.j1
    rw [if_neg (by simp)]
    dsimp only
    rw [e1]; simp only [Option.bind_some]
    rw [em]; simp only [Option.bind_some]
    rw [b1]; simp only [Option.bind_some]
    rw [wrap_succ i (by omega)]
   cases b with
   | false => exact runF_end (by rw [hst]; rfl)
   | true =>
    rw [runF_step (by rw [hst]; rfl)]
    refine ih (i + 1) (by omega) fun p hp hpi => ?_
    by_cases e : p = i
    ·subst e; exact b2 rfl
    ·exact hall p hp (by omega)
 exact key r.length 0 (by omega) fun p _ h => absurd h (by omega)
end CostPure
theorem costJust_card : Rows.CostJustCardSaid := costJust.card fun x0 x1 h _ => CostPure.law_just h
#print axioms costJust_card
end Go.Proofs.YtmhkokkphgchlaaGreatDoor
