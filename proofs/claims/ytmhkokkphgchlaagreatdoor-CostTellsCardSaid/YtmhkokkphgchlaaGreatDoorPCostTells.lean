/- What the methods of any module take at most, or the error, is what the chapter says; it stays, and what is told is the caller's own (the law CostTells): for every input, with no condition but what the card ties to the program (what op's table of bounds holds). -/
import Derived.Test.YtmhkokkphgchlaaGreatDoorRCostTells
set_option linter.unusedVariables false
set_option linter.unusedSimpArgs false
namespace Go.Proofs.YtmhkokkphgchlaaGreatDoor
open Go.Q
namespace FlowPure
inductive Kn | loop | again (a : Nat) | other
deriving DecidableEq
def opn (K : Nat → Kn) : Nat → List Nat
  | 0 => []
  | i + 1 => match K i with
    | .loop => i :: opn K i
    | .again _ => (opn K i).tail
    | .other => opn K i
def good (K : Nat → Kn) (i : Nat) : Prop := match K i with
  | .loop => (opn K i).length < 4
  | .again a => (opn K i).head? = some a
  | .other => True
theorem opn_mem (K : Nat → Kn) : ∀ (i : Nat), (∀ j, j < i → good K j) →
    (∀ f, f ∈ opn K i ↔ (K f = .loop ∧ f < i ∧ ∀ j, f < j → j < i → K j ≠ .again f)) ∧ (opn K i).Pairwise (· > ·) ∧ (opn K i).length ≤ 4
  | 0, _ => by simp [opn]
  | i + 1, hg => by
    obtain ⟨h1, h2, h3⟩ := opn_mem K i (fun j hj => hg j (by omega))
    have gi := hg i (by omega)
    unfold good at gi
    unfold opn
    cases hk : K i with
    | loop =>
      rw [hk] at gi
      simp only at gi ⊢
      refine ⟨fun f => ?_, ?_, by simp; omega⟩
      · rw [List.mem_cons, h1]
        constructor
        · rintro (rfl | ⟨a, b, c⟩)
          · exact ⟨hk, by omega, fun j h1 h2 => by omega⟩
          · refine ⟨a, by omega, fun j q1 q2 => ?_⟩
            by_cases e : j = i
            · subst e; rw [hk]; exact fun z => Kn.noConfusion z
            · exact c j q1 (by omega)
        · rintro ⟨a, b, c⟩
          by_cases e : f = i
          · exact .inl e
          · exact .inr ⟨a, by omega, fun j q1 q2 => c j q1 (by omega)⟩
      · rw [List.pairwise_cons]
        exact ⟨fun x hx => ((h1 x).1 hx).2.1, h2⟩
    | again a =>
      rw [hk] at gi
      simp only at gi ⊢
      cases ho : opn K i with
      | nil => rw [ho] at gi; cases gi
      | cons b T =>
        rw [ho] at gi h1 h2 h3
        simp at gi
        subst gi
        rw [List.pairwise_cons] at h2
        refine ⟨fun f => ?_, h2.2, by simp at h3; simp; omega⟩
        simp only [List.tail_cons]
        constructor
        · intro hf
          obtain ⟨p, q, r⟩ := (h1 f).1 (List.mem_cons_of_mem _ hf)
          refine ⟨p, by omega, fun j q1 q2 => ?_⟩
          by_cases e : j = i
          · subst e; rw [hk]; intro z; cases z
            have := h2.1 _ hf; omega
          · exact r j q1 (by omega)
        · rintro ⟨p, q, r⟩
          have hne : f ≠ i := by rintro rfl; rw [hk] at p; cases p
          have := (h1 f).2 ⟨p, by omega, fun j q1 q2 => r j q1 (by omega)⟩
          rcases List.mem_cons.1 this with e | e
          · subst e; exact absurd hk (r i (by omega) (by omega))
          · exact e
    | other =>
      simp only
      refine ⟨fun f => ?_, h2, h3⟩
      rw [h1]
      constructor
      · rintro ⟨a, b, c⟩
        refine ⟨a, by omega, fun j q1 q2 => ?_⟩
        by_cases e : j = i
        · subst e; rw [hk]; exact fun z => Kn.noConfusion z
        · exact c j q1 (by omega)
      · rintro ⟨a, b, c⟩
        have hne : f ≠ i := by rintro rfl; rw [hk] at a; cases a
        exact ⟨a, by omega, fun j q1 q2 => c j q1 (by omega)⟩
theorem nodup_len {α : Type} [DecidableEq α] : ∀ (l m : List α), l.Nodup → (∀ x ∈ l, x ∈ m) → l.length ≤ m.length
  | [], _, _, _ => by simp
  | x :: l, m, hn, hs => by
    rw [List.nodup_cons] at hn
    have hx := hs x (by simp)
    have := nodup_len l (m.erase x) hn.2 (fun y hy => (List.mem_erase_of_ne (by rintro rfl; exact hn.1 hy)).2 (hs y (by simp [hy])))
    rw [List.length_erase_of_mem hx] at this
    have : 0 < m.length := List.length_pos_of_mem hx
    simp; omega
def Pr (K : Nat → Kn) (n f t : Nat) : Prop := f < n ∧ t < n ∧ K f = .loop ∧ K t = .again f
def Ok1 (K : Nat → Kn) (n : Nat) : Prop := ∀ f, f < n → K f = .loop → ∃ t, Pr K n f t ∧ f ≤ t ∧ ∀ t', Pr K n f t' → t' = t
def Ok2 (K : Nat → Kn) (n : Nat) : Prop := ∀ t a, t < n → K t = .again a → a < n ∧ K a = .loop
def Nest (K : Nat → Kn) (n : Nat) : Prop := ∀ f t g u, Pr K n f t → Pr K n g u → f < g → g < t → u ≤ t
def Deep (n : Nat) (R : List (Nat × Nat)) : Prop := ∀ a, a < n → (R.filter fun x => decide (x.1 < a) && decide (a ≤ x.2)).length ≤ 4
def Run (K : Nat → Kn) (n : Nat) : Prop := (∀ i, i < n → good K i) ∧ opn K n = []
theorem again_mem {K : Nat → Kn} {n t f : Nat} (h : ∀ i, i < n → good K i) (ht : t < n) (hk : K t = .again f) : ∃ T, opn K t = f :: T := by
  have := h t ht
  unfold good at this
  rw [hk] at this
  simp only at this
  cases ho : opn K t with
  | nil => rw [ho] at this; cases this
  | cons b T => rw [ho] at this; simp at this; subst this; exact ⟨T, rfl⟩
theorem run_pairs {K : Nat → Kn} {n : Nat} (h : Run K n) : Ok1 K n ∧ Ok2 K n := by
  obtain ⟨hg, hn⟩ := h
  have mem := fun i (hi : i ≤ n) => opn_mem K i (fun j hj => hg j (by omega))
  have back : ∀ t a, t < n → K t = .again a → K a = .loop ∧ a < t ∧ ∀ j, a < j → j < t → K j ≠ .again a := by
    intro t a ht hk
    obtain ⟨T, hT⟩ := again_mem hg ht hk
    exact ((mem t (by omega)).1 a).1 (by rw [hT]; simp)
  refine ⟨fun f hf hk => ?_, fun t a ht hk => ?_⟩
  · have : ∃ t, f < t ∧ t < n ∧ K t = .again f := by
      refine Classical.byContradiction fun hc => ?_
      have : f ∈ opn K n := ((mem n (Nat.le_refl _)).1 f).2 ⟨hk, hf, fun j q1 q2 e => hc ⟨j, q1, q2, e⟩⟩
      rw [hn] at this; cases this
    obtain ⟨t, h1, h2, h3⟩ := this
    refine ⟨t, ⟨hf, h2, hk, h3⟩, by omega, fun t' ⟨_, p2, _, p4⟩ => ?_⟩
    obtain ⟨-, q2, q3⟩ := back t' f p2 p4
    obtain ⟨-, r2, r3⟩ := back t f h2 h3
    rcases Nat.lt_trichotomy t t' with z | z | z
    · exact absurd h3 (q3 t h1 z)
    · exact z.symm
    · exact absurd p4 (r3 t' q2 z)
  · obtain ⟨a1, a2, -⟩ := back t a ht hk
    exact ⟨by omega, a1⟩
theorem opn_iff {K : Nat → Kn} {n i : Nat} (hi : i ≤ n) (hg : ∀ j, j < i → good K j) (h1 : Ok1 K n) (f : Nat) : f ∈ opn K i ↔ ∃ t, Pr K n f t ∧ f < i ∧ i ≤ t := by
  rw [(opn_mem K i hg).1]
  constructor
  · rintro ⟨a, b, c⟩
    obtain ⟨t, h, hl, -⟩ := h1 f (by omega) a
    refine ⟨t, h, b, ?_⟩
    rcases Nat.lt_or_ge t i with z | z
    · have : f ≠ t := by rintro rfl; have := h.2.2; rw [this.1] at this; exact Kn.noConfusion this.2
      exact absurd h.2.2.2 (c t (by omega) z)
    · exact z
  · rintro ⟨t, h, b, c⟩
    refine ⟨h.2.2.1, b, fun j q1 q2 e => ?_⟩
    obtain ⟨t0, _, _, hu⟩ := h1 f h.1 h.2.2.1
    have e1 := hu t h
    have e2 := hu j ⟨h.1, by omega, h.2.2.1, e⟩
    omega
theorem run_iff {K : Nat → Kn} {n : Nat} {R : List (Nat × Nat)} (hR : Ok1 K n → (∀ x, x ∈ R ↔ Pr K n x.1 x.2) ∧ (R.map (·.1)).Nodup) : Run K n ↔ Ok1 K n ∧ Ok2 K n ∧ Nest K n ∧ Deep n R := by
  constructor
  · intro h
    obtain ⟨h1, h2⟩ := run_pairs h
    obtain ⟨hg, hn⟩ := h
    obtain ⟨hm, hnd⟩ := hR h1
    refine ⟨h1, h2, fun f t g u p q hfg hgt => ?_, fun a ha => ?_⟩
    · rcases Nat.lt_or_ge t u with z | z
      · have mg : g ∈ opn K t := (opn_iff (n := n) (by have := p.2.1; omega) (fun j hj => hg j (by have := p.2.1; omega)) h1 g).2 ⟨u, q, hgt, by omega⟩
        obtain ⟨T, hT⟩ := again_mem hg p.2.1 p.2.2.2
        have pw := (opn_mem K t (fun j hj => hg j (by have := p.2.1; omega))).2.1
        rw [hT] at mg pw
        rw [List.pairwise_cons] at pw
        rcases List.mem_cons.1 mg with e | e
        · omega
        · have := pw.1 _ e; omega
      · exact z
    · have l4 := (opn_mem K a (fun j hj => hg j (by omega))).2.2
      have : ((R.filter fun x => decide (x.1 < a) && decide (a ≤ x.2)).map (·.1)).length ≤ (opn K a).length := by
        refine nodup_len _ _ (List.Nodup.sublist (List.Sublist.map _ List.filter_sublist) hnd) (fun f hf => ?_)
        rw [List.mem_map] at hf
        obtain ⟨x, hx, rfl⟩ := hf
        rw [List.mem_filter] at hx
        simp only [Bool.and_eq_true, decide_eq_true_eq] at hx
        exact (opn_iff (n := n) (by omega) (fun j hj => hg j (by omega)) h1 _).2 ⟨x.2, (hm x).1 hx.1, hx.2.1, hx.2.2⟩
      rw [List.length_map] at this
      omega
  · rintro ⟨h1, h2, h3, h4⟩
    obtain ⟨hm, hnd⟩ := hR h1
    have hg : ∀ i, i ≤ n → ∀ j, j < i → good K j := by
      intro i
      induction i with
      | zero => intro _ j hj; omega
      | succ i ih =>
        intro hi j hj
        have ih := ih (by omega)
        by_cases e : j = i
        · subst e
          unfold good
          obtain ⟨m1, m2, m3⟩ := opn_mem K j ih
          cases hk : K j with
          | loop =>
            simp only
            obtain ⟨t, p, hl, -⟩ := h1 j (by omega) hk
            have hne : j ≠ t := by rintro rfl; rw [p.2.2.1] at hk; have := p.2.2.2; rw [p.2.2.1] at this; exact Kn.noConfusion this
            have d := h4 (j + 1) (by have := p.2.1; omega)
            have : (j :: opn K j).length ≤ ((R.filter fun x => decide (x.1 < j + 1) && decide (j + 1 ≤ x.2)).map (·.1)).length := by
              refine nodup_len _ _ ?_ (fun f hf => ?_)
              · rw [List.nodup_cons]
                exact ⟨fun hc => by have := ((m1 j).1 hc).2.1; omega, m2.imp (fun h => by omega)⟩
              · rw [List.mem_map]
                rcases List.mem_cons.1 hf with e | e
                · subst e
                  exact ⟨(f, t), List.mem_filter.2 ⟨(hm _).2 p, by simp; omega⟩, rfl⟩
                · obtain ⟨u, q, q1, q2⟩ := (opn_iff (n := n) (by omega) ih h1 f).1 e
                  have : u ≠ j := by rintro rfl; have := q.2.2.2; rw [hk] at this; exact Kn.noConfusion this
                  exact ⟨(f, u), List.mem_filter.2 ⟨(hm _).2 q, by simp; omega⟩, rfl⟩
            rw [List.length_map, List.length_cons] at this
            omega
          | again a =>
            simp only
            obtain ⟨ha, hl⟩ := h2 j a (by omega) hk
            obtain ⟨t, p, q, hu⟩ := h1 a ha hl
            have e := hu j ⟨ha, by omega, hl, hk⟩
            subst e
            have hne : a ≠ j := by rintro rfl; rw [hl] at hk; exact Kn.noConfusion hk
            have ma : a ∈ opn K j := (opn_iff (n := n) (by omega) ih h1 a).2 ⟨j, p, by omega, by omega⟩
            cases ho : opn K j with
            | nil => rw [ho] at ma; cases ma
            | cons b T =>
              rw [ho] at ma m2
              rcases List.mem_cons.1 ma with e | e
              · subst e; rfl
              · rw [List.pairwise_cons] at m2
                have hab := m2.1 _ e
                obtain ⟨u, r, r1, r2⟩ := (opn_iff (n := n) (by omega) ih h1 b).1 (by rw [ho]; simp)
                have := h3 a j b u p r hab r1
                have : u = j := by omega
                subst this
                have := r.2.2.2
                rw [hk] at this
                cases this
                omega
          | other => trivial
        · exact ih j (by omega)
    have hg := hg n (Nat.le_refl _)
    refine ⟨hg, ?_⟩
    rw [List.eq_nil_iff_forall_not_mem]
    intro f hf
    obtain ⟨t, p, -, q⟩ := (opn_iff (n := n) (Nat.le_refl _) hg h1 f).1 hf
    have := p.2.1
    omega
def RL (K : Nat → Kn) (n : Nat) : List (Nat × Nat) := (List.range n).flatMap fun f => if K f = .loop then ((List.range n).filter fun t => decide (K t = .again f)).map fun t => (f, t) else []
def OL (K : Nat → Kn) (n : Nat) : List (Nat × Nat) := (List.range n).filterMap fun t => match K t with | .again a => some (a, t) | _ => none
theorem mem_RL {K : Nat → Kn} {n : Nat} (x : Nat × Nat) : x ∈ RL K n ↔ Pr K n x.1 x.2 := by
  unfold RL Pr
  rw [List.mem_flatMap]
  constructor
  · rintro ⟨f, hf, hx⟩
    split at hx
    · rename_i hk
      rw [List.mem_map] at hx
      obtain ⟨t, ht, rfl⟩ := hx
      rw [List.mem_filter] at ht
      simp only [List.mem_range, decide_eq_true_eq] at ht hf
      exact ⟨hf, ht.1, hk, ht.2⟩
    · cases hx
  · rintro ⟨h1, h2, h3, h4⟩
    refine ⟨x.1, List.mem_range.2 h1, ?_⟩
    rw [if_pos h3, List.mem_map]
    exact ⟨x.2, List.mem_filter.2 ⟨List.mem_range.2 h2, by simpa using h4⟩, rfl⟩
theorem RL_sorted {K : Nat → Kn} {n : Nat} (h : Ok1 K n) : (RL K n).Pairwise fun x y => x.1 < y.1 := by
  unfold RL
  rw [List.pairwise_flatMap]
  refine ⟨fun f hf => ?_, ?_⟩
  · split
    · rename_i hk
      obtain ⟨t, -, -, hu⟩ := h f (List.mem_range.1 hf) hk
      rw [List.pairwise_map]
      refine List.Pairwise.imp_of_mem (R := fun a b => a ≠ b) (fun {a b} ha hb hne => absurd ?_ hne) (List.nodup_range.sublist List.filter_sublist)
      rw [List.mem_filter, List.mem_range, decide_eq_true_eq] at ha hb
      rw [hu a ⟨List.mem_range.1 hf, ha.1, hk, ha.2⟩, hu b ⟨List.mem_range.1 hf, hb.1, hk, hb.2⟩]
    · exact List.Pairwise.nil
  · refine List.pairwise_lt_range.imp fun {a b} hab x hx y hy => ?_
    have e : ∀ f, ∀ z ∈ (if K f = .loop then ((List.range n).filter fun t => decide (K t = .again f)).map fun t => (f, t) else []), z.1 = f := by
      intro f z hz
      split at hz
      · rw [List.mem_map] at hz; obtain ⟨_, _, rfl⟩ := hz; rfl
      · cases hz
    rw [e a x hx, e b y hy]; exact hab
theorem RL_nodup {K : Nat → Kn} {n : Nat} (h : Ok1 K n) : ((RL K n).map (·.1)).Nodup := by
  show List.Pairwise _ _
  rw [List.pairwise_map]
  exact (RL_sorted h).imp fun h => Nat.ne_of_lt h
theorem mem_OL {K : Nat → Kn} {n : Nat} (h : Ok2 K n) (x : Nat × Nat) : x ∈ OL K n ↔ Pr K n x.1 x.2 := by
  unfold OL Pr
  rw [List.mem_filterMap]
  constructor
  · rintro ⟨t, ht, hx⟩
    cases hk : K t with
    | again a =>
      rw [hk] at hx
      simp at hx
      subst hx
      obtain ⟨h1, h2⟩ := h t a (List.mem_range.1 ht) hk
      exact ⟨h1, List.mem_range.1 ht, h2, hk⟩
    | loop => rw [hk] at hx; cases hx
    | other => rw [hk] at hx; cases hx
  · rintro ⟨h1, h2, h3, h4⟩
    exact ⟨x.2, List.mem_range.2 h2, by rw [h4]⟩
theorem OL_distinct {K : Nat → Kn} {n : Nat} (h1 : Ok1 K n) (h2 : Ok2 K n) : (OL K n).Pairwise fun x y => x.1 ≠ y.1 := by
  unfold OL
  rw [List.pairwise_filterMap]
  refine List.Pairwise.imp_of_mem (R := fun a b => a ≠ b) (fun {a b} ha hb hne x hx y hy => ?_) List.nodup_range
  rw [List.mem_range] at ha hb
  have key : ∀ t x, t < n → (match K t with | .again a => some (a, t) | _ => none) = some x → Pr K n x.1 t := by
    intro t x ht hx
    have := (mem_OL h2 x).1 (List.mem_filterMap.2 ⟨t, List.mem_range.2 ht, hx⟩)
    have e : x.2 = t := by
      cases hk : K t with
      | again a => rw [hk] at hx; simp at hx; subst hx; rfl
      | loop => rw [hk] at hx; cases hx
      | other => rw [hk] at hx; cases hx
    rwa [e] at this
  intro e
  have p := key a x ha hx
  have q := key b y hb hy
  rw [← e] at q
  obtain ⟨t, -, -, hu⟩ := h1 _ p.1 p.2.2.1
  exact hne ((hu a p).trans (hu b q).symm)
theorem strict_eq {α : Type} {key : α → Int} : ∀ (l m : List α), l.Pairwise (fun x y => key x < key y) → m.Pairwise (fun x y => key x < key y) → (∀ x, x ∈ l ↔ x ∈ m) → l = m
  | [], [], _, _, _ => rfl
  | [], y :: m, _, _, h => absurd ((h y).2 (by simp)) (by simp)
  | x :: l, [], _, _, h => absurd ((h x).1 (by simp)) (by simp)
  | x :: l, y :: m, hl, hm, h => by
    rw [List.pairwise_cons] at hl hm
    have hxy : x = y := by
      rcases List.mem_cons.1 ((h x).1 (by simp)) with e | e
      · exact e
      · rcases List.mem_cons.1 ((h y).2 (by simp)) with e' | e'
        · exact e'.symm
        · have := hl.1 _ e'; have := hm.1 _ e; omega
    subst hxy
    rw [strict_eq l m hl.2 hm.2 fun z => ?_]
    constructor
    · intro hz
      rcases List.mem_cons.1 ((h z).1 (List.mem_cons_of_mem _ hz)) with e | e
      · subst e; have := hl.1 _ hz; omega
      · exact e
    · intro hz
      rcases List.mem_cons.1 ((h z).2 (List.mem_cons_of_mem _ hz)) with e | e
      · subst e; have := hm.1 _ hz; omega
      · exact e
theorem sorted_RL {α : Type} {key : α → Int} {g : Nat × Nat → α} (hkey : ∀ x, key (g x) = (x.1 : Int)) {K : Nat → Kn} {n : Nat} (h1 : Ok1 K n) (h2 : Ok2 K n) {s : List α} (hp : s.Perm ((OL K n).map g)) (hs : s.Pairwise fun x y => key x ≤ key y) : s = (RL K n).map g := by
  refine strict_eq (key := key) s _ ?_ ?_ fun x => ?_
  · have hd : s.Pairwise fun x y => key x ≠ key y := by
      refine (hp.pairwise_iff (fun {x y} h => Ne.symm h)).2 ?_
      rw [List.pairwise_map]
      refine (OL_distinct h1 h2).imp fun {a b} h => ?_
      rw [hkey, hkey]; omega
    exact (hs.and hd).imp fun ⟨a, b⟩ => by omega
  · rw [List.pairwise_map]
    refine (RL_sorted h1).imp fun {a b} h => ?_
    rw [hkey, hkey]; omega
  · rw [hp.mem_iff, List.mem_map, List.mem_map]
    constructor
    · rintro ⟨a, ha, rfl⟩; exact ⟨a, (mem_RL a).2 ((mem_OL h2 a).1 ha), rfl⟩
    · rintro ⟨a, ha, rfl⟩; exact ⟨a, (mem_OL h2 a).2 ((mem_RL a).1 ha), rfl⟩
def FL (K : Nat → Kn) (n f : Nat) : List Nat := (List.range n).filter fun t => decide (K t = .again f)
theorem mem_FL {K : Nat → Kn} {n f t : Nat} : t ∈ FL K n f ↔ t < n ∧ K t = .again f := by
  unfold FL; rw [List.mem_filter, List.mem_range, decide_eq_true_eq]
theorem ok1_iff {K : Nat → Kn} {n : Nat} : Ok1 K n ↔ ∀ f, f < n → K f = .loop → ∃ t, FL K n f = [t] ∧ f ≤ t := by
  constructor
  · intro h f hf hk
    obtain ⟨t, p, hl, hu⟩ := h f hf hk
    refine ⟨t, ?_, hl⟩
    have hn : (FL K n f).Nodup := List.nodup_range.sublist List.filter_sublist
    have ha : ∀ x ∈ FL K n f, x = t := fun x hx => hu x ⟨hf, (mem_FL.1 hx).1, hk, (mem_FL.1 hx).2⟩
    have hm : t ∈ FL K n f := mem_FL.2 ⟨p.2.1, p.2.2.2⟩
    cases hF : FL K n f with
    | nil => rw [hF] at hm; cases hm
    | cons a r =>
      rw [hF] at hn ha
      obtain rfl := ha a (by simp)
      cases r with
      | nil => rfl
      | cons b r =>
        obtain rfl := ha b (by simp)
        simp at hn
  · intro h f hf hk
    obtain ⟨t, e, hl⟩ := h f hf hk
    have hm := mem_FL.1 (show t ∈ FL K n f by rw [e]; simp)
    refine ⟨t, ⟨hf, hm.1, hk, hm.2⟩, hl, fun t' p => ?_⟩
    have := mem_FL.2 ⟨p.2.1, p.2.2.2⟩
    rw [e] at this
    simpa using this
end FlowPure
namespace FlowPure
theorem srt109_ok (d : Array flow_Loop) : (srt109 d).toList.Perm d.toList ∧ (srt109 d).toList.Pairwise (fun x y => x.From ≤ y.From) := by
  obtain ⟨⟨h1, -, h2⟩, h3⟩ := srt109_sorts d
  refine ⟨?_, ?_⟩
  · have e1 : (srt109 d).extract 0 d.size = srt109 d := by rw [← h1]; simp
    have e2 : d.extract 0 d.size = d := by simp
    rw [e1, e2] at h2
    exact h2
  · rw [List.pairwise_iff_getElem]
    intro i j hi hj hij
    have hi' : i < (srt109 d).size := by simpa using hi
    have hj' : j < (srt109 d).size := by simpa using hj
    have := h3 i j (Nat.zero_le _) hij (by omega)
    rw [lt109, getElem!_pos (srt109 d) i hi', getElem!_pos (srt109 d) j hj'] at this
    have := of_decide_eq_false this
    simp only [Array.getElem_toList]
    omega
end FlowPure
namespace FlowPure
theorem runF_chk {S R : Type} {F : S → Option (S ⊕ R)} {n : Nat} {b : R} (s : Nat → S) (p : Nat → Prop) (hs : ∀ k, k < n → (∀ j, j < k → p j) → p k → runF F (s k) = runF F (s (k + 1))) (hb : ∀ k, k < n → (∀ j, j < k → p j) → ¬ p k → runF F (s k) = some b) :
    ((∀ k, k < n → p k) → runF F (s 0) = runF F (s n)) ∧ (¬ (∀ k, k < n → p k) → runF F (s 0) = some b) := by
  have key : ∀ m, m ≤ n → (∀ j, j < m → p j) → runF F (s 0) = runF F (s m) := by
    intro m
    induction m with
    | zero => intro _ _; rfl
    | succ m ih => intro hm hp; rw [ih (by omega) (fun j hj => hp j (by omega)), hs m (by omega) (fun j hj => hp j (by omega)) (hp m (by omega))]
  have key2 : ∀ m, m ≤ n → (∀ j, j < m → p j) ∨ runF F (s 0) = some b := by
    intro m
    induction m with
    | zero => intro _; left; intro j hj; omega
    | succ m ih =>
      intro hm
      rcases ih (by omega) with h | h
      · by_cases hp : p m
        · left; intro j hj
          by_cases e : j = m
          · subst e; exact hp
          · exact h j (by omega)
        · right; rw [key m (by omega) h, hb m (by omega) h hp]
      · right; exact h
  refine ⟨key n (Nat.le_refl _), fun h => ?_⟩
  rcases key2 n (Nat.le_refl _) with h' | h'
  · exact absurd h' h
  · exact h'
theorem runF_scan {S R : Type} {F : S → Option (S ⊕ R)} {n : Nat} {b : R} {a : Nat → R} (s : Nat → S) (p : Nat → Bool) (hs : ∀ k, k < n → F (s k) = some (if p k then .inr (a k) else .inl (s (k + 1)))) (hb : F (s n) = some (.inr b)) :
    ∃ r, runF F (s 0) = some r ∧ ((∃ k, k < n ∧ p k = true ∧ r = a k) ∨ ((∀ k, k < n → p k = false) ∧ r = b)) := by
  have key : ∀ m k, k + m = n → (∀ j, j < k → p j = false) → ∃ r, runF F (s k) = some r ∧ ((∃ k, k < n ∧ p k = true ∧ r = a k) ∨ ((∀ k, k < n → p k = false) ∧ r = b)) := by
    intro m
    induction m with
    | zero => intro k e h; obtain rfl : k = n := by omega
              exact ⟨b, runF_end hb, .inr ⟨h, rfl⟩⟩
    | succ m ih =>
      intro k e h
      have hk := hs k (by omega)
      cases hp : p k with
      | true => rw [hp] at hk; exact ⟨a k, runF_end hk, .inl ⟨k, by omega, hp, rfl⟩⟩
      | false =>
        rw [hp] at hk
        rw [runF_step hk]
        refine ih (k + 1) (by omega) fun j hj => ?_
        by_cases e : j = k
        · subst e; exact hp
        · exact h j (by omega)
  exact key n 0 (by omega) (fun j hj => by omega)
theorem wrap_pred (k : Nat) (h : 0 < k) (h2 : k < 4611686018427387904) : IntKind.i64.wrap ((k : Int) - 1) = ((k - 1 : Nat) : Int) := by
  rw [wrap_id (by omega) (by omega)]; omega
theorem elt_int {α : Type} {xs : List α} {i : Int} (h0 : 0 ≤ i) (h : i.toNat < xs.length) : elt xs i = some xs[i.toNat] := by
  unfold elt; rw [if_pos h0, List.getElem?_eq_getElem h]
theorem wf_op {i : api_Instr} (h : wf_api_Instr i) : 0 ≤ i.Op ∧ i.Op < 256 := by
  have := h.1
  simp [Lit.wf, IntKind.min, IntKind.max, IntKind.signed, IntKind.bits] at this
  omega
theorem bounds_some (n : Fin 256) : (op_Bounds.f (n.1 : Int)).isSome = true := by
  revert n; decide +kernel
theorem bounds_op {x : Int} (h0 : 0 ≤ x) (h1 : x < 256) : ∃ b, op_Bounds.f x = some b := by
  obtain ⟨n, rfl⟩ := Int.eq_ofNat_of_zero_le h0
  exact Option.isSome_iff_exists.1 (bounds_some ⟨n, by omega⟩)
def may (i : api_Instr) : Bool := match op_Bounds.f i.Op with
  | some b => ((decide (i.A ≥ b.1)) && (decide (i.A ≤ b.2))) && (decide (i.B = 0))
  | none => false
theorem op_may {i : api_Instr} (h : wf_api_Instr i) : op_May.f i = some (may i) := by
  obtain ⟨h0, h1⟩ := wf_op h
  obtain ⟨b, hb⟩ := bounds_op h0 h1
  unfold op_May.f may
  rw [hb]; rfl
theorem may_place {i : api_Instr} (h : may i = true) (ho : i.Op = 26 ∨ i.Op = 27 ∨ i.Op = 29) : 0 ≤ i.A ∧ i.A ≤ 199 ∧ i.B = 0 := by
  unfold may at h
  have e : op_Bounds.f i.Op = some (0, 199) := by rcases ho with e | e | e <;> rw [e] <;> decide +kernel
  rw [e] at h
  simp at h; omega
theorem contains_may {l : List api_Instr} (hl : l.length < 4611686018427387904) (hw : ∀ x ∈ l, wf_api_Instr x) : slices_ContainsFunc_api_Instr_api_Instr_s1.f l = some (l.any fun x => !may x) := by
  unfold slices_ContainsFunc_api_Instr_api_Instr_s1.f slices_IndexFunc_api_Instr_api_Instr_s1.f
  rw [runF_step (t := .l1 ((0 : Nat) : Int)) rfl]
  obtain ⟨r, hr, hc⟩ := runF_scan (F := slices_IndexFunc_api_Instr_api_Instr_s1.F l) (n := l.length) (b := -1) (a := fun k => (k : Int)) (fun k => .l1 (k : Int)) (fun k => if h : k < l.length then !may l[k] else false) (fun k hk => by
    dsimp only [slices_IndexFunc_api_Instr_api_Instr_s1.F]
    rw [if_pos (by omega), elt_lt hk]
    simp only [Option.bind_some]
    unfold flow_Loops_1.f
    rw [op_may (hw _ (List.getElem_mem hk))]
    simp only [Option.bind_some, dif_pos hk, wrap_succ k (by omega)]
    cases may l[k] <;> rfl) (by dsimp only [slices_IndexFunc_api_Instr_api_Instr_s1.F]; rw [if_neg (by omega)])
  rw [hr]
  simp only [Option.bind_some]
  congr 1
  rw [Bool.eq_iff_iff]
  simp only [decide_eq_true_eq, List.any_eq_true]
  rcases hc with ⟨k, hk, hp, rfl⟩ | ⟨hn, rfl⟩
  · rw [dif_pos hk] at hp
    exact ⟨fun _ => ⟨_, List.getElem_mem hk, hp⟩, fun _ => by omega⟩
  · refine ⟨fun h => by omega, fun ⟨x, hx, hp⟩ => ?_⟩
    obtain ⟨k, hk, rfl⟩ := List.mem_iff_getElem.1 hx
    have := hn k hk
    rw [dif_pos hk, hp] at this; cases this
end FlowPure
namespace FlowPure
def KK (l : List api_Instr) (k : Nat) : Kn := match l[k]? with
  | some x => if x.Op = 28 then .loop else if x.Op = 29 then .again x.A.toNat else .other
  | none => .other
def turns (l : List api_Instr) (k : Nat) : Int := (l.getD k api_Instr.zero).A
def gF (l : List api_Instr) (x : Nat × Nat) : flow_Loop := ⟨x.1, x.2, turns l x.1⟩
def arr (K : Nat → Kn) : Nat → List Int
  | 0 => List.replicate 4 0
  | i + 1 => match K i with
    | .loop => (arr K i).set (opn K i).length i
    | _ => arr K i
theorem arr_succ (K : Nat → Kn) (i : Nat) : arr K (i + 1) = match K i with
    | .loop => (arr K i).set (opn K i).length i
    | _ => arr K i := rfl
theorem opn_succ (K : Nat → Kn) (i : Nat) : opn K (i + 1) = match K i with
    | .loop => i :: opn K i
    | .again _ => (opn K i).tail
    | .other => opn K i := rfl
theorem take_set {α : Type} {v : α} : ∀ (a : List α) (m : Nat), m < a.length → (a.set m v).take (m + 1) = a.take m ++ [v]
  | [], m, h => by simp at h
  | x :: a, 0, h => by simp
  | x :: a, m + 1, h => by
    have := take_set (v := v) a m (by simpa using h)
    simp only [List.set_cons_succ, List.take_succ_cons, this, List.cons_append]
theorem arr_len (K : Nat → Kn) : ∀ i, (arr K i).length = 4
  | 0 => rfl
  | i + 1 => by unfold arr; split <;> simp [arr_len K i]
theorem arr_take (K : Nat → Kn) : ∀ (i : Nat), (∀ j, j < i → good K j) → (arr K i).take (opn K i).length = (opn K i).reverse.map fun (x : Nat) => (x : Int)
  | 0, _ => rfl
  | i + 1, hg => by
    have ih := arr_take K i (fun j hj => hg j (by omega))
    have gi := hg i (by omega)
    unfold good at gi
    rw [arr_succ, opn_succ]
    cases hk : K i with
    | loop =>
      rw [hk] at gi
      simp only at gi ⊢
      rw [List.length_cons, take_set _ _ (by rw [arr_len]; omega), ih]
      simp
    | again a =>
      rw [hk] at gi
      simp only at gi ⊢
      cases ho : opn K i with
      | nil => rw [ho] at gi; cases gi
      | cons b T =>
        rw [ho] at ih
        simp only [List.tail_cons]
        simp only [List.length_cons, List.reverse_cons, List.map_append, List.map_cons, List.map_nil] at ih
        have : (arr K i).take T.length = ((arr K i).take (T.length + 1)).take T.length := by
          rw [List.take_take]; congr 1; omega
        rw [this, ih, List.take_append_of_le_length (by simp), List.take_of_length_le (by simp)]
    | other => exact ih
theorem OL_succ (K : Nat → Kn) (i : Nat) : OL K (i + 1) = OL K i ++ (match K i with | .again a => [(a, i)] | _ => []) := by
  unfold OL
  rw [List.range_succ, List.filterMap_append]
  congr 1
  cases h : K i <;> simp [h]
theorem OL_le (K : Nat → Kn) (i : Nat) : (OL K i).length ≤ i := by
  unfold OL
  exact Nat.le_trans (List.length_filterMap_le _ _) (by simp)
theorem KK_at {l : List api_Instr} {k : Nat} (h : k < l.length) : KK l k = if l[k].Op = 28 then .loop else if l[k].Op = 29 then .again l[k].A.toNat else .other := by
  unfold KK; rw [List.getElem?_eq_getElem h]
theorem turns_at {l : List api_Instr} {k : Nat} (h : k < l.length) : turns l k = l[k].A := by
  unfold turns; rw [List.getD_eq_getElem?_getD, List.getElem?_eq_getElem h]; rfl
theorem again_iff {l : List api_Instr} {k f : Nat} (hk : k < l.length) (hm : ∀ x ∈ l, may x = true) : KK l k = .again f ↔ (l[k].Op = 29 ∧ l[k].A = f) := by
  rw [KK_at hk]
  constructor
  · intro h
    split at h
    · cases h
    · split at h
      · rename_i h28 h29
        have := may_place (hm _ (List.getElem_mem hk)) (.inr (.inr h29))
        cases h
        exact ⟨h29, by omega⟩
      · cases h
  · rintro ⟨h29, hA⟩
    rw [if_neg (by omega), if_pos h29, hA]; rfl
theorem loop_iff {l : List api_Instr} {k : Nat} (hk : k < l.length) : KK l k = .loop ↔ l[k].Op = 28 := by
  rw [KK_at hk]
  constructor
  · intro h
    split at h
    · assumption
    · split at h <;> cases h
  · intro h; rw [if_pos h]
def RLp (K : Nat → Kn) (n m : Nat) : List (Nat × Nat) := (List.range m).flatMap fun f => if K f = .loop then (FL K n f).map fun t => (f, t) else []
theorem RLp_all (K : Nat → Kn) (n : Nat) : RLp K n n = RL K n := rfl
theorem RLp_succ (K : Nat → Kn) (n m : Nat) : RLp K n (m + 1) = RLp K n m ++ (if K m = .loop then (FL K n m).map fun t => (m, t) else []) := by
  unfold RLp
  rw [List.range_succ, List.flatMap_append]
  simp
def p1 (K : Nat → Kn) (n k : Nat) : Prop := K k = .loop → ∃ t, FL K n k = [t] ∧ k ≤ t
def p2 (K : Nat → Kn) (n k : Nat) : Prop := ∀ a, K k = .again a → a < n ∧ K a = .loop
theorem RLp_le {K : Nat → Kn} {n : Nat} : ∀ (m : Nat), (∀ j, j < m → p1 K n j) → (RLp K n m).length ≤ m
  | 0, _ => by simp [RLp]
  | m + 1, h => by
    have ih := RLp_le m (fun j hj => h j (by omega))
    rw [RLp_succ, List.length_append]
    split
    · rename_i hk
      obtain ⟨t, ht, -⟩ := h m (by omega) hk
      rw [ht]; simp; omega
    · simp; omega
theorem RL_len {l : List api_Instr} (h1 : Ok1 (KK l) l.length) : (RL (KK l) l.length).length ≤ l.length := by
  rw [← RLp_all]; exact RLp_le _ (ok1_iff.1 h1)
def st (l : List api_Instr) (k : Nat) : flow_Loops.S := .l1 (arr (KK l) k) (opn (KK l) k).length ((OL (KK l) k).map (gF l)) k
theorem loops_steps {l : List api_Instr} (hl : l.length ≤ 200) (hm : ∀ x ∈ l, may x = true) :
    ((∀ k, k < l.length → good (KK l) k) → runF (flow_Loops.F l) (st l 0) = runF (flow_Loops.F l) (st l l.length)) ∧ (¬ (∀ k, k < l.length → good (KK l) k) → runF (flow_Loops.F l) (st l 0) = some ([], 90)) := by
  refine runF_chk (F := flow_Loops.F l) (st l) (good (KK l)) (fun k hk hg hp => runF_step ?_) (fun k hk hg hp => runF_end ?_)
  all_goals
    have hkk := KK_at hk
    have m4 := (opn_mem (KK l) k hg).2.2
    have hat := arr_take (KK l) k hg
    have hal := arr_len (KK l) k
    dsimp only [st, flow_Loops.F]
    rw [if_pos (by omega), elt_lt hk]
    simp only [Option.bind_some]
  · -- goes on
    by_cases h28 : l[k].Op = 28
    · rw [if_pos h28] at hkk
      unfold good at hp
      rw [hkk] at hp
      simp only at hp
      rw [if_pos h28]
      unfold flow_open_push_s2.f
      rw [if_neg (by omega), elt_lt (by omega)]
      simp only [Option.bind_some]
      rw [if_neg (by simp)]
      unfold flow_Loops.j2
      rw [wrap_succ _ (by omega), wrap_succ _ (by omega), OL_succ, hkk]
      simp only [arr, opn, hkk, List.length_cons, Int.toNat_natCast, List.append_nil]
    · rw [if_neg h28] at hkk
      rw [if_neg h28]
      by_cases h29 : l[k].Op = 29
      · rw [if_pos h29] at hkk
        rw [if_pos h29]
        have hA := may_place (hm _ (List.getElem_mem hk)) (.inr (.inr h29))
        unfold good at hp
        rw [hkk] at hp
        simp only at hp
        cases ho : opn (KK l) k with
        | nil => rw [ho] at hp; cases hp
        | cons b T =>
          rw [ho] at hp hat m4
          simp only [List.head?_cons, Option.some.injEq] at hp
          have hb : b < k := ((opn_mem (KK l) k hg).1 b).1 (by rw [ho]; simp) |>.2.1
          have hbl : b < l.length := by omega
          have hel : elt (arr (KK l) k) (IntKind.i64.wrap (((b :: T).length : Int) - 1)) = some (b : Int) := by
            simp only [List.length_cons] at hat m4 ⊢
            rw [wrap_pred _ (by omega) (by omega), elt_nat]
            have := congrArg (fun z => z[T.length]?) hat
            simp only [List.reverse_cons, List.map_append, List.map_cons, List.map_nil] at this
            rw [List.getElem?_take_of_lt (by omega), List.getElem?_append_right (by simp)] at this
            simpa using this
          unfold flow_open_pop_s2.f
          rw [if_neg (by simp; omega), hel]
          simp only [Option.bind_some]
          have hbA : l[k].A = (b : Int) := by omega
          rw [← hp] at hkk
          unfold flow_open_pop_s2.j1
          rw [if_neg (by simp [hbA])]
          simp only [Option.bind_some, Bool.not_true, Bool.false_eq_true, if_false]
          rw [hbA, elt_lt hbl]
          simp only [Option.bind_some]
          rw [if_pos (by have := OL_le (KK l) k; simp; omega)]
          unfold flow_Loops.j2
          rw [wrap_succ _ (by omega), OL_succ, hkk]
          simp only [List.length_cons] at m4 ⊢
          rw [wrap_pred _ (by omega) (by omega)]
          simp only [arr, opn, hkk, ho, List.tail_cons, List.map_append, List.map_cons, List.map_nil, gF, turns_at hbl, Nat.add_sub_cancel]
      · rw [if_neg h29] at hkk
        rw [if_neg h29]
        unfold flow_Loops.j2
        rw [wrap_succ _ (by omega), OL_succ, hkk]
        simp only [arr, opn, hkk, List.append_nil]
  · -- stops
    by_cases h28 : l[k].Op = 28
    · rw [if_pos h28] at hkk
      unfold good at hp
      rw [hkk] at hp
      simp only at hp
      rw [if_pos h28]
      unfold flow_open_push_s2.f
      rw [if_pos (by omega)]
      rfl
    · rw [if_neg h28] at hkk
      rw [if_neg h28]
      by_cases h29 : l[k].Op = 29
      · rw [if_pos h29] at hkk
        rw [if_pos h29]
        have hA := may_place (hm _ (List.getElem_mem hk)) (.inr (.inr h29))
        unfold good at hp
        rw [hkk] at hp
        simp only at hp
        unfold flow_open_pop_s2.f
        cases ho : opn (KK l) k with
        | nil => rw [if_pos (by simp)]; rfl
        | cons b T =>
          rw [ho] at hp hat m4
          simp only [List.head?_cons, Option.some.injEq] at hp
          have hel : elt (arr (KK l) k) (IntKind.i64.wrap (((b :: T).length : Int) - 1)) = some (b : Int) := by
            simp only [List.length_cons] at hat m4 ⊢
            rw [wrap_pred _ (by omega) (by omega), elt_nat]
            have := congrArg (fun z => z[T.length]?) hat
            simp only [List.reverse_cons, List.map_append, List.map_cons, List.map_nil] at this
            rw [List.getElem?_take_of_lt (by omega), List.getElem?_append_right (by simp)] at this
            simpa using this
          rw [if_neg (by simp; omega), hel]
          simp only [Option.bind_some]
          unfold flow_open_pop_s2.j1
          rw [if_pos (by simp; omega)]
          rfl
      · rw [if_neg h29] at hkk
        unfold good at hp
        rw [hkk] at hp
        exact absurd trivial hp
end FlowPure
namespace FlowPure
def hasB (x : flow_Loop) (a : Int) : Bool := (decide (a > x.From)) && (decide (a ≤ x.To))
theorem hasB_iff {x : flow_Loop} {a : Int} : hasB x a = true ↔ x.From < a ∧ a ≤ x.To := by
  unfold hasB; rw [Bool.and_eq_true, decide_eq_true_eq, decide_eq_true_eq]
theorem hasB_no {x : flow_Loop} {a : Int} : hasB x a = false ↔ ¬ (x.From < a ∧ a ≤ x.To) := by
  rw [← hasB_iff, Bool.not_eq_true]
theorem contains_into {s : List flow_Loop} {a b c d : Int} (hl : s.length < 4611686018427387904) : slices_ContainsFunc_flow_Loop_flow_Loop_s1.f s a b c d = some (s.any fun x => hasB x b && !hasB x d) := by
  unfold slices_ContainsFunc_flow_Loop_flow_Loop_s1.f slices_IndexFunc_flow_Loop_flow_Loop_s1.f
  rw [runF_step (t := .l1 ((0 : Nat) : Int)) rfl]
  obtain ⟨r, hr, hc⟩ := runF_scan (F := slices_IndexFunc_flow_Loop_flow_Loop_s1.F s a b c d) (n := s.length) (b := -1) (a := fun k => (k : Int)) (fun k => .l1 (k : Int)) (fun k => if h : k < s.length then hasB s[k] b && !hasB s[k] d else false) (fun k hk => by
    dsimp only [slices_IndexFunc_flow_Loop_flow_Loop_s1.F]
    rw [if_pos (by omega), elt_lt hk]
    simp only [Option.bind_some]
    have : flow_jumps_1_s1.f s[k] a b c d = some (hasB s[k] b && !hasB s[k] d) := by
      unfold flow_jumps_1_s1.f flow_Loop_has.f
      simp only [Option.bind_some]
      show ((if hasB s[k] b = true then some (!hasB s[k] d) else some false).bind fun t15 => some t15) = _
      cases hasB s[k] b <;> rfl
    rw [this]
    simp only [Option.bind_some, dif_pos hk, wrap_succ k (by omega)]
    cases hasB s[k] b && !hasB s[k] d <;> rfl) (by dsimp only [slices_IndexFunc_flow_Loop_flow_Loop_s1.F]; rw [if_neg (by omega)])
  rw [hr]
  simp only [Option.bind_some]
  congr 1
  rw [Bool.eq_iff_iff]
  simp only [decide_eq_true_eq]
  rw [List.any_eq_true]
  rcases hc with ⟨k, hk, hp, rfl⟩ | ⟨hn, rfl⟩
  · rw [dif_pos hk] at hp
    exact ⟨fun _ => ⟨_, List.getElem_mem hk, hp⟩, fun _ => by omega⟩
  · refine ⟨fun h => by omega, fun ⟨x, hx, hp⟩ => ?_⟩
    obtain ⟨k, hk, rfl⟩ := List.mem_iff_getElem.1 hx
    have := hn k hk
    rw [dif_pos hk] at this
    rw [this] at hp; cases hp
def Jk (l : List api_Instr) (R : Nat × Nat → Prop) (k : Nat) : Prop := ∀ x, l[k]? = some x → (x.Op = 26 ∨ x.Op = 27) → (k : Int) < x.A ∧ x.A < l.length ∧ ∀ y, R y → (y.1 : Int) < x.A → x.A ≤ y.2 → y.1 < k ∧ k ≤ y.2
def Jm (l : List api_Instr) (R : Nat × Nat → Prop) : Prop := ∀ k, k < l.length → Jk l R k
theorem prog_jumps {l : List api_Instr} {O : List (Nat × Nat)} {R : Nat × Nat → Prop} (hl : l.length ≤ 200) (ho : O.length ≤ 200) (hR : ∀ x, x ∈ O ↔ R x) :
    (Jm l R → flow_jumps.f l (O.map (gF l)) = some true) ∧ (¬ Jm l R → flow_jumps.f l (O.map (gF l)) = some false) := by
  unfold flow_jumps.f
  rw [runF_step (t := .l1 ((0 : Nat) : Int)) rfl]
  have val : ∀ k (hk : k < l.length), (l[k].Op = 26 ∨ l[k].Op = 27) → (((if ((decide (l[k].A ≤ (k : Int))) || (decide (l[k].A ≥ (l.length : Int)))) = true then (some true) else ((slices_ContainsFunc_flow_Loop_flow_Loop_s1.f (O.map (gF l)) l[k].Op l[k].A l[k].B k).bind fun t49 => some t49)) = some true ∧ ¬ Jk l R k) ∨ ((if ((decide (l[k].A ≤ (k : Int))) || (decide (l[k].A ≥ (l.length : Int)))) = true then (some true) else ((slices_ContainsFunc_flow_Loop_flow_Loop_s1.f (O.map (gF l)) l[k].Op l[k].A l[k].B k).bind fun t49 => some t49)) = some false ∧ Jk l R k)) := by
    intro k hk hop
    by_cases hA : l[k].A ≤ (k : Int) ∨ l[k].A ≥ (l.length : Int)
    · left
      rw [if_pos (by simpa using hA)]
      refine ⟨rfl, fun h => ?_⟩
      have := h l[k] (List.getElem?_eq_getElem hk) hop
      omega
    · rw [if_neg (by simpa using hA), contains_into (by simp; omega)]
      simp only [Option.bind_some]
      cases hb : (O.map (gF l)).any fun x => hasB x l[k].A && !hasB x (k : Int) with
      | true =>
        left
        refine ⟨rfl, fun h => ?_⟩
        rw [List.any_eq_true] at hb
        obtain ⟨z, hz, hb⟩ := hb
        rw [List.mem_map] at hz
        obtain ⟨y, hy, rfl⟩ := hz
        have := (h l[k] (List.getElem?_eq_getElem hk) hop).2.2 y ((hR y).1 hy)
        rw [Bool.and_eq_true, Bool.not_eq_true', hasB_iff, hasB_no] at hb
        dsimp only [gF] at hb
        omega
      | false =>
        right
        refine ⟨rfl, fun x hx _ => ?_⟩
        rw [List.getElem?_eq_getElem hk] at hx
        cases hx
        refine ⟨by omega, by omega, fun y hy h1 h2 => ?_⟩
        have := List.any_eq_false.1 hb _ (List.mem_map_of_mem (f := gF l) ((hR y).2 hy))
        rw [Bool.and_eq_true, Bool.not_eq_true', hasB_iff, hasB_no] at this
        dsimp only [gF] at this
        omega
  have key := runF_chk (F := flow_jumps.F l (O.map (gF l))) (n := l.length) (b := false) (fun k => .l1 (k : Int)) (Jk l R) (fun k hk _ hp => runF_step (by
    dsimp only [flow_jumps.F]
    rw [if_pos (by omega), elt_lt hk]
    simp only [Option.bind_some]
    unfold flow_jumps.j1
    rw [wrap_succ k (by omega)]
    by_cases hop : l[k].Op = 26 ∨ l[k].Op = 27
    · rw [if_neg (by simp; omega)]
      rcases val k hk hop with ⟨-, h⟩ | ⟨h, -⟩
      · exact absurd hp h
      · rw [h]; rfl
    · rw [if_pos (by simp; omega)])) (fun k hk _ hp => runF_end (by
    dsimp only [flow_jumps.F]
    rw [if_pos (by omega), elt_lt hk]
    simp only [Option.bind_some]
    by_cases hop : l[k].Op = 26 ∨ l[k].Op = 27
    · rw [if_neg (by simp; omega)]
      rcases val k hk hop with ⟨h, -⟩ | ⟨-, h⟩
      · rw [h]; rfl
      · exact absurd h hp
    · refine absurd (fun x hx h => absurd h ?_) hp
      rw [List.getElem?_eq_getElem hk] at hx
      cases hx; exact hop))
  refine ⟨fun h => ?_, fun h => key.2 h⟩
  refine (key.1 h).trans (runF_end ?_)
  dsimp only [flow_jumps.F]
  rw [if_neg (by omega)]
def lastOk (l : List api_Instr) : Prop := ∀ x, l[l.length - 1]? = some x → x.Op = 31 ∨ x.Op = 32
def Known (l : List api_Instr) : Prop := 1 ≤ l.length ∧ l.length ≤ 200 ∧ ∀ x ∈ l, may x = true
def Fine (l : List api_Instr) : Prop := Run (KK l) l.length ∧ lastOk l ∧ Jm l fun x => Pr (KK l) l.length x.1 x.2
theorem prog_loops {l : List api_Instr} (hlen : l.length < 4611686018427387904) (hw : ∀ x ∈ l, wf_api_Instr x) :
    (¬ Known l → flow_Loops.f l = some ([], 40)) ∧ (Known l → Fine l → flow_Loops.f l = some ((RL (KK l) l.length).map (gF l), 0)) ∧ (Known l → ¬ Fine l → flow_Loops.f l = some ([], 90)) := by
  unfold flow_Loops.f
  refine ⟨fun hk => runF_end ?_, ?_⟩
  · dsimp only [flow_Loops.F]
    by_cases hn : l.length = 0 ∨ l.length > 200
    · rw [if_pos (by rw [Bool.or_eq_true, decide_eq_true_eq, decide_eq_true_eq]; omega)]; rfl
    · rw [if_neg (by rw [Bool.or_eq_true, decide_eq_true_eq, decide_eq_true_eq]; omega), contains_may hlen hw]
      have : (l.any fun x => !may x) = true := by
        refine Classical.byContradiction fun hc => hk ⟨by omega, by omega, fun x hx => ?_⟩
        have := List.any_eq_false.1 (Bool.eq_false_iff.2 hc) x hx
        simpa using this
      rw [this]; rfl
  suffices hs : Known l → (Fine l → runF (flow_Loops.F l) .start = some ((RL (KK l) l.length).map (gF l), 0)) ∧ (¬ Fine l → runF (flow_Loops.F l) .start = some ([], 90)) from ⟨fun a b => (hs a).1 b, fun a b => (hs a).2 b⟩
  rintro ⟨n1, n2, hm⟩
  have e0 : runF (flow_Loops.F l) .start = runF (flow_Loops.F l) (st l 0) := runF_step (by
    dsimp only [flow_Loops.F]
    rw [if_neg (by rw [Bool.or_eq_true, decide_eq_true_eq, decide_eq_true_eq]; omega), contains_may hlen hw]
    have : (l.any fun x => !may x) = false := by
      rw [List.any_eq_false]; intro x hx; simp [hm x hx]
    rw [this]; rfl)
  rw [e0]
  obtain ⟨h1, h2⟩ := loops_steps n2 hm
  by_cases hg : ∀ k, k < l.length → good (KK l) k
  case neg => exact ⟨fun h => absurd h.1.1 hg, fun _ => h2 hg⟩
  rw [h1 hg]
  have hlast : l.length - 1 < l.length := by omega
  have wl : IntKind.i64.wrap ((l.length : Int) - 1) = ((l.length - 1 : Nat) : Int) := wrap_pred _ (by omega) (by omega)
  have m4 := (opn_mem (KK l) l.length hg).2.2
  have e1 : flow_Loops.F l (st l l.length) = ((if ((opn (KK l) l.length).length : Int) > 0 then (some true) else some (!((decide (l[l.length - 1].Op = 31)) || (decide (l[l.length - 1].Op = 32))))).bind fun t92 => (if t92 = true then (some true) else ((flow_jumps.f l ((OL (KK l) l.length).map (gF l))).bind fun t95 => some (!t95))).bind fun t96 => if t96 = true then (flow_Loops.j1 l) else (some (.inr ((srt109 ((OL (KK l) l.length).map (gF l)).toArray).toList, 0)))) := by
    dsimp only [flow_Loops.F, st]
    rw [if_neg (by omega), wl, elt_lt hlast, if_pos (show ((OL (KK l) l.length).map (gF l)).length < 4611686018427387904 by have := OL_le (KK l) l.length; simp; omega)]
    simp only [Option.bind_some, flow_last.f]
  have lasteq : lastOk l ↔ (l[l.length - 1].Op = 31 ∨ l[l.length - 1].Op = 32) := by
    unfold lastOk
    constructor
    · intro h; exact h _ (List.getElem?_eq_getElem hlast)
    · intro h x hx; rw [List.getElem?_eq_getElem hlast] at hx; cases hx; exact h
  by_cases hS : opn (KK l) l.length = []
  case neg =>
    refine ⟨fun h => absurd h.1.2 hS, fun _ => runF_end ?_⟩
    rw [e1, if_pos (by cases ho : opn (KK l) l.length with | nil => exact absurd ho hS | cons => simp)]
    rfl
  have hrun : Run (KK l) l.length := ⟨hg, hS⟩
  obtain ⟨o1, o2⟩ := run_pairs hrun
  rw [hS] at e1
  rw [if_neg (by simp)] at e1
  simp only [Option.bind_some] at e1
  by_cases hL : lastOk l
  case neg =>
    refine ⟨fun h => absurd h.2.1 hL, fun _ => runF_end ?_⟩
    rw [e1, if_pos (by have := mt lasteq.2 hL; simp; omega)]
    rfl
  rw [if_neg (by have := lasteq.1 hL; simp; omega)] at e1
  obtain ⟨j1, j2⟩ := prog_jumps (R := fun x => Pr (KK l) l.length x.1 x.2) n2 (Nat.le_trans (OL_le _ _) n2) (mem_OL o2)
  by_cases hJ : Jm l fun x => Pr (KK l) l.length x.1 x.2
  · refine ⟨fun _ => runF_end ?_, fun h => absurd ⟨hrun, hL, hJ⟩ h⟩
    rw [e1, j1 hJ]
    simp only [Option.bind_some, Bool.not_true, Bool.false_eq_true, if_false]
    obtain ⟨sp, ss⟩ := srt109_ok ((OL (KK l) l.length).map (gF l)).toArray
    rw [sorted_RL (key := fun x : flow_Loop => x.From) (g := gF l) (fun _ => rfl) o1 o2 sp ss]
  · refine ⟨fun h => absurd h.2.2 hJ, fun _ => runF_end ?_⟩
    rw [e1, j2 hJ]
    rfl
end FlowPure
namespace FlowPure
theorem ms2 (x y : Int) : ([x, y].mergeSort fun x y => decide (x ≤ y)) = if x ≤ y then [x, y] else [y, x] := by
  by_cases h : x ≤ y
  · rw [if_pos h]
    exact List.mergeSort_of_pairwise (by simp [h])
  · rw [if_neg h]
    have hp : [x, y].mergeSort (fun x y => decide (x ≤ y)) = [y, x].mergeSort (fun x y => decide (x ≤ y)) := by
      have p1 := (List.mergeSort_perm [x, y] fun x y => decide (x ≤ y)).trans ((List.Perm.swap y x []).trans (List.mergeSort_perm [y, x] fun x y => decide (x ≤ y)).symm)
      refine List.Perm.eq_of_pairwise (le := fun a b => a ≤ b) (fun a b _ _ h1 h2 => Int.le_antisymm h1 h2) ?_ ?_ p1
      · exact (List.pairwise_mergeSort (le := fun x y => decide (x ≤ y)) (fun a b c h1 h2 => by simp at *; omega) (fun a b => by simp; omega) _).imp fun h => by simpa using h
      · exact (List.pairwise_mergeSort (le := fun x y => decide (x ≤ y)) (fun a b c h1 h2 => by simp at *; omega) (fun a b => by simp; omega) _).imp fun h => by simpa using h
    rw [hp]
    exact List.mergeSort_of_pairwise (by simp; omega)
theorem ct2 (x y : Int) : Lib.compact [x, y] = if x = y then [x] else [x, y] := by
  by_cases h : x = y
  · subst h; simp [Lib.compact, Lib.compactUpTo, Lib.keeps, List.range_succ]
  · simp [Lib.compact, Lib.compactUpTo, Lib.keeps, List.range_succ, h, Ne.symm h]
theorem ct1 (x : Int) : Lib.compact [x] = [x] := by simp [Lib.compact, Lib.compactUpTo, Lib.keeps, List.range_succ]
theorem ct0 : Lib.compact ([] : List Int) = [] := by simp [Lib.compact, Lib.compactUpTo]
def ways (l : List api_Instr) (a : Nat) : List Int := match l[a]? with
  | none => []
  | some x => if x.Op = 31 ∨ x.Op = 32 then [] else if x.Op = 26 then [x.A] else if x.Op = 27 then (if x.A = ((a + 1 : Nat) : Int) then [x.A] else [((a + 1 : Nat) : Int), x.A]) else if x.Op = 29 then [x.A + 1, ((a + 1 : Nat) : Int)] else [((a + 1 : Nat) : Int)]
theorem j2_ways (l : List api_Instr) (a : Int) (s : List Int) (h : s.length < 4611686018427387904) : flow_Ways.j2 l a s = some (Lib.compact (s.mergeSort fun x y => decide (x ≤ y)), 0) := by
  unfold flow_Ways.j2
  rw [if_pos h, if_pos (by rw [List.length_mergeSort]; exact h)]
theorem leads_eq (n : Fin 33) : op_Leads.f (n.1 : Int) = some (decide (n.1 = 26 ∨ n.1 = 27 ∨ n.1 = 29)) := by
  revert n; decide +kernel
theorem op_lt {i : api_Instr} (hw : wf_api_Instr i) (h : may i = true) : 0 ≤ i.Op ∧ i.Op < 33 := by
  obtain ⟨h0, h1⟩ := wf_op hw
  refine ⟨h0, ?_⟩
  rcases Int.lt_or_le i.Op 33 with z | z
  · exact z
  · unfold may op_Bounds.f op_Known.f at h
    rw [wrap_id (by omega) (by omega)] at h
    simp only [Option.bind_some] at h
    rw [if_pos (by simp; omega)] at h
    simp at h
    omega
theorem prog_ways {l : List api_Instr} (hlen : l.length < 4611686018427387904) (hw : ∀ x ∈ l, wf_api_Instr x) :
    (∀ a, ¬ Known l → flow_Ways.f l a = some ([], 40)) ∧ (∀ a, Known l → ¬ Fine l → flow_Ways.f l a = some ([], 90)) ∧ (∀ a : Int, Known l → Fine l → (a < 0 ∨ a ≥ l.length) → flow_Ways.f l a = some ([], 2)) ∧ (∀ a : Nat, Known l → Fine l → a < l.length → flow_Ways.f l a = some (ways l a, 0)) := by
  obtain ⟨a1, a2, a3⟩ := prog_loops hlen hw
  unfold flow_Ways.f flow_Check.f
  refine ⟨fun a h => ?_, fun a h hf => ?_, fun a h hf ha => ?_, fun a h hf ha => ?_⟩
  · rw [a1 h]; rfl
  · rw [a3 h hf]; rfl
  · rw [a2 h hf]
    simp only [Option.bind_some]
    rw [if_neg (by simp), if_pos (by rw [Bool.or_eq_true, decide_eq_true_eq, decide_eq_true_eq]; exact ha)]
  · rw [a2 h hf]
    simp only [Option.bind_some]
    rw [if_neg (by simp), if_neg (by rw [Bool.or_eq_true, decide_eq_true_eq, decide_eq_true_eq]; omega), elt_lt ha]
    simp only [Option.bind_some]
    have hm := h.2.2 _ (List.getElem_mem ha)
    have hop := op_lt (hw _ (List.getElem_mem ha)) hm
    have hJ := hf.2.2 a ha
    have hn := h.2.1
    unfold ways
    rw [List.getElem?_eq_getElem ha]
    dsimp only
    generalize hx : l[a] = x at hm hop
    have hgoes : op_Goes.f x.Op = some (decide (x.Op ≠ 26 ∧ x.Op ≠ 31 ∧ x.Op ≠ 32)) := by
      unfold op_Goes.f op_Known.f
      rw [wrap_id (by omega) (by omega)]
      simp only [Option.bind_some]
      congr 1
      rw [Bool.eq_iff_iff]
      simp only [Bool.and_eq_true, decide_eq_true_eq]
      omega
    have hleads : op_Leads.f x.Op = some (decide (x.Op = 26 ∨ x.Op = 27 ∨ x.Op = 29)) := by
      obtain ⟨n, hn⟩ := Int.eq_ofNat_of_zero_le hop.1
      have := leads_eq ⟨n, by omega⟩
      dsimp only at this
      rw [hn]
      have e : (n : Int) = (Int.ofNat n) := rfl
      rw [this]
      congr 1
      rw [Bool.eq_iff_iff, decide_eq_true_eq, decide_eq_true_eq]
      omega
    have wa : IntKind.i64.wrap ((a : Int) + 1) = ((a + 1 : Nat) : Int) := wrap_succ a (by omega)
    rw [hgoes]
    simp only [Option.bind_some]
    rw [wa, if_pos (show (([] : List Int).length + [((a + 1 : Nat) : Int)].length) * 8 ≤ 140737488355328 by simp)]
    unfold flow_Ways.j1
    rw [hleads]
    simp only [Option.bind_some, List.nil_append]
    by_cases h31 : x.Op = 31 ∨ x.Op = 32
    · rw [if_neg (by rw [decide_eq_true_eq]; omega), if_neg (by omega), if_neg (by rw [decide_eq_true_eq]; omega), if_pos h31, j2_ways _ _ _ (by simp)]
      simp [ct0]
    · rw [if_neg h31]
      by_cases h26 : x.Op = 26
      · have hp := may_place hm (.inl h26)
        rw [if_neg (by rw [decide_eq_true_eq]; omega), if_neg (by omega), if_pos (by rw [decide_eq_true_eq]; omega), if_pos h26, if_pos (by simp), j2_ways _ _ _ (by simp)]
        simp [ct1]
      · rw [if_pos (by rw [decide_eq_true_eq]; omega), if_neg h26]
        by_cases h29 : x.Op = 29
        · have hp := may_place hm (.inr (.inr h29))
          have hA : x.A < a := by
            have hk : KK l a = .again x.A.toNat := by rw [KK_at ha, hx, if_neg (by omega), if_pos h29]
            obtain ⟨T, hT⟩ := again_mem hf.1.1 ha hk
            have := ((opn_mem (KK l) a fun j hj => hf.1.1 j (by omega)).1 x.A.toNat).1 (by rw [hT]; simp)
            omega
          have wA : IntKind.i64.wrap (x.A + 1) = x.A + 1 := wrap_id (by omega) (by omega)
          rw [if_pos h29, if_pos (by simp), if_neg (by omega), if_pos h29, wA, j2_ways _ _ _ (by simp)]
          simp only [List.singleton_append]
          rw [ms2, if_neg (by omega), ct2, if_neg (by omega)]
        · rw [if_neg h29, if_neg h29]
          by_cases h27 : x.Op = 27
          · have hj := (hJ x (by rw [List.getElem?_eq_getElem ha, hx]) (.inr h27)).1
            rw [if_pos (by rw [decide_eq_true_eq]; omega), if_pos h27, if_pos (by simp), j2_ways _ _ _ (by simp)]
            simp only [List.singleton_append]
            rw [ms2, if_pos (by omega), ct2]
            by_cases e : x.A = ((a + 1 : Nat) : Int)
            · rw [if_pos e.symm, if_pos e, e]
            · rw [if_neg (Ne.symm e), if_neg e]
          · rw [if_neg (by rw [decide_eq_true_eq]; omega), if_neg h27, j2_ways _ _ _ (by simp)]
            simp [ct1]
end FlowPure
namespace FlowPure
instance (x : api_Instr) : Decidable (wf_api_Instr x) := by unfold wf_api_Instr; infer_instance
end FlowPure
namespace FlowPure
def WF (l : List api_Instr) (a : Nat) (x : api_Instr) (W : List Int) : Prop :=
  (W.length = 0 ↔ (x.Op = 31 ∨ x.Op = 32)) ∧ W.length ≤ 2 ∧ ∀ i (hi : i < W.length), 0 ≤ W[i] ∧ W[i] < l.length ∧ (W[i] ≤ a → x.Op = 29 ∧ W[i] = x.A + 1) ∧ (∀ h : 0 < i, W[i - 1] < W[i]) ∧
      ∀ y : Nat × Nat, Pr (KK l) l.length y.1 y.2 → (y.1 : Int) < W[i] → W[i] ≤ y.2 → y.1 ≤ a ∧ a ≤ y.2
theorem ways_facts {l : List api_Instr} (hk : Known l) (hf : Fine l) {a : Nat} (ha : a < l.length) : WF l a l[a] (ways l a) := by
  obtain ⟨o1, o2⟩ := run_pairs hf.1
  obtain ⟨-, -, hN, -⟩ := (run_iff (R := RL (KK l) l.length) fun h => ⟨fun x => mem_RL x, RL_nodup h⟩).1 hf.1
  have hJ := hf.2.2 a ha
  have hm := hk.2.2 _ (List.getElem_mem ha)
  have hlast : ¬ (l[a].Op = 31 ∨ l[a].Op = 32) → a + 1 < l.length := by
    intro h
    rcases Nat.lt_or_ge (a + 1) l.length with z | z
    · exact z
    · have e : l.length - 1 = a := by omega
      have := hf.2.1 l[a] (by rw [e, List.getElem?_eq_getElem ha])
      exact absurd this h
  have hag : l[a].Op = 29 → 0 ≤ l[a].A ∧ l[a].A < a ∧ KK l a = .again l[a].A.toNat := by
    intro h29
    have hp := may_place hm (.inr (.inr h29))
    have hkk : KK l a = .again l[a].A.toNat := by rw [KK_at ha, if_neg (by omega), if_pos h29]
    obtain ⟨T, hT⟩ := again_mem hf.1.1 ha hkk
    have := ((opn_mem (KK l) a fun j hj => hf.1.1 j (by omega)).1 l[a].A.toNat).1 (by rw [hT]; simp)
    exact ⟨hp.1, by omega, hkk⟩
  have hnext : ∀ x : Nat × Nat, Pr (KK l) l.length x.1 x.2 → (x.1 : Int) < ((a + 1 : Nat) : Int) → ((a + 1 : Nat) : Int) ≤ x.2 → x.1 ≤ a ∧ a ≤ x.2 := fun x _ h1 h2 => by omega
  have hjmp : (l[a].Op = 26 ∨ l[a].Op = 27) → (a : Int) < l[a].A ∧ l[a].A < l.length ∧ ∀ x : Nat × Nat, Pr (KK l) l.length x.1 x.2 → (x.1 : Int) < l[a].A → l[a].A ≤ x.2 → x.1 ≤ a ∧ a ≤ x.2 := by
    intro h
    have := hJ _ (List.getElem?_eq_getElem ha) h
    exact ⟨this.1, this.2.1, fun x hx h1 h2 => by have := this.2.2 x hx h1 h2; omega⟩
  have hback : l[a].Op = 29 → ∀ x : Nat × Nat, Pr (KK l) l.length x.1 x.2 → (x.1 : Int) < l[a].A + 1 → l[a].A + 1 ≤ x.2 → x.1 ≤ a ∧ a ≤ x.2 := by
    intro h29 x hx h1 h2
    obtain ⟨q1, q2, q3⟩ := hag h29
    obtain ⟨b1, b2⟩ := o2 a _ ha q3
    have pa : Pr (KK l) l.length l[a].A.toNat a := ⟨b1, ha, b2, q3⟩
    refine ⟨by omega, ?_⟩
    by_cases e : x.1 = l[a].A.toNat
    · obtain ⟨t0, -, -, hu⟩ := o1 _ pa.1 b2
      have e1 := hu _ pa
      have e2 := hu x.2 (by rw [← e]; exact hx)
      omega
    · exact hN _ _ _ _ hx pa (by omega) (by omega)
  have hway : ways l a = if l[a].Op = 31 ∨ l[a].Op = 32 then [] else if l[a].Op = 26 then [l[a].A] else if l[a].Op = 27 then (if l[a].A = ((a + 1 : Nat) : Int) then [l[a].A] else [((a + 1 : Nat) : Int), l[a].A]) else if l[a].Op = 29 then [l[a].A + 1, ((a + 1 : Nat) : Int)] else [((a + 1 : Nat) : Int)] := by
    unfold ways
    rw [List.getElem?_eq_getElem ha]
  rw [hway]
  clear hway
  generalize l[a] = x at *
  by_cases h31 : x.Op = 31 ∨ x.Op = 32
  · rw [if_pos h31]
    exact ⟨by simpa using h31, by simp, fun i hi => by simp at hi⟩
  · have hl := hlast h31
    rw [if_neg h31]
    have one : ∀ w : Int, (0 ≤ w ∧ w < l.length ∧ (w ≤ a → x.Op = 29 ∧ w = x.A + 1) ∧ ∀ y : Nat × Nat, Pr (KK l) l.length y.1 y.2 → (y.1 : Int) < w → w ≤ y.2 → y.1 ≤ a ∧ a ≤ y.2) → WF l a x [w] := by
      intro w hw
      refine ⟨by simpa using h31, by simp, fun i hi => ?_⟩
      obtain rfl : i = 0 := by simpa using hi
      exact ⟨hw.1, hw.2.1, hw.2.2.1, fun h => absurd h (by omega), hw.2.2.2⟩
    have two : ∀ v w : Int, v < w → (0 ≤ v ∧ v < l.length ∧ (v ≤ a → x.Op = 29 ∧ v = x.A + 1) ∧ ∀ y : Nat × Nat, Pr (KK l) l.length y.1 y.2 → (y.1 : Int) < v → v ≤ y.2 → y.1 ≤ a ∧ a ≤ y.2) → (0 ≤ w ∧ w < l.length ∧ (w ≤ a → x.Op = 29 ∧ w = x.A + 1) ∧ ∀ y : Nat × Nat, Pr (KK l) l.length y.1 y.2 → (y.1 : Int) < w → w ≤ y.2 → y.1 ≤ a ∧ a ≤ y.2) → WF l a x [v, w] := by
      intro v w hlt hv hw
      refine ⟨by simpa using h31, by simp, fun i hi => ?_⟩
      rcases i with _ | _ | i
      · exact ⟨hv.1, hv.2.1, hv.2.2.1, fun h => absurd h (by omega), hv.2.2.2⟩
      · exact ⟨hw.1, hw.2.1, hw.2.2.1, fun _ => hlt, hw.2.2.2⟩
      · simp at hi; omega
    by_cases h26 : x.Op = 26
    · rw [if_pos h26]
      obtain ⟨j1, j2, j3⟩ := hjmp (.inl h26)
      exact one _ ⟨by omega, j2, fun h => by omega, j3⟩
    · rw [if_neg h26]
      by_cases h27 : x.Op = 27
      · rw [if_pos h27]
        obtain ⟨j1, j2, j3⟩ := hjmp (.inr h27)
        by_cases e : x.A = ((a + 1 : Nat) : Int)
        · rw [if_pos e]
          exact one _ ⟨by omega, j2, fun h => by omega, j3⟩
        · rw [if_neg e]
          exact two _ _ (by omega) ⟨by omega, by omega, fun h => by omega, hnext⟩ ⟨by omega, j2, fun h => by omega, j3⟩
      · rw [if_neg h27]
        by_cases h29 : x.Op = 29
        · rw [if_pos h29]
          obtain ⟨q1, q2, q3⟩ := hag h29
          exact two _ _ (by omega) ⟨by omega, by omega, fun _ => ⟨h29, rfl⟩, hback h29⟩ ⟨by omega, by omega, fun h => by omega, hnext⟩
        · rw [if_neg h29]
          exact one _ ⟨by omega, by omega, fun h => by omega, hnext⟩
end FlowPure
namespace TypesPure
open FlowPure
theorem concat2 {x y : List Int} (h : x.length + y.length ≤ 140737488355328) : slices_Concat_uint8_uint8.f [x, y] = some (x ++ y) := by
  unfold slices_Concat_uint8_uint8.f
  have w1 : IntKind.i64.wrap ((0 : Int) + (x.length : Int)) = x.length := by rw [wrap_id (by omega) (by omega)]; omega
  have w2 : IntKind.i64.wrap ((x.length : Int) + (y.length : Int)) = ((x.length + y.length : Nat) : Int) := by rw [wrap_id (by omega) (by omega)]; omega
  have i1 : IntKind.i64.wrap ((0 : Int) + 1) = 1 := by decide
  have i2 : IntKind.i64.wrap ((1 : Int) + 1) = 2 := by decide
  rw [runF_step (t := .l1 0 0) rfl, runF_step (t := .l1 (x.length : Int) 1), runF_step (t := .l1 ((x.length + y.length : Nat) : Int) 2), runF_step (t := .l2 [] 0), runF_step (t := .l2 x 1), runF_step (t := .l2 (x ++ y) 2), runF_end]
  · dsimp only [slices_Concat_uint8_uint8.F]; rw [if_neg (by simp)]
  · dsimp only [slices_Concat_uint8_uint8.F]; rw [if_pos (by simp), show elt [x, y] 1 = some y from rfl]; simp only [Option.bind_some]; rw [if_pos (by omega), i2]
  · dsimp only [slices_Concat_uint8_uint8.F]; rw [if_pos (by simp), show elt [x, y] 0 = some x from rfl]; simp only [Option.bind_some]; rw [if_pos (by simp; omega), i1]; rfl
  · dsimp only [slices_Concat_uint8_uint8.F]; rw [if_neg (by simp), if_pos (by omega)]
  · dsimp only [slices_Concat_uint8_uint8.F]; rw [if_pos (by simp), show elt [x, y] 1 = some y from rfl]; simp only [Option.bind_some]; rw [w2, if_neg (by omega)]; unfold slices_Concat_uint8_uint8.j1; rw [w2, i2]
  · dsimp only [slices_Concat_uint8_uint8.F]; rw [if_pos (by simp), show elt [x, y] 0 = some x from rfl]; simp only [Option.bind_some]; rw [w1, if_neg (by omega)]; unfold slices_Concat_uint8_uint8.j1; rw [w1, i1]
theorem clone8 {x : List Int} (h : x.length ≤ 140737488355328) : slices_Clone_uint8_uint8.f x = some x := by
  unfold slices_Clone_uint8_uint8.f
  rw [nilOr_same (by rintro rfl; rfl), if_pos (by simp; omega)]; rfl
theorem cloneRows {x : List types_Row} (h : x.length ≤ 200) : slices_Clone_types_Row_types_Row.f x = some x := by
  unfold slices_Clone_types_Row_types_Row.f
  rw [nilOr_same (by rintro rfl; rfl), if_pos (by simp; omega)]; rfl
theorem repeat2 (a : Int) : slices_Repeat_uint8_uint8.f [a] 2 = some [a, a] := by
  unfold slices_Repeat_uint8_uint8.f
  have m : math_bits_Mul.f (IntKind.u64.wrap (([a] : List Int).length : Int)) (IntKind.u64.wrap 2) = some (0, 2) := by show math_bits_Mul.f (IntKind.u64.wrap 1) (IntKind.u64.wrap 2) = some (0, 2); decide +kernel
  have w2 : IntKind.i64.wrap 2 = 2 := by decide
  rw [runF_step (t := .l1 [a, 0] 1), runF_step (t := .l1 [a, a] 2), runF_end]
  · dsimp only [slices_Repeat_uint8_uint8.F]; rw [if_neg (by simp)]
  · dsimp only [slices_Repeat_uint8_uint8.F]; rw [if_pos (by simp), if_pos (by simp), if_pos (by simp)]; rfl
  · dsimp only [slices_Repeat_uint8_uint8.F]
    rw [if_neg (by omega)]
    unfold slices_Repeat_uint8_uint8.j1
    rw [m]
    simp only [Option.bind_some]
    rw [if_neg (by decide)]
    unfold slices_Repeat_uint8_uint8.j2
    dsimp only
    rw [w2, if_pos (by omega)]; rfl
theorem same8 {x y : List Int} (h : x.length < 4611686018427387904) : slices_Equal_uint8_uint8.f x y = some (decide (x = y)) := by
  unfold slices_Equal_uint8_uint8.f
  by_cases hl : x.length = y.length
  · rw [runF_step (t := .l1 ((0 : Nat) : Int)) (by dsimp only [slices_Equal_uint8_uint8.F]; rw [if_neg (by omega)]; rfl)]
    obtain ⟨r, hr, hc⟩ := runF_scan (F := slices_Equal_uint8_uint8.F x y) (n := x.length) (b := true) (a := fun _ => false) (fun k => .l1 (k : Int)) (fun k => decide (x[k]? ≠ y[k]?)) (fun k hk => by
      have hk' : k < y.length := by omega
      dsimp only [slices_Equal_uint8_uint8.F]
      rw [if_pos (by omega), elt_lt hk, elt_lt hk', List.getElem?_eq_getElem hk, List.getElem?_eq_getElem hk']
      simp only [Option.bind_some, Option.some.injEq, ne_eq, wrap_succ k (by omega), decide_eq_true_eq]
      by_cases e : x[k] = y[k]
      · rw [if_neg (by simpa using e), if_neg (by simpa using e)]
      · rw [if_pos (by simpa using e), if_pos (by simpa using e)]) (by dsimp only [slices_Equal_uint8_uint8.F]; rw [if_neg (by omega)])
    rw [hr]
    congr 1
    rcases hc with ⟨k, hk, hp, rfl⟩ | ⟨hn, rfl⟩
    · rw [eq_comm, decide_eq_false_iff_not]
      rintro rfl; simp at hp
    · rw [eq_comm, decide_eq_true_eq]
      refine List.ext_getElem? fun k => ?_
      rcases Nat.lt_or_ge k x.length with z | z
      · have := hn k z; simpa using this
      · rw [List.getElem?_eq_none z, List.getElem?_eq_none (by omega)]
  · rw [runF_end (r := false) (by dsimp only [slices_Equal_uint8_uint8.F]; rw [if_pos (by omega)])]
    congr 1
    rw [eq_comm, decide_eq_false_iff_not]
    rintro rfl; exact hl rfl
structure TE where
  G : List api_Value
  P : List api_Value
  M : List api_Method
  res : Int
  K : List Int
def there (E : TE) (i : api_Instr) : Bool := if i.Op = 1 then decide (i.A < E.P.length) else if i.Op = 2 ∨ i.Op = 3 then decide (i.A < E.K.length) else if i.Op = 4 ∨ i.Op = 5 then decide (i.A < E.G.length) else if i.Op = 30 then decide (i.A < E.M.length) else true
theorem there_eq (E : TE) (mig : Int) (ar lo : List Int) (re : Bool) (fu sta he : Int) (co : List api_Instr) (i : api_Instr) : types_look_there_s1.f E.G E.P E.M mig ar lo E.res re fu sta he co E.K i = some (there E i) := by
  unfold types_look_there_s1.f types_look_there_s1.j2 types_look_there_s1.j3 types_look_there_s1.j1 there
  by_cases h1 : i.Op = 1
  · simp [h1]
  · by_cases h2 : i.Op = 2
    · simp [h2]
    · by_cases h3 : i.Op = 3
      · simp [h3]
      · by_cases h4 : i.Op = 4
        · simp [h4]
        · by_cases h5 : i.Op = 5
          · simp [h5]
          · by_cases h6 : i.Op = 30
            · simp [h6]
            · simp [h1, h2, h3, h4, h5, h6]
theorem contains_there {E : TE} {mig : Int} {ar lo : List Int} {re : Bool} {fu sta he : Int} {co l : List api_Instr} (hl : l.length < 4611686018427387904) : slices_ContainsFunc_api_Instr_api_Instr_s2.f l E.G E.P E.M mig ar lo E.res re fu sta he co E.K = some (l.any fun x => !there E x) := by
  unfold slices_ContainsFunc_api_Instr_api_Instr_s2.f slices_IndexFunc_api_Instr_api_Instr_s2.f
  rw [runF_step (t := .l1 ((0 : Nat) : Int)) rfl]
  obtain ⟨r, hr, hc⟩ := runF_scan (F := slices_IndexFunc_api_Instr_api_Instr_s2.F l E.G E.P E.M mig ar lo E.res re fu sta he co E.K) (n := l.length) (b := -1) (a := fun k => (k : Int)) (fun k => .l1 (k : Int)) (fun k => if h : k < l.length then !there E l[k] else false) (fun k hk => by
    dsimp only [slices_IndexFunc_api_Instr_api_Instr_s2.F]
    rw [if_pos (by omega), elt_lt hk]
    simp only [Option.bind_some]
    unfold types_Rows_1_s1.f
    rw [there_eq]
    simp only [Option.bind_some, dif_pos hk, wrap_succ k (by omega)]
    cases there E l[k] <;> rfl) (by dsimp only [slices_IndexFunc_api_Instr_api_Instr_s2.F]; rw [if_neg (by omega)])
  rw [hr]
  simp only [Option.bind_some]
  congr 1
  rw [Bool.eq_iff_iff]
  simp only [decide_eq_true_eq, List.any_eq_true]
  rcases hc with ⟨k, hk, hp, rfl⟩ | ⟨hn, rfl⟩
  · rw [dif_pos hk] at hp
    exact ⟨fun _ => ⟨_, List.getElem_mem hk, hp⟩, fun _ => by omega⟩
  · refine ⟨fun h => by omega, fun ⟨x, hx, hp⟩ => ?_⟩
    obtain ⟨k, hk, rfl⟩ := List.mem_iff_getElem.1 hx
    have := hn k hk
    rw [dif_pos hk, hp] at this; cases this
theorem may_named {i : api_Instr} (hw : wf_api_Instr i) (h : may i = true) (ho : i.Op = 1 ∨ i.Op = 2 ∨ i.Op = 3 ∨ i.Op = 4 ∨ i.Op = 5 ∨ i.Op = 30) : 0 ≤ i.A := by
  unfold may at h
  have e : (op_Bounds.f i.Op).map (·.1) = some 0 := by rcases ho with e | e | e | e | e | e <;> rw [e] <;> decide +kernel
  cases hb : op_Bounds.f i.Op with
  | none => rw [hb] at e; cases e
  | some b =>
    rw [hb] at e h
    simp at e h; omega
def At {α : Type} (xs : List α) (d : α) (a : Int) : α := xs[a.toNat]?.getD d
theorem elt_At {α : Type} {xs : List α} {a : Int} (d : α) (h0 : 0 ≤ a) (h1 : a < xs.length) : elt xs a = some (At xs d a) := by
  have : a.toNat < xs.length := by omega
  rw [elt_int h0 this]
  simp [At, this]
def named (E : TE) (i : api_Instr) : Int := if i.Op = 1 then (At E.P api_Value.zero i.A).Kind else if i.Op = 4 ∨ i.Op = 5 then (At E.G api_Value.zero i.A).Kind else At E.K 0 i.A
theorem named_eq {E : TE} {mig : Int} {ar lo : List Int} {re : Bool} {fu sta he : Int} {co : List api_Instr} {rows : List types_Row} {i : api_Instr} (hw : wf_api_Instr i) (hm : may i = true) (ht : there E i = true) (ho : i.Op = 1 ∨ i.Op = 2 ∨ i.Op = 3 ∨ i.Op = 4 ∨ i.Op = 5) :
    types_look_named_s1.f E.G E.P E.M mig ar lo E.res re fu sta he co E.K rows i = some (named E i, rows) := by
  have h0 := may_named hw hm (by omega)
  unfold types_look_named_s1.f types_look_named_s1.j1 named
  unfold there at ht
  rcases ho with e | e | e | e | e
  · simp only [e, if_true, decide_eq_true_eq] at ht ⊢
    rw [elt_At api_Value.zero h0 ht]; rfl
  · simp [e] at ht ⊢
    rw [elt_At 0 h0 ht]; rfl
  · simp [e] at ht ⊢
    rw [elt_At 0 h0 ht]; rfl
  · simp [e] at ht ⊢
    rw [elt_At api_Value.zero h0 ht]; rfl
  · simp [e] at ht ⊢
    rw [elt_At api_Value.zero h0 ht]; rfl
end TypesPure
namespace TypesPure
open FlowPure
def ofOk (n : Nat) (o : Option (op_Shape × Bool)) : Bool := match o with
  | none => false
  | some s => if s.2 = true then decide (s.1.Takes.length ≤ 3 ∧ s.1.Gives.length ≤ 2) && decide (n ≠ 31) else decide (s.1.Takes = [] ∧ s.1.Gives = []) && decide (n = 1 ∨ n = 2 ∨ n = 3 ∨ n = 4 ∨ n = 5 ∨ n = 7 ∨ n = 8 ∨ n = 30 ∨ n = 31)
theorem of_all (n : Fin 33) : ofOk n.1 (op_Of.f (n.1 : Int)) = true := by revert n; decide +kernel
theorem of_some {x : Int} (h0 : 0 ≤ x) (h1 : x < 33) : ∃ s : op_Shape × Bool, op_Of.f x = some s ∧ ((s.2 = true ∧ s.1.Takes.length ≤ 3 ∧ s.1.Gives.length ≤ 2 ∧ x ≠ 31) ∨ (s = (⟨[], []⟩, false) ∧ (x = 1 ∨ x = 2 ∨ x = 3 ∨ x = 4 ∨ x = 5 ∨ x = 7 ∨ x = 8 ∨ x = 30 ∨ x = 31))) := by
  obtain ⟨n, rfl⟩ := Int.eq_ofNat_of_zero_le h0
  have := of_all ⟨n, by omega⟩
  dsimp only at this
  cases ho : op_Of.f (n : Int) with
  | none => rw [ho] at this; cases this
  | some s =>
    rw [ho] at this
    refine ⟨s, rfl, ?_⟩
    unfold ofOk at this
    dsimp only at this
    by_cases hs : s.2 = true
    · rw [if_pos hs, Bool.and_eq_true, decide_eq_true_eq, decide_eq_true_eq] at this
      exact .inl ⟨hs, this.1.1, this.1.2, by omega⟩
    · rw [if_neg hs, Bool.and_eq_true, decide_eq_true_eq, decide_eq_true_eq] at this
      obtain ⟨⟨t, g⟩, b⟩ := s
      obtain ⟨⟨rfl, rfl⟩, h⟩ := this
      simp only [Bool.not_eq_true] at hs
      subst hs
      exact .inr ⟨rfl, by omega⟩
def two (row : List Int) : List Int := row.drop (row.length - 2)
def shapeC (E : TE) (i : api_Instr) (row : List Int) : List Int × List Int := match op_Of.f i.Op with
  | none => ([], [])
  | some s => if s.2 = true then (s.1.Takes, s.1.Gives)
    else if i.Op = 1 ∨ i.Op = 2 ∨ i.Op = 4 then ([], [named E i])
    else if i.Op = 3 ∨ i.Op = 5 then ([named E i], [])
    else if i.Op = 30 then ((At E.M api_Method.zero i.A).Args, [(At E.M api_Method.zero i.A).Result])
    else if i.Op = 31 then ([E.res], [])
    else if i.Op = 8 then ([0, 0], (two row).reverse)
    else ([0], if row = [] then [] else [row.getLastD 0, row.getLastD 0])
theorem two_len (row : List Int) : (two row).length ≤ 2 := by unfold two; simp; omega
theorem two_last {row : List Int} (h : row ≠ []) : (two row).drop ((two row).length - 1) = [row.getLastD 0] := by
  have hp : 0 < row.length := List.length_pos_iff.2 h
  have e : row = row.dropLast ++ [row.getLast h] := (List.dropLast_concat_getLast h).symm
  have hl : row.getLastD 0 = row.getLast h := by rw [List.getLastD_eq_getLast?, List.getLast?_eq_some_getLast h]; rfl
  unfold two
  rw [List.drop_drop, List.length_drop, hl]
  have : row.length - 2 + (row.length - (row.length - 2) - 1) = row.dropLast.length := by rw [List.length_dropLast]; omega
  rw [this]
  conv => lhs; rw [e]
  rw [List.drop_left' (by simp)]
theorem shape_eq {E : TE} {mig : Int} {ar lo : List Int} {re : Bool} {fu sta he : Int} {co : List api_Instr} {rows : List types_Row} {i : api_Instr} {row : List Int} (hw : wf_api_Instr i) (hm : may i = true) (ht : there E i = true) (hrow : row.length ≤ 100000) :
    types_look_shape_s1.f E.G E.P E.M mig ar lo E.res re fu sta he co E.K rows i row = some (⟨(shapeC E i row).1, (shapeC E i row).2⟩, rows) := by
  obtain ⟨o0, o1⟩ := op_lt hw hm
  obtain ⟨s, hs, h⟩ := of_some o0 o1
  unfold types_look_shape_s1.f shapeC
  rw [hs]
  simp only [Option.bind_some]
  rcases h with ⟨h2, -, -, -⟩ | ⟨rfl, ho⟩
  · rw [if_pos h2, if_pos h2]
  · simp only [Bool.false_eq_true, if_false]
    have w : IntKind.i64.wrap ((row.length : Int) - 2) = (row.length : Int) - 2 := wrap_id (by omega) (by omega)
    have e : (if (IntKind.i64.wrap ((row.length : Int) - 2)) > 0 then IntKind.i64.wrap ((row.length : Int) - 2) else 0 : Int) = ((row.length - 2 : Nat) : Int) := by rw [w]; split <;> omega
    rw [e, if_pos (by omega)]
    have et : ((row.length - 2 : Nat) : Int).toNat = row.length - 2 := by omega
    rw [et, clone8 (by simp; omega)]
    simp only [Option.bind_some]
    change (if i.Op = 1 then types_look_shape_s1.j3 _ _ _ _ _ _ _ _ _ _ _ _ _ _ _ _ _ (two row) _ else _) = _
    have hj : ∀ b : Bool, b = decide (i.Op = 1 ∨ i.Op = 2 ∨ i.Op = 4) → types_look_shape_s1.j3 E.G E.P E.M mig ar lo E.res re fu sta he co E.K rows i row (⟨[], []⟩, false) (two row) b = some (⟨(if i.Op = 1 ∨ i.Op = 2 ∨ i.Op = 4 then ([], [named E i])
      else if i.Op = 3 ∨ i.Op = 5 then ([named E i], [])
      else if i.Op = 30 then ((At E.M api_Method.zero i.A).Args, [(At E.M api_Method.zero i.A).Result])
      else if i.Op = 31 then ([E.res], [])
      else if i.Op = 8 then ([0, 0], (two row).reverse)
      else ([0], if row = [] then [] else [row.getLastD 0, row.getLastD 0]) : List Int × List Int).1, (if i.Op = 1 ∨ i.Op = 2 ∨ i.Op = 4 then ([], [named E i])
      else if i.Op = 3 ∨ i.Op = 5 then ([named E i], [])
      else if i.Op = 30 then ((At E.M api_Method.zero i.A).Args, [(At E.M api_Method.zero i.A).Result])
      else if i.Op = 31 then ([E.res], [])
      else if i.Op = 8 then ([0, 0], (two row).reverse)
      else ([0], if row = [] then [] else [row.getLastD 0, row.getLastD 0]) : List Int × List Int).2⟩, rows) := by
      rintro b rfl
      unfold types_look_shape_s1.j3
      by_cases h124 : i.Op = 1 ∨ i.Op = 2 ∨ i.Op = 4
      · rw [if_pos (by simpa using h124), named_eq hw hm ht (by omega), if_pos h124]; rfl
      · rw [if_neg (by simpa using h124), if_neg h124]
        have hj4 : ∀ b : Bool, b = decide (i.Op = 3 ∨ i.Op = 5) → types_look_shape_s1.j4 E.G E.P E.M mig ar lo E.res re fu sta he co E.K rows i row (⟨[], []⟩, false) (two row) b = some (⟨(if i.Op = 3 ∨ i.Op = 5 then ([named E i], [])
          else if i.Op = 30 then ((At E.M api_Method.zero i.A).Args, [(At E.M api_Method.zero i.A).Result])
          else if i.Op = 31 then ([E.res], [])
          else if i.Op = 8 then ([0, 0], (two row).reverse)
          else ([0], if row = [] then [] else [row.getLastD 0, row.getLastD 0]) : List Int × List Int).1, (if i.Op = 3 ∨ i.Op = 5 then ([named E i], [])
          else if i.Op = 30 then ((At E.M api_Method.zero i.A).Args, [(At E.M api_Method.zero i.A).Result])
          else if i.Op = 31 then ([E.res], [])
          else if i.Op = 8 then ([0, 0], (two row).reverse)
          else ([0], if row = [] then [] else [row.getLastD 0, row.getLastD 0]) : List Int × List Int).2⟩, rows) := by
          rintro b rfl
          unfold types_look_shape_s1.j4
          by_cases h35 : i.Op = 3 ∨ i.Op = 5
          · rw [if_pos (by simpa using h35), named_eq hw hm ht (by omega), if_pos h35]; rfl
          · rw [if_neg (by simpa using h35), if_neg h35]
            by_cases h30 : i.Op = 30
            · have a0 := may_named hw hm (by omega)
              have a1 : i.A < E.M.length := by simpa [there, h30] using ht
              rw [if_pos h30, if_pos h30, elt_At api_Method.zero a0 a1]; rfl
            · rw [if_neg h30, if_neg h30]
              by_cases h31 : i.Op = 31
              · rw [if_pos h31, if_pos h31]; rfl
              · rw [if_neg h31, if_neg h31]
                by_cases h8 : i.Op = 8
                · have := two_len row
                  rw [if_pos h8, if_pos h8, if_pos (by omega), if_pos (by simp)]; rfl
                · rw [if_neg h8, if_neg h8]
                  by_cases h7 : i.Op = 7
                  · rw [if_pos h7]
                    by_cases hr : row = []
                    · subst hr; rfl
                    · have hp : 0 < row.length := List.length_pos_iff.2 hr
                      have t1 := two_len row
                      have t2 : 0 < (two row).length := by unfold two; simp; omega
                      have w1 : IntKind.i64.wrap (((two row).length : Int) - 1) = (((two row).length - 1 : Nat) : Int) := by rw [wrap_id (by omega) (by omega)]; omega
                      rw [if_pos (by omega), w1, if_pos (by omega), if_neg hr]
                      have et : (((two row).length - 1 : Nat) : Int).toNat = (two row).length - 1 := by omega
                      rw [et, two_last hr, repeat2]; rfl
                  · omega
        by_cases h3 : i.Op = 3
        · rw [if_pos h3]; exact hj4 _ (by simp [h3])
        · rw [if_neg h3]; exact hj4 _ (by simp [h3])
    by_cases h1 : i.Op = 1
    · rw [if_pos h1]; exact hj _ (by simp [h1])
    · rw [if_neg h1]
      by_cases h2 : i.Op = 2
      · rw [if_pos h2]; exact hj _ (by simp [h2])
      · rw [if_neg h2]; exact hj _ (by simp [h1, h2])
theorem gives_len {E : TE} {i : api_Instr} {row : List Int} (hw : wf_api_Instr i) (hm : may i = true) : (shapeC E i row).2.length ≤ 2 := by
  obtain ⟨o0, o1⟩ := op_lt hw hm
  obtain ⟨s, hs, h⟩ := of_some o0 o1
  have := two_len row
  unfold shapeC
  rw [hs]
  dsimp only
  rcases h with ⟨h2, -, h3, -⟩ | ⟨rfl, ho⟩
  · rw [if_pos h2]; exact h3
  · rw [if_neg (by simp)]
    split
    · simp
    · split
      · simp
      · split
        · simp
        · split
          · simp
          · split
            · simpa using this
            · dsimp only; split <;> simp
theorem takes_len {E : TE} {i : api_Instr} {row : List Int} (hw : wf_api_Instr i) (hm : may i = true) (hM : ∀ m ∈ E.M, m.Args.length < 4611686018427387904) : (shapeC E i row).1.length < 4611686018427387904 := by
  obtain ⟨o0, o1⟩ := op_lt hw hm
  obtain ⟨s, hs, h⟩ := of_some o0 o1
  unfold shapeC
  rw [hs]
  dsimp only
  rcases h with ⟨h2, h3, -, -⟩ | ⟨rfl, ho⟩
  · rw [if_pos h2]; dsimp only; omega
  · rw [if_neg (by simp)]
    split
    · simp
    · split
      · simp
      · split
        · unfold At
          dsimp only
          rcases Nat.lt_or_ge i.A.toNat E.M.length with z | z
          · rw [List.getElem?_eq_getElem z]; exact hM _ (List.getElem_mem z)
          · rw [List.getElem?_eq_none z]; simp [api_Method.zero]
        · split
          · simp
          · split
            · simp
            · simp
def takesB (t row : List Int) : Bool := (t.zip (row.drop (row.length - t.length))).all fun x => decide (x.1 = 0 ∨ x.1 = x.2)
def afterC (E : TE) (i : api_Instr) (row : List Int) : List Int × Int := if row.length < (shapeC E i row).1.length then ([], 101) else if takesB (shapeC E i row).1 row = true then (row.take (row.length - (shapeC E i row).1.length) ++ (shapeC E i row).2, 0) else ([], 100)
theorem after_eq {E : TE} {mig : Int} {ar lo : List Int} {re : Bool} {fu sta he : Int} {co : List api_Instr} {rows : List types_Row} {i : api_Instr} {row : List Int} (hw : wf_api_Instr i) (hm : may i = true) (ht : there E i = true) (hrow : row.length ≤ 100000) (hM : ∀ m ∈ E.M, m.Args.length < 4611686018427387904) :
    types_look_after_s1.f E.G E.P E.M mig ar lo E.res re fu sta he co E.K rows i row = some (afterC E i row, rows) := by
  have hg := gives_len (E := E) (row := row) hw hm
  have htk := takes_len (E := E) (row := row) hw hm hM
  unfold types_look_after_s1.f afterC
  have hs := shape_eq (mig := mig) (ar := ar) (lo := lo) (re := re) (fu := fu) (sta := sta) (he := he) (co := co) (rows := rows) hw hm ht hrow
  generalize shapeC E i row = sh at hg htk hs ⊢
  obtain ⟨t, g⟩ := sh
  dsimp only at hg htk hs ⊢
  have w : IntKind.i64.wrap ((row.length : Int) - (t.length : Int)) = (row.length : Int) - t.length := wrap_id (by omega) (by omega)
  by_cases hlt : row.length < t.length
  · rw [if_pos hlt, runF_end]
    dsimp only [types_look_after_s1.F]
    rw [hs]
    simp only [Option.bind_some]
    rw [w, if_pos (by omega)]
  · rw [if_neg hlt, runF_step (t := .l1 (⟨t, g⟩, rows) ((0 : Nat) : Int))]
    · obtain ⟨r, hr, hc⟩ := runF_scan (F := types_look_after_s1.F E.G E.P E.M mig ar lo E.res re fu sta he co E.K rows i row) (n := t.length) (b := ((row.take (row.length - t.length) ++ g, 0), rows)) (a := fun _ => (([], 100), rows)) (fun k => .l1 (⟨t, g⟩, rows) (k : Int)) (fun k => match (t.zip (row.drop (row.length - t.length)))[k]? with | some x => !decide (x.1 = 0 ∨ x.1 = x.2) | none => false) (fun k hk => by
        dsimp only [types_look_after_s1.F]
        have hk2 : row.length - t.length + k < row.length := by omega
        have w2 : IntKind.i64.wrap ((row.length : Int) - t.length + k) = ((row.length - t.length + k : Nat) : Int) := by rw [wrap_id (by omega) (by omega)]; omega
        rw [if_pos (by omega), elt_lt hk, w, w2, elt_lt hk2]
        simp only [Option.bind_some, wrap_succ k (by omega)]
        rw [List.getElem?_eq_getElem (by simp; omega), List.getElem_zip, List.getElem_drop]
        dsimp only
        by_cases h0 : t[k] = 0
        · simp [h0]
        · by_cases h1 : t[k] = row[row.length - t.length + k]
          · simp [h1]
          · simp [h0, h1]) (by
        dsimp only [types_look_after_s1.F]
        have et : ((row.length : Int) - t.length).toNat = row.length - t.length := by omega
        rw [if_neg (by omega), w, if_pos (by omega), et, concat2 (by simp; omega)]; rfl)
      rw [hr]
      congr 1
      unfold takesB
      rcases hc with ⟨k, hk, hp, rfl⟩ | ⟨hn, rfl⟩
      · rw [if_neg]
        intro hall
        rw [List.all_eq_true] at hall
        split at hp
        · rename_i x hx
          have := hall x (List.mem_of_getElem? hx)
          rw [this] at hp; cases hp
        · cases hp
      · rw [if_pos]
        rw [List.all_eq_true]
        intro x hx
        obtain ⟨k, hk, hx⟩ := List.mem_iff_getElem.1 hx
        have h2 := hn k (by simp at hk; omega)
        rw [List.getElem?_eq_getElem hk, hx] at h2
        dsimp only at h2
        rw [Bool.not_eq_false'] at h2
        exact h2
    · dsimp only [types_look_after_s1.F]
      rw [hs]
      simp only [Option.bind_some]
      rw [w, if_neg (by omega)]; rfl
theorem after_len {E : TE} {i : api_Instr} {row : List Int} (hw : wf_api_Instr i) (hm : may i = true) : (afterC E i row).1.length ≤ row.length + 2 := by
  have hg := gives_len (E := E) (row := row) hw hm
  unfold afterC
  split
  · simp
  · split
    · simp; omega
    · simp
end TypesPure
namespace TypesPure
open FlowPure
def R0 : types_Row := types_Row.zero
def put (next : List Int) : List types_Row → List Int → Int × List types_Row
  | rows, [] => (0, rows)
  | rows, w :: ws => if (At rows R0 w).Reached = true ∧ (At rows R0 w).Kinds ≠ next then (100, rows) else put next (rows.set w.toNat ⟨true, next⟩) ws
def placeC (E : TE) (l : List api_Instr) (rows : List types_Row) (a : Nat) : Int × List types_Row :=
  if (At rows R0 a).Reached = true then (if (afterC E (At l api_Instr.zero a) (At rows R0 a).Kinds).2 ≠ 0 then ((afterC E (At l api_Instr.zero a) (At rows R0 a).Kinds).2, rows) else put (afterC E (At l api_Instr.zero a) (At rows R0 a).Kinds).1 rows (FlowPure.ways l a)) else (0, rows)
theorem At_nat {α : Type} {xs : List α} {d : α} {a : Nat} (h : a < xs.length) : At xs d (a : Int) = xs[a] := by
  unfold At
  rw [show ((a : Int).toNat) = a from by omega, List.getElem?_eq_getElem h]; rfl
structure Well (E : TE) (l : List api_Instr) : Prop where
  known : Known l
  fine : Fine l
  wf : ∀ x ∈ l, wf_api_Instr x
  th : ∀ x ∈ l, there E x = true
  M : ∀ m ∈ E.M, m.Args.length < 4611686018427387904
def Sz (k : Nat) (rows : List types_Row) : Prop := rows.length = 200 ∧ ∀ r ∈ rows, r.Kinds.length ≤ 2 * k
theorem put_sz {k : Nat} {next : List Int} (hn : next.length ≤ 2 * k) : ∀ (ws : List Int) (rows : List types_Row), Sz k rows → Sz k (put next rows ws).2
  | [], rows, h => h
  | w :: ws, rows, h => by
    unfold put
    split
    · exact h
    · refine put_sz hn ws _ ⟨by rw [List.length_set]; exact h.1, fun r hr => ?_⟩
      rcases List.mem_or_eq_of_mem_set hr with hr | rfl
      · exact h.2 r hr
      · exact hn
theorem At_mem {α : Type} {xs : List α} {d : α} {a : Int} {p : α → Prop} (hd : p d) (h : ∀ x ∈ xs, p x) : p (At xs d a) := by
  unfold At
  rcases Nat.lt_or_ge a.toNat xs.length with z | z
  · rw [List.getElem?_eq_getElem z]; exact h _ (List.getElem_mem z)
  · rw [List.getElem?_eq_none z]; exact hd
theorem place_sz {E : TE} {l : List api_Instr} (W : Well E l) {k : Nat} (hk : k < l.length) {rows : List types_Row} (h : Sz k rows) : Sz (k + 1) (placeC E l rows k).2 := by
  have h' : Sz (k + 1) rows := ⟨h.1, fun r hr => by have := h.2 r hr; omega⟩
  unfold placeC
  split
  · split
    · exact h'
    · refine put_sz ?_ _ _ h'
      have hm := W.known.2.2 _ (List.getElem_mem hk)
      have hw := W.wf _ (List.getElem_mem hk)
      rw [At_nat hk]
      have := after_len (E := E) (row := (At rows R0 (k : Int)).Kinds) hw hm
      have h2 : (At rows R0 (k : Int)).Kinds.length ≤ 2 * k := At_mem (p := fun r : types_Row => r.Kinds.length ≤ 2 * k) (by simp [R0, types_Row.zero]) h.2
      omega
  · exact h'
theorem place_eq {E : TE} {mig : Int} {ar lo : List Int} {re : Bool} {fu sta he : Int} {l : List api_Instr} (W : Well E l) {rows : List types_Row} {k : Nat} (hk : k < l.length) (h : Sz k rows) :
    types_look_place_s1.f E.G E.P E.M mig ar lo E.res re fu sta he l E.K rows (k : Int) = some (placeC E l rows k) := by
  have hn : l.length ≤ 200 := W.known.2.1
  have hm := W.known.2.2 _ (List.getElem_mem hk)
  have hw := W.wf _ (List.getElem_mem hk)
  have ht := W.th _ (List.getElem_mem hk)
  have hk2 : k < rows.length := by rw [h.1]; omega
  have hr : rows[k].Kinds.length ≤ 2 * k := h.2 _ (List.getElem_mem hk2)
  have ha := after_eq (mig := mig) (ar := ar) (lo := lo) (re := re) (fu := fu) (sta := sta) (he := he) (co := l) (rows := rows) hw hm ht (row := rows[k].Kinds) (by omega) W.M
  have hl := after_len (E := E) (row := rows[k].Kinds) hw hm
  have hws := (prog_ways (by omega) W.wf).2.2.2 k W.known W.fine hk
  unfold types_look_place_s1.f placeC
  rw [At_nat hk2, At_nat hk]
  by_cases hre : rows[k].Reached = true
  · rw [if_pos hre]
    by_cases hq : (afterC E l[k] rows[k].Kinds).2 ≠ 0
    · rw [if_pos hq, runF_end]
      dsimp only [types_look_place_s1.F]
      rw [elt_lt hk2]
      simp only [Option.bind_some]
      rw [if_neg (by simp [hre]), elt_lt hk]
      simp only [Option.bind_some]
      rw [ha]
      simp only [Option.bind_some]
      rw [if_pos hq]
    · rw [if_neg hq, runF_step (t := .l1 (afterC E l[k] rows[k].Kinds, rows) (FlowPure.ways l k, 0) rows ((0 : Nat) : Int)) (by
        dsimp only [types_look_place_s1.F]
        rw [elt_lt hk2]
        simp only [Option.bind_some]
        rw [if_neg (by simp [hre]), elt_lt hk]
        simp only [Option.bind_some]
        rw [ha]
        simp only [Option.bind_some]
        rw [if_neg hq, hws]; rfl)]
      have hf := ways_facts W.known W.fine hk
      have key : ∀ (ws : List Int) (j : Nat) (rs : List types_Row), (FlowPure.ways l k).drop j = ws → rs.length = 200 → (∀ r ∈ rs, r.Kinds.length ≤ 2 * k + 2) → runF (types_look_place_s1.F E.G E.P E.M mig ar lo E.res re fu sta he l E.K rows k) (.l1 (afterC E l[k] rows[k].Kinds, rows) (FlowPure.ways l k, 0) rs (j : Int)) = some (put (afterC E l[k] rows[k].Kinds).1 rs ws) := by
        intro ws
        induction ws with
        | nil =>
          intro j rs hd hrs _
          have hj : (FlowPure.ways l k).length ≤ j := by simpa using hd
          refine runF_end ?_
          dsimp only [types_look_place_s1.F]
          rw [if_neg (by omega)]; rfl
        | cons w ws ih =>
          intro j rs hd hrs hsz
          have hj : j < (FlowPure.ways l k).length := by
            rcases Nat.lt_or_ge j (FlowPure.ways l k).length with z | z
            · exact z
            · rw [List.drop_eq_nil_of_le z] at hd; cases hd
          have hw' : (FlowPure.ways l k)[j] = w := by
            have := congrArg (fun z => z[0]?) hd
            simp [List.getElem?_eq_getElem hj] at this
            exact this
          obtain ⟨w0, w1, -⟩ := hf.2.2 j hj
          rw [hw'] at w0 w1
          have hle := hf.2.1
          unfold put
          have hel : elt rs w = some (At rs R0 w) := elt_At R0 w0 (by rw [hrs]; omega)
          have hs8 : slices_Equal_uint8_uint8.f (At rs R0 w).Kinds (afterC E l[k] rows[k].Kinds).1 = some (decide ((At rs R0 w).Kinds = (afterC E l[k] rows[k].Kinds).1)) := same8 (by
            have : (At rs R0 w).Kinds.length ≤ 2 * k + 2 := At_mem (p := fun r : types_Row => r.Kinds.length ≤ 2 * k + 2) (by simp [R0, types_Row.zero]) hsz
            omega)
          have step : ∀ b : Bool, b = decide ((At rs R0 w).Reached = true ∧ (At rs R0 w).Kinds ≠ (afterC E l[k] rows[k].Kinds).1) → types_look_place_s1.F E.G E.P E.M mig ar lo E.res re fu sta he l E.K rows k (.l1 (afterC E l[k] rows[k].Kinds, rows) (FlowPure.ways l k, 0) rs (j : Int)) = if b = true then some (.inr (100, rs)) else some (.inl (.l1 (afterC E l[k] rows[k].Kinds, rows) (FlowPure.ways l k, 0) (rs.set w.toNat ⟨true, (afterC E l[k] rows[k].Kinds).1⟩) ((j + 1 : Nat) : Int))) := by
            rintro b rfl
            dsimp only [types_look_place_s1.F]
            rw [if_pos (by omega), elt_lt hj, hw']
            simp only [Option.bind_some]
            rw [hel]
            simp only [Option.bind_some, wrap_succ j (by omega)]
            rw [hs8]
            by_cases q1 : (At rs R0 w).Reached = true
            · by_cases q2 : (At rs R0 w).Kinds = (afterC E l[k] rows[k].Kinds).1
              · simp [q1, q2]
              · simp [q1, q2]
            · simp [q1]
          by_cases hc : (At rs R0 w).Reached = true ∧ (At rs R0 w).Kinds ≠ (afterC E l[k] rows[k].Kinds).1
          · rw [if_pos hc, runF_end (r := (100, rs))]
            rw [step true (by rw [eq_comm, decide_eq_true_eq]; exact hc), if_pos rfl]
          · rw [if_neg hc, runF_step (t := .l1 (afterC E l[k] rows[k].Kinds, rows) (FlowPure.ways l k, 0) (rs.set w.toNat ⟨true, (afterC E l[k] rows[k].Kinds).1⟩) ((j + 1 : Nat) : Int))]
            · refine ih (j + 1) _ ?_ (by rw [List.length_set]; exact hrs) fun r hr => ?_
              · rw [← List.drop_drop, hd]; rfl
              · rcases List.mem_or_eq_of_mem_set hr with hr | rfl
                · exact hsz r hr
                · dsimp only; omega
            · rw [step false (by rw [eq_comm, decide_eq_false_iff_not]; exact hc), if_neg (by simp)]
      exact key _ 0 rows rfl h.1 fun r hr => by have := h.2 r hr; omega
  · rw [if_neg hre, runF_end]
    dsimp only [types_look_place_s1.F]
    rw [elt_lt hk2]
    simp only [Option.bind_some]
    rw [if_pos (by simpa using hre)]
def rows0 : List types_Row := (List.replicate 200 types_Row.zero).set 0 ⟨true, []⟩
def rowsAt (E : TE) (l : List api_Instr) : Nat → Int × List types_Row
  | 0 => (0, rows0)
  | k + 1 => if (rowsAt E l k).1 ≠ 0 then rowsAt E l k else placeC E l (rowsAt E l k).2 k
def rowsC (E : TE) (l : List api_Instr) : List types_Row × Int := if (rowsAt E l l.length).1 ≠ 0 then ([], (rowsAt E l l.length).1) else ((rowsAt E l l.length).2.take l.length, 0)
theorem rowsAt_sz {E : TE} {l : List api_Instr} (W : Well E l) : ∀ k, k ≤ l.length → Sz k (rowsAt E l k).2
  | 0, _ => ⟨by show rows0.length = 200; unfold rows0; rw [List.length_set, List.length_replicate], fun r hr => by
    unfold rowsAt rows0 at hr
    rcases List.mem_or_eq_of_mem_set hr with hr | rfl
    · rw [List.eq_of_mem_replicate hr]; exact Nat.zero_le _
    · exact Nat.zero_le _⟩
  | k + 1, hk => by
    have ih := rowsAt_sz W k (by omega)
    unfold rowsAt
    split
    · exact ⟨ih.1, fun r hr => by have := ih.2 r hr; omega⟩
    · exact place_sz W hk ih
def envOf (m : api_Module) (x : api_Method) : TE := ⟨m.Globals, m.Pool, m.Methods, x.Result, x.Args ++ x.Locals⟩
end TypesPure
namespace TypesPure
open FlowPure
def l2s (rows : List types_Row) : types_Rows.S := .l2 rows rows 0
theorem clones {m : api_Module} {k : Int} {rows : List types_Row} (h : rows.length ≤ 200) (hs : ∀ r ∈ rows, r.Kinds.length ≤ 1000) : runF (types_Rows.F m k) (l2s rows) = some (rows, 0) := by
  refine (runF_up (F := types_Rows.F m k) (n := rows.length) (fun j => .l2 rows rows (j : Int)) (fun j hj => ?_)).trans (runF_end ?_)
  · dsimp only [types_Rows.F]
    have := hs _ (List.getElem_mem hj)
    rw [if_pos (by omega), elt_lt hj]
    simp only [Option.bind_some]
    rw [clone8 (by omega)]
    simp only [Option.bind_some, wrap_succ j (by omega)]
    have e : rows.set (j : Int).toNat ({ rows[j] with Kinds := rows[j].Kinds } : types_Row) = rows := by
      rw [show (j : Int).toNat = j from by omega]
      exact List.set_getElem_self hj
    rw [e]
  · dsimp only [types_Rows.F]
    rw [if_neg (by omega)]
end TypesPure
namespace TypesPure
open FlowPure
theorem rows_well {m : api_Module} {k : Int} {x : api_Method} (h0 : 0 ≤ k) (h1 : k < m.Methods.length) (hx : elt m.Methods k = some x) (W : Well (envOf m x) x.Code) (hlen : x.Args.length + x.Locals.length ≤ 140737488355328) :
    types_Rows.f m k = some (rowsC (envOf m x) x.Code) := by
  have hn : x.Code.length ≤ 200 := W.known.2.1
  have hp : 1 ≤ x.Code.length := W.known.1
  unfold types_Rows.f
  have hck : flow_Check.f x.Code = some 0 := by
    unfold flow_Check.f
    rw [(prog_loops (by omega) W.wf).2.1 W.known W.fine]; rfl
  have hth : slices_ContainsFunc_api_Instr_api_Instr_s2.f x.Code m.Globals m.Pool m.Methods m.Migrate x.Args x.Locals x.Result x.Reads x.Fuel x.Stack x.Heap x.Code (x.Args ++ x.Locals) = some false := by
    refine (contains_there (E := envOf m x) (l := x.Code) (by omega)).trans ?_
    congr 1
    rw [List.any_eq_false]
    intro y hy
    rw [W.th y hy]; simp
  rw [runF_step (t := .l1 x (x.Args ++ x.Locals) rows0 ((0 : Nat) : Int)) (by
    dsimp only [types_Rows.F]
    rw [if_neg (by simp; omega), hx]
    simp only [Option.bind_some]
    rw [hck]
    simp only [Option.bind_some]
    rw [if_neg (by simp), concat2 hlen]
    simp only [Option.bind_some]
    rw [hth]
    simp only [Option.bind_some]
    rfl)]
  have key : ∀ j, j ≤ x.Code.length → runF (types_Rows.F m k) (.l1 x (x.Args ++ x.Locals) rows0 ((0 : Nat) : Int)) = if (rowsAt (envOf m x) x.Code j).1 ≠ 0 then some ([], (rowsAt (envOf m x) x.Code j).1) else runF (types_Rows.F m k) (.l1 x (x.Args ++ x.Locals) (rowsAt (envOf m x) x.Code j).2 (j : Int)) := by
    intro j
    induction j with
    | zero => intro _; rfl
    | succ j ih =>
      intro hj
      rw [ih (by omega)]
      have hz := rowsAt_sz W j (by omega)
      by_cases he : (rowsAt (envOf m x) x.Code j).1 ≠ 0
      · have e1 : rowsAt (envOf m x) x.Code (j + 1) = rowsAt (envOf m x) x.Code j := by rw [rowsAt, if_pos he]
        rw [e1, if_pos he, if_pos he]
      · have e1 : rowsAt (envOf m x) x.Code (j + 1) = placeC (envOf m x) x.Code (rowsAt (envOf m x) x.Code j).2 j := by rw [rowsAt, if_neg he]
        rw [e1, if_neg he]
        have hpl := place_eq (mig := m.Migrate) (ar := x.Args) (lo := x.Locals) (re := x.Reads) (fu := x.Fuel) (sta := x.Stack) (he := x.Heap) W (k := j) (by omega) hz
        have hpl : types_look_place_s1.f m.Globals m.Pool m.Methods m.Migrate x.Args x.Locals x.Result x.Reads x.Fuel x.Stack x.Heap x.Code (x.Args ++ x.Locals) (rowsAt (envOf m x) x.Code j).2 (j : Int) = _ := hpl
        generalize placeC (envOf m x) x.Code (rowsAt (envOf m x) x.Code j).2 j = pr at hpl ⊢
        by_cases hq : pr.1 ≠ 0
        · rw [if_pos hq, runF_end]
          dsimp only [types_Rows.F]
          rw [if_pos (by omega), hpl]
          simp only [Option.bind_some]
          rw [if_pos hq]
        · rw [if_neg hq]
          refine runF_step ?_
          dsimp only [types_Rows.F]
          rw [if_pos (by omega), hpl]
          simp only [Option.bind_some]
          rw [if_neg hq, wrap_succ j (by omega)]
  rw [key _ (Nat.le_refl _)]
  unfold rowsC
  by_cases he : (rowsAt (envOf m x) x.Code x.Code.length).1 ≠ 0
  · rw [if_pos he, if_pos he]
  · rw [if_neg he, if_neg he]
    have hz := rowsAt_sz W _ (Nat.le_refl _)
    have hl : ((rowsAt (envOf m x) x.Code x.Code.length).2.take x.Code.length).length ≤ 200 := by rw [List.length_take]; omega
    rw [runF_step (t := l2s ((rowsAt (envOf m x) x.Code x.Code.length).2.take x.Code.length)) (by
      dsimp only [types_Rows.F]
      rw [if_neg (by omega), if_pos (by omega), show ((x.Code.length : Int)).toNat = x.Code.length from by omega, cloneRows hl]; rfl)]
    exact clones hl fun r hr => by have := hz.2 r (List.mem_of_mem_take hr); omega
theorem rows_else {m : api_Module} {k : Int} {x : api_Method} (h0 : 0 ≤ k) (h1 : k < m.Methods.length) (hx : elt m.Methods k = some x) (hl : x.Code.length < 4611686018427387904) (hw : ∀ i ∈ x.Code, wf_api_Instr i) (hlen : x.Args.length + x.Locals.length ≤ 140737488355328) :
    (¬ Known x.Code → types_Rows.f m k = some ([], 40)) ∧ (Known x.Code → ¬ Fine x.Code → types_Rows.f m k = some ([], 90)) ∧ (Known x.Code → Fine x.Code → (∃ i ∈ x.Code, there (envOf m x) i = false) → types_Rows.f m k = some ([], 100)) := by
  obtain ⟨a1, a2, a3⟩ := prog_loops hl hw
  unfold types_Rows.f
  refine ⟨fun h => ?_, fun h hf => ?_, fun h hf ht => ?_⟩
  · rw [runF_end]
    dsimp only [types_Rows.F]
    rw [if_neg (by simp; omega), hx]
    simp only [Option.bind_some]
    unfold flow_Check.f
    rw [a1 h]; rfl
  · rw [runF_end]
    dsimp only [types_Rows.F]
    rw [if_neg (by simp; omega), hx]
    simp only [Option.bind_some]
    unfold flow_Check.f
    rw [a3 h hf]; rfl
  · have hth : slices_ContainsFunc_api_Instr_api_Instr_s2.f x.Code m.Globals m.Pool m.Methods m.Migrate x.Args x.Locals x.Result x.Reads x.Fuel x.Stack x.Heap x.Code (x.Args ++ x.Locals) = some true := by
      refine (contains_there (E := envOf m x) (l := x.Code) (by omega)).trans ?_
      congr 1
      rw [List.any_eq_true]
      obtain ⟨i, hi, ht⟩ := ht
      exact ⟨i, hi, by rw [ht]; rfl⟩
    rw [runF_end]
    dsimp only [types_Rows.F]
    rw [if_neg (by simp; omega), hx]
    simp only [Option.bind_some]
    unfold flow_Check.f
    rw [a2 h hf]
    simp only [Option.bind_some]
    rw [if_neg (by simp), concat2 hlen]
    simp only [Option.bind_some]
    rw [hth]
    simp only [Option.bind_some]
    rfl
end TypesPure
namespace TypesPure
open FlowPure
def g (rows : List types_Row) (p : Nat) : types_Row := rows[p]?.getD R0
theorem At_g (rows : List types_Row) (w : Int) : At rows R0 w = g rows w.toNat := rfl
theorem g_set {rows : List types_Row} {k p : Nat} {v : types_Row} (h : k < rows.length) : g (rows.set k v) p = if p = k then v else g rows p := by
  unfold g
  by_cases e : p = k
  · subst e; rw [if_pos rfl, List.getElem?_set_self h]; rfl
  · rw [if_neg e, List.getElem?_set_ne (by omega)]
structure Put (next : List Int) (rows : List types_Row) (ws : List Int) (rows' : List types_Row) : Prop where
  len : rows'.length = rows.length
  keep : ∀ p, (g rows p).Reached = true → g rows' p = g rows p
  ways : ∀ w ∈ ws, g rows' w.toNat = ⟨true, next⟩
  new : ∀ p, (g rows' p).Reached = true → (g rows p).Reached = true ∨ ∃ w ∈ ws, w.toNat = p
  old : ∀ p, ¬ (g rows' p).Reached = true → g rows' p = g rows p
theorem put_ok {next : List Int} : ∀ (ws : List Int) (rows : List types_Row), (∀ w ∈ ws, w.toNat < rows.length) → (put next rows ws).1 = 0 → Put next rows ws (put next rows ws).2
  | [], rows, _, _ => ⟨rfl, fun _ _ => rfl, fun w hw => by simp at hw, fun p h => .inl h, fun _ _ => rfl⟩
  | w :: ws, rows, hl, h => by
    unfold put at h ⊢
    by_cases hc : (At rows R0 w).Reached = true ∧ (At rows R0 w).Kinds ≠ next
    · rw [if_pos hc] at h; cases h
    · rw [if_neg hc] at h ⊢
      have hw : w.toNat < rows.length := hl w (by simp)
      have ih := put_ok ws _ (fun u hu => by rw [List.length_set]; exact hl u (by simp [hu])) h
      have same : (g rows w.toNat).Reached = true → g rows w.toNat = ⟨true, next⟩ := by
        intro hr
        rw [At_g] at hc
        generalize g rows w.toNat = r at hc hr
        obtain ⟨a, b⟩ := r
        dsimp only at hr hc
        subst hr
        have : b = next := by
          refine Classical.byContradiction fun hb => hc ⟨rfl, hb⟩
        rw [this]
      have hs := fun p => g_set (rows := rows) (p := p) (v := (⟨true, next⟩ : types_Row)) hw
      refine ⟨by rw [ih.len, List.length_set], fun p hp => ?_, fun u hu => ?_, fun p hp => ?_, fun p hp => ?_⟩
      · have e : g (rows.set w.toNat ⟨true, next⟩) p = g rows p := by
          rw [hs]
          by_cases e : p = w.toNat
          · subst e; rw [if_pos rfl, same hp]
          · rw [if_neg e]
        rw [ih.keep p (by rw [e]; exact hp), e]
      · rcases List.mem_cons.1 hu with rfl | hu
        · have e : g (rows.set u.toNat ⟨true, next⟩) u.toNat = ⟨true, next⟩ := by rw [hs, if_pos rfl]
          rw [ih.keep _ (by rw [e]), e]
        · exact ih.ways u hu
      · rcases ih.new p hp with h1 | ⟨u, hu, e⟩
        · rw [hs] at h1
          by_cases e : p = w.toNat
          · exact .inr ⟨w, by simp, e.symm⟩
          · rw [if_neg e] at h1; exact .inl h1
        · exact .inr ⟨u, by simp [hu], e⟩
      · have h1 := ih.old p hp
        rw [hs] at h1
        by_cases e : p = w.toNat
        · rw [if_pos e] at h1; rw [h1] at hp; exact absurd rfl hp
        · rw [if_neg e] at h1; exact h1
structure Inv (E : TE) (l : List api_Instr) (t : Nat) (rows : List types_Row) : Prop where
  len : rows.length = 200
  r0 : g rows 0 = ⟨true, []⟩
  un : ∀ p, ¬ (g rows p).Reached = true → (g rows p).Kinds = []
  top : ∀ p, (g rows p).Reached = true → p < l.length
  led : ∀ p, (g rows p).Reached = true → p = 0 ∨ ∃ q, q < p ∧ q < t ∧ (g rows q).Reached = true ∧ (p : Int) ∈ FlowPure.ways l q
  done : ∀ q (hq : q < l.length), q < t → (g rows q).Reached = true → (afterC E l[q] (g rows q).Kinds).2 = 0 ∧ ∀ w ∈ FlowPure.ways l q, g rows w.toNat = ⟨true, (afterC E l[q] (g rows q).Kinds).1⟩
theorem back_pair {l : List api_Instr} (hk : Known l) (hf : Fine l) {a : Nat} (ha : a < l.length) (h29 : l[a].Op = 29) : 0 ≤ l[a].A ∧ l[a].A < a ∧ Pr (KK l) l.length l[a].A.toNat a ∧ KK l l[a].A.toNat = .loop := by
  obtain ⟨o1, o2⟩ := run_pairs hf.1
  have hm := hk.2.2 _ (List.getElem_mem ha)
  have hp := may_place hm (.inr (.inr h29))
  have hkk : KK l a = .again l[a].A.toNat := by rw [KK_at ha, if_neg (by omega), if_pos h29]
  obtain ⟨T, hT⟩ := again_mem hf.1.1 ha hkk
  have := ((opn_mem (KK l) a fun j hj => hf.1.1 j (by omega)).1 l[a].A.toNat).1 (by rw [hT]; simp)
  obtain ⟨b1, b2⟩ := o2 a _ ha hkk
  exact ⟨hp.1, by omega, ⟨b1, ha, b2, hkk⟩, b2⟩
theorem ways_loop {l : List api_Instr} {a : Nat} (ha : a < l.length) (h : l[a].Op = 28) : FlowPure.ways l a = [((a + 1 : Nat) : Int)] := by
  unfold FlowPure.ways
  rw [List.getElem?_eq_getElem ha]
  dsimp only
  rw [if_neg (by omega), if_neg (by omega), if_neg (by omega), if_neg (by omega)]
theorem inv_zero {E : TE} {l : List api_Instr} (hl : 1 ≤ l.length) : Inv E l 0 rows0 := by
  have h0 : (0 : Nat) < (List.replicate 200 types_Row.zero).length := by rw [List.length_replicate]; omega
  have hs := fun p => g_set (p := p) (v := (⟨true, []⟩ : types_Row)) h0
  have hz : ∀ p, g (List.replicate 200 types_Row.zero) p = R0 := by
    intro p
    unfold g
    rcases Nat.lt_or_ge p 200 with z | z
    · rw [List.getElem?_eq_getElem (by rw [List.length_replicate]; exact z), List.getElem_replicate]; rfl
    · rw [List.getElem?_eq_none (by rw [List.length_replicate]; exact z)]; rfl
  have hg : ∀ p, g rows0 p = if p = 0 then ⟨true, []⟩ else R0 := fun p => by unfold rows0; rw [hs, hz]
  have hr : ∀ p, (g rows0 p).Reached = true → p = 0 := by
    intro p hp
    rw [hg] at hp
    by_cases e : p = 0
    · exact e
    · rw [if_neg e] at hp; cases hp
  refine ⟨by unfold rows0; rw [List.length_set, List.length_replicate], by rw [hg, if_pos rfl], fun p hp => ?_, fun p hp => by have := hr p hp; omega, fun p hp => .inl (hr p hp), fun q _ hq => by omega⟩
  rw [hg]; split <;> rfl
theorem inv_step {E : TE} {l : List api_Instr} (W : Well E l) {t : Nat} (ht : t < l.length) {rows : List types_Row} (I : Inv E l t rows) (h : (placeC E l rows t).1 = 0) : Inv E l (t + 1) (placeC E l rows t).2 := by
  have hn : l.length ≤ 200 := W.known.2.1
  unfold placeC at h ⊢
  rw [At_g, show ((t : Int)).toNat = t from by omega, At_nat ht] at h ⊢
  by_cases hre : (g rows t).Reached = true
  · rw [if_pos hre] at h ⊢
    by_cases he : (afterC E l[t] (g rows t).Kinds).2 ≠ 0
    · rw [if_pos he] at h; exact absurd h he
    · rw [if_neg he] at h ⊢
      have he : (afterC E l[t] (g rows t).Kinds).2 = 0 := Classical.not_not.1 he
      have hf := ways_facts W.known W.fine ht
      have hin : ∀ w ∈ FlowPure.ways l t, 0 ≤ w ∧ w < l.length := by
        intro w hw
        obtain ⟨i, hi, rfl⟩ := List.mem_iff_getElem.1 hw
        have := hf.2.2 i hi
        exact ⟨this.1, this.2.1⟩
      have P := put_ok (next := (afterC E l[t] (g rows t).Kinds).1) (FlowPure.ways l t) rows (fun w hw => by have := hin w hw; rw [I.len]; omega) h
      generalize (put (afterC E l[t] (g rows t).Kinds).1 rows (FlowPure.ways l t)).2 = rows' at P ⊢
      -- what a way back leads to was reached
      have back : ∀ w ∈ FlowPure.ways l t, w.toNat ≤ t → (g rows w.toNat).Reached = true := by
        intro w hw hle
        obtain ⟨i, hi, rfl⟩ := List.mem_iff_getElem.1 hw
        obtain ⟨w0, w1, w2, -, -⟩ := hf.2.2 i hi
        obtain ⟨h29, e⟩ := w2 (by omega)
        obtain ⟨a0, a1, pr, kl⟩ := back_pair W.known W.fine ht h29
        have desc : ∀ r, r ≤ t → l[t].A.toNat < r → (g rows r).Reached = true → (g rows l[t].A.toNat).Reached = true := by
          intro r
          induction r using Nat.strongRecOn with
          | _ r ih =>
            intro hr hA hg
            rcases I.led r hg with e0 | ⟨q, q1, q2, q3, q4⟩
            · omega
            · have hq : q < l.length := by omega
              obtain ⟨j, hj, ej⟩ := List.mem_iff_getElem.1 q4
              obtain ⟨-, -, -, -, hy⟩ := (ways_facts W.known W.fine hq).2.2 j hj
              have := hy (l[t].A.toNat, t) pr (by rw [ej]; dsimp only; omega) (by rw [ej]; dsimp only; omega)
              dsimp only at this
              by_cases eq : q = l[t].A.toNat
              · rw [← eq]; exact q3
              · exact ih q q1 (by omega) (by omega) q3
        have hA := desc t (Nat.le_refl _) (by omega) hre
        have hAl : l[t].A.toNat < l.length := by omega
        have hop : l[l[t].A.toNat].Op = 28 := (loop_iff hAl).1 kl
        have := (I.done _ hAl (by omega) hA).2 ((l[t].A.toNat + 1 : Nat) : Int) (by rw [ways_loop hAl hop]; simp)
        have e2 : (FlowPure.ways l t)[i].toNat = (((l[t].A.toNat + 1 : Nat) : Int)).toNat := by rw [e]; omega
        rw [e2, this]
      have was : ∀ p, p ≤ t → (g rows' p).Reached = true → (g rows p).Reached = true := by
        intro p hp hr
        rcases P.new p hr with h1 | ⟨w, hw, rfl⟩
        · exact h1
        · exact back w hw hp
      refine ⟨by rw [P.len, I.len], by rw [P.keep 0 (by rw [I.r0]), I.r0], fun p hp => ?_, fun p hp => ?_, fun p hp => ?_, fun q hq hqt hr => ?_⟩
      · have e := P.old p hp
        rw [e] at hp ⊢; exact I.un p hp
      · rcases P.new p hp with h1 | ⟨w, hw, rfl⟩
        · exact I.top p h1
        · have := hin w hw; omega
      · have carry : (g rows p).Reached = true → p = 0 ∨ ∃ q, q < p ∧ q < t + 1 ∧ (g rows' q).Reached = true ∧ (p : Int) ∈ FlowPure.ways l q := by
          intro h1
          rcases I.led p h1 with e | ⟨q, q1, q2, q3, q4⟩
          · exact .inl e
          · exact .inr ⟨q, q1, by omega, by rw [P.keep q q3]; exact q3, q4⟩
        rcases P.new p hp with h1 | ⟨w, hw, e⟩
        · exact carry h1
        · rcases Nat.lt_or_ge t p with z | z
          · have := hin w hw
            have ep : (p : Int) = w := by omega
            exact .inr ⟨t, z, by omega, by rw [P.keep t hre]; exact hre, by rw [ep]; exact hw⟩
          · exact carry (was p z hp)
      · have h1 := was q (by omega) hr
        rw [P.keep q h1]
        by_cases e : q = t
        · subst e; exact ⟨he, P.ways⟩
        · obtain ⟨d1, d2⟩ := I.done q hq (by omega) h1
          refine ⟨d1, fun w hw => ?_⟩
          rw [P.keep _ (by rw [d2 w hw]), d2 w hw]
  · rw [if_neg hre]
    refine ⟨I.len, I.r0, I.un, I.top, fun p hp => ?_, fun q hq hqt hr => ?_⟩
    · rcases I.led p hp with e | ⟨q, q1, q2, q3, q4⟩
      · exact .inl e
      · exact .inr ⟨q, q1, by omega, q3, q4⟩
    · by_cases e : q = t
      · subst e; exact absurd hr hre
      · exact I.done q hq (by omega) hr
theorem rowsAt_inv {E : TE} {l : List api_Instr} (W : Well E l) : ∀ k, k ≤ l.length → (rowsAt E l k).1 = 0 → Inv E l k (rowsAt E l k).2
  | 0, _, _ => inv_zero W.known.1
  | k + 1, hk, h => by
    unfold rowsAt at h ⊢
    by_cases he : (rowsAt E l k).1 ≠ 0
    · rw [if_pos he] at h; exact absurd h he
    · rw [if_neg he] at h ⊢
      exact inv_step W hk (rowsAt_inv W k (by omega) (Classical.not_not.1 he)) h
structure Told (E : TE) (l : List api_Instr) (rows : List types_Row) : Prop where
  len : rows.length = l.length
  r0 : g rows 0 = ⟨true, []⟩
  un : ∀ p, ¬ (g rows p).Reached = true → (g rows p).Kinds = []
  led : ∀ p, (g rows p).Reached = true → p = 0 ∨ ∃ q, q < p ∧ (g rows q).Reached = true ∧ (p : Int) ∈ FlowPure.ways l q
  done : ∀ q (hq : q < l.length), (g rows q).Reached = true → (afterC E l[q] (g rows q).Kinds).2 = 0 ∧ ∀ w ∈ FlowPure.ways l q, g rows w.toNat = ⟨true, (afterC E l[q] (g rows q).Kinds).1⟩
  sz : ∀ r ∈ rows, r.Kinds.length ≤ 400
theorem g_take {rows : List types_Row} {n : Nat} (hu : ∀ p, n ≤ p → g rows p = R0) (p : Nat) : g (rows.take n) p = g rows p := by
  rcases Nat.lt_or_ge p n with z | z
  · unfold g; rw [List.getElem?_take_of_lt z]
  · rw [hu p z]; unfold g; rw [List.getElem?_eq_none (by rw [List.length_take]; omega)]; rfl
theorem rows_told {E : TE} {l : List api_Instr} (W : Well E l) (h : (rowsC E l).2 = 0) : Told E l (rowsC E l).1 := by
  have hn : l.length ≤ 200 := W.known.2.1
  unfold rowsC at h ⊢
  by_cases he : (rowsAt E l l.length).1 ≠ 0
  · rw [if_pos he] at h; exact absurd h he
  · rw [if_neg he]
    have I := rowsAt_inv W _ (Nat.le_refl _) (Classical.not_not.1 he)
    have S := rowsAt_sz W _ (Nat.le_refl _)
    generalize (rowsAt E l l.length).2 = rows at I S ⊢
    have hu : ∀ p, l.length ≤ p → g rows p = R0 := by
      intro p hp
      have hr : ¬ (g rows p).Reached = true := fun h => by have := I.top p h; omega
      have hk := I.un p hr
      generalize g rows p = r at hr hk ⊢
      obtain ⟨a, b⟩ := r
      dsimp only at hr hk
      subst hk
      rw [Bool.not_eq_true] at hr
      subst hr; rfl
    have e := g_take hu
    refine ⟨by rw [List.length_take, I.len]; omega, by rw [e, I.r0], fun p hp => by rw [e] at hp ⊢; exact I.un p hp, fun p hp => ?_, fun q hq hr => ?_, fun r hr => by have := S.2 r (List.mem_of_mem_take hr); omega⟩
    · rw [e] at hp
      rcases I.led p hp with e0 | ⟨q, q1, -, q3, q4⟩
      · exact .inl e0
      · exact .inr ⟨q, q1, by rw [e]; exact q3, q4⟩
    · rw [e] at hr ⊢
      obtain ⟨d1, d2⟩ := I.done q hq hq hr
      exact ⟨d1, fun w hw => by rw [e]; exact d2 w hw⟩
end TypesPure
deriving instance DecidableEq for types_Row
namespace TypesPure
open FlowPure
def greatM (x : api_Method) : Bool := decide ((x.Args.length : Int) > 100) || decide ((x.Locals.length : Int) > 100) || decide ((x.Code.length : Int) > 300)
def greatB (m : api_Module) : Bool := ((decide ((m.Globals.length : Int) > 100) || decide ((m.Pool.length : Int) > 100)) || decide ((m.Methods.length : Int) > 40)) || m.Methods.any greatM
theorem great_eq (m : api_Module) : capstanlaw08_Great.f m = some (greatB m) := by
  unfold capstanlaw08_Great.f greatB
  by_cases h : ((decide ((m.Globals.length : Int) > 100) || decide ((m.Pool.length : Int) > 100)) || decide ((m.Methods.length : Int) > 40)) = true
  · rw [h, runF_end (r := true)]; rfl
    dsimp only [capstanlaw08_Great.F]; rw [if_pos h]
  · rw [runF_step (t := .l1 ((0 : Nat) : Int)) (by dsimp only [capstanlaw08_Great.F]; rw [if_neg h]; rfl)]
    have hlen : m.Methods.length ≤ 40 := by
      simp only [Bool.not_eq_true, Bool.or_eq_false_iff, decide_eq_false_iff_not] at h; omega
    have h' := h
    rw [Bool.not_eq_true] at h
    rw [h, Bool.false_or]
    obtain ⟨r, hr, hc⟩ := runF_scan (F := capstanlaw08_Great.F m) (n := m.Methods.length) (b := false) (a := fun _ => true) (fun k => .l1 (k : Int)) (fun k => if h : k < m.Methods.length then greatM m.Methods[k] else false) (fun k hk => by
      dsimp only [capstanlaw08_Great.F]
      rw [if_pos (by omega), elt_lt hk]
      simp only [Option.bind_some]
      unfold capstanlaw07_Great.f
      simp only [Option.bind_some, dif_pos hk, wrap_succ k (by omega)]
      unfold greatM
      cases decide ((m.Methods[k].Args.length : Int) > 100) <;> cases decide ((m.Methods[k].Locals.length : Int) > 100) <;> simp <;> split <;> rfl) (by dsimp only [capstanlaw08_Great.F]; rw [if_neg (by omega)])
    rw [hr]
    congr 1
    rcases hc with ⟨k, hk, hp, rfl⟩ | ⟨hn, rfl⟩
    · rw [dif_pos hk] at hp
      rw [eq_comm, List.any_eq_true]
      exact ⟨_, List.getElem_mem hk, hp⟩
    · rw [eq_comm, List.any_eq_false]
      intro x hx
      obtain ⟨k, hk, rfl⟩ := List.mem_iff_getElem.1 hx
      have := hn k hk
      rw [dif_pos hk] at this
      rw [this]; simp
structure Small (m : api_Module) : Prop where
  G : m.Globals.length ≤ 100
  P : m.Pool.length ≤ 100
  M : m.Methods.length ≤ 40
  x : ∀ x ∈ m.Methods, x.Args.length ≤ 100 ∧ x.Locals.length ≤ 100 ∧ x.Code.length ≤ 300
theorem small_of {m : api_Module} (h : greatB m = false) : Small m := by
  unfold greatB at h
  simp only [Bool.or_eq_false_iff, decide_eq_false_iff_not, List.any_eq_false] at h
  obtain ⟨⟨⟨h1, h2⟩, h3⟩, h4⟩ := h
  refine ⟨by omega, by omega, by omega, fun x hx => ?_⟩
  have := h4 x hx
  unfold greatM at this
  simp only [Bool.not_eq_true, Bool.or_eq_false_iff, decide_eq_false_iff_not] at this
  omega
def H (rows : List types_Row) : Nat → Int
  | 0 => 0
  | k + 1 => if ((g rows k).Kinds.length : Int) > H rows k then ((g rows k).Kinds.length : Int) else H rows k
theorem H_nonneg (rows : List types_Row) : ∀ k, 0 ≤ H rows k
  | 0 => by simp [H]
  | k + 1 => by have := H_nonneg rows k; unfold H; split <;> omega
theorem g_lt {rows : List types_Row} {k : Nat} (h : k < rows.length) : g rows k = rows[k] := by unfold g; rw [List.getElem?_eq_getElem h]; rfl
theorem height_eq {rows : List types_Row} (h : rows.length < 4611686018427387904) : types_Height.f rows = some (H rows rows.length) := by
  unfold types_Height.f
  rw [runF_step (t := .l1 (H rows 0) ((0 : Nat) : Int)) rfl]
  refine (runF_up (F := types_Height.F rows) (n := rows.length) (fun k => .l1 (H rows k) (k : Int)) (fun k hk => ?_)).trans (runF_end ?_)
  · dsimp only [types_Height.F]
    rw [if_pos (by omega), elt_lt hk]
    simp only [Option.bind_some, wrap_succ k (by omega)]
    rw [show H rows (k + 1) = if ((g rows k).Kinds.length : Int) > H rows k then ((g rows k).Kinds.length : Int) else H rows k from rfl, g_lt hk]
  · dsimp only [types_Height.F]
    rw [if_neg (by omega)]
end TypesPure
namespace TypesPure
open FlowPure
end TypesPure
namespace FlowPure
theorem bounds_eq (n : Fin 256) : op_Bounds.f (n.1 : Int) = capstanref04_Bounds.f (n.1 : Int) ∧ (op_Bounds.f (n.1 : Int)).isSome = true := by
  revert n; decide +kernel
theorem bounds_both {x : Int} (h0 : 0 ≤ x) (h1 : x < 256) : ∃ b, op_Bounds.f x = some b ∧ capstanref04_Bounds.f x = some b := by
  obtain ⟨n, rfl⟩ := Int.eq_ofNat_of_zero_le h0
  obtain ⟨e, s⟩ := bounds_eq ⟨n, by omega⟩
  dsimp only at e s
  obtain ⟨b, hb⟩ := Option.isSome_iff_exists.1 s
  exact ⟨b, hb, e ▸ hb⟩
theorem ref_may {i : api_Instr} (h : wf_api_Instr i) : capstanref04_May.f i = some (may i) := by
  obtain ⟨h0, h1⟩ := wf_op h
  obtain ⟨b, hb, hb'⟩ := bounds_both h0 h1
  unfold capstanref04_May.f may
  rw [hb, hb']
  simp only [Option.bind_some]
  congr 1
  rw [Bool.eq_iff_iff]
  simp only [Bool.and_eq_true, decide_eq_true_eq]
  omega
end FlowPure
namespace FlowPure
def gR (l : List api_Instr) (x : Nat × Nat) : capstanref09_Loop := ⟨x.1, x.2, turns l x.1⟩
def FLp (K : Nat → Kn) (f m : Nat) : List Nat := (List.range m).filter fun t => decide (K t = .again f)
theorem FLp_succ (K : Nat → Kn) (f m : Nat) : FLp K f (m + 1) = FLp K f m ++ (if K m = .again f then [m] else []) := by
  unfold FLp
  rw [List.range_succ, List.filter_append]
  congr 1
  by_cases h : K m = .again f <;> simp [h]
theorem FLp_le (K : Nat → Kn) (f m : Nat) : (FLp K f m).length ≤ m := by
  unfold FLp
  exact Nat.le_trans (List.length_filter_le _ _) (by simp)
theorem ref_inner {l : List api_Instr} (hl : l.length ≤ 200) (hm : ∀ x ∈ l, may x = true) {f : Nat} (hf : f < l.length) {out : List capstanref09_Loop} (ho : out.length ≤ 200) :
    runF (capstanref09_all.F l) (.l2 f out 0 0) = runF (capstanref09_all.F l) (.l2 f (out ++ ((FL (KK l) l.length f).map fun t => gR l (f, t))) (FL (KK l) l.length f).length l.length) := by
  have key := runF_up (F := capstanref09_all.F l) (n := l.length) (fun m => .l2 f (out ++ ((FLp (KK l) f m).map fun t => gR l (f, t))) (FLp (KK l) f m).length m) (fun k hk => by
    have hle := FLp_le (KK l) f k
    dsimp only [capstanref09_all.F]
    rw [if_pos (by omega), elt_lt hk, elt_lt hf]
    simp only [Option.bind_some]
    rw [FLp_succ]
    have ha := again_iff (f := f) hk hm
    by_cases h29 : l[k].Op = 29
    · rw [if_pos h29]
      simp only [Option.bind_some]
      by_cases hA : l[k].A = (f : Int)
      · rw [if_pos (by simpa using hA), if_pos (by simp; omega), if_pos (ha.2 ⟨h29, hA⟩)]
        unfold capstanref09_all.j2
        rw [wrap_succ _ (by omega), wrap_succ _ (by omega)]
        simp only [List.map_append, List.map_cons, List.map_nil, List.append_assoc, List.length_append, List.length_cons, List.length_nil, gR, turns_at hf, Nat.zero_add]
      · rw [if_neg (by simpa using hA), if_neg (fun h => hA (ha.1 h).2)]
        unfold capstanref09_all.j2
        rw [wrap_succ _ (by omega)]
        simp only [List.append_nil]
    · rw [if_neg h29]
      simp only [Option.bind_some]
      rw [if_neg (by simp), if_neg (fun h => h29 (ha.1 h).1)]
      unfold capstanref09_all.j2
      rw [wrap_succ _ (by omega)]
      simp only [List.append_nil])
  have e : (FLp (KK l) f 0) = [] := rfl
  simp only [e, List.map_nil, List.append_nil] at key
  exact key
theorem ref_all {l : List api_Instr} (hl : l.length ≤ 200) (hm : ∀ x ∈ l, may x = true) :
    (Ok1 (KK l) l.length ∧ Ok2 (KK l) l.length → capstanref09_all.f l = some ((RL (KK l) l.length).map (gR l), true)) ∧ (¬ (Ok1 (KK l) l.length ∧ Ok2 (KK l) l.length) → capstanref09_all.f l = some ([], false)) := by
  unfold capstanref09_all.f
  rw [runF_step (t := .l1 [] ((0 : Nat) : Int)) rfl]
  have inner : ∀ k (hk : k < l.length), (∀ j, j < k → p1 (KK l) l.length j) → KK l k = .loop → ((p1 (KK l) l.length k → capstanref09_all.F l (.l2 k ((RLp (KK l) l.length k).map (gR l) ++ ((FL (KK l) l.length k).map fun t => gR l (k, t))) (FL (KK l) l.length k).length l.length) = some (.inl (.l1 ((RLp (KK l) l.length (k + 1)).map (gR l)) ((k + 1 : Nat) : Int)))) ∧
      (¬ p1 (KK l) l.length k → capstanref09_all.F l (.l2 k ((RLp (KK l) l.length k).map (gR l) ++ ((FL (KK l) l.length k).map fun t => gR l (k, t))) (FL (KK l) l.length k).length l.length) = some (.inr ([], false)))) := by
    intro k hk hj hK
    have hle := RLp_le k hj
    have e0 : ∀ t, FL (KK l) l.length k = [t] → elt ((RLp (KK l) l.length k).map (gR l) ++ ((FL (KK l) l.length k).map fun t => gR l (k, t))) (IntKind.i64.wrap ((((RLp (KK l) l.length k).map (gR l) ++ ((FL (KK l) l.length k).map fun t => gR l (k, t))).length : Int) - 1)) = some (gR l (k, t)) := by
      intro t ht
      rw [ht, wrap_pred _ (by simp) (by simp; omega), elt_nat]
      simp
    dsimp only [capstanref09_all.F]
    rw [if_neg (by omega)]
    refine ⟨fun h => ?_, fun h => ?_⟩
    · obtain ⟨t, ht, hkt⟩ := h hK
      rw [e0 t ht, if_neg (by rw [ht]; simp)]
      simp only [Option.bind_some]
      rw [if_neg (by rw [decide_eq_true_eq]; dsimp only [gR]; omega)]
      unfold capstanref09_all.j1
      rw [wrap_succ _ (by omega), RLp_succ, if_pos hK]
      simp only [List.map_append, List.map_map]
      rfl
    · by_cases h1 : (FL (KK l) l.length k).length = 1
      · obtain ⟨t, ht⟩ := List.length_eq_one_iff.1 h1
        rw [e0 t ht, if_neg (by omega)]
        simp only [Option.bind_some]
        rw [if_pos (by
          rw [decide_eq_true_eq]; dsimp only [gR]
          rcases Nat.lt_or_ge t k with z | z
          · omega
          · exact absurd (fun _ => ⟨t, ht, z⟩) h)]
      · rw [if_pos (by omega)]
        rfl
  have key := runF_chk (F := capstanref09_all.F l) (n := l.length) (b := ([], false)) (fun k => .l1 ((RLp (KK l) l.length k).map (gR l)) (k : Int)) (p1 (KK l) l.length) (fun k hk hj hp => by
    have hle := RLp_le k hj
    by_cases h28 : l[k].Op = 28
    · rw [runF_step (t := .l2 k ((RLp (KK l) l.length k).map (gR l)) 0 0) (by
        dsimp only [capstanref09_all.F]
        rw [if_pos (by omega), elt_lt hk]
        simp only [Option.bind_some]
        rw [if_neg (by simpa using h28)])]
      rw [ref_inner hl hm hk (by simp; omega)]
      exact runF_step ((inner k hk hj ((loop_iff hk).2 h28)).1 hp)
    · refine runF_step ?_
      dsimp only [capstanref09_all.F]
      rw [if_pos (by omega), elt_lt hk]
      simp only [Option.bind_some]
      rw [if_pos h28]
      unfold capstanref09_all.j1
      rw [wrap_succ _ (by omega), RLp_succ, if_neg (fun h => h28 ((loop_iff hk).1 h)), List.append_nil]) (fun k hk hj hp => by
    have hle := RLp_le k hj
    have hK : KK l k = .loop := Classical.byContradiction fun hc => hp fun h => absurd h hc
    rw [runF_step (t := .l2 k ((RLp (KK l) l.length k).map (gR l)) 0 0) (by
        dsimp only [capstanref09_all.F]
        rw [if_pos (by omega), elt_lt hk]
        simp only [Option.bind_some]
        rw [if_neg (by simpa using (loop_iff hk).1 hK)])]
    rw [ref_inner hl hm hk (by simp; omega)]
    exact runF_end ((inner k hk hj hK).2 hp))
  have key2 := runF_chk (F := capstanref09_all.F l) (n := l.length) (b := ([], false)) (fun k => .l3 ((RL (KK l) l.length).map (gR l)) (k : Int)) (p2 (KK l) l.length) (fun k hk hj hp => runF_step (by
    dsimp only [capstanref09_all.F]
    rw [if_pos (by omega), elt_lt hk]
    simp only [Option.bind_some]
    rw [wrap_succ _ (by omega)]
    by_cases h29 : l[k].Op = 29
    · have hA := may_place (hm _ (List.getElem_mem hk)) (.inr (.inr h29))
      obtain ⟨q1, q2⟩ := hp l[k].A.toNat ((again_iff hk hm).2 ⟨h29, by omega⟩)
      rw [if_pos h29, if_neg (by omega), elt_int hA.1 q1]
      simp only [Option.bind_some]
      rw [if_neg (by rw [decide_eq_true_eq]; exact fun h => h ((loop_iff q1).1 q2))]
    · rw [if_neg h29]
      simp only [Option.bind_some]
      rw [if_neg (by simp)])) (fun k hk hj hp => runF_end (by
    dsimp only [capstanref09_all.F]
    rw [if_pos (by omega), elt_lt hk]
    simp only [Option.bind_some]
    by_cases h29 : l[k].Op = 29
    · have hA := may_place (hm _ (List.getElem_mem hk)) (.inr (.inr h29))
      rw [if_pos h29]
      by_cases hn : l[k].A ≥ l.length
      · rw [if_pos hn]; rfl
      · rw [if_neg hn, elt_int hA.1 (by omega)]
        simp only [Option.bind_some]
        rw [if_pos (by
          rw [decide_eq_true_eq]
          intro h
          refine hp fun a ha => ?_
          have := (again_iff hk hm).1 ha
          have e : a = l[k].A.toNat := by omega
          subst e
          exact ⟨by omega, (loop_iff (by omega)).2 h⟩)]
    · refine absurd (fun a ha => ?_) hp
      exact absurd ((again_iff hk hm).1 ha).1 h29))
  have mid : runF (capstanref09_all.F l) (.l1 ((RLp (KK l) l.length l.length).map (gR l)) (l.length : Int)) = runF (capstanref09_all.F l) (.l3 ((RL (KK l) l.length).map (gR l)) ((0 : Nat) : Int)) := runF_step (by
    dsimp only [capstanref09_all.F]
    rw [if_neg (by omega)]; rfl)
  have h0 : runF (capstanref09_all.F l) (.l1 [] ((0 : Nat) : Int)) = runF (capstanref09_all.F l) (.l1 ((RLp (KK l) l.length 0).map (gR l)) ((0 : Nat) : Int)) := rfl
  rw [h0]
  by_cases q1 : ∀ k, k < l.length → p1 (KK l) l.length k
  · have hO1 : Ok1 (KK l) l.length := ok1_iff.2 q1
    rw [key.1 q1, mid]
    by_cases q2 : ∀ k, k < l.length → p2 (KK l) l.length k
    · refine ⟨fun _ => (key2.1 q2).trans (runF_end ?_), fun h => absurd ⟨hO1, fun t a ht hk => q2 t ht a hk⟩ h⟩
      dsimp only [capstanref09_all.F]
      rw [if_neg (by omega)]
    · exact ⟨fun h => absurd (fun k hk a ha => h.2 k a hk ha) q2, fun _ => key2.2 q2⟩
  · exact ⟨fun h => absurd (ok1_iff.1 h.1) q1, fun _ => key.2 q1⟩
end FlowPure
namespace FlowPure
def wiB (x : capstanref09_Loop) (a : Int) : Bool := (decide (x.From < a)) && (decide (a ≤ x.To))
theorem wiB_iff {x : capstanref09_Loop} {a : Int} : wiB x a = true ↔ x.From < a ∧ a ≤ x.To := by
  unfold wiB; rw [Bool.and_eq_true, decide_eq_true_eq, decide_eq_true_eq]
theorem wi_f (x : capstanref09_Loop) (a : Int) : capstanref09_within.f x a = some (wiB x a) := rfl
theorem in_f (x y : capstanref09_Loop) : capstanref09_inside.f x y = some (wiB y x.From && wiB y x.To) := by
  unfold capstanref09_inside.f
  rw [wi_f, wi_f]
  simp only [Option.bind_some]
  cases wiB y x.From <;> rfl
def bad (x y : capstanref09_Loop) : Prop := (x.From < y.To ∧ y.From < x.To) ∧ ¬ ((y.From < x.From ∧ x.From ≤ y.To) ∧ (y.From < x.To ∧ x.To ≤ y.To)) ∧ ¬ ((x.From < y.From ∧ y.From ≤ x.To) ∧ (x.From < y.To ∧ y.To ≤ x.To))
def deepAt (s : List capstanref09_Loop) (a : Nat) : Nat := (s.filter fun x => wiB x a).length
theorem nested_inner {s : List capstanref09_Loop} {n : Int} (hs : s.length ≤ 400) {i : Nat} (hi : i < s.length) :
    ((∀ k (hk : k < i), ¬ bad s[i] s[k]) → runF (capstanref09_nested.F s n) (.l2 i 0) = runF (capstanref09_nested.F s n) (.l1 ((i + 1 : Nat) : Int))) ∧ (¬ (∀ k (hk : k < i), ¬ bad s[i] s[k]) → runF (capstanref09_nested.F s n) (.l2 i 0) = some false) := by
  have val : ∀ k (hk : k < i), (bad s[i] s[k] → capstanref09_nested.F s n (.l2 i k) = some (.inr false)) ∧ (¬ bad s[i] s[k] → capstanref09_nested.F s n (.l2 i k) = some (.inl (.l2 i ((k + 1 : Nat) : Int)))) := by
    intro k hk
    have e : capstanref09_nested.F s n (.l2 i k) = if ((decide (s[i].From < s[k].To)) && (decide (s[k].From < s[i].To))) = true then (if (!(wiB s[k] s[i].From && wiB s[k] s[i].To)) = true then (capstanref09_nested.j1 s n i k (!(wiB s[i] s[k].From && wiB s[i] s[k].To))) else (capstanref09_nested.j1 s n i k false)) else (capstanref09_nested.j1 s n i k false) := by
      dsimp only [capstanref09_nested.F]
      rw [if_pos (by omega), elt_lt hi, elt_lt (show k < s.length by omega)]
      simp only [Option.bind_some, in_f, capstanref09_common.f]
    rw [e]
    have go : capstanref09_nested.j1 s n i k false = some (.inl (.l2 i ((k + 1 : Nat) : Int))) := by
      unfold capstanref09_nested.j1
      rw [if_neg (by simp), wrap_succ _ (by omega)]
    have i1 : ∀ b c d : Bool, (b && c) = d ↔ (if b = true then c else false) = d := by intro b c d; cases b <;> simp
    unfold bad
    by_cases hc : s[i].From < s[k].To ∧ s[k].From < s[i].To
    · rw [if_pos (by rw [Bool.and_eq_true, decide_eq_true_eq, decide_eq_true_eq]; exact hc)]
      by_cases h1 : (s[k].From < s[i].From ∧ s[i].From ≤ s[k].To) ∧ (s[k].From < s[i].To ∧ s[i].To ≤ s[k].To)
      · rw [if_neg (by rw [Bool.not_eq_true', ← Bool.not_eq_true, Bool.and_eq_true, wiB_iff, wiB_iff]; exact fun h => h h1), go]
        exact ⟨fun h => absurd h1 h.2.1, fun _ => rfl⟩
      · rw [if_pos (by rw [Bool.not_eq_true', ← Bool.not_eq_true, Bool.and_eq_true, wiB_iff, wiB_iff]; exact h1)]
        by_cases h2 : (s[i].From < s[k].From ∧ s[k].From ≤ s[i].To) ∧ (s[i].From < s[k].To ∧ s[k].To ≤ s[i].To)
        · have : (!(wiB s[i] s[k].From && wiB s[i] s[k].To)) = false := by
            rw [Bool.not_eq_false', Bool.and_eq_true, wiB_iff, wiB_iff]; exact h2
          rw [this, go]
          exact ⟨fun h => absurd h2 h.2.2, fun _ => rfl⟩
        · have : (!(wiB s[i] s[k].From && wiB s[i] s[k].To)) = true := by
            rw [Bool.not_eq_true', ← Bool.not_eq_true, Bool.and_eq_true, wiB_iff, wiB_iff]; exact h2
          rw [this]
          exact ⟨fun _ => rfl, fun h => absurd ⟨hc, h1, h2⟩ h⟩
    · rw [if_neg (by rw [Bool.and_eq_true, decide_eq_true_eq, decide_eq_true_eq]; exact hc), go]
      exact ⟨fun h => absurd h.1 hc, fun _ => rfl⟩
  have key := runF_chk (F := capstanref09_nested.F s n) (n := i) (b := false) (fun k => .l2 i (k : Int)) (fun k => ∀ hk : k < i, ¬ bad s[i] s[k]) (fun k hk _ hp => runF_step ((val k hk).2 (hp hk))) (fun k hk _ hp => runF_end ((val k hk).1 (Classical.byContradiction fun hc => hp fun _ => hc)))
  refine ⟨fun h => (key.1 fun k _ hk => h k hk).trans (runF_step ?_), fun h => key.2 fun hc => h fun k hk => hc k hk hk⟩
  dsimp only [capstanref09_nested.F]
  rw [if_neg (by omega), wrap_succ _ (by omega)]
theorem nested_deep {s : List capstanref09_Loop} {n : Int} (hs : s.length ≤ 400) {a : Nat} :
    runF (capstanref09_nested.F s n) (.l4 a 0 0) = runF (capstanref09_nested.F s n) (.l4 a (deepAt s a) s.length) := by
  have key := runF_up (F := capstanref09_nested.F s n) (n := s.length) (fun k => .l4 a ((s.take k).filter fun x => wiB x a).length k) (fun k hk => by
    have hle : ((s.take k).filter fun x => wiB x a).length ≤ k := Nat.le_trans (List.length_filter_le _ _) (by simp; omega)
    dsimp only [capstanref09_nested.F]
    rw [if_pos (by omega), elt_lt hk]
    simp only [Option.bind_some, wi_f]
    rw [take_succ _ _ hk, List.filter_append]
    unfold capstanref09_nested.j2
    cases hb : wiB s[k] a with
    | true => rw [if_pos rfl, wrap_succ _ (by omega), wrap_succ _ (by omega)]; simp [hb]
    | false => rw [if_neg (by simp), wrap_succ _ (by omega)]; simp [hb])
  rw [List.take_length] at key
  exact key
theorem ref_nested {s : List capstanref09_Loop} {n : Nat} (hs : s.length ≤ 400) (hn : n ≤ 200) :
    ((∀ i (hi : i < s.length) k (hk : k < i), ¬ bad s[i] s[k]) ∧ (∀ a, a < n → deepAt s a ≤ 4) → capstanref09_nested.f s n = some true) ∧ (¬ ((∀ i (hi : i < s.length) k (hk : k < i), ¬ bad s[i] s[k]) ∧ (∀ a, a < n → deepAt s a ≤ 4)) → capstanref09_nested.f s n = some false) := by
  unfold capstanref09_nested.f
  rw [runF_step (t := .l1 ((0 : Nat) : Int)) rfl]
  have st2 : ∀ i, i < s.length → runF (capstanref09_nested.F s n) (.l1 i) = runF (capstanref09_nested.F s n) (.l2 i 0) := fun i hi => runF_step (by
    dsimp only [capstanref09_nested.F]; rw [if_pos (by omega)])
  have key := runF_chk (F := capstanref09_nested.F s n) (n := s.length) (b := false) (fun i => .l1 (i : Int)) (fun i => ∀ (hi : i < s.length) k (hk : k < i), ¬ bad s[i] s[k]) (fun i hi _ hp => (st2 i hi).trans ((nested_inner hs hi).1 (hp hi))) (fun i hi _ hp => (st2 i hi).trans ((nested_inner hs hi).2 (fun hc => hp fun _ => hc)))
  have st4 : ∀ a, a < n → runF (capstanref09_nested.F s n) (.l3 a) = runF (capstanref09_nested.F s n) (.l4 a (deepAt s a) s.length) := fun a ha => (runF_step (by
    dsimp only [capstanref09_nested.F]; rw [if_pos (by omega)])).trans (nested_deep hs)
  have key2 := runF_chk (F := capstanref09_nested.F s n) (n := n) (b := false) (fun a => .l3 (a : Int)) (fun a => deepAt s a ≤ 4) (fun a ha _ hp => (st4 a ha).trans (runF_step (by
    dsimp only [capstanref09_nested.F]; rw [if_neg (by omega), if_neg (by omega), wrap_succ _ (by omega)]))) (fun a ha _ hp => (st4 a ha).trans (runF_end (by
    dsimp only [capstanref09_nested.F]; rw [if_neg (by omega), if_pos (by omega)])))
  have mid : runF (capstanref09_nested.F s n) (.l1 (s.length : Int)) = runF (capstanref09_nested.F s n) (.l3 ((0 : Nat) : Int)) := runF_step (by
    dsimp only [capstanref09_nested.F]; rw [if_neg (by omega)]; rfl)
  by_cases q1 : ∀ i (hi : i < s.length) k (hk : k < i), ¬ bad s[i] s[k]
  · have e1 := (key.1 fun i _ hi => q1 i hi).trans mid
    by_cases q2 : ∀ a, a < n → deepAt s a ≤ 4
    · refine ⟨fun _ => (e1.trans (key2.1 q2)).trans (runF_end ?_), fun h => absurd ⟨q1, q2⟩ h⟩
      dsimp only [capstanref09_nested.F]; rw [if_neg (by omega)]
    · exact ⟨fun h => absurd h.2 q2, fun _ => e1.trans (key2.2 q2)⟩
  · exact ⟨fun h => absurd h.1 q1, fun _ => key.2 fun hc => q1 fun i hi => hc i hi hi⟩
theorem nested_iff {l : List api_Instr} (h1 : Ok1 (KK l) l.length) :
    ((∀ i (hi : i < ((RL (KK l) l.length).map (gR l)).length) k (hk : k < i), ¬ bad ((RL (KK l) l.length).map (gR l))[i] ((RL (KK l) l.length).map (gR l))[k]) ∧ (∀ a, a < l.length → deepAt ((RL (KK l) l.length).map (gR l)) a ≤ 4)) ↔ (Nest (KK l) l.length ∧ Deep l.length (RL (KK l) l.length)) := by
  have hd : ∀ a, deepAt ((RL (KK l) l.length).map (gR l)) a = ((RL (KK l) l.length).filter fun x => decide (x.1 < a) && decide (a ≤ x.2)).length := by
    intro a
    unfold deepAt
    rw [List.filter_map, List.length_map]
    congr 2
    funext x
    show wiB (gR l x) a = _
    rw [Bool.eq_iff_iff, wiB_iff, Bool.and_eq_true, decide_eq_true_eq, decide_eq_true_eq]
    dsimp only [gR]; omega
  have hs := RL_sorted h1
  rw [List.pairwise_iff_getElem] at hs
  have hb : (∀ i (hi : i < ((RL (KK l) l.length).map (gR l)).length) k (hk : k < i), ¬ bad ((RL (KK l) l.length).map (gR l))[i] ((RL (KK l) l.length).map (gR l))[k]) ↔ Nest (KK l) l.length := by
    constructor
    · intro h f t g u p q hfg hgt
      obtain ⟨k, hk, ek⟩ := List.mem_iff_getElem.1 ((mem_RL (f, t)).2 p)
      obtain ⟨i, hi, ei⟩ := List.mem_iff_getElem.1 ((mem_RL (g, u)).2 q)
      have hki : k < i := by
        rcases Nat.lt_trichotomy k i with z | z | z
        · exact z
        · subst z; rw [ek] at ei; cases ei; omega
        · have := hs i k hi hk z; rw [ek, ei] at this; simp only at this; omega
      have := h i (by simpa using hi) k hki
      simp only [List.getElem_map, ek, ei] at this
      obtain ⟨u', q', hu', hq'⟩ := h1 g q.1 q.2.2.1
      have := hq' u q
      unfold bad at *
      dsimp only [gR] at *
      omega
    · intro h i hi k hk hbad
      simp only [List.length_map] at hi
      simp only [List.getElem_map] at hbad
      have hlt := hs k i (by omega) hi hk
      have pk := (mem_RL _).1 (List.getElem_mem (show k < (RL (KK l) l.length).length by omega))
      have pi := (mem_RL _).1 (List.getElem_mem hi)
      have := h _ _ _ _ pk pi hlt
      unfold bad at hbad
      dsimp only [gR] at hbad
      omega
  rw [hb]
  refine and_congr Iff.rfl ?_
  unfold Deep
  constructor
  · intro h a ha; rw [← hd]; exact h a ha
  · intro h a ha; rw [hd]; exact h a ha
end FlowPure
namespace FlowPure
theorem ref_jump {l : List api_Instr} (hl : l.length ≤ 200) (h1 : Ok1 (KK l) l.length) {k : Nat} (hk : k < l.length) (hop : l[k].Op = 26 ∨ l[k].Op = 27) (hA : (k : Int) < l[k].A ∧ l[k].A < l.length) :
    (Jk l (fun x => Pr (KK l) l.length x.1 x.2) k → runF (capstanref09_Loops.F l) (.l3 ((RL (KK l) l.length).map (gR l)) k 0) = runF (capstanref09_Loops.F l) (.l2 ((RL (KK l) l.length).map (gR l)) ((k + 1 : Nat) : Int))) ∧
    (¬ Jk l (fun x => Pr (KK l) l.length x.1 x.2) k → runF (capstanref09_Loops.F l) (.l3 ((RL (KK l) l.length).map (gR l)) k 0) = some ([], 90)) := by
  have hlen := RL_len h1
  have key := runF_chk (F := capstanref09_Loops.F l) (n := (RL (KK l) l.length).length) (b := ([], 90)) (fun q => .l3 ((RL (KK l) l.length).map (gR l)) k (q : Int)) (fun q => ∀ hq : q < (RL (KK l) l.length).length, ((RL (KK l) l.length)[q].1 : Int) < l[k].A → l[k].A ≤ (RL (KK l) l.length)[q].2 → (RL (KK l) l.length)[q].1 < k ∧ k ≤ (RL (KK l) l.length)[q].2) (fun q hq _ hp => runF_step (by
    have e : elt ((RL (KK l) l.length).map (gR l)) (q : Int) = some (gR l (RL (KK l) l.length)[q]) := by rw [elt_lt (by simpa using hq), List.getElem_map]
    dsimp only [capstanref09_Loops.F]
    rw [if_pos (by simp; omega), e, elt_lt hk]
    simp only [Option.bind_some, wi_f]
    have go : capstanref09_Loops.j2 l ((RL (KK l) l.length).map (gR l)) k q false = some (.inl (.l3 ((RL (KK l) l.length).map (gR l)) k ((q + 1 : Nat) : Int))) := by
      unfold capstanref09_Loops.j2
      rw [if_neg (by simp), wrap_succ _ (by omega)]
    by_cases hw : wiB (gR l (RL (KK l) l.length)[q]) l[k].A = true
    · rw [if_pos hw]
      rw [wiB_iff] at hw
      have := hp hq hw.1 hw.2
      have hw2 : wiB (gR l (RL (KK l) l.length)[q]) k = true := by rw [wiB_iff]; dsimp only [gR]; omega
      rw [hw2]; exact go
    · rw [if_neg hw]; exact go)) (fun q hq _ hp => runF_end (by
    have e : elt ((RL (KK l) l.length).map (gR l)) (q : Int) = some (gR l (RL (KK l) l.length)[q]) := by rw [elt_lt (by simpa using hq), List.getElem_map]
    dsimp only [capstanref09_Loops.F]
    rw [if_pos (by simp; omega), e, elt_lt hk]
    simp only [Option.bind_some, wi_f]
    have hx : ((RL (KK l) l.length)[q].1 : Int) < l[k].A ∧ l[k].A ≤ (RL (KK l) l.length)[q].2 ∧ ¬ ((RL (KK l) l.length)[q].1 < k ∧ k ≤ (RL (KK l) l.length)[q].2) := by
      refine Classical.byContradiction fun hc => hp fun _ a b => Classical.byContradiction fun hd => hc ⟨a, b, hd⟩
    rw [if_pos (by rw [wiB_iff]; exact ⟨hx.1, hx.2.1⟩)]
    have hw2 : wiB (gR l (RL (KK l) l.length)[q]) k = false := by rw [← Bool.not_eq_true, wiB_iff]; clear hp; dsimp only [gR]; omega
    rw [hw2]; rfl))
  refine ⟨fun h => (key.1 fun q hq _ a b => ?_).trans (runF_step ?_), fun h => key.2 fun hc => h fun x hx _ => ?_⟩
  · exact (h _ (List.getElem?_eq_getElem hk) hop).2.2 _ ((mem_RL _).1 (List.getElem_mem hq)) a b
  · dsimp only [capstanref09_Loops.F]
    rw [if_neg (by simp)]
    unfold capstanref09_Loops.j1
    rw [wrap_succ _ (by omega)]
  · rw [List.getElem?_eq_getElem hk] at hx
    cases hx
    refine ⟨hA.1, hA.2, fun y hy a b => ?_⟩
    obtain ⟨q, hq, rfl⟩ := List.mem_iff_getElem.1 ((mem_RL y).2 hy)
    exact hc q hq hq a b
theorem ref_loops {l : List api_Instr} (hlen : l.length < 4611686018427387904) (hw : ∀ x ∈ l, wf_api_Instr x) :
    (¬ Known l → capstanref09_Loops.f l = some ([], 40)) ∧ (Known l → Fine l → capstanref09_Loops.f l = some ((RL (KK l) l.length).map (gR l), 0)) ∧ (Known l → ¬ Fine l → capstanref09_Loops.f l = some ([], 90)) := by
  unfold capstanref09_Loops.f
  by_cases hn : 1 ≤ l.length ∧ l.length ≤ 200
  case neg =>
    refine ⟨fun _ => runF_end ?_, fun h => absurd ⟨h.1, h.2.1⟩ hn, fun h => absurd ⟨h.1, h.2.1⟩ hn⟩
    dsimp only [capstanref09_Loops.F]
    rw [if_pos (by rw [Bool.or_eq_true, decide_eq_true_eq, decide_eq_true_eq]; omega)]
  obtain ⟨n1, n2⟩ := hn
  rw [runF_step (t := .l1 ((0 : Nat) : Int)) (by
    dsimp only [capstanref09_Loops.F]
    rw [if_neg (by rw [Bool.or_eq_true, decide_eq_true_eq, decide_eq_true_eq]; omega)]; rfl)]
  have key := runF_chk (F := capstanref09_Loops.F l) (n := l.length) (b := ([], 40)) (fun k => .l1 (k : Int)) (fun k => ∀ hk : k < l.length, may l[k] = true) (fun k hk _ hp => runF_step (by
    dsimp only [capstanref09_Loops.F]
    rw [if_pos (by omega), elt_lt hk]
    simp only [Option.bind_some]
    rw [ref_may (hw _ (List.getElem_mem hk)), hp hk]
    simp only [Option.bind_some]
    rw [if_neg (by simp), wrap_succ _ (by omega)])) (fun k hk _ hp => runF_end (by
    dsimp only [capstanref09_Loops.F]
    rw [if_pos (by omega), elt_lt hk]
    simp only [Option.bind_some]
    rw [ref_may (hw _ (List.getElem_mem hk))]
    simp only [Option.bind_some]
    rw [if_pos (by cases h : may l[k] with | false => rfl | true => exact absurd (fun _ => h) hp)]))
  by_cases hm : ∀ x ∈ l, may x = true
  case neg =>
    have : ¬ (∀ k, k < l.length → ∀ hk : k < l.length, may l[k] = true) := fun h => hm fun x hx => by
      obtain ⟨k, hk, rfl⟩ := List.mem_iff_getElem.1 hx
      exact h k hk hk
    exact ⟨fun _ => key.2 this, fun h => absurd h.2.2 hm, fun h => absurd h.2.2 hm⟩
  have hK : Known l := ⟨n1, n2, hm⟩
  refine ⟨fun h => absurd hK h, ?_⟩
  suffices hs : (Fine l → runF (capstanref09_Loops.F l) (.l1 ((0 : Nat) : Int)) = some ((RL (KK l) l.length).map (gR l), 0)) ∧ (¬ Fine l → runF (capstanref09_Loops.F l) (.l1 ((0 : Nat) : Int)) = some ([], 90)) from ⟨fun _ => hs.1, fun _ => hs.2⟩
  rw [key.1 fun k hk _ => hm _ (List.getElem_mem hk)]
  have hlast : l.length - 1 < l.length := by omega
  have wl : IntKind.i64.wrap ((l.length : Int) - 1) = ((l.length - 1 : Nat) : Int) := wrap_pred _ (by omega) (by omega)
  have lasteq : lastOk l ↔ (l[l.length - 1].Op = 31 ∨ l[l.length - 1].Op = 32) := by
    unfold lastOk
    constructor
    · intro h; exact h _ (List.getElem?_eq_getElem hlast)
    · intro h x hx; rw [List.getElem?_eq_getElem hlast] at hx; cases hx; exact h
  obtain ⟨a1, a2⟩ := ref_all n2 hm
  by_cases hO : Ok1 (KK l) l.length ∧ Ok2 (KK l) l.length
  case neg =>
    refine ⟨fun h => absurd (run_pairs h.1) hO, fun _ => runF_end ?_⟩
    dsimp only [capstanref09_Loops.F]
    rw [if_neg (by omega), a2 hO, wl, elt_lt hlast]
    simp only [Option.bind_some]
    rfl
  obtain ⟨o1, o2⟩ := hO
  have hRL := RL_len o1
  obtain ⟨b1, b2⟩ := ref_nested (s := (RL (KK l) l.length).map (gR l)) (n := l.length) (by simp; omega) n2
  have hrun : Run (KK l) l.length ↔ ((∀ i (hi : i < ((RL (KK l) l.length).map (gR l)).length) k (hk : k < i), ¬ bad ((RL (KK l) l.length).map (gR l))[i] ((RL (KK l) l.length).map (gR l))[k]) ∧ (∀ a, a < l.length → deepAt ((RL (KK l) l.length).map (gR l)) a ≤ 4)) := by
    rw [nested_iff o1, run_iff (R := RL (KK l) l.length) fun h => ⟨fun x => mem_RL x, RL_nodup h⟩]
    exact ⟨fun h => h.2.2, fun h => ⟨o1, o2, h⟩⟩
  by_cases hR : Run (KK l) l.length
  case neg =>
    refine ⟨fun h => absurd h.1 hR, fun _ => runF_end ?_⟩
    dsimp only [capstanref09_Loops.F]
    rw [if_neg (by omega), a1 ⟨o1, o2⟩, wl, elt_lt hlast]
    simp only [Option.bind_some, Bool.not_true, Bool.false_eq_true, if_false]
    rw [b2 (mt hrun.2 hR)]
    rfl
  by_cases hL : lastOk l
  case neg =>
    refine ⟨fun h => absurd h.2.1 hL, fun _ => runF_end ?_⟩
    dsimp only [capstanref09_Loops.F]
    rw [if_neg (by omega), a1 ⟨o1, o2⟩, wl, elt_lt hlast]
    simp only [Option.bind_some, Bool.not_true, Bool.false_eq_true, if_false]
    rw [b1 (hrun.1 hR)]
    simp only [Option.bind_some, Bool.not_true, Bool.false_or]
    rw [if_pos (by rw [Bool.and_eq_true, decide_eq_true_eq, decide_eq_true_eq]; have := mt lasteq.2 hL; omega)]
  have e2 : runF (capstanref09_Loops.F l) (.l1 (l.length : Int)) = runF (capstanref09_Loops.F l) (.l2 ((RL (KK l) l.length).map (gR l)) ((0 : Nat) : Int)) := runF_step (by
    dsimp only [capstanref09_Loops.F]
    rw [if_neg (by omega), a1 ⟨o1, o2⟩, wl, elt_lt hlast]
    simp only [Option.bind_some, Bool.not_true, Bool.false_eq_true, if_false]
    rw [b1 (hrun.1 hR)]
    simp only [Option.bind_some, Bool.not_true, Bool.false_or]
    rw [if_neg (by rw [Bool.and_eq_true, decide_eq_true_eq, decide_eq_true_eq]; have := lasteq.1 hL; omega)]
    rfl)
  rw [e2]
  have opb : ∀ k (hk : k < l.length), (if l[k].Op ≠ 26 then ((elt l (k : Int)).bind fun x349 => some (decide (x349.Op ≠ 27))) else (some false)) = some (decide (¬ (l[k].Op = 26 ∨ l[k].Op = 27))) := by
    intro k hk
    rw [elt_lt hk]
    simp only [Option.bind_some]
    by_cases h : l[k].Op = 26
    · rw [if_neg (by simpa using h)]; simp [h]
    · rw [if_pos h]; simp [h]
  have fin := runF_chk (F := capstanref09_Loops.F l) (n := l.length) (b := ([], 90)) (fun k => .l2 ((RL (KK l) l.length).map (gR l)) (k : Int)) (Jk l fun x => Pr (KK l) l.length x.1 x.2) (fun k hk _ hp => by
    by_cases hop : l[k].Op = 26 ∨ l[k].Op = 27
    · have hA := hp _ (List.getElem?_eq_getElem hk) hop
      rw [runF_step (t := .l3 ((RL (KK l) l.length).map (gR l)) k 0) (by
        dsimp only [capstanref09_Loops.F]
        rw [if_pos (by omega), elt_lt hk]
        simp only [Option.bind_some]
        have := opb k hk
        rw [elt_lt hk] at this
        simp only [Option.bind_some] at this
        rw [this]
        simp only [Option.bind_some]
        rw [if_neg (by rw [decide_eq_true_eq]; exact fun h => h hop), if_neg (by omega)]
        simp only [Option.bind_some]
        rw [if_neg (by rw [decide_eq_true_eq]; omega)])]
      exact (ref_jump n2 o1 hk hop ⟨hA.1, hA.2.1⟩).1 hp
    · refine runF_step ?_
      dsimp only [capstanref09_Loops.F]
      rw [if_pos (by omega), elt_lt hk]
      simp only [Option.bind_some]
      have := opb k hk
      rw [elt_lt hk] at this
      simp only [Option.bind_some] at this
      rw [this]
      simp only [Option.bind_some]
      rw [if_pos (by rw [decide_eq_true_eq]; exact hop)]
      unfold capstanref09_Loops.j1
      rw [wrap_succ _ (by omega)]) (fun k hk _ hp => by
    have hop : l[k].Op = 26 ∨ l[k].Op = 27 := Classical.byContradiction fun hc => hp fun x hx h => by
      rw [List.getElem?_eq_getElem hk] at hx; cases hx; exact absurd h hc
    have pre : ∀ (r : Option (capstanref09_Loops.S ⊕ ((List capstanref09_Loop) × Int))), (((if l[k].A ≤ (k : Int) then (some true) else some (decide (l[k].A ≥ (l.length : Int)))).bind fun t365 => if t365 = true then (some (.inr ([], 90))) else (some (.inl (.l3 ((RL (KK l) l.length).map (gR l)) k 0)))) = r) → capstanref09_Loops.F l (.l2 ((RL (KK l) l.length).map (gR l)) k) = r := by
      intro r hr
      dsimp only [capstanref09_Loops.F]
      rw [if_pos (by omega), elt_lt hk]
      simp only [Option.bind_some]
      have := opb k hk
      rw [elt_lt hk] at this
      simp only [Option.bind_some] at this
      rw [this]
      simp only [Option.bind_some]
      rw [if_neg (by rw [decide_eq_true_eq]; exact fun h => h hop)]
      exact hr
    by_cases hA : (k : Int) < l[k].A ∧ l[k].A < l.length
    · rw [runF_step (t := .l3 ((RL (KK l) l.length).map (gR l)) k 0) (pre _ (by
        rw [if_neg (by omega)]
        simp only [Option.bind_some]
        rw [if_neg (by rw [decide_eq_true_eq]; omega)]))]
      exact (ref_jump n2 o1 hk hop hA).2 hp
    · refine runF_end (pre _ ?_)
      by_cases h : l[k].A ≤ (k : Int)
      · rw [if_pos h]; rfl
      · rw [if_neg h]
        simp only [Option.bind_some]
        rw [if_pos (by rw [decide_eq_true_eq]; omega)])
  by_cases hJ : Jm l fun x => Pr (KK l) l.length x.1 x.2
  · refine ⟨fun _ => (fin.1 hJ).trans (runF_end ?_), fun h => absurd ⟨hR, hL, hJ⟩ h⟩
    dsimp only [capstanref09_Loops.F]
    rw [if_neg (by omega)]
  · exact ⟨fun h => absurd h.2.2 hJ, fun _ => fin.2 hJ⟩
end FlowPure
namespace FlowPure
theorem ref_ways {l : List api_Instr} (hlen : l.length < 4611686018427387904) (hw : ∀ x ∈ l, wf_api_Instr x) :
    (∀ a, ¬ Known l → capstanref09_Ways.f l a = some ([], 40)) ∧ (∀ a, Known l → ¬ Fine l → capstanref09_Ways.f l a = some ([], 90)) ∧ (∀ a : Int, Known l → Fine l → (a < 0 ∨ a ≥ l.length) → capstanref09_Ways.f l a = some ([], 2)) ∧ (∀ a : Nat, Known l → Fine l → a < l.length → capstanref09_Ways.f l a = some (ways l a, 0)) := by
  obtain ⟨a1, a2, a3⟩ := ref_loops hlen hw
  unfold capstanref09_Ways.f
  refine ⟨fun a h => ?_, fun a h hf => ?_, fun a h hf ha => ?_, fun a h hf ha => ?_⟩
  · rw [a1 h]; rfl
  · rw [a3 h hf]; rfl
  · rw [a2 h hf]
    simp only [Option.bind_some]
    rw [if_neg (by simp), if_pos (by rw [Bool.or_eq_true, decide_eq_true_eq, decide_eq_true_eq]; exact ha)]
  · rw [a2 h hf]
    simp only [Option.bind_some]
    rw [if_neg (by simp), if_neg (by rw [Bool.or_eq_true, decide_eq_true_eq, decide_eq_true_eq]; omega), elt_lt ha]
    simp only [Option.bind_some]
    have hm := h.2.2 _ (List.getElem_mem ha)
    have hn := h.2.1
    unfold ways
    rw [List.getElem?_eq_getElem ha]
    dsimp only
    generalize hx : l[a] = x at hm
    have wa : IntKind.i64.wrap ((a : Int) + 1) = ((a + 1 : Nat) : Int) := wrap_succ a (by omega)
    unfold capstanref09_Ways.j1
    rw [wa]
    by_cases h31 : x.Op = 31
    · rw [if_pos h31, if_pos (by rw [decide_eq_true_eq]; exact h31), if_pos (.inl h31)]
    · rw [if_neg h31]
      by_cases h32 : x.Op = 32
      · rw [if_pos (by rw [decide_eq_true_eq]; exact h32), if_pos (.inr h32)]
      · rw [if_neg (by rw [decide_eq_true_eq]; exact h32), if_neg (show ¬ (x.Op = 31 ∨ x.Op = 32) by omega)]
        by_cases h26 : x.Op = 26
        · rw [if_pos h26, if_pos h26]
        · rw [if_neg h26, if_neg h26]
          by_cases h27 : x.Op = 27
          · rw [if_pos h27, if_pos h27]
            by_cases e : x.A = ((a + 1 : Nat) : Int)
            · rw [if_pos e, if_pos e]
            · rw [if_neg e, if_neg e]
          · rw [if_neg h27, if_neg h27]
            by_cases h29 : x.Op = 29
            · have hp := may_place hm (.inr (.inr h29))
              have wA : IntKind.i64.wrap (x.A + 1) = x.A + 1 := wrap_id (by omega) (by omega)
              rw [if_pos h29, if_pos h29, wA]
            · rw [if_neg h29, if_neg h29]
end FlowPure
namespace TypesPure
open FlowPure
theorem kinds_same {x y : List Int} (h : x.length < 4611686018427387904) : capstanref07_SameKinds.f x y = some (decide (x = y)) := by
  rw [← same8 h]
  have e : ∀ s, slices_Equal_uint8_uint8.F x y (match s with | .start => .start | .l1 a => .l1 a) = (capstanref07_SameKinds.F x y s).map (fun r => match r with | .inl (.start) => .inl (.start) | .inl (.l1 a) => .inl (.l1 a) | .inr b => .inr b) := by
    intro s
    cases s with
    | start => dsimp only [slices_Equal_uint8_uint8.F, capstanref07_SameKinds.F]; split <;> rfl
    | l1 a =>
      dsimp only [slices_Equal_uint8_uint8.F, capstanref07_SameKinds.F]
      split
      · cases elt x a with
        | none => rfl
        | some u =>
          cases elt y a with
          | none => rfl
          | some v => simp only [Option.bind_some]; split <;> rfl
      · rfl
  unfold slices_Equal_uint8_uint8.f capstanref07_SameKinds.f
  by_cases hl : x.length = y.length
  · rw [runF_step (F := capstanref07_SameKinds.F x y) (t := .l1 ((0 : Nat) : Int)) (by dsimp only [capstanref07_SameKinds.F]; rw [if_neg (by omega)]; rfl)]
    rw [runF_step (F := slices_Equal_uint8_uint8.F x y) (t := .l1 ((0 : Nat) : Int)) (by dsimp only [slices_Equal_uint8_uint8.F]; rw [if_neg (by omega)]; rfl)]
    have key : ∀ n k, x.length - k = n → runF (capstanref07_SameKinds.F x y) (.l1 (k : Int)) = runF (slices_Equal_uint8_uint8.F x y) (.l1 (k : Int)) := by
      intro n
      induction n with
      | zero =>
        intro k hk
        rw [runF_end (F := capstanref07_SameKinds.F x y) (r := true) (by dsimp only [capstanref07_SameKinds.F]; rw [if_neg (by omega)]), runF_end (F := slices_Equal_uint8_uint8.F x y) (r := true) (by dsimp only [slices_Equal_uint8_uint8.F]; rw [if_neg (by omega)])]
      | succ n ih =>
        intro k hk
        have h1 : k < x.length := by omega
        have h2 : k < y.length := by omega
        by_cases e : x[k] = y[k]
        · rw [runF_step (F := capstanref07_SameKinds.F x y) (t := .l1 ((k + 1 : Nat) : Int)) (by dsimp only [capstanref07_SameKinds.F]; rw [if_pos (by omega), elt_lt h1, elt_lt h2]; simp only [Option.bind_some]; rw [if_neg (by simpa using e), wrap_succ k (by omega)]), runF_step (F := slices_Equal_uint8_uint8.F x y) (t := .l1 ((k + 1 : Nat) : Int)) (by dsimp only [slices_Equal_uint8_uint8.F]; rw [if_pos (by omega), elt_lt h1, elt_lt h2]; simp only [Option.bind_some]; rw [if_neg (by simpa using e), wrap_succ k (by omega)])]
          exact ih (k + 1) (by omega)
        · rw [runF_end (F := capstanref07_SameKinds.F x y) (r := false) (by dsimp only [capstanref07_SameKinds.F]; rw [if_pos (by omega), elt_lt h1, elt_lt h2]; simp only [Option.bind_some]; rw [if_pos (by simpa using e)]), runF_end (F := slices_Equal_uint8_uint8.F x y) (r := false) (by dsimp only [slices_Equal_uint8_uint8.F]; rw [if_pos (by omega), elt_lt h1, elt_lt h2]; simp only [Option.bind_some]; rw [if_pos (by simpa using e)])]
    exact key _ 0 rfl
  · rw [runF_end (F := capstanref07_SameKinds.F x y) (r := false) (by dsimp only [capstanref07_SameKinds.F]; rw [if_pos (by omega)]), runF_end (F := slices_Equal_uint8_uint8.F x y) (r := false) (by dsimp only [slices_Equal_uint8_uint8.F]; rw [if_pos (by omega)])]
end TypesPure
namespace TypesPure
open FlowPure
theorem copy_eq {m : api_Module} (S : Small m) : capstanref08_Copy.f m = some m := by
  have h1 := S.G
  have h2 := S.P
  have h3 := S.M
  unfold capstanref08_Copy.f
  have c3 : ∀ l : List api_Value, l.length ≤ 100 → capstanref03_Copy.f l = some l := by
    intro l hl
    unfold capstanref03_Copy.f
    rw [if_pos (by simp; omega)]; rfl
  rw [runF_step (t := .l1 m.Globals m.Pool ((0 : Nat) : Int) (m.Methods.take 0)) (by
    dsimp only [capstanref08_Copy.F]
    rw [c3 _ h1]
    simp only [Option.bind_some]
    rw [c3 _ h2]
    rfl)]
  refine (runF_up (F := capstanref08_Copy.F m) (n := m.Methods.length) (fun k => .l1 m.Globals m.Pool (k : Int) (m.Methods.take k)) (fun k hk => ?_)).trans (runF_end ?_)
  · have hs := S.x _ (List.getElem_mem hk)
    dsimp only [capstanref08_Copy.F]
    rw [if_pos (by omega), elt_lt hk]
    simp only [Option.bind_some]
    rw [if_pos (by simp; omega), if_pos (by simp; omega)]
    have c5 : capstanref05_Copy.f m.Methods[k].Code = some m.Methods[k].Code := by
      unfold capstanref05_Copy.f
      rw [if_pos (by simp; omega)]; rfl
    rw [c5]
    simp only [Option.bind_some]
    rw [if_pos (by simp; omega), wrap_succ k (by omega), take_succ _ k hk]
    rfl
  · dsimp only [capstanref08_Copy.F]
    rw [if_neg (by omega), List.take_length]
structure Alike (E E' : TE) : Prop where
  G : E'.G.length = E.G.length
  G1 : ∀ a, (At E'.G api_Value.zero a).Kind = (At E.G api_Value.zero a).Kind
  P : E'.P.length = E.P.length
  P1 : ∀ a, (At E'.P api_Value.zero a).Kind = (At E.P api_Value.zero a).Kind
  M : E'.M.length = E.M.length
  M1 : ∀ a, (At E'.M api_Method.zero a).Args = (At E.M api_Method.zero a).Args ∧ (At E'.M api_Method.zero a).Result = (At E.M api_Method.zero a).Result
  res : E'.res = E.res
  K : E'.K = E.K
theorem Alike.there {E E' : TE} (h : Alike E E') (i : api_Instr) : there E' i = there E i := by
  unfold TypesPure.there
  rw [h.G, h.P, h.M, h.K]
theorem Alike.named {E E' : TE} (h : Alike E E') (i : api_Instr) : named E' i = named E i := by
  unfold TypesPure.named
  rw [h.G1, h.P1, h.K]
theorem Alike.shape {E E' : TE} (h : Alike E E') (i : api_Instr) (row : List Int) : shapeC E' i row = shapeC E i row := by
  unfold shapeC
  rw [h.named, (h.M1 i.A).1, (h.M1 i.A).2, h.res]
theorem Alike.after {E E' : TE} (h : Alike E E') (i : api_Instr) (row : List Int) : afterC E' i row = afterC E i row := by
  unfold afterC
  rw [h.shape]
theorem Alike.place {E E' : TE} (h : Alike E E') (l : List api_Instr) (rows : List types_Row) (k : Nat) : placeC E' l rows k = placeC E l rows k := by
  unfold placeC
  rw [h.after]
theorem Alike.at {E E' : TE} (h : Alike E E') (l : List api_Instr) : ∀ k, rowsAt E' l k = rowsAt E l k
  | 0 => rfl
  | k + 1 => by unfold rowsAt; rw [h.at l k, h.place]
theorem Alike.rows {E E' : TE} (h : Alike E E') (l : List api_Instr) : rowsC E' l = rowsC E l := by
  unfold rowsC
  rw [h.at]
end TypesPure
namespace TypesPure
open FlowPure
theorem with_eq {s : List Int} {k : Int} (h : s.length ≤ 100000) : capstanref10_with.f s k = some (s ++ [k]) := by
  unfold capstanref10_with.f
  rw [if_pos (by simp; omega), if_pos (by simp; omega)]; rfl
theorem rkinds {x : api_Method} (h : x.Args.length + x.Locals.length ≤ 1000) : capstanref07_Kinds.f x = some (x.Args ++ x.Locals) := by
  unfold capstanref07_Kinds.f
  rw [if_pos (by simp; omega), if_pos (by simp; omega)]; rfl
theorem there_ref {m : api_Module} {x : api_Method} (i : api_Instr) (h : x.Args.length + x.Locals.length ≤ 1000) : capstanref10_there.f m x i = some (there (envOf m x) i) := by
  have w : IntKind.i64.wrap ((x.Args.length : Int) + (x.Locals.length : Int)) = ((x.Args ++ x.Locals).length : Int) := by rw [wrap_id (by omega) (by omega), List.length_append]; omega
  unfold capstanref10_there.f capstanref10_there.j1 capstanref10_there.j2 there
  rw [w]
  by_cases h1 : i.Op = 1
  · simp [h1, envOf]; rfl
  · by_cases h2 : i.Op = 2
    · simp [h2, envOf]
    · by_cases h3 : i.Op = 3
      · simp [h3, envOf]
      · by_cases h4 : i.Op = 4
        · simp [h4, envOf]; rfl
        · by_cases h5 : i.Op = 5
          · simp [h5, envOf]; rfl
          · by_cases h6 : i.Op = 30
            · simp [h6, envOf]; rfl
            · simp [h1, h2, h3, h4, h5, h6]
theorem taken_eq {row : List Int} {k : Int} (hl : row.length ≤ 100000) : capstanref10_taken.f row k = some (if h : row.length = 0 then ([], 101) else if k = 0 ∨ k = row[row.length - 1]'(by omega) then (row.take (row.length - 1), 0) else ([], 100)) := by
  unfold capstanref10_taken.f
  by_cases h : row.length = 0
  · rw [if_pos (by omega), dif_pos h]
  · rw [if_neg (by omega), dif_neg h]
    have w1 : IntKind.i64.wrap ((row.length : Int) - 1) = ((row.length - 1 : Nat) : Int) := by rw [wrap_id (by omega) (by omega)]; omega
    rw [w1, elt_lt (by omega)]
    simp only [Option.bind_some]
    have et : ((row.length - 1 : Nat) : Int).toNat = row.length - 1 := by omega
    by_cases h0 : k = 0
    · rw [if_neg (by simpa using h0), if_pos (show k = 0 ∨ k = row[row.length - 1]'(by omega) from .inl h0)]
      simp only [Option.bind_some]
      rw [if_neg (by simp), if_pos (by omega), et]
    · rw [if_pos h0]
      simp only [Option.bind_some]
      by_cases h1 : k = row[row.length - 1]'(by omega)
      · rw [if_neg (by simp [← h1]), if_pos (show k = 0 ∨ k = row[row.length - 1]'(by omega) from .inr h1), if_pos (by omega), et]
      · rw [if_pos (by simpa using fun e => h1 e.symm), if_neg (show ¬ (k = 0 ∨ k = row[row.length - 1]'(by omega)) from fun h => h.elim h0 h1)]
theorem takesB_iff {t row : List Int} (h : t.length ≤ row.length) : takesB t row = true ↔ ∀ k (hk : k < t.length), t[t.length - 1 - k]'(by omega) = 0 ∨ t[t.length - 1 - k]'(by omega) = row[row.length - 1 - k]'(by omega) := by
  unfold takesB
  rw [List.all_eq_true]
  constructor
  · intro ha k hk
    have hz : t.length - 1 - k < (t.zip (row.drop (row.length - t.length))).length := by simp; omega
    have := ha _ (List.getElem_mem hz)
    rw [List.getElem_zip, List.getElem_drop, decide_eq_true_eq] at this
    have e : row.length - t.length + (t.length - 1 - k) = row.length - 1 - k := by omega
    simp only [e] at this
    exact this
  · intro ha z hz
    obtain ⟨q, hq, rfl⟩ := List.mem_iff_getElem.1 hz
    have hq' : q < t.length := by simp at hq; omega
    rw [List.getElem_zip, List.getElem_drop, decide_eq_true_eq]
    have := ha (t.length - 1 - q) (by omega)
    have e1 : t.length - 1 - (t.length - 1 - q) = q := by omega
    have e2 : row.length - 1 - (t.length - 1 - q) = row.length - t.length + q := by omega
    simp only [e1, e2] at this
    exact this
def takeC (t row : List Int) : List Int × Int := if row.length < t.length then ([], 101) else if takesB t row = true then (row.take (row.length - t.length), 0) else ([], 100)
theorem taken_takeC {row : List Int} {k : Int} (hl : row.length ≤ 100000) : capstanref10_taken.f row k = some (takeC [k] row) := by
  rw [taken_eq hl]
  unfold takeC
  by_cases h : row.length = 0
  · rw [dif_pos h, if_pos (by rw [List.length_singleton]; omega)]
  · rw [dif_neg h, if_neg (show ¬ row.length < ([k] : List Int).length by rw [List.length_singleton]; omega)]
    have hb := takesB_iff (t := [k]) (row := row) (by rw [List.length_singleton]; omega)
    by_cases h1 : k = 0 ∨ k = row[row.length - 1]'(by omega)
    · rw [if_pos h1, if_pos (hb.2 fun j hj => by
        obtain rfl : j = 0 := by simpa using hj
        simpa using h1)]
      rfl
    · rw [if_neg h1, if_neg (fun h => h1 (by simpa using hb.1 h 0 (by simp)))]
theorem takes_ref {t row : List Int} (hl : row.length ≤ 100000) (ht : t.length < 4611686018427387904) : capstanref10_takes.f row t = some (takeC t row) := by
  unfold capstanref10_takes.f takeC
  by_cases hlt : row.length < t.length
  · rw [if_pos hlt, runF_end]
    dsimp only [capstanref10_takes.F]
    rw [if_pos (by omega)]
  · rw [if_neg hlt, runF_step (t := .l1 (row.take (row.length - 0)) ((t.length : Int) - 1 - ((0 : Nat) : Int))) (by
      dsimp only [capstanref10_takes.F]
      rw [if_neg (by omega), wrap_id (by omega) (by omega), Nat.sub_zero, List.take_length]; simp)]
    have step : ∀ k (hk : k < t.length), capstanref10_takes.F row t (.l1 (row.take (row.length - k)) ((t.length : Int) - 1 - (k : Int))) = if t[t.length - 1 - k]'(by omega) = 0 ∨ t[t.length - 1 - k]'(by omega) = row[row.length - 1 - k]'(by omega) then some (.inl (.l1 (row.take (row.length - (k + 1))) ((t.length : Int) - 1 - ((k + 1 : Nat) : Int)))) else some (.inr ([], 100)) := by
      intro k hk
      dsimp only [capstanref10_takes.F]
      have e1 : (t.length : Int) - 1 - (k : Int) = ((t.length - 1 - k : Nat) : Int) := by omega
      rw [if_pos (by omega), e1, elt_lt (by omega)]
      simp only [Option.bind_some]
      have hlen : (row.take (row.length - k)).length = row.length - k := by rw [List.length_take]; omega
      rw [taken_eq (by rw [hlen]; omega)]
      simp only [Option.bind_some]
      rw [dif_neg (by rw [hlen]; omega)]
      have e2 : (row.take (row.length - k))[(row.take (row.length - k)).length - 1]'(by rw [hlen]; omega) = row[row.length - 1 - k]'(by omega) := by
        rw [List.getElem_take]
        have : (row.take (row.length - k)).length - 1 = row.length - 1 - k := by rw [hlen]; omega
        simp only [this]
      rw [e2]
      have e3 : (row.take (row.length - k)).take ((row.take (row.length - k)).length - 1) = row.take (row.length - (k + 1)) := by
        rw [hlen, List.take_take]
        congr 1; omega
      rw [e3]
      have e4 : IntKind.i64.wrap (((t.length - 1 - k : Nat) : Int) - 1) = (t.length : Int) - 1 - ((k + 1 : Nat) : Int) := by rw [wrap_id (by omega) (by omega)]; omega
      rw [e4]
      by_cases hc : t[t.length - 1 - k]'(by omega) = 0 ∨ t[t.length - 1 - k]'(by omega) = row[row.length - 1 - k]'(by omega)
      · rw [if_pos hc, if_pos hc]; rfl
      · rw [if_neg hc, if_neg hc]; rfl
    obtain ⟨a1, a2⟩ := runF_chk (F := capstanref10_takes.F row t) (n := t.length) (b := ([], 100)) (fun k => .l1 (row.take (row.length - k)) ((t.length : Int) - 1 - (k : Int))) (fun k => ∀ hk : k < t.length, t[t.length - 1 - k]'(by omega) = 0 ∨ t[t.length - 1 - k]'(by omega) = row[row.length - 1 - k]'(by omega)) (fun k hk _ hp => by
      refine runF_step ?_
      rw [step k hk, if_pos (hp hk)]) (fun k hk _ hp => by
      refine runF_end ?_
      rw [step k hk, if_neg (fun h => hp fun _ => h)])
    have hb := takesB_iff (t := t) (row := row) (by omega)
    by_cases hall : takesB t row = true
    · rw [if_pos hall]
      refine (a1 fun k hk _ => hb.1 hall k hk).trans (runF_end ?_)
      dsimp only [capstanref10_takes.F]
      rw [if_neg (by omega)]
    · rw [if_neg hall]
      exact a2 fun h => hall (hb.2 fun k hk => h k hk hk)
def letterC (c : Int) : Int := if c = 110 then 1 else if c = 112 then 2 else if c = 114 then 3 else 0
theorem letter_eq (c : Int) : capstanref04_letter.f c = some (letterC c) := by
  unfold capstanref04_letter.f letterC
  split
  · rfl
  · split
    · rfl
    · split <;> rfl
def kindsC (s : ByteArray) : List Int := (List.range s.size).map fun (k : Nat) => letterC ((strAt s (k : Int)).getD 0)
theorem kinds_text {s : ByteArray} (h : s.size ≤ 1000) : capstanref04_kinds.f s = some (kindsC s) := by
  unfold capstanref04_kinds.f
  rw [runF_step (t := .l1 ((kindsC s).take 0) ((0 : Nat) : Int)) rfl]
  have hl : (kindsC s).length = s.size := by simp [kindsC]
  refine (runF_up (F := capstanref04_kinds.F s) (n := s.size) (fun k => .l1 ((kindsC s).take k) (k : Int)) (fun k hk => ?_)).trans (runF_end ?_)
  · dsimp only [capstanref04_kinds.F]
    have hs : strAt s (k : Int) = some ((strAt s (k : Int)).getD 0) := by
      unfold strAt
      rw [dif_pos ⟨by omega, by omega⟩]; rfl
    rw [if_pos (by omega), hs]
    simp only [Option.bind_some]
    rw [letter_eq]
    simp only [Option.bind_some]
    rw [if_pos (by simp; omega), wrap_succ k (by omega), take_succ _ k (by omega)]
    simp [kindsC]
  · dsimp only [capstanref04_kinds.F]
    rw [if_neg (by omega), List.take_of_length_le (by omega)]
def ofBoth (n : Nat) : Bool := match capstanref04_shape.f (n : Int), op_Of.f (n : Int) with
  | some t, some s => decide (t.1.size ≤ 10 ∧ t.2.size ≤ 10) && (if (t.1.toList == (⟨#[63]⟩ : ByteArray).toList) = true then !s.2 else s.2 && decide (kindsC t.1 = s.1.Takes ∧ kindsC t.2 = s.1.Gives))
  | _, _ => false
theorem of_both_all (n : Fin 33) : ofBoth n.1 = true := by revert n; decide +kernel
theorem of_ref {x : Int} (h0 : 0 ≤ x) (h1 : x < 33) {s : op_Shape × Bool} (hs : op_Of.f x = some s) (h2 : s.2 = true) : capstanref04_Of.f x = some (s.1.Takes, s.1.Gives, true) := by
  obtain ⟨n, rfl⟩ := Int.eq_ofNat_of_zero_le h0
  have hb := of_both_all ⟨n, by omega⟩
  unfold ofBoth at hb
  dsimp only at hb
  rw [hs] at hb
  unfold capstanref04_Of.f
  cases ht : capstanref04_shape.f (n : Int) with
  | none => rw [ht] at hb; cases hb
  | some t =>
    rw [ht] at hb
    dsimp only at hb
    rw [Bool.and_eq_true, decide_eq_true_eq] at hb
    obtain ⟨⟨b1, b2⟩, hb⟩ := hb
    simp only [Option.bind_some]
    by_cases hq : (t.1.toList == (⟨#[63]⟩ : ByteArray).toList) = true
    · rw [if_pos hq, h2] at hb; cases hb
    · rw [if_neg hq, h2, Bool.true_and, decide_eq_true_eq] at hb
      rw [if_neg hq, kinds_text (by omega)]
      simp only [Option.bind_some]
      rw [kinds_text (by omega)]
      simp only [Option.bind_some]
      rw [hb.1, hb.2]
end TypesPure
namespace TypesPure
open FlowPure
theorem after_take (E : TE) (i : api_Instr) (row : List Int) : afterC E i row = if (takeC (shapeC E i row).1 row).2 ≠ 0 then ([], (takeC (shapeC E i row).1 row).2) else ((takeC (shapeC E i row).1 row).1 ++ (shapeC E i row).2, 0) := by
  unfold afterC takeC
  by_cases h1 : row.length < (shapeC E i row).1.length
  · rw [if_pos h1, if_pos h1]; rfl
  · rw [if_neg h1, if_neg h1]
    by_cases h2 : takesB (shapeC E i row).1 row = true
    · rw [if_pos h2, if_pos h2]; rfl
    · rw [if_neg h2, if_neg h2]; rfl
theorem takeC_nil (row : List Int) : takeC [] row = (row, 0) := by
  unfold takeC
  rw [if_neg (by simp), if_pos (by rfl)]; simp
theorem takeC_zeros {t row : List Int} (h : ∀ z ∈ t, z = 0) : takeC t row = if row.length < t.length then ([], 101) else (row.take (row.length - t.length), 0) := by
  unfold takeC
  by_cases h1 : row.length < t.length
  · rw [if_pos h1, if_pos h1]
  · rw [if_neg h1, if_neg h1, if_pos ((takesB_iff (by omega)).2 fun k hk => .inl (h _ (List.getElem_mem _)))]
theorem takeC_len {t row : List Int} : (takeC t row).1.length ≤ row.length := by
  unfold takeC
  split
  · simp
  · split
    · rw [List.length_take]; omega
    · simp
theorem after_ref {m : api_Module} {x : api_Method} {i : api_Instr} {s : List Int} (hw : wf_api_Instr i) (hm : may i = true) (ht : there (envOf m x) i = true) (hM : ∀ y ∈ m.Methods, y.Args.length < 4611686018427387904) (hs : s.length ≤ 1000) (hl : x.Args.length + x.Locals.length ≤ 1000) :
    capstanref10_After.f m x i s = some (afterC (envOf m x) i s) := by
  obtain ⟨o0, o1⟩ := op_lt hw hm
  obtain ⟨sh, hsh, hc⟩ := of_some o0 o1
  have hg := gives_len (E := envOf m x) (row := s) hw hm
  have htk := takes_len (E := envOf m x) (row := s) hw hm hM
  have ha := after_take (envOf m x) i s
  generalize hshape : shapeC (envOf m x) i s = shp at ha hg htk
  obtain ⟨t, v⟩ := shp
  dsimp only at ha hg htk
  rw [ha]
  have htake := takes_ref (row := s) (t := t) (by omega) htk
  have htl := takeC_len (t := t) (row := s)
  unfold shapeC at hshape
  rw [hsh] at hshape
  dsimp only at hshape
  unfold capstanref10_After.f
  have one : ∀ k : Int, t = [k] → v = [] → ∀ r, capstanref10_After.F m x i s .start = r → r = ((capstanref10_taken.f s k).bind fun t27 => some (.inr (t27.1, t27.2))) → runF (capstanref10_After.F m x i s) .start = some (if (takeC t s).2 ≠ 0 then ([], (takeC t s).2) else ((takeC t s).1 ++ v, 0)) := by
    rintro k rfl rfl r h1 h2
    refine runF_end ?_
    rw [h1, h2, taken_takeC (by omega)]
    simp only [Option.bind_some]
    congr 2
    by_cases he : (takeC [k] s).2 ≠ 0
    · rw [if_pos he]
      have : (takeC [k] s).1 = [] := by
        unfold takeC at he ⊢
        split
        · rfl
        · rename_i q1
          rw [if_neg q1] at he
          split
          · rename_i q2
            rw [if_pos q2] at he; exact absurd rfl he
          · rfl
      rw [this]
    · rw [if_neg he, List.append_nil]
      have := Classical.not_not.1 he
      rw [this]
  rcases hc with ⟨h2, hc1, hc2, hc3⟩ | ⟨rfl, ho⟩
  · rw [if_pos h2] at hshape
    obtain ⟨rfl, rfl⟩ := Prod.mk.inj hshape
    have hno : i.Op ≠ 1 ∧ i.Op ≠ 2 ∧ i.Op ≠ 3 ∧ i.Op ≠ 4 ∧ i.Op ≠ 5 ∧ i.Op ≠ 7 ∧ i.Op ≠ 8 ∧ i.Op ≠ 30 := by
      refine ⟨?_, ?_, ?_, ?_, ?_, ?_, ?_, ?_⟩ <;> intro e <;> rw [e] at hsh <;> have hz := congrArg (fun o => o.map (·.2)) hsh <;> revert hz <;> simp only [Option.map_some, h2] <;> decide +kernel
    obtain ⟨n1, n2, n3, n4, n5, n7, n8, n30⟩ := hno
    have hstart : capstanref10_After.F m x i s .start = if (takeC sh.1.Takes s).2 ≠ 0 then some (.inr ([], (takeC sh.1.Takes s).2)) else some (.inl (.l1 (sh.1.Takes, sh.1.Gives, true) (takeC sh.1.Takes s).1 0)) := by
      dsimp only [capstanref10_After.F]
      rw [if_neg n1, if_neg n2, if_neg n3, if_neg n4, if_neg n5, if_neg n7, if_neg n8, if_neg n30, if_neg hc3, of_ref o0 o1 hsh h2]
      simp only [Option.bind_some]
      rw [htake]
      simp only [Option.bind_some]
    by_cases he : (takeC sh.1.Takes s).2 ≠ 0
    · rw [if_pos he] at hstart ⊢
      exact runF_end hstart
    · rw [if_neg he] at hstart ⊢
      rw [runF_step hstart]
      generalize (takeC sh.1.Takes s).1 = left at htl
      have e0 : left = left ++ sh.1.Gives.take 0 := by simp
      have key := runF_up (F := capstanref10_After.F m x i s) (n := sh.1.Gives.length) (fun k => .l1 (sh.1.Takes, sh.1.Gives, true) (left ++ sh.1.Gives.take k) (k : Int)) (fun k hk => by
        dsimp only [capstanref10_After.F]
        rw [if_pos (by omega), elt_lt hk]
        simp only [Option.bind_some]
        rw [with_eq (by rw [List.length_append, List.length_take]; omega)]
        simp only [Option.bind_some]
        rw [wrap_succ k (by omega), take_succ _ k hk, List.append_assoc])
      rw [List.take_zero, List.append_nil, List.take_length] at key
      refine Eq.trans key (runF_end ?_)
      dsimp only [capstanref10_After.F]
      rw [if_neg (by omega)]
  · simp only [Bool.false_eq_true, if_false] at hshape
    by_cases h1 : i.Op = 1
    · rw [if_pos (.inl h1)] at hshape
      obtain ⟨rfl, rfl⟩ := Prod.mk.inj hshape
      have a0 := may_named hw hm (by omega)
      have a1 : i.A < m.Pool.length := by have := ht; simp only [there, h1, envOf, if_true] at this; exact of_decide_eq_true this
      rw [takeC_nil]
      refine runF_end ?_
      dsimp only [capstanref10_After.F]
      rw [if_pos h1, elt_At api_Value.zero a0 a1]
      simp only [Option.bind_some]
      rw [with_eq (by omega)]
      simp [named, h1, envOf]
    · by_cases h2 : i.Op = 2
      · rw [if_pos (.inr (.inl h2))] at hshape
        obtain ⟨rfl, rfl⟩ := Prod.mk.inj hshape
        have a0 := may_named hw hm (by omega)
        have a1 : i.A < (x.Args ++ x.Locals).length := by have := ht; simp [there, h2, envOf] at this; simpa using this
        rw [takeC_nil]
        refine runF_end ?_
        dsimp only [capstanref10_After.F]
        unfold capstanref10_local.f
        rw [if_neg h1, if_pos h2, rkinds hl]
        simp only [Option.bind_some]
        rw [elt_At 0 a0 a1]
        simp only [Option.bind_some]
        rw [with_eq (by omega)]
        simp [named, h2, envOf]
      · by_cases h4 : i.Op = 4
        · rw [if_pos (.inr (.inr h4))] at hshape
          obtain ⟨rfl, rfl⟩ := Prod.mk.inj hshape
          have a0 := may_named hw hm (by omega)
          have a1 : i.A < m.Globals.length := by have := ht; simp [there, h4, envOf] at this; exact of_decide_eq_true this
          rw [takeC_nil]
          refine runF_end ?_
          dsimp only [capstanref10_After.F]
          rw [if_neg h1, if_neg h2, if_neg (by omega), if_pos h4, elt_At api_Value.zero a0 a1]
          simp only [Option.bind_some]
          rw [with_eq (by omega)]
          simp [named, h4, envOf]
        · rw [if_neg (by omega)] at hshape
          by_cases h3 : i.Op = 3
          · rw [if_pos (.inl h3)] at hshape
            obtain ⟨rfl, rfl⟩ := Prod.mk.inj hshape
            have a0 := may_named hw hm (by omega)
            have a1 : i.A < (x.Args ++ x.Locals).length := by have := ht; simp [there, h3, envOf] at this; simpa using this
            refine one (named (envOf m x) i) rfl rfl _ rfl ?_
            dsimp only [capstanref10_After.F]
            unfold capstanref10_local.f
            rw [if_neg h1, if_neg h2, if_pos h3, rkinds hl]
            simp only [Option.bind_some]
            rw [elt_At 0 a0 a1]
            simp only [Option.bind_some]
            have e : named (envOf m x) i = At (x.Args ++ x.Locals) 0 i.A := by simp [named, h3, envOf]
            rw [e]
          · by_cases h5 : i.Op = 5
            · rw [if_pos (.inr h5)] at hshape
              obtain ⟨rfl, rfl⟩ := Prod.mk.inj hshape
              have a0 := may_named hw hm (by omega)
              have a1 : i.A < m.Globals.length := by have := ht; simp [there, h5, envOf] at this; exact of_decide_eq_true this
              refine one (named (envOf m x) i) rfl rfl _ rfl ?_
              dsimp only [capstanref10_After.F]
              rw [if_neg h1, if_neg h2, if_neg h3, if_neg h4, if_pos h5, elt_At api_Value.zero a0 a1]
              simp only [Option.bind_some]
              have e : named (envOf m x) i = (At m.Globals api_Value.zero i.A).Kind := by simp [named, h5, envOf]
              rw [e]
            · rw [if_neg (by omega)] at hshape
              by_cases h30 : i.Op = 30
              · rw [if_pos h30] at hshape
                obtain ⟨rfl, rfl⟩ := Prod.mk.inj hshape
                have a0 := may_named hw hm (by omega)
                have a1 : i.A < m.Methods.length := by have := ht; simp [there, h30, envOf] at this; exact of_decide_eq_true this
                have htake : capstanref10_takes.f s (At m.Methods api_Method.zero i.A).Args = some (takeC (At m.Methods api_Method.zero i.A).Args s) := htake
                show _ = some (if (takeC (At m.Methods api_Method.zero i.A).Args s).2 ≠ 0 then ([], (takeC (At m.Methods api_Method.zero i.A).Args s).2) else ((takeC (At m.Methods api_Method.zero i.A).Args s).1 ++ [(At m.Methods api_Method.zero i.A).Result], 0))
                refine runF_end ?_
                dsimp only [capstanref10_After.F]
                rw [if_neg h1, if_neg h2, if_neg h3, if_neg h4, if_neg h5, if_neg (by omega), if_neg (by omega), if_pos h30, elt_At api_Method.zero a0 a1]
                simp only [Option.bind_some]
                rw [htake]
                simp only [Option.bind_some]
                have htl : (takeC (At m.Methods api_Method.zero i.A).Args s).1.length ≤ s.length := htl
                by_cases he : (takeC (At m.Methods api_Method.zero i.A).Args s).2 ≠ 0
                · rw [if_pos he, if_pos he]
                · rw [if_neg he, if_neg he, with_eq (by omega)]; rfl
              · rw [if_neg h30] at hshape
                by_cases h31 : i.Op = 31
                · rw [if_pos h31] at hshape
                  obtain ⟨rfl, rfl⟩ := Prod.mk.inj hshape
                  refine one x.Result rfl rfl _ rfl ?_
                  dsimp only [capstanref10_After.F]
                  rw [if_neg h1, if_neg h2, if_neg h3, if_neg h4, if_neg h5, if_neg (by omega), if_neg (by omega), if_neg (by omega), if_pos h31]
                · rw [if_neg h31] at hshape
                  by_cases h8 : i.Op = 8
                  · rw [if_pos h8] at hshape
                    obtain ⟨rfl, rfl⟩ := Prod.mk.inj hshape
                    rw [takeC_zeros (by simp)]
                    refine runF_end ?_
                    dsimp only [capstanref10_After.F]
                    rw [if_neg h1, if_neg h2, if_neg h3, if_neg h4, if_neg h5, if_neg (by omega), if_pos h8]
                    by_cases hlen : s.length < 2
                    · rw [if_pos (by omega), if_pos (show s.length < ([0, 0] : List Int).length from hlen)]; rfl
                    · rw [if_neg (by omega), if_neg (show ¬ s.length < ([0, 0] : List Int).length from hlen)]
                      have w1 : IntKind.i64.wrap ((s.length : Int) - 1) = ((s.length - 1 : Nat) : Int) := by rw [wrap_id (by omega) (by omega)]; omega
                      have w2 : IntKind.i64.wrap ((s.length : Int) - 2) = ((s.length - 2 : Nat) : Int) := by rw [wrap_id (by omega) (by omega)]; omega
                      have hrev : two s = [s[s.length - 2]'(by omega), s[s.length - 1]'(by omega)] := by
                        unfold two
                        rw [List.drop_eq_getElem_cons (by omega), List.drop_eq_getElem_cons (by omega), List.drop_eq_nil_of_le (by omega)]
                        have : s.length - 2 + 1 = s.length - 1 := by omega
                        simp only [this]
                      rw [w1, w2, elt_lt (by omega), elt_lt (by omega)]
                      simp only [Option.bind_some]
                      rw [if_pos (by omega), show ((s.length - 2 : Nat) : Int).toNat = s.length - 2 from by omega, with_eq (by rw [List.length_take]; omega)]
                      simp only [Option.bind_some]
                      rw [with_eq (by rw [List.length_append, List.length_take]; simp; omega)]
                      simp only [Option.bind_some]
                      rw [hrev]
                      simp
                  · rw [if_neg h8] at hshape
                    have h7 : i.Op = 7 := by omega
                    obtain ⟨rfl, rfl⟩ := Prod.mk.inj hshape
                    rw [takeC_zeros (by simp)]
                    refine runF_end ?_
                    dsimp only [capstanref10_After.F]
                    rw [if_neg h1, if_neg h2, if_neg h3, if_neg h4, if_neg h5, if_pos h7]
                    by_cases hlen : s.length < 1
                    · rw [if_pos (by omega), if_pos (show s.length < ([0] : List Int).length from hlen)]; rfl
                    · rw [if_neg (by omega), if_neg (show ¬ s.length < ([0] : List Int).length from hlen)]
                      have hne : s ≠ [] := by rintro rfl; simp at hlen
                      have w1 : IntKind.i64.wrap ((s.length : Int) - 1) = ((s.length - 1 : Nat) : Int) := by rw [wrap_id (by omega) (by omega)]; omega
                      have hlast : s.getLastD 0 = s[s.length - 1]'(by omega) := by
                        rw [List.getLastD_eq_getLast?, List.getLast?_eq_getElem?, List.getElem?_eq_getElem (by omega)]; rfl
                      have hs2 : ∀ e, s[s.length - 1]'(by omega) = e → s = s.take (s.length - 1) ++ [e] := by
                        rintro e rfl
                        have := take_succ s (s.length - 1) (by omega)
                        rw [show s.length - 1 + 1 = s.length from by omega, List.take_length] at this
                        exact this
                      rw [w1, elt_lt (by omega)]
                      simp only [Option.bind_some]
                      rw [with_eq (by omega)]
                      simp only [Option.bind_some]
                      rw [if_neg hne, hlast]
                      have h9 := hs2 _ rfl
                      generalize s[s.length - 1]'(by omega) = e at h9 ⊢
                      have : s ++ [e] = s.take (s.length - ([0] : List Int).length) ++ [e, e] := by
                        conv => lhs; rw [h9]
                        simp
                      rw [this]; rfl
end TypesPure
namespace TypesPure
open FlowPure
def conv (r : types_Row) : capstanref10_Row := ⟨r.Reached, r.Kinds⟩
def cv (rows : List types_Row) (n : Nat) : List capstanref10_Row := (rows.take n).map conv
theorem cv_len {rows : List types_Row} {n : Nat} (h : n ≤ rows.length) : (cv rows n).length = n := by unfold cv; rw [List.length_map, List.length_take]; omega
theorem cv_elt {rows : List types_Row} {n : Nat} {w : Int} (h0 : 0 ≤ w) (h1 : w < n) (h : n ≤ rows.length) : elt (cv rows n) w = some (conv (At rows R0 w)) := by
  have hr : w.toNat < rows.length := by omega
  have e : elt (cv rows n) ((w.toNat : Nat) : Int) = (cv rows n)[w.toNat]? := elt_nat _ _
  rw [show ((w.toNat : Nat) : Int) = w from by omega] at e
  rw [e]
  unfold cv At
  rw [List.getElem?_map, List.getElem?_take_of_lt (by omega), List.getElem?_eq_getElem hr]; rfl
theorem cv_set (rows : List types_Row) (n : Nat) (w : Nat) (v : types_Row) : (cv rows n).set w (conv v) = cv (rows.set w v) n := by
  unfold cv
  rw [List.take_set, List.map_set]
theorem ref_put {m : api_Module} {k : Int} {x : api_Method} {a : Nat} (W : Well (envOf m x) x.Code) (ha : a < x.Code.length) {t : (List Int) × Int} (htl : t.1.length ≤ 1000) : ∀ (ws : List Int) (j : Nat) (rs : List types_Row), (FlowPure.ways x.Code a).drop j = ws → rs.length = 200 → (∀ r ∈ rs, r.Kinds.length ≤ 1000) →
    runF (capstanref10_Rows.F m k) (.l3 x (a : Int) t (FlowPure.ways x.Code a, 0) (cv rs x.Code.length) (j : Int)) = if (put t.1 rs ws).1 ≠ 0 then some ([], (put t.1 rs ws).1) else runF (capstanref10_Rows.F m k) (.l2 x (cv (put t.1 rs ws).2 x.Code.length) ((a + 1 : Nat) : Int)) := by
  have hn : x.Code.length ≤ 200 := W.known.2.1
  have hf := ways_facts W.known W.fine ha
  intro ws
  induction ws with
  | nil =>
    intro j rs hd hrs _
    have hj : (FlowPure.ways x.Code a).length ≤ j := by simpa using hd
    rw [show put t.1 rs [] = (0, rs) from rfl, if_neg (by simp)]
    refine runF_step ?_
    dsimp only [capstanref10_Rows.F]
    rw [if_neg (by omega)]
    unfold capstanref10_Rows.j1
    rw [wrap_succ a (by omega)]
  | cons w ws ih =>
    intro j rs hd hrs hsz
    have hj : j < (FlowPure.ways x.Code a).length := by
      rcases Nat.lt_or_ge j (FlowPure.ways x.Code a).length with z | z
      · exact z
      · rw [List.drop_eq_nil_of_le z] at hd; cases hd
    have hw' : (FlowPure.ways x.Code a)[j] = w := by
      have := congrArg (fun z => z[0]?) hd
      simp [List.getElem?_eq_getElem hj] at this
      exact this
    obtain ⟨w0, w1, -⟩ := hf.2.2 j hj
    rw [hw'] at w0 w1
    have hle := hf.2.1
    have hlen : x.Code.length ≤ rs.length := by rw [hrs]; exact hn
    have hel : elt (cv rs x.Code.length) w = some (conv (At rs R0 w)) := cv_elt w0 w1 hlen
    have hks : capstanref07_SameKinds.f (At rs R0 w).Kinds t.1 = some (decide ((At rs R0 w).Kinds = t.1)) := kinds_same (by
      have : (At rs R0 w).Kinds.length ≤ 1000 := At_mem (p := fun r : types_Row => r.Kinds.length ≤ 1000) (by simp [R0, types_Row.zero]) hsz
      omega)
    have step : ∀ b : Bool, b = decide ((At rs R0 w).Reached = true ∧ (At rs R0 w).Kinds ≠ t.1) → capstanref10_Rows.F m k (.l3 x (a : Int) t (FlowPure.ways x.Code a, 0) (cv rs x.Code.length) (j : Int)) = if b = true then some (.inr ([], 100)) else some (.inl (.l3 x (a : Int) t (FlowPure.ways x.Code a, 0) (cv (rs.set w.toNat ⟨true, t.1⟩) x.Code.length) ((j + 1 : Nat) : Int))) := by
      rintro b rfl
      dsimp only [capstanref10_Rows.F]
      rw [if_pos (by omega), elt_lt hj, hw']
      simp only [Option.bind_some]
      rw [hel]
      simp only [Option.bind_some]
      have tail : (if (([] : List Int).length + t.1.length) * 1 ≤ 140737488355328 then ((elt ((cv rs x.Code.length).set w.toNat ({ conv (At rs R0 w) with Reached := true } : capstanref10_Row)) w).bind fun x400 => some (.inl (.l3 x (a : Int) t (FlowPure.ways x.Code a, 0) (((cv rs x.Code.length).set w.toNat ({ conv (At rs R0 w) with Reached := true } : capstanref10_Row)).set w.toNat ({ x400 with Kinds := ([] : List Int) ++ t.1 } : capstanref10_Row)) (IntKind.i64.wrap ((j : Int) + 1))))) else none) = (some (.inl (.l3 x (a : Int) t (FlowPure.ways x.Code a, 0) (cv (rs.set w.toNat ⟨true, t.1⟩) x.Code.length) ((j + 1 : Nat) : Int))) : Option (capstanref10_Rows.S ⊕ ((List capstanref10_Row) × Int))) := by
        have hwl : w.toNat < ((cv rs x.Code.length).set w.toNat ({ conv (At rs R0 w) with Reached := true } : capstanref10_Row)).length := by rw [List.length_set, cv_len hlen]; omega
        rw [if_pos (by simp; omega), elt_int w0 hwl, List.getElem_set_self]
        simp only [Option.bind_some]
        rw [List.set_set, wrap_succ j (by omega), ← cv_set]
        rfl
      by_cases q1 : (At rs R0 w).Reached = true
      · rw [if_pos (show (conv (At rs R0 w)).Reached = true from q1)]
        show ((capstanref07_SameKinds.f (At rs R0 w).Kinds t.1).bind fun t388 => some (!t388)).bind _ = _
        rw [hks]
        simp only [Option.bind_some]
        by_cases q2 : (At rs R0 w).Kinds = t.1
        · rw [if_neg (by simp [q2]), tail, if_neg (by simp [q2])]
        · rw [if_pos (by simp [q2]), if_pos (by simp [q1, q2])]
      · rw [if_neg (show ¬ (conv (At rs R0 w)).Reached = true from q1)]
        simp only [Option.bind_some]
        rw [if_neg (by simp), tail, if_neg (by simp [q1])]
    unfold put
    by_cases hc : (At rs R0 w).Reached = true ∧ (At rs R0 w).Kinds ≠ t.1
    · rw [if_pos hc, if_pos (show (100 : Int) ≠ 0 by omega)]
      refine runF_end ?_
      rw [step true (by rw [eq_comm, decide_eq_true_eq]; exact hc), if_pos rfl]
    · rw [if_neg hc]
      rw [runF_step (t := .l3 x (a : Int) t (FlowPure.ways x.Code a, 0) (cv (rs.set w.toNat ⟨true, t.1⟩) x.Code.length) ((j + 1 : Nat) : Int)) (by rw [step false (by rw [eq_comm, decide_eq_false_iff_not]; exact hc), if_neg (by simp)])]
      refine ih (j + 1) _ ?_ (by rw [List.length_set]; exact hrs) fun r hr => ?_
      · rw [← List.drop_drop, hd]; rfl
      · rcases List.mem_or_eq_of_mem_set hr with hr | rfl
        · exact hsz r hr
        · exact htl
theorem ref_place {m : api_Module} {k : Int} {x : api_Method} {a : Nat} (W : Well (envOf m x) x.Code) (ha : a < x.Code.length) (hl : x.Args.length + x.Locals.length ≤ 1000) {rows : List types_Row} (h : Sz a rows) :
    runF (capstanref10_Rows.F m k) (.l2 x (cv rows x.Code.length) (a : Int)) = if (placeC (envOf m x) x.Code rows a).1 ≠ 0 then some ([], (placeC (envOf m x) x.Code rows a).1) else runF (capstanref10_Rows.F m k) (.l2 x (cv (placeC (envOf m x) x.Code rows a).2 x.Code.length) ((a + 1 : Nat) : Int)) := by
  have hn : x.Code.length ≤ 200 := W.known.2.1
  have hm := W.known.2.2 _ (List.getElem_mem ha)
  have hw := W.wf _ (List.getElem_mem ha)
  have ht := W.th _ (List.getElem_mem ha)
  have hlen : x.Code.length ≤ rows.length := by rw [h.1]; exact hn
  have ha2 : a < rows.length := by omega
  have hr : rows[a].Kinds.length ≤ 2 * a := h.2 _ (List.getElem_mem ha2)
  have hel : elt (cv rows x.Code.length) (a : Int) = some (conv rows[a]) := by
    rw [cv_elt (by omega) (by omega) hlen, At_nat ha2]
  have hwy := (ref_ways (by omega) W.wf).2.2.2 a W.known W.fine ha
  have hal := after_len (E := envOf m x) (row := rows[a].Kinds) hw hm
  unfold placeC
  rw [At_nat ha2, At_nat ha]
  by_cases hre : rows[a].Reached = true
  · rw [if_pos hre]
    have haf := after_ref (m := m) (x := x) (s := rows[a].Kinds) hw hm ht W.M (by omega) hl
    have hstart : capstanref10_Rows.F m k (.l2 x (cv rows x.Code.length) (a : Int)) = if (afterC (envOf m x) x.Code[a] rows[a].Kinds).2 ≠ 0 then some (.inr ([], (afterC (envOf m x) x.Code[a] rows[a].Kinds).2)) else some (.inl (.l3 x (a : Int) (afterC (envOf m x) x.Code[a] rows[a].Kinds) (FlowPure.ways x.Code a, 0) (cv rows x.Code.length) ((0 : Nat) : Int))) := by
      dsimp only [capstanref10_Rows.F]
      rw [if_pos (by rw [cv_len hlen]; omega), hel]
      simp only [Option.bind_some]
      rw [if_neg (by simp [conv, hre]), elt_lt ha]
      simp only [Option.bind_some]
      have haf : capstanref10_After.f m x x.Code[a] (conv rows[a]).Kinds = some (afterC (envOf m x) x.Code[a] rows[a].Kinds) := haf
      rw [haf]
      simp only [Option.bind_some]
      rw [hwy]; rfl
    by_cases he : (afterC (envOf m x) x.Code[a] rows[a].Kinds).2 ≠ 0
    · rw [if_pos he] at hstart ⊢
      rw [if_pos he]
      exact runF_end hstart
    · rw [if_neg he] at hstart ⊢
      rw [runF_step hstart]
      exact ref_put W ha (by omega) (FlowPure.ways x.Code a) 0 rows rfl h.1 fun r hr => by have := h.2 r hr; omega
  · rw [if_neg hre, if_neg (by simp)]
    refine runF_step ?_
    dsimp only [capstanref10_Rows.F]
    rw [if_pos (by rw [cv_len hlen]; omega), hel]
    simp only [Option.bind_some]
    rw [if_pos (by simpa [conv] using hre)]
    unfold capstanref10_Rows.j1
    rw [wrap_succ a (by omega)]
theorem ref_there {m : api_Module} {k : Int} {x : api_Method} (hn : x.Code.length ≤ 200) (hl : x.Args.length + x.Locals.length ≤ 1000) : ((∀ i ∈ x.Code, there (envOf m x) i = true) → runF (capstanref10_Rows.F m k) (.l1 x ((0 : Nat) : Int)) = runF (capstanref10_Rows.F m k) (.l1 x (x.Code.length : Int))) ∧ ((∃ i ∈ x.Code, there (envOf m x) i = false) → runF (capstanref10_Rows.F m k) (.l1 x ((0 : Nat) : Int)) = some ([], 100)) := by
  have step : ∀ j (hj : j < x.Code.length), capstanref10_Rows.F m k (.l1 x (j : Int)) = if there (envOf m x) x.Code[j] = true then some (.inl (.l1 x ((j + 1 : Nat) : Int))) else some (.inr ([], 100)) := by
    intro j hj
    dsimp only [capstanref10_Rows.F]
    rw [if_pos (by omega), elt_lt hj]
    simp only [Option.bind_some]
    rw [there_ref _ hl]
    simp only [Option.bind_some]
    rw [wrap_succ j (by omega)]
    cases there (envOf m x) x.Code[j] <;> rfl
  obtain ⟨a1, a2⟩ := runF_chk (F := capstanref10_Rows.F m k) (n := x.Code.length) (b := ([], 100)) (fun j => .l1 x (j : Int)) (fun j => ∀ hj : j < x.Code.length, there (envOf m x) x.Code[j] = true) (fun j hj _ hp => runF_step (by rw [step j hj, if_pos (hp hj)])) (fun j hj _ hp => runF_end (by rw [step j hj, if_neg (fun h => hp fun _ => h)]))
  refine ⟨fun h => a1 fun j hj _ => h _ (List.getElem_mem hj), fun ⟨i, hi, ht⟩ => a2 fun h => ?_⟩
  obtain ⟨j, hj, rfl⟩ := List.mem_iff_getElem.1 hi
  rw [h j hj hj] at ht; cases ht
theorem ref_rows {m : api_Module} {k : Int} {x : api_Method} (h0 : 0 ≤ k) (h1 : k < m.Methods.length) (hx : elt m.Methods k = some x) (hlen : x.Code.length < 4611686018427387904) (hw : ∀ i ∈ x.Code, wf_api_Instr i) (hl : x.Args.length + x.Locals.length ≤ 1000) :
    (¬ Known x.Code → capstanref10_Rows.f m k = some ([], 40)) ∧ (Known x.Code → ¬ Fine x.Code → capstanref10_Rows.f m k = some ([], 90)) ∧ (Known x.Code → Fine x.Code → (∃ i ∈ x.Code, there (envOf m x) i = false) → capstanref10_Rows.f m k = some ([], 100)) ∧
    (Well (envOf m x) x.Code → capstanref10_Rows.f m k = some ((rowsC (envOf m x) x.Code).1.map conv, (rowsC (envOf m x) x.Code).2)) := by
  obtain ⟨a1, a2, a3⟩ := ref_loops hlen hw
  have hstart : ∀ z, capstanref09_Loops.f x.Code = some z → capstanref10_Rows.F m k .start = if z.2 ≠ 0 then some (.inr ([], z.2)) else some (.inl (.l1 x ((0 : Nat) : Int))) := by
    intro z hz
    dsimp only [capstanref10_Rows.F]
    rw [if_neg (by simp; omega), hx]
    simp only [Option.bind_some]
    rw [hz]; rfl
  unfold capstanref10_Rows.f
  refine ⟨fun h => runF_end ?_, fun h hf => runF_end ?_, fun h hf ht => ?_, fun W => ?_⟩
  · rw [hstart _ (a1 h), if_pos (by simp)]
  · rw [hstart _ (a3 h hf), if_pos (by simp)]
  · rw [runF_step (t := .l1 x ((0 : Nat) : Int)) (by rw [hstart _ (a2 h hf), if_neg (by simp)])]
    exact (ref_there h.2.1 hl).2 ht
  · have hn : x.Code.length ≤ 200 := W.known.2.1
    have hp : 1 ≤ x.Code.length := W.known.1
    rw [runF_step (t := .l1 x ((0 : Nat) : Int)) (by rw [hstart _ (a2 W.known W.fine), if_neg (by simp)]), (ref_there hn hl).1 W.th]
    have hz0 : (List.replicate x.Code.length capstanref10_Row.zero).set 0 ({ capstanref10_Row.zero with Reached := true } : capstanref10_Row) = cv rows0 x.Code.length := by
      unfold rows0
      rw [← cv_set]
      congr 1
      unfold cv
      rw [List.take_replicate, List.map_replicate, show min x.Code.length 200 = x.Code.length from by omega]; rfl
    rw [runF_step (t := .l2 x (cv rows0 x.Code.length) ((0 : Nat) : Int)) (by
      dsimp only [capstanref10_Rows.F]
      rw [if_neg (by omega), if_pos (by omega), show ((x.Code.length : Int)).toNat = x.Code.length from by omega, show elt (List.replicate x.Code.length capstanref10_Row.zero) 0 = some capstanref10_Row.zero from by
        have := elt_lt (xs := List.replicate x.Code.length capstanref10_Row.zero) (k := 0) (by rw [List.length_replicate]; omega)
        rw [List.getElem_replicate] at this
        exact this]
      simp only [Option.bind_some]
      rw [show ((0 : Int)).toNat = 0 from rfl, hz0]; rfl)]
    have key : ∀ j, j ≤ x.Code.length → runF (capstanref10_Rows.F m k) (.l2 x (cv rows0 x.Code.length) ((0 : Nat) : Int)) = if (rowsAt (envOf m x) x.Code j).1 ≠ 0 then some ([], (rowsAt (envOf m x) x.Code j).1) else runF (capstanref10_Rows.F m k) (.l2 x (cv (rowsAt (envOf m x) x.Code j).2 x.Code.length) (j : Int)) := by
      intro j
      induction j with
      | zero => intro _; rfl
      | succ j ih =>
        intro hj
        rw [ih (by omega)]
        have hz := rowsAt_sz W j (by omega)
        by_cases he : (rowsAt (envOf m x) x.Code j).1 ≠ 0
        · have e1 : rowsAt (envOf m x) x.Code (j + 1) = rowsAt (envOf m x) x.Code j := by rw [rowsAt, if_pos he]
          rw [e1, if_pos he, if_pos he]
        · have e1 : rowsAt (envOf m x) x.Code (j + 1) = placeC (envOf m x) x.Code (rowsAt (envOf m x) x.Code j).2 j := by rw [rowsAt, if_neg he]
          rw [e1, if_neg he]
          exact ref_place W (by omega) hl hz
    rw [key _ (Nat.le_refl _)]
    unfold rowsC
    by_cases he : (rowsAt (envOf m x) x.Code x.Code.length).1 ≠ 0
    · rw [if_pos he, if_pos he]; rfl
    · rw [if_neg he, if_neg he]
      have hz := rowsAt_sz W _ (Nat.le_refl _)
      refine runF_end ?_
      dsimp only [capstanref10_Rows.F]
      rw [if_neg (by rw [cv_len (by rw [hz.1]; exact hn)]; omega)]; rfl
theorem ref_height {rows : List types_Row} (h : rows.length < 4611686018427387904) : capstanref10_Height.f (rows.map conv) = some (H rows rows.length) := by
  unfold capstanref10_Height.f
  rw [runF_step (t := .l1 (H rows 0) ((0 : Nat) : Int)) rfl]
  refine (runF_up (F := capstanref10_Height.F (rows.map conv)) (n := rows.length) (fun k => .l1 (H rows k) (k : Int)) (fun k hk => ?_)).trans (runF_end ?_)
  · dsimp only [capstanref10_Height.F]
    have hl : k < (rows.map conv).length := by rw [List.length_map]; exact hk
    rw [if_pos (by rw [List.length_map]; omega), elt_lt hl, List.getElem_map]
    simp only [Option.bind_some]
    unfold capstanref10_Height.j1
    rw [wrap_succ k (by omega)]
    rw [show H rows (k + 1) = if ((g rows k).Kinds.length : Int) > H rows k then ((g rows k).Kinds.length : Int) else H rows k from rfl, g_lt hk]
    show (if (rows[k].Kinds.length : Int) > H rows k then (some (.inl (.l1 (rows[k].Kinds.length : Int) ((k + 1 : Nat) : Int))) : Option (capstanref10_Height.S ⊕ Int)) else some (.inl (.l1 (H rows k) ((k + 1 : Nat) : Int)))) = _
    split <;> rfl
  · dsimp only [capstanref10_Height.F]
    rw [if_neg (by rw [List.length_map]; omega)]
end TypesPure
namespace FlowPure
def tm (l : List api_Instr) (R : List (Nat × Nat)) (a : Nat) : Int := R.foldl (fun n x => if x.1 < a ∧ a ≤ x.2 then IntKind.i64.wrap (n * turns l x.1) else n) 1
theorem tm_snoc (l : List api_Instr) (R : List (Nat × Nat)) (x : Nat × Nat) (a : Nat) : tm l (R ++ [x]) a = if x.1 < a ∧ a ≤ x.2 then IntKind.i64.wrap (tm l R a * turns l x.1) else tm l R a := by
  unfold tm; rw [List.foldl_append]; rfl
def tms (l : List api_Instr) : List Int := (List.range l.length).map fun a => tm l (RL (KK l) l.length) a
theorem map_range_set {g : Nat → Int} {n m : Nat} {v : Int} : ((List.range n).map g).set m v = (List.range n).map fun a => if a = m then v else g a := by
  apply List.ext_getElem?
  intro i
  rw [List.getElem?_set]
  by_cases h : m = i
  · subst h
    rw [if_pos rfl]
    by_cases hm : m < n
    · rw [if_pos (by simpa using hm)]; simp [hm]
    · rw [if_neg (by simpa using hm)]; simp [hm]
  · rw [if_neg h]
    by_cases hm : i < n
    · simp [hm, Ne.symm h]
    · simp [hm]
theorem repeat_one {n : Nat} (h1 : 1 ≤ n) (h2 : n ≤ 200) : slices_Repeat_int_int.f [1] n = some (List.replicate n 1) := by
  unfold slices_Repeat_int_int.f
  have wu : IntKind.u64.wrap (n : Int) = n := by
    simp only [IntKind.wrap, IntKind.bits, IntKind.signed]; simp; omega
  have w1 : IntKind.u64.wrap ((([1] : List Int).length : Nat) : Int) = 1 := by
    simp [IntKind.wrap, IntKind.bits, IntKind.signed]
  have hs : slices_Repeat_int_int.F [1] n .start = some (.inl (.l1 (List.replicate 1 1 ++ List.replicate (n - 1) 0) ((1 : Nat) : Int))) := by
    dsimp only [slices_Repeat_int_int.F]
    rw [if_neg (by omega)]
    unfold slices_Repeat_int_int.j1 math_bits_Mul.f
    rw [w1, wu, if_pos (by omega)]
    simp only [Option.bind_some]
    have e1 : (1 * (n : Int) / 18446744073709551616) = 0 := by omega
    have e2 : (1 * (n : Int) % 18446744073709551616) = n := by omega
    rw [e1, e2, if_neg (by rw [Bool.or_eq_true, decide_eq_true_eq, decide_eq_true_eq]; omega)]
    unfold slices_Repeat_int_int.j2
    dsimp only
    rw [wrap_id (by omega) (by omega), if_pos (by omega)]
    have e3 : ((n : Int)).toNat = n := rfl
    rw [e3]
    obtain ⟨m, rfl⟩ : ∃ m, n = m + 1 := ⟨n - 1, by omega⟩
    simp [List.replicate_succ]
  rw [runF_step hs]
  have key : ∀ d x, 1 ≤ x → x + d = n → runF (slices_Repeat_int_int.F [1] n) (.l1 (List.replicate x 1 ++ List.replicate (n - x) 0) (x : Int)) = some (List.replicate n 1) := by
    intro d
    induction d using Nat.strongRecOn with
    | ind d ih =>
      intro x hx hd
      by_cases hz : d = 0
      · subst hz
        obtain rfl : x = n := by omega
        refine runF_end ?_
        dsimp only [slices_Repeat_int_int.F]
        rw [if_neg (by simp)]
        simp
      · have hlen : (List.replicate x (1 : Int) ++ List.replicate (n - x) 0).length = n := by simp; omega
        rw [runF_step (t := .l1 (List.replicate (x + min x (n - x)) 1 ++ List.replicate (n - (x + min x (n - x))) 0) ((x + min x (n - x) : Nat) : Int)) ?_]
        · exact ih (n - (x + min x (n - x))) (by omega) _ (by omega) (by omega)
        · dsimp only [slices_Repeat_int_int.F]
          rw [hlen, if_pos (by omega), if_pos (by omega), if_pos (by omega)]
          have e3 : ((x : Int)).toNat = x := rfl
          rw [e3, wrap_id (by omega) (by omega)]
          have hc : min x (n - x) ≤ x := Nat.min_le_left _ _
          have hc2 : min x (n - x) ≤ n - x := Nat.min_le_right _ _
          generalize min x (n - x) = c at hc hc2 ⊢
          have t1 : (List.replicate x (1 : Int) ++ List.replicate (n - x) 0).take x = List.replicate x 1 := by
            rw [List.take_append_of_le_length (by simp)]; simp
          have t2 : (List.replicate x (1 : Int) ++ List.replicate (n - x) 0).take c = List.replicate c 1 := by
            rw [List.take_append_of_le_length (by simp; omega)]; simp; omega
          have t3 : (List.replicate x (1 : Int) ++ List.replicate (n - x) 0).drop (x + c) = List.replicate (n - (x + c)) 0 := by
            rw [List.drop_append]; simp; omega
          rw [t1, t2, t3, List.replicate_append_replicate]
          rfl
  exact key (n - 1) 1 (by omega) (by omega)
theorem prog_times {l : List api_Instr} (hlen : l.length < 4611686018427387904) (hw : ∀ x ∈ l, wf_api_Instr x) :
    (¬ Known l → flow_Times.f l = some ([], 40)) ∧ (Known l → Fine l → flow_Times.f l = some (tms l, 0)) ∧ (Known l → ¬ Fine l → flow_Times.f l = some ([], 90)) := by
  obtain ⟨a1, a2, a3⟩ := prog_loops hlen hw
  unfold flow_Times.f
  refine ⟨fun h => runF_end ?_, fun h hf => ?_, fun h hf => runF_end ?_⟩
  · dsimp only [flow_Times.F]; rw [a1 h]; rfl
  · obtain ⟨o1, o2⟩ := run_pairs hf.1
    have hR := RL_len o1
    obtain ⟨n1, n2, hm⟩ := h
    rw [runF_step (t := .l1 ((RL (KK l) l.length).map (gF l), 0) (List.replicate l.length 1) ((0 : Nat) : Int)) (by
      dsimp only [flow_Times.F]
      rw [a2 ⟨n1, n2, hm⟩ hf]
      simp only [Option.bind_some]
      rw [if_neg (by simp), repeat_one n1 n2]; rfl)]
    have key := runF_chk (F := flow_Times.F l) (n := (RL (KK l) l.length).length) (b := ([], 0)) (fun q => .l1 ((RL (KK l) l.length).map (gF l), 0) ((List.range l.length).map fun a => tm l ((RL (KK l) l.length).take q) a) (q : Int)) (fun _ => True) (fun q hq _ _ => by
      have hp := (mem_RL _).1 (List.getElem_mem hq)
      obtain ⟨t0, h0, hle, hu⟩ := o1 _ hp.1 hp.2.2.1
      have := hu _ hp
      have e : elt ((RL (KK l) l.length).map (gF l)) (q : Int) = some (gF l (RL (KK l) l.length)[q]) := by rw [elt_lt (by simpa using hq), List.getElem_map]
      generalize hx : (RL (KK l) l.length)[q] = x at hp h0 hle hu this e
      have htl : x.2 < l.length := hp.2.1
      rw [runF_step (t := .l2 ((RL (KK l) l.length).map (gF l), 0) q (gF l x) ((List.range l.length).map fun a => tm l ((RL (KK l) l.length).take q) a) ((x.1 + 1 : Nat) : Int)) (by
        dsimp only [flow_Times.F]
        rw [if_pos (by simp; omega), e]
        simp only [Option.bind_some]
        have : IntKind.i64.wrap ((gF l x).From + 1) = ((x.1 + 1 : Nat) : Int) := wrap_succ x.1 (by omega)
        rw [this])]
      have inner := runF_up (F := flow_Times.F l) (n := x.2 - x.1) (fun j => .l2 ((RL (KK l) l.length).map (gF l), 0) q (gF l x) ((List.range l.length).map fun a => if x.1 < a ∧ a < x.1 + 1 + j then IntKind.i64.wrap (tm l ((RL (KK l) l.length).take q) a * turns l x.1) else tm l ((RL (KK l) l.length).take q) a) ((x.1 + 1 + j : Nat) : Int)) (fun j hj => by
        have e2 : elt ((List.range l.length).map fun a => if x.1 < a ∧ a < x.1 + 1 + j then IntKind.i64.wrap (tm l ((RL (KK l) l.length).take q) a * turns l x.1) else tm l ((RL (KK l) l.length).take q) a) ((x.1 + 1 + j : Nat) : Int) = some (tm l ((RL (KK l) l.length).take q) (x.1 + 1 + j)) := by
          rw [elt_lt (by simp; omega)]
          simp
        dsimp only [flow_Times.F]
        rw [if_pos (by dsimp only [gF]; omega), e2]
        simp only [Option.bind_some]
        have e3 : ((x.1 + 1 + j : Nat) : Int).toNat = x.1 + 1 + j := rfl
        rw [wrap_succ _ (by omega), e3, map_range_set]
        refine congrArg some (congrArg Sum.inl ?_)
        have : ∀ (u v : List Int), u = v → (flow_Times.S.l2 ((RL (KK l) l.length).map (gF l), 0) (q : Int) (gF l x) u ((x.1 + 1 + j + 1 : Nat) : Int)) = .l2 ((RL (KK l) l.length).map (gF l), 0) (q : Int) (gF l x) v ((x.1 + 1 + (j + 1) : Nat) : Int) := by
          rintro u v rfl; rfl
        refine this _ _ (List.map_congr_left fun a ha => ?_)
        by_cases hz : a = x.1 + 1 + j
        · subst hz
          rw [if_pos rfl, if_pos (by omega)]; rfl
        · rw [if_neg hz]
          by_cases hz2 : x.1 < a ∧ a < x.1 + 1 + j
          · rw [if_pos hz2, if_pos (by omega)]
          · rw [if_neg hz2, if_neg (by omega)])
      have i0 : ((List.range l.length).map fun a => tm l ((RL (KK l) l.length).take q) a) = (List.range l.length).map fun a => if x.1 < a ∧ a < x.1 + 1 + 0 then IntKind.i64.wrap (tm l ((RL (KK l) l.length).take q) a * turns l x.1) else tm l ((RL (KK l) l.length).take q) a := by
        refine List.map_congr_left fun a _ => ?_
        rw [if_neg (by omega)]
      rw [i0]
      refine inner.trans (runF_step ?_)
      dsimp only [flow_Times.F]
      rw [if_neg (by dsimp only [gF]; omega), wrap_succ _ (by omega)]
      refine congrArg some (congrArg Sum.inl ?_)
      have : ∀ (u v : List Int), u = v → (flow_Times.S.l1 ((RL (KK l) l.length).map (gF l), 0) u ((q + 1 : Nat) : Int)) = .l1 ((RL (KK l) l.length).map (gF l), 0) v ((q + 1 : Nat) : Int) := by
        rintro u v rfl; rfl
      refine this _ _ (List.map_congr_left fun a ha => ?_)
      rw [take_succ _ _ hq, tm_snoc, hx]
      by_cases hz : x.1 < a ∧ a ≤ x.2
      · rw [if_pos hz, if_pos (by omega)]
      · rw [if_neg hz, if_neg (by omega)]) (fun q _ _ h => absurd trivial h)
    have e0 : List.replicate l.length (1 : Int) = (List.range l.length).map fun a => tm l ((RL (KK l) l.length).take 0) a := by
      apply List.ext_getElem?
      intro i
      by_cases hi : i < l.length
      · simp [hi, tm]
      · simp [hi]
    rw [e0]
    refine (key.1 fun _ _ => trivial).trans (runF_end ?_)
    dsimp only [flow_Times.F]
    rw [if_neg (by simp), List.take_length]; rfl
  · dsimp only [flow_Times.F]; rw [a3 h hf]; rfl
end FlowPure
namespace FlowPure
theorem ref_times {l : List api_Instr} (hlen : l.length < 4611686018427387904) (hw : ∀ x ∈ l, wf_api_Instr x) :
    (¬ Known l → capstanref09_Times.f l = some ([], 40)) ∧ (Known l → Fine l → capstanref09_Times.f l = some (tms l, 0)) ∧ (Known l → ¬ Fine l → capstanref09_Times.f l = some ([], 90)) := by
  obtain ⟨a1, a2, a3⟩ := ref_loops hlen hw
  unfold capstanref09_Times.f
  refine ⟨fun h => runF_end ?_, fun h hf => ?_, fun h hf => runF_end ?_⟩
  · dsimp only [capstanref09_Times.F]; rw [a1 h]; rfl
  · obtain ⟨o1, o2⟩ := run_pairs hf.1
    have hR := RL_len o1
    obtain ⟨n1, n2, hm⟩ := h
    rw [runF_step (t := .l1 ((RL (KK l) l.length).map (gR l), 0) [] ((0 : Nat) : Int)) (by
      dsimp only [capstanref09_Times.F]
      rw [a2 ⟨n1, n2, hm⟩ hf]; rfl)]
    have inner : ∀ (out : List Int) (a : Nat), runF (capstanref09_Times.F l) (.l2 ((RL (KK l) l.length).map (gR l), 0) out a 1 0) = runF (capstanref09_Times.F l) (.l2 ((RL (KK l) l.length).map (gR l), 0) out a (tm l (RL (KK l) l.length) a) (RL (KK l) l.length).length) := by
      intro out a
      have := runF_up (F := capstanref09_Times.F l) (n := (RL (KK l) l.length).length) (fun q => .l2 ((RL (KK l) l.length).map (gR l), 0) out a (tm l ((RL (KK l) l.length).take q) a) q) (fun q hq => by
        have e : elt ((RL (KK l) l.length).map (gR l)) (q : Int) = some (gR l (RL (KK l) l.length)[q]) := by rw [elt_lt (by simpa using hq), List.getElem_map]
        dsimp only [capstanref09_Times.F]
        rw [if_pos (by simp; omega), e]
        simp only [Option.bind_some, wi_f]
        rw [take_succ _ _ hq, tm_snoc]
        generalize (RL (KK l) l.length)[q] = x
        unfold capstanref09_Times.j1
        rw [wrap_succ _ (by omega)]
        by_cases hz : x.1 < a ∧ a ≤ x.2
        · rw [if_pos hz, if_pos (by rw [wiB_iff]; dsimp only [gR]; omega)]; rfl
        · rw [if_neg hz, if_neg (by rw [wiB_iff]; dsimp only [gR]; omega)])
      rw [List.take_length] at this
      exact this
    have key := runF_chk (F := capstanref09_Times.F l) (n := l.length) (b := ([], 0)) (fun k => .l1 ((RL (KK l) l.length).map (gR l), 0) ((List.range k).map fun a => tm l (RL (KK l) l.length) a) (k : Int)) (fun _ => True) (fun k hk _ _ => by
      rw [runF_step (t := .l2 ((RL (KK l) l.length).map (gR l), 0) ((List.range k).map fun a => tm l (RL (KK l) l.length) a) k 1 0) (by
        dsimp only [capstanref09_Times.F]
        rw [if_pos (by omega)]), inner]
      refine runF_step ?_
      dsimp only [capstanref09_Times.F]
      rw [if_neg (by simp), if_pos (by simp; omega), wrap_succ _ (by omega), List.range_succ, List.map_append]
      rfl) (fun q _ _ h => absurd trivial h)
    refine (key.1 fun _ _ => trivial).trans (runF_end ?_)
    dsimp only [capstanref09_Times.F]
    rw [if_neg (by omega)]; rfl
  · dsimp only [capstanref09_Times.F]; rw [a3 h hf]; rfl
theorem both {l : List api_Instr} (hlen : l.length < 4611686018427387904) (hw : ∀ x ∈ l, wf_api_Instr x) :
    ∃ (R : List (Nat × Nat)) (e : Int) (t : List Int), flow_Loops.f l = some (R.map (gF l), e) ∧ capstanref09_Loops.f l = some (R.map (gR l), e) ∧ flow_Times.f l = some (t, e) ∧ capstanref09_Times.f l = some (t, e) ∧ R.length ≤ 200 ∧ t.length ≤ 200 := by
  obtain ⟨a1, a2, a3⟩ := prog_loops hlen hw
  obtain ⟨b1, b2, b3⟩ := ref_loops hlen hw
  obtain ⟨c1, c2, c3⟩ := prog_times hlen hw
  obtain ⟨d1, d2, d3⟩ := ref_times hlen hw
  by_cases hk : Known l
  · by_cases hf : Fine l
    · have := RL_len (run_pairs hf.1).1
      exact ⟨_, _, _, a2 hk hf, b2 hk hf, c2 hk hf, d2 hk hf, Nat.le_trans this hk.2.1, by unfold tms; simp; exact hk.2.1⟩
    · exact ⟨[], _, _, a3 hk hf, b3 hk hf, c3 hk hf, d3 hk hf, by simp, by simp⟩
  · exact ⟨[], _, _, a1 hk, b1 hk, c1 hk, d1 hk, by simp, by simp⟩
end FlowPure
namespace CallsPure
def nm (c : List api_Instr) : List Int := (c.filter fun i => decide (i.Op = 30)).map fun i => i.A
def badN (n : Nat) (a : Int) : Bool := decide (a < 0) || decide (a ≥ (n : Int))
def whomL (n : Nat) (c : List api_Instr) : List Int := ((List.range n).map fun k : Nat => (k : Int)).filter fun a => decide (a ∈ nm c)
theorem nm_cons (i : api_Instr) (c : List api_Instr) : nm (i :: c) = if i.Op = 30 then i.A :: nm c else nm c := by
  unfold nm
  by_cases h : i.Op = 30
  · rw [List.filter_cons_of_pos (by simpa using h), if_pos h]; rfl
  · rw [List.filter_cons_of_neg (by simpa using h), if_neg h]
theorem nm_len (c : List api_Instr) : (nm c).length ≤ c.length := by unfold nm; rw [List.length_map]; exact List.length_filter_le _ _
theorem compact_rises {zs : List Int} (hs : zs.Pairwise (· ≤ ·)) : ∀ m, m ≤ zs.length → (Lib.compactUpTo zs.toArray m).Pairwise (· < ·) ∧ ∀ a, a ∈ Lib.compactUpTo zs.toArray m ↔ a ∈ zs.take m
  | 0, _ => ⟨by simp [Lib.compactUpTo], by simp [Lib.compactUpTo]⟩
  | m + 1, hm => by
    obtain ⟨i1, i2⟩ := compact_rises hs m (by omega)
    have hg : ∀ q, q < zs.length → zs.toArray[q]! = zs[q]! := fun q hq => by simp [hq]
    have hm0 : zs.toArray[m]! = zs[m] := by simp [show m < zs.length by omega]
    rw [Lib.compactUpTo_succ, hm0]
    have ht : zs.take (m + 1) = zs.take m ++ [zs[m]] := by rw [List.take_succ_eq_append_getElem (by omega)]
    by_cases hk : Lib.keeps zs.toArray m = true
    · rw [if_pos hk]
      refine ⟨List.pairwise_append.2 ⟨i1, by simp, fun a ha b hb => ?_⟩, fun a => by rw [ht, List.mem_append, List.mem_append, i2]⟩
      rw [List.mem_singleton] at hb; subst hb
      have ha' := (i2 a).1 ha
      obtain ⟨q, hq, rfl⟩ := List.mem_iff_getElem.1 ha'
      rw [List.length_take] at hq
      rw [List.getElem_take]
      have hq' : q < m := by omega
      have h1 : zs[q] ≤ zs[m - 1] := by
        by_cases e : q = m - 1
        · subst e; exact Int.le_refl _
        · exact List.pairwise_iff_getElem.1 hs q (m - 1) (by omega) (by omega) (by omega)
      have h2 : zs[m - 1] ≤ zs[m] := List.pairwise_iff_getElem.1 hs (m - 1) m (by omega) (by omega) (by omega)
      have h3 : zs[m] ≠ zs[m - 1] := by
        simp only [Lib.keeps, decide_eq_true_eq] at hk
        rcases hk with e | e
        · omega
        · rw [hm0] at e
          simpa [show m - 1 < zs.length by omega] using e
      omega
    · rw [if_neg hk, List.append_nil]
      refine ⟨i1, fun a => ?_⟩
      rw [i2, ht, List.mem_append, List.mem_singleton]
      refine ⟨.inl, fun h => h.elim id fun e => ?_⟩
      simp only [Lib.keeps, decide_eq_true_eq] at hk
      have hmp : 0 < m := by omega
      have e2 : zs[m] = zs[m - 1] := by
        have : ¬ zs.toArray[m]! ≠ zs.toArray[m - 1]! := fun h => hk (.inr h)
        rw [hm0] at this
        simpa [show m - 1 < zs.length by omega] using this
      subst e
      rw [e2]
      exact List.mem_iff_getElem.2 ⟨m - 1, by rw [List.length_take]; omega, List.getElem_take⟩
theorem rises_eq {a b : List Int} (h1 : a.Pairwise (· < ·)) (h2 : b.Pairwise (· < ·)) (h : ∀ x, x ∈ a ↔ x ∈ b) : a = b := by
  have n1 : a.Nodup := h1.imp fun h => Int.ne_of_lt h
  have n2 : b.Nodup := h2.imp fun h => Int.ne_of_lt h
  exact List.Perm.eq_of_pairwise (le := fun a b : Int => a < b) (fun x y _ _ h3 h4 => absurd h3 (by omega)) h1 h2 ((List.perm_ext_iff_of_nodup n1 n2).2 h)
theorem range_rises (n : Nat) : ((List.range n).map fun k : Nat => (k : Int)).Pairwise (· < ·) := List.pairwise_map.2 (List.pairwise_lt_range.imp fun h => by omega)
theorem compact_whom {n : Nat} {c : List api_Instr} (hb : (nm c).any (badN n) = false) : Lib.compact ((nm c).mergeSort fun x y => decide (x ≤ y)) = whomL n c := by
  have hs : ((nm c).mergeSort fun x y => decide (x ≤ y)).Pairwise (· ≤ ·) := by
    have := List.pairwise_mergeSort (le := fun x y : Int => decide (x ≤ y)) (fun a b c h1 h2 => by simp at *; omega) (fun a b => by simp; omega) (nm c)
    exact this.imp fun h => by simpa using h
  obtain ⟨h1, h2⟩ := compact_rises hs _ (Nat.le_refl _)
  refine rises_eq h1 ((range_rises n).filter _) fun a => ?_
  rw [show Lib.compact ((nm c).mergeSort fun x y => decide (x ≤ y)) = Lib.compactUpTo _ _ from rfl, h2, List.take_length, List.mem_mergeSort, whomL, List.mem_filter, decide_eq_true_eq]
  refine ⟨fun h => ⟨?_, h⟩, fun h => h.2⟩
  have := List.any_eq_false.1 hb a h
  simp only [badN, Bool.or_eq_true, decide_eq_true_eq, not_or] at this
  exact List.mem_map.2 ⟨a.toNat, List.mem_range.2 (by omega), by omega⟩
theorem named_run {m : api_Module} {k : Int} {x : api_Method} {G P : List api_Value} {M : List api_Method} {mg k0 : Int} (hc : x.Code.length ≤ 300) : ∀ (c pre : List api_Instr) (l : List Int), x.Code = pre ++ c → l.length ≤ pre.length →
    runF (calls_named_1_s1.F (fun s x => bif s.2 then none else calls_Whom.y1 m k s.1.1 s.1.2 x) (([], 0), false) G P M mg k0) (.l1 x ((l, 0), false) (pre.length : Int)) =
      some (if (nm c).any (badN m.Methods.length) = true then ((l ++ (nm c).takeWhile fun a => !badN m.Methods.length a, 2), true) else ((l ++ nm c, 0), false))
  | [], pre, l, he, hl => by
    refine runF_end ?_
    dsimp only [calls_named_1_s1.F]
    rw [if_neg (by rw [he]; simp)]
    simp [nm]
  | i :: c, pre, l, he, hl => by
    have hlen : pre.length < x.Code.length := by rw [he]; simp
    have hi : x.Code[pre.length] = i := by simp [he]
    have hn := nm_len (i :: c)
    by_cases ho : i.Op = 30
    · by_cases hb : badN m.Methods.length i.A = true
      · refine runF_end ?_
        dsimp only [calls_named_1_s1.F]
        rw [if_pos (by omega), elt_lt hlen, hi]
        simp only [Option.bind_some]
        rw [if_pos ho]
        dsimp only [cond_false, calls_Whom.y1]
        have hb2 : (decide (i.A < 0) || decide (i.A ≥ (m.Methods.length : Int))) = true := hb
        rw [if_pos hb2]
        simp only [Option.bind_some]
        rw [nm_cons, if_pos ho, if_pos (by simp), if_pos (by simp [hb])]
        simp [hb]
      · rw [runF_step (t := .l1 x ((l ++ [i.A], 0), false) ((pre ++ [i]).length : Int)) (by
          dsimp only [calls_named_1_s1.F]
          rw [if_pos (by omega), elt_lt hlen, hi]
          simp only [Option.bind_some]
          rw [if_pos ho]
          dsimp only [cond_false, calls_Whom.y1]
          have hb2 : ¬ (decide (i.A < 0) || decide (i.A ≥ (m.Methods.length : Int))) = true := hb
          rw [if_neg hb2, if_pos (by simp; omega)]
          simp only [Option.bind_some]
          rw [if_neg (by simp), wrap_succ pre.length (by omega), List.length_append]; rfl)]
        rw [named_run hc c (pre ++ [i]) (l ++ [i.A]) (by rw [he]; simp) (by simp; omega)]
        have hb' : badN m.Methods.length i.A = false := by simpa using hb
        rw [nm_cons, if_pos ho, List.any_cons, hb', Bool.false_or, List.takeWhile_cons, hb']
        simp
    · rw [runF_step (t := .l1 x ((l, 0), false) ((pre ++ [i]).length : Int)) (by
        dsimp only [calls_named_1_s1.F]
        rw [if_pos (by omega), elt_lt hlen, hi]
        simp only [Option.bind_some]
        rw [if_neg ho]
        simp only [Option.bind_some]
        rw [if_neg (by simp), wrap_succ pre.length (by omega), List.length_append]; rfl)]
      rw [named_run hc c (pre ++ [i]) l (by rw [he]; simp) (by simp; omega), nm_cons, if_neg ho]
def whomC (n : Nat) (c : List api_Instr) : List Int × Int := if (nm c).any (badN n) = true then ([], 2) else (whomL n c, 0)
theorem prog_whom {m : api_Module} {k : Nat} (hk : k < m.Methods.length) (hc : m.Methods[k].Code.length ≤ 300) : calls_Whom.f m k = some (whomC m.Methods.length m.Methods[k].Code) := by
  unfold calls_Whom.f calls_named.f calls_named_1_s1.f
  have hn := nm_len m.Methods[k].Code
  rw [if_neg (by simp; omega)]
  simp only [Option.bind_some]
  rw [runF_step (t := .l1 m.Methods[k] (([], 0), false) (([] : List api_Instr).length : Int)) (by
    dsimp only [calls_named_1_s1.F]; rw [elt_lt hk]; rfl), named_run hc m.Methods[k].Code [] [] rfl (by simp)]
  unfold whomC
  by_cases hb : (nm m.Methods[k].Code).any (badN m.Methods.length) = true
  · rw [if_pos hb, if_pos hb]; rfl
  · rw [if_neg hb, if_neg hb]
    simp only [Option.bind_some, List.nil_append]
    rw [if_neg (by simp), if_pos (by omega), if_pos (by rw [List.length_mergeSort]; omega), compact_whom (by simpa using hb)]
theorem ref_calls {x : api_Method} {n : Int} (hc : x.Code.length ≤ 300) : capstanref11_calls.f x n = some (decide (n ∈ nm x.Code)) := by
  unfold capstanref11_calls.f
  rw [runF_step (t := .l1 ((([] : List api_Instr).length : Nat) : Int)) rfl]
  have : ∀ (c pre : List api_Instr), x.Code = pre ++ c → runF (capstanref11_calls.F x n) (.l1 (pre.length : Int)) = some (decide (n ∈ nm c)) := by
    intro c
    induction c with
    | nil => intro pre he; refine runF_end ?_; dsimp only [capstanref11_calls.F]; rw [if_neg (by rw [he]; simp)]; simp [nm]
    | cons i c ih =>
      intro pre he
      have hlen : pre.length < x.Code.length := by rw [he]; simp
      have hi : x.Code[pre.length] = i := by simp [he]
      by_cases h : i.Op = 30 ∧ i.A = n
      · refine runF_end ?_
        dsimp only [capstanref11_calls.F]
        rw [if_pos (by omega), elt_lt hlen, hi]
        simp only [Option.bind_some]
        rw [if_pos h.1]
        simp only [Option.bind_some]
        rw [if_pos (by simp [h.2]), nm_cons, if_pos h.1]
        simp [h.2]
      · rw [runF_step (t := .l1 ((pre ++ [i]).length : Int)) (by
          dsimp only [capstanref11_calls.F]
          rw [if_pos (by omega), elt_lt hlen, hi]
          simp only [Option.bind_some]
          by_cases ho : i.Op = 30
          · rw [if_pos ho]
            simp only [Option.bind_some]
            rw [if_neg (by simp; exact fun e => h ⟨ho, e⟩), wrap_succ pre.length (by omega), List.length_append]; rfl
          · rw [if_neg ho]
            simp only [Option.bind_some]
            rw [if_neg (by simp), wrap_succ pre.length (by omega), List.length_append]; rfl), ih (pre ++ [i]) (by rw [he]; simp), nm_cons]
        by_cases ho : i.Op = 30
        · rw [if_pos ho]
          have : n ≠ i.A := fun e => h ⟨ho, e.symm⟩
          simp [this]
        · rw [if_neg ho]
  exact this _ [] rfl
theorem ref_whom {m : api_Module} {k : Nat} (hk : k < m.Methods.length) (hm : m.Methods.length ≤ 40) (hc : m.Methods[k].Code.length ≤ 300) : capstanref11_Whom.f m k = some (whomC m.Methods.length m.Methods[k].Code) := by
  generalize hx : m.Methods[k] = x at hc
  unfold capstanref11_Whom.f
  rw [runF_step (t := .l1 x ((([] : List api_Instr).length : Nat) : Int)) (by
    dsimp only [capstanref11_Whom.F]; rw [if_neg (by simp; omega), elt_lt hk, hx]; rfl)]
  have scan : ∀ (c pre : List api_Instr), x.Code = pre ++ c → runF (capstanref11_Whom.F m k) (.l1 x (pre.length : Int)) = if (nm c).any (badN m.Methods.length) = true then some ([], 2) else runF (capstanref11_Whom.F m k) (.l2 x [] ((0 : Nat) : Int)) := by
    intro c
    induction c with
    | nil =>
      intro pre he
      rw [if_neg (by simp [nm])]
      refine runF_step ?_
      dsimp only [capstanref11_Whom.F]; rw [if_neg (by rw [he]; simp)]; rfl
    | cons i c ih =>
      intro pre he
      have hlen : pre.length < x.Code.length := by rw [he]; simp
      have hi : x.Code[pre.length] = i := by simp [he]
      by_cases h : i.Op = 30 ∧ badN m.Methods.length i.A = true
      · rw [nm_cons, if_pos h.1, if_pos (by simp [h.2])]
        refine runF_end ?_
        dsimp only [capstanref11_Whom.F]
        rw [if_pos (by omega), elt_lt hlen, hi]
        simp only [Option.bind_some]
        rw [if_pos h.1]
        by_cases h0 : i.A < 0
        · rw [if_pos h0]; unfold capstanref11_Whom.j1; rw [if_pos rfl]
        · rw [if_neg h0]; unfold capstanref11_Whom.j1
          have := h.2
          simp only [badN, Bool.or_eq_true, decide_eq_true_eq] at this
          rw [if_pos (by simp; omega)]
      · rw [runF_step (t := .l1 x ((pre ++ [i]).length : Int)) (by
          dsimp only [capstanref11_Whom.F]
          rw [if_pos (by omega), elt_lt hlen, hi]
          simp only [Option.bind_some]
          by_cases ho : i.Op = 30
          · have hb : ¬ badN m.Methods.length i.A = true := fun e => h ⟨ho, e⟩
            simp only [badN, Bool.or_eq_true, decide_eq_true_eq, not_or] at hb
            rw [if_pos ho, if_neg hb.1]
            unfold capstanref11_Whom.j1
            rw [if_neg (by simp; omega), wrap_succ pre.length (by omega), List.length_append]; rfl
          · rw [if_neg ho]
            unfold capstanref11_Whom.j1
            rw [if_neg (by simp), wrap_succ pre.length (by omega), List.length_append]; rfl), ih (pre ++ [i]) (by rw [he]; simp), nm_cons]
        by_cases ho : i.Op = 30
        · rw [if_pos ho, List.any_cons]
          have hb : badN m.Methods.length i.A = false := by simpa using fun e => h ⟨ho, e⟩
          rw [hb, Bool.false_or]
        · rw [if_neg ho]
  rw [scan _ [] rfl]
  unfold whomC
  by_cases hb : (nm x.Code).any (badN m.Methods.length) = true
  · rw [if_pos hb, if_pos hb]
  · rw [if_neg hb, if_neg hb]
    have hl : ∀ q, (whomL q x.Code).length ≤ q := fun q => by unfold whomL; exact Nat.le_trans (List.length_filter_le _ _) (by simp)
    refine (runF_up (F := capstanref11_Whom.F m k) (n := m.Methods.length) (fun q => .l2 x (whomL q x.Code) (q : Int)) (fun q hq => ?_)).trans (runF_end ?_)
    · dsimp only [capstanref11_Whom.F]
      have hl := hl q
      rw [if_pos (by omega), ref_calls hc]
      simp only [Option.bind_some]
      have hs : whomL (q + 1) x.Code = whomL q x.Code ++ if (q : Int) ∈ nm x.Code then [(q : Int)] else [] := by
        unfold whomL
        rw [List.range_succ, List.map_append, List.filter_append]
        congr 1
        by_cases hq : (q : Int) ∈ nm x.Code
        · rw [if_pos hq]; simp [hq]
        · rw [if_neg hq]; simp [hq]
      by_cases hq : (q : Int) ∈ nm x.Code
      · rw [if_pos (by simpa using hq), if_pos (by simp; omega)]
        unfold capstanref11_Whom.j2
        rw [hs, if_pos hq, wrap_succ q (by omega)]
      · rw [if_neg (by simpa using hq)]
        unfold capstanref11_Whom.j2
        rw [hs, if_neg hq, List.append_nil, wrap_succ q (by omega)]
    · dsimp only [capstanref11_Whom.F]
      rw [if_neg (by omega)]
end CallsPure
namespace CallsPure
def whoms (m : api_Module) : List (List Int) := m.Methods.map fun x => whomL m.Methods.length x.Code
def anyBad (m : api_Module) : Bool := m.Methods.any fun x => (nm x.Code).any (badN m.Methods.length)
structure Fit (m : api_Module) : Prop where
  M : m.Methods.length ≤ 40
  x : ∀ x ∈ m.Methods, x.Code.length ≤ 300
theorem prog_all {m : api_Module} (S : Fit m) : calls_all.f m = some (if anyBad m = true then ([], 2) else (whoms m, 0)) := by
  unfold calls_all.f
  rw [runF_step (t := .l1 [] ((0 : Nat) : Int)) rfl]
  have : ∀ (c pre : List api_Method), m.Methods = pre ++ c → runF (calls_all.F m) (.l1 (pre.map fun x => whomL m.Methods.length x.Code) (pre.length : Int)) = some (if (c.any fun x => (nm x.Code).any (badN m.Methods.length)) = true then ([], 2) else (whoms m, 0)) := by
    intro c
    induction c with
    | nil =>
      intro pre he
      refine runF_end ?_
      dsimp only [calls_all.F]
      rw [if_neg (by rw [he]; simp)]
      simp [whoms, he]
    | cons x c ih =>
      intro pre he
      have hlen : pre.length < m.Methods.length := by rw [he]; simp
      have hx : m.Methods[pre.length] = x := by simp [he]
      have hw := prog_whom hlen (S.x _ (List.getElem_mem hlen))
      rw [hx] at hw
      have hM := S.M
      by_cases hb : (nm x.Code).any (badN m.Methods.length) = true
      · rw [List.any_cons, hb, Bool.true_or, if_pos rfl]
        refine runF_end ?_
        dsimp only [calls_all.F]
        rw [if_pos (by omega), hw]
        simp only [Option.bind_some, whomC]
        rw [if_pos hb, if_pos (by simp)]
      · have hb' : (nm x.Code).any (badN m.Methods.length) = false := by simpa using hb
        rw [List.any_cons, hb', Bool.false_or, ← ih (pre ++ [x]) (by rw [he]; simp)]
        refine runF_step ?_
        dsimp only [calls_all.F]
        rw [if_pos (by omega), hw]
        simp only [Option.bind_some, whomC]
        rw [if_neg hb, if_neg (by simp), if_pos (by simp; omega), wrap_succ pre.length (by omega), List.length_append, List.map_append]; rfl
  exact this _ [] rfl
def ready (W : List (List Int)) (out : List Int) (k : Nat) : Bool := decide (¬ (k : Int) ∈ out) && (W.getD k []).all fun a => decide (a ∈ out)
def nextOf (W : List (List Int)) (out : List Int) : Option Nat := (List.range W.length).find? (ready W out)
def ordN (W : List (List Int)) : Nat → List Int → List Int × Int
  | 0, out => (out, 0)
  | f + 1, out => match nextOf W out with
    | none => ([], 110)
    | some k => ordN W f (out ++ [(k : Int)])
theorem ref_has {l : List Int} {n : Int} (hl : l.length ≤ 100) : capstanref11_has.f l n = some (decide (n ∈ l)) := by
  unfold capstanref11_has.f
  rw [runF_step (t := .l1 ((([] : List Int).length : Nat) : Int)) rfl]
  have : ∀ (c pre : List Int), l = pre ++ c → runF (capstanref11_has.F l n) (.l1 (pre.length : Int)) = some (decide (n ∈ c)) := by
    intro c
    induction c with
    | nil => intro pre he; refine runF_end ?_; dsimp only [capstanref11_has.F]; rw [if_neg (by rw [he]; simp)]; simp
    | cons i c ih =>
      intro pre he
      have hlen : pre.length < l.length := by rw [he]; simp
      have hi : l[pre.length] = i := by simp [he]
      by_cases h : i = n
      · refine runF_end ?_
        dsimp only [capstanref11_has.F]
        rw [if_pos (by omega), elt_lt hlen, hi]
        simp only [Option.bind_some]
        rw [if_pos h]; simp [h]
      · have h' : n ≠ i := fun e => h e.symm
        rw [show decide (n ∈ i :: c) = decide (n ∈ c) by simp [h'], ← ih (pre ++ [i]) (by rw [he]; simp)]
        refine runF_step ?_
        dsimp only [capstanref11_has.F]
        rw [if_pos (by omega), elt_lt hlen, hi]
        simp only [Option.bind_some]
        rw [if_neg h, wrap_succ pre.length (by omega), List.length_append]; rfl
  exact this _ [] rfl
theorem whoms_at {m : api_Module} {k : Nat} (hk : k < m.Methods.length) : (whoms m).getD k [] = whomL m.Methods.length m.Methods[k].Code := by
  simp [whoms, List.getD_eq_getElem?_getD, hk]
theorem whomL_len (n : Nat) (c : List api_Instr) : (whomL n c).length ≤ n := by unfold whomL; exact Nat.le_trans (List.length_filter_le _ _) (by simp)
theorem ref_rest {m : api_Module} (S : Fit m) (hg : anyBad m = false) : ∀ (f : Nat) (out : List Int), out.length + f = m.Methods.length → runF (capstanref11_Order.F m) (.l2 out) = some (ordN (whoms m) f out) := by
  have hM := S.M
  have hWl : (whoms m).length = m.Methods.length := by simp [whoms]
  have hw : ∀ k (hk : k < m.Methods.length), capstanref11_Whom.f m k = some ((whoms m).getD k [], 0) := by
    intro k hk
    rw [ref_whom hk hM (S.x _ (List.getElem_mem hk)), whomC, whoms_at hk]
    have := List.any_eq_false.1 hg _ (List.getElem_mem hk)
    rw [if_neg this]
  intro f
  induction f with
  | zero =>
    intro out ho
    refine runF_end ?_
    dsimp only [capstanref11_Order.F]
    rw [if_neg (by omega)]; rfl
  | succ f ih =>
    intro out ho
    rw [runF_step (t := .l3 out (-1) ((0 : Nat) : Int)) (by dsimp only [capstanref11_Order.F]; rw [if_pos (by omega)]; rfl)]
    -- one candidate
    have inner : ∀ (k : Nat) (t : List Int) (b : Bool), t.length ≤ 40 → ∀ (c pre : List Int) (b : Bool), t = pre ++ c → runF (capstanref11_Order.F m) (.l4 out (-1) (k : Int) (t, 0) b (pre.length : Int)) = runF (capstanref11_Order.F m) (.l4 out (-1) (k : Int) (t, 0) (b && c.all fun a => decide (a ∈ out)) (t.length : Int)) := by
      intro k t _ ht c
      induction c with
      | nil => intro pre b he; simp at he; subst he; simp
      | cons a c ihc =>
        intro pre b he
        have hlen : pre.length < t.length := by rw [he]; simp
        have hi : t[pre.length] = a := by simp [he]
        rw [runF_step (t := .l4 out (-1) (k : Int) (t, 0) (b && decide (a ∈ out)) ((pre ++ [a]).length : Int)) (by
          dsimp only [capstanref11_Order.F]
          rw [if_pos (by omega)]
          cases b with
          | true =>
            rw [if_pos rfl, elt_lt hlen, hi]
            simp only [Option.bind_some]
            rw [ref_has (by omega)]
            simp only [Option.bind_some]
            rw [wrap_succ pre.length (by omega), List.length_append]; simp
          | false =>
            rw [if_neg (by simp)]
            simp only [Option.bind_some]
            rw [wrap_succ pre.length (by omega), List.length_append]; simp), ihc (pre ++ [a]) _ (by rw [he]; simp)]
        simp [Bool.and_assoc]
    have one : ∀ k, k < m.Methods.length → runF (capstanref11_Order.F m) (.l3 out (-1) (k : Int)) = if ready (whoms m) out k = true then runF (capstanref11_Order.F m) (.l3 out (k : Int) ((k + 1 : Nat) : Int)) else runF (capstanref11_Order.F m) (.l3 out (-1) ((k + 1 : Nat) : Int)) := by
      intro k hk
      have htl : ((whoms m).getD k []).length ≤ 40 := by rw [whoms_at hk]; exact Nat.le_trans (whomL_len _ _) hM
      rw [runF_step (t := .l4 out (-1) (k : Int) ((whoms m).getD k [], 0) (!decide ((k : Int) ∈ out)) ((([] : List Int).length : Nat) : Int)) (by
        dsimp only [capstanref11_Order.F]
        rw [if_pos (by simp; omega), hw k hk]
        simp only [Option.bind_some]
        rw [ref_has (by omega)]; rfl), inner k ((whoms m).getD k []) true htl ((whoms m).getD k []) [] _ rfl]
      by_cases hr : ready (whoms m) out k = true
      · rw [if_pos hr]
        have hr2 : (!decide ((k : Int) ∈ out) && (((whoms m).getD k []).all fun a => decide (a ∈ out))) = true := by simpa [ready] using hr
        rw [hr2]
        refine runF_step ?_
        dsimp only [capstanref11_Order.F]
        rw [if_neg (by omega), if_pos rfl]
        unfold capstanref11_Order.j1
        rw [wrap_succ k (by omega)]
      · rw [if_neg hr]
        have hr2 : (!decide ((k : Int) ∈ out) && (((whoms m).getD k []).all fun a => decide (a ∈ out))) = false := by
          have : ready (whoms m) out k = false := by simpa using hr
          simpa [ready] using this
        rw [hr2]
        refine runF_step ?_
        dsimp only [capstanref11_Order.F]
        rw [if_neg (by omega), if_neg (by simp)]
        unfold capstanref11_Order.j1
        rw [wrap_succ k (by omega)]
    have found : ∀ (k q : Nat), runF (capstanref11_Order.F m) (.l3 out (k : Int) (q : Int)) = runF (capstanref11_Order.F m) (.l2 (out ++ [(k : Int)])) := by
      intro k q
      refine runF_step ?_
      dsimp only [capstanref11_Order.F]
      rw [if_neg (by simp), if_neg (by omega), if_pos (by simp; omega)]
    have scan : ∀ (j k : Nat), k + j = m.Methods.length → runF (capstanref11_Order.F m) (.l3 out (-1) (k : Int)) = match (List.range' k j).find? (ready (whoms m) out) with
        | none => some ([], 110)
        | some k => runF (capstanref11_Order.F m) (.l2 (out ++ [(k : Int)])) := by
      intro j
      induction j with
      | zero =>
        intro k hk
        simp only [List.range'_zero, List.find?_nil]
        refine runF_end ?_
        dsimp only [capstanref11_Order.F]
        rw [if_neg (by simp; omega), if_pos (by omega)]
      | succ j ihj =>
        intro k hk
        rw [one k (by omega), List.range'_succ, List.find?_cons]
        by_cases hr : ready (whoms m) out k = true
        · rw [if_pos hr, hr, found]
        · have hr' : ready (whoms m) out k = false := by simpa using hr
          rw [if_neg hr, hr', ihj (k + 1) (by omega)]
    rw [scan m.Methods.length 0 (by omega), ← List.range_eq_range', ← hWl]
    unfold ordN nextOf
    cases hn : (List.range (whoms m).length).find? (ready (whoms m) out) with
    | none => rfl
    | some k => exact ih _ (by simp; omega)
theorem ref_order {m : api_Module} (S : Fit m) : capstanref11_Order.f m = some (if anyBad m = true then ([], 2) else ordN (whoms m) m.Methods.length []) := by
  unfold capstanref11_Order.f
  have hM := S.M
  rw [runF_step (t := .l1 ((([] : List api_Method).length : Nat) : Int)) rfl]
  have : ∀ (c pre : List api_Method), m.Methods = pre ++ c → runF (capstanref11_Order.F m) (.l1 (pre.length : Int)) = if (c.any fun x => (nm x.Code).any (badN m.Methods.length)) = true then some ([], 2) else runF (capstanref11_Order.F m) (.l2 []) := by
    intro c
    induction c with
    | nil =>
      intro pre he
      rw [if_neg (by simp)]
      refine runF_step ?_
      dsimp only [capstanref11_Order.F]
      rw [if_neg (by rw [he]; simp)]
    | cons x c ih =>
      intro pre he
      have hlen : pre.length < m.Methods.length := by rw [he]; simp
      have hx : m.Methods[pre.length] = x := by simp [he]
      have hw := ref_whom hlen hM (S.x _ (List.getElem_mem hlen))
      rw [hx] at hw
      by_cases hb : (nm x.Code).any (badN m.Methods.length) = true
      · rw [List.any_cons, hb, Bool.true_or, if_pos rfl]
        refine runF_end ?_
        dsimp only [capstanref11_Order.F]
        rw [if_pos (by omega), hw]
        simp only [Option.bind_some, whomC]
        rw [if_pos hb, if_pos (by simp)]
      · have hb' : (nm x.Code).any (badN m.Methods.length) = false := by simpa using hb
        rw [List.any_cons, hb', Bool.false_or, ← ih (pre ++ [x]) (by rw [he]; simp)]
        refine runF_step ?_
        dsimp only [capstanref11_Order.F]
        rw [if_pos (by omega), hw]
        simp only [Option.bind_some, whomC]
        rw [if_neg hb, if_neg (by simp), wrap_succ pre.length (by omega), List.length_append]; rfl
  rw [this m.Methods [] rfl]
  by_cases hb : anyBad m = true
  · have hb2 : (m.Methods.any fun x => (nm x.Code).any (badN m.Methods.length)) = true := hb
    rw [if_pos hb, if_pos hb2]
  · have hb2 : ¬ (m.Methods.any fun x => (nm x.Code).any (badN m.Methods.length)) = true := hb
    rw [if_neg hb, if_neg hb2, ref_rest S (by simpa using hb) m.Methods.length [] (by simp)]
end CallsPure
namespace CallsPure
theorem mset_new {l : List (Int × Int)} {k v : Int} : (∀ p ∈ l, p.1 ≠ k) → mset l k v = l ++ [(k, v)] := by
  induction l with
  | nil => intro _; rfl
  | cons p l ih =>
    intro h
    rw [mset, if_neg (h p (by simp)), ih fun q hq => h q (List.mem_cons_of_mem _ hq)]; rfl
theorem mget_map {g : Nat → Int} {q : Nat} : ∀ {S : List Nat}, q ∈ S → mget (S.map fun a : Nat => ((a : Int), g a)) q = some (g q)
  | s :: S, h => by
    rw [List.map_cons, mget]
    by_cases e : s = q
    · subst e; rw [if_pos rfl]
    · rw [if_neg (by simp; omega)]
      exact mget_map ((List.mem_cons.1 h).resolve_left (Ne.symm e))
theorem mdel_map {g : Nat → Int} {q : Nat} : ∀ {S : List Nat}, S.Nodup → mdel (S.map fun a : Nat => ((a : Int), g a)) q = (S.filter fun a => decide (a ≠ q)).map fun a : Nat => ((a : Int), g a)
  | [], _ => rfl
  | s :: S, h => by
    rw [List.map_cons, mdel]
    by_cases e : s = q
    · subst e
      rw [if_pos rfl, List.filter_cons_of_neg (by simp), List.filter_eq_self.2]
      intro a ha
      have := (List.nodup_cons.1 h).1
      simp; intro e; subst e; exact this ha
    · rw [if_neg (by simp; omega), List.filter_cons_of_pos (by simpa using e), List.map_cons, mdel_map (List.nodup_cons.1 h).2]
theorem mup_map {g : Nat → Int} {q : Nat} {u : Int} {S : List Nat} : mup (S.map fun a : Nat => ((a : Int), g a)) q u = S.map fun a : Nat => ((a : Int), if a = q then u else g a) := by
  unfold mup
  rw [List.map_map]
  refine List.map_congr_left fun a _ => ?_
  by_cases e : a = q
  · subst e; simp
  · have e2 : ¬ (a : Int) = (q : Int) := by omega
    simp [e, e2]
theorem contains_eq {l : List Int} {n : Int} (hl : l.length ≤ 100) : slices_Contains_int_int.f l n = some (decide (n ∈ l)) := by
  unfold slices_Contains_int_int.f
  have : ∀ (c pre : List Int), l = pre ++ c → ∃ i : Int, runF (slices_Index_int_int.F l n) (.l1 (pre.length : Int)) = some i ∧ decide (i ≥ 0) = decide (n ∈ c) := by
    intro c
    induction c with
    | nil =>
      intro pre he
      refine ⟨-1, runF_end ?_, by simp⟩
      dsimp only [slices_Index_int_int.F]; rw [if_neg (by rw [he]; simp)]
    | cons i c ih =>
      intro pre he
      have hlen : pre.length < l.length := by rw [he]; simp
      have hi : l[pre.length] = i := by simp [he]
      by_cases h : n = i
      · refine ⟨(pre.length : Int), runF_end ?_, by simp [h]⟩
        dsimp only [slices_Index_int_int.F]
        rw [if_pos (by omega), elt_lt hlen, hi]
        simp only [Option.bind_some]
        rw [if_pos h]
      · obtain ⟨r, h1, h2⟩ := ih (pre ++ [i]) (by rw [he]; simp)
        refine ⟨r, ?_, by rw [h2]; simp [h]⟩
        rw [← h1]
        refine runF_step ?_
        dsimp only [slices_Index_int_int.F]
        rw [if_pos (by omega), elt_lt hlen, hi]
        simp only [Option.bind_some]
        rw [if_neg h, wrap_succ pre.length (by omega), List.length_append]; rfl
  obtain ⟨i, h1, h2⟩ := this l [] rfl
  unfold slices_Index_int_int.f
  rw [runF_step (t := .l1 ((([] : List Int).length : Nat) : Int)) rfl, h1]
  simp only [Option.bind_some]
  rw [h2]
def cnt (W : List (List Int)) (out : List Int) (k : Nat) : Nat := ((W.getD k []).filter fun a => decide (¬ a ∈ out)).length
def rest (W : List (List Int)) (out : List Int) : List Nat := (List.range W.length).filter fun k => decide (¬ (k : Int) ∈ out)
def leftM (W : List (List Int)) (out : List Int) : List (Int × Int) := (rest W out).map fun k : Nat => ((k : Int), (cnt W out k : Int))
theorem rest_nodup (W : List (List Int)) (out : List Int) : (rest W out).Nodup := List.nodup_range.filter _
theorem mem_rest {W : List (List Int)} {out : List Int} {k : Nat} : k ∈ rest W out ↔ k < W.length ∧ ¬ (k : Int) ∈ out := by unfold rest; rw [List.mem_filter, List.mem_range, decide_eq_true_eq]
theorem rest_len (W : List (List Int)) (out : List Int) : (rest W out).length ≤ W.length := Nat.le_trans (List.length_filter_le _ _) (by simp)
theorem ok_map {g : Nat → Int} {S : List Nat} (h : S.Nodup) (hl : ∀ a ∈ S, a < 100) (hs : S.length ≤ 100) : okKeys (S.map fun a : Nat => ((a : Int), g a)) = true := by
  simp only [okKeys, Bool.and_eq_true, decide_eq_true_eq, List.all_eq_true]
  refine ⟨⟨?_, ?_⟩, by rw [List.length_map]; omega⟩
  · rw [List.map_map]
    exact h.map _ fun a b hab e => hab (by simp only [Function.comp] at e; omega)
  · intro p hp
    obtain ⟨a, ha, rfl⟩ := List.mem_map.1 hp
    have := hl a ha
    simp; omega
theorem nodup_keys {g : Nat → Int} {S : List Nat} (h : S.Nodup) : ((S.map fun a : Nat => ((a : Int), g a)).map fun p => p.1).Nodup := by
  rw [List.map_map]; exact h.map _ fun a b hab e => hab (by simp only [Function.comp] at e; omega)
theorem rest_sorted (W : List (List Int)) (out : List Int) : sortedKeys (leftM W out) = (rest W out).map fun k : Nat => (k : Int) := by
  unfold sortedKeys leftM
  rw [List.map_map]
  have : (rest W out).Pairwise (· < ·) := List.pairwise_lt_range.filter _
  refine List.mergeSort_of_pairwise ?_
  refine List.pairwise_map.2 (this.imp fun h => ?_)
  simp; omega
theorem cnt_zero {W : List (List Int)} {out : List Int} {k : Nat} : cnt W out k = 0 ↔ ((W.getD k []).all fun a => decide (a ∈ out)) = true := by
  unfold cnt
  rw [List.length_eq_zero_iff, List.filter_eq_nil_iff, List.all_eq_true]
  exact ⟨fun h a ha => by simpa using h a ha, fun h a ha => by simpa using h a ha⟩
theorem next_rest (W : List (List Int)) (out : List Int) : nextOf W out = (rest W out).find? fun k => decide (cnt W out k = 0) := by
  unfold nextOf rest
  rw [List.find?_filter]
  congr 1
  funext k
  unfold ready
  rw [Bool.eq_iff_iff]
  simp only [Bool.and_eq_true, decide_eq_true_eq, cnt_zero]
theorem cnt_more {W : List (List Int)} {out : List Int} {k q : Nat} (hn : (W.getD q []).Nodup) (hk : ¬ (k : Int) ∈ out) : cnt W (out ++ [(k : Int)]) q = if (k : Int) ∈ W.getD q [] then cnt W out q - 1 else cnt W out q := by
  unfold cnt
  generalize W.getD q [] = l at hn
  have e : ∀ l : List Int, l.Nodup → (l.filter fun a => decide (¬ a ∈ out ++ [(k : Int)])).length = if (k : Int) ∈ l then (l.filter fun a => decide (¬ a ∈ out)).length - 1 else (l.filter fun a => decide (¬ a ∈ out)).length := by
    intro l
    induction l with
    | nil => intro _; simp
    | cons a l ih =>
      intro hn
      obtain ⟨h1, h2⟩ := List.nodup_cons.1 hn
      have ih := ih h2
      by_cases ha : a = (k : Int)
      · subst ha
        rw [if_neg h1] at ih
        rw [List.filter_cons_of_neg (by simp), ih, if_pos (by simp), List.filter_cons_of_pos (by simpa using hk), List.length_cons, Nat.add_sub_cancel]
      · have hm : ((k : Int) ∈ a :: l) ↔ (k : Int) ∈ l := by simp [Ne.symm ha]
        by_cases hao : a ∈ out
        · rw [List.filter_cons_of_neg (by simp [hao]), List.filter_cons_of_neg (by simpa using hao), ih]
          simp only [hm]
        · rw [List.filter_cons_of_pos (by simp [hao, ha]), List.filter_cons_of_pos (by simpa using hao), List.length_cons, ih, List.length_cons]
          simp only [hm]
          by_cases hkl : (k : Int) ∈ l
          · rw [if_pos hkl, if_pos hkl]
            have : 0 < (l.filter fun a => decide (¬ a ∈ out)).length := List.length_pos_of_mem (List.mem_filter.2 ⟨hkl, by simpa using hk⟩)
            omega
          · rw [if_neg hkl, if_neg hkl]
  exact e l hn
theorem rest_more (W : List (List Int)) (out : List Int) (k : Nat) : rest W (out ++ [(k : Int)]) = (rest W out).filter fun a => decide (a ≠ k) := by
  unfold rest
  rw [List.filter_filter]
  refine List.filter_congr fun a _ => ?_
  rw [Bool.eq_iff_iff]
  simp only [Bool.and_eq_true, decide_eq_true_eq, List.mem_append, List.mem_singleton, not_or]
  exact ⟨fun h => ⟨by have := h.2; omega, h.1⟩, fun h => ⟨h.2, by have := h.1; omega⟩⟩
theorem prog_walk {m : api_Module} {W : List (List Int)} {out : List Int} {k : Nat} (hW : ∀ q, (W.getD q []).Nodup) (hWl : ∀ q, (W.getD q []).length ≤ 40) (hk : ¬ (k : Int) ∈ out) (hout : (out.length + 1) * 8 ≤ 140737488355328) : ∀ (f : Nat) (R : List Nat), R.length = f → R.Nodup → (∀ q ∈ R, q ∈ rest W (out ++ [(k : Int)])) → ∀ r,
    runD (calls_Order.F m) (.l2 (W, 0) (leftM W (out ++ [(k : Int)])) (out ++ [(k : Int)])) = some r →
    runD (calls_Order.F m) (.l4 (W, 0) out (k : Int) ((rest W (out ++ [(k : Int)])).map fun q : Nat => ((q : Int), if q ∈ R then (cnt W out q : Int) else (cnt W (out ++ [(k : Int)]) q : Int))) (R.map fun q : Nat => ((q : Int), (cnt W out q : Int)))) = some r := by
  intro f
  induction f with
  | zero =>
    intro R hR _ _ r hr
    obtain rfl := List.eq_nil_of_length_eq_zero hR
    refine runD_step ?_ hr
    dsimp only [calls_Order.F]
    rw [if_pos (by simp), if_pos (by simpa using hout)]
    simp [leftM]
  | succ f ih =>
    intro R hR hn hsub r hr
    have hne : R ≠ [] := fun e => by rw [e] at hR; cases hR
    generalize hl : (R.map fun q : Nat => ((q : Int), (cnt W out q : Int))) = l
    have hlne : l ≠ [] := fun e => hne (by rw [e] at hl; simpa using hl)
    refine runD_any (l := (picks l).map fun z => .p5 (W, 0) out (k : Int) ((rest W (out ++ [(k : Int)])).map fun q : Nat => ((q : Int), if q ∈ R then (cnt W out q : Int) else (cnt W (out ++ [(k : Int)]) q : Int))) z.1.1 z.1.2 z.2) ?_ (by simpa using picks_ne hlne) fun t ht => ?_
    · dsimp only [calls_Order.F]
      rw [if_neg (by simpa using hlne)]
    · obtain ⟨⟨⟨z1, z2⟩, z3⟩, hz, rfl⟩ := List.mem_map.1 ht
      obtain ⟨j, h1, h2⟩ := of_picks hz
      dsimp only at h1 h2
      rw [← hl, List.getElem?_map, Option.map_eq_some_iff] at h1
      obtain ⟨q, h3, h4⟩ := h1
      obtain ⟨rfl, rfl⟩ : (q : Int) = z1 ∧ (cnt W out q : Int) = z2 := by simpa using h4
      have hjl : j < R.length := (List.getElem?_eq_some_iff.1 h3).1
      have hqR : q ∈ R := List.mem_of_getElem? h3
      have hq := hsub q hqR
      obtain ⟨hq1, hq2⟩ := mem_rest.1 hq
      have hmem : ∀ a, a ∈ R.eraseIdx j ↔ a ∈ R ∧ a ≠ q := by
        intro a
        rw [List.mem_eraseIdx_iff_getElem]
        have hRj : R[j] = q := by rw [List.getElem?_eq_getElem hjl] at h3; simpa using h3
        constructor
        · rintro ⟨i, hi, hij, rfl⟩
          exact ⟨List.getElem_mem hi, fun e => hij ((List.getElem_inj hn).1 (e.trans hRj.symm))⟩
        · rintro ⟨ha, hne⟩
          obtain ⟨i, hi, rfl⟩ := List.mem_iff_getElem.1 ha
          exact ⟨i, hi, fun e => hne (by subst e; exact hRj), rfl⟩
      have hz3 : z3 = (R.eraseIdx j).map fun q : Nat => ((q : Int), (cnt W out q : Int)) := by rw [h2, ← hl, eraseIdx_map']
      have IH := ih (R.eraseIdx j) (by rw [List.length_eraseIdx_of_lt hjl]; omega) (hn.eraseIdx j) (fun a ha => hsub a ((hmem a).1 ha).1) r hr
      refine runD_step ?_ IH
      dsimp only [calls_Order.F]
      have hel : elt W (q : Int) = some (W.getD q []) := by rw [elt_lt hq1]; simp [List.getD_eq_getElem?_getD, hq1]
      have hc : cnt W out q ≤ 40 := Nat.le_trans (List.length_filter_le _ _) (hWl q)
      rw [hel]
      simp only [Option.bind_some]
      rw [contains_eq (by have := hWl q; omega)]
      simp only [Option.bind_some]
      have hmore := cnt_more (hW q) hk
      by_cases hkq : (k : Int) ∈ W.getD q []
      · rw [if_pos hkq] at hmore
        have hpos : 0 < cnt W out q := List.length_pos_of_mem (List.mem_filter.2 ⟨hkq, by simpa using hk⟩)
        have hg : mget ((rest W (out ++ [(k : Int)])).map fun q : Nat => ((q : Int), if q ∈ R then (cnt W out q : Int) else (cnt W (out ++ [(k : Int)]) q : Int))) (q : Int) = some (cnt W out q : Int) := by
          rw [mget_map (g := fun q => if q ∈ R then (cnt W out q : Int) else (cnt W (out ++ [(k : Int)]) q : Int)) hq, if_pos hqR]
        rw [if_pos (by simpa using hkq), hg, if_pos ⟨nodup_keys (rest_nodup _ _), rfl⟩, Option.getD_some, wrap_id (by omega) (by omega), mup_map, hz3, mup_map]
        congr 4
        · refine List.map_congr_left fun a _ => ?_
          by_cases e : a = q
          · subst e
            rw [if_pos rfl, if_neg (fun h => ((hmem a).1 h).2 rfl), hmore]
            congr 1; omega
          · rw [if_neg e]
            simp only [hmem, e, ne_eq, not_false_eq_true, and_true]
        · refine List.map_congr_left fun a ha => ?_
          rw [if_neg ((hmem a).1 ha).2]
      · rw [if_neg hkq] at hmore
        rw [if_neg (by simpa using hkq), hz3]
        congr 4
        refine List.map_congr_left fun a _ => ?_
        by_cases e : a = q
        · subst e
          rw [if_pos hqR, if_neg (fun h => ((hmem a).1 h).2 rfl), hmore]
        · simp only [hmem, e, ne_eq, not_false_eq_true, and_true]
theorem prog_rest {m : api_Module} {W : List (List Int)} (hW : ∀ q, (W.getD q []).Nodup) (hWl : ∀ q, (W.getD q []).length ≤ 40) (hl : W.length ≤ 40) : ∀ (f : Nat) (out : List Int), out.length + f ≤ 40 → (rest W out).length = f → runD (calls_Order.F m) (.l2 (W, 0) (leftM W out) out) = some (ordN W f out) := by
  intro f
  induction f with
  | zero =>
    intro out ho hr
    refine runD_end ?_
    dsimp only [calls_Order.F]
    rw [if_neg (by unfold leftM; rw [List.length_map]; omega)]; rfl
  | succ f ih =>
    intro out ho hr
    have hlt : ∀ a ∈ rest W out, a < 100 := fun a ha => by have := (mem_rest.1 ha).1; omega
    have hrl := rest_len W out
    unfold ordN
    rw [next_rest]
    have scan : ∀ (c pre : List Nat), rest W out = pre ++ c → runD (calls_Order.F m) (.l3 (W, 0) (leftM W out) out (pre.length : Int)) = some (match c.find? (fun k => decide (cnt W out k = 0)) with | none => ([], 110) | some k => ordN W f (out ++ [(k : Int)])) := by
      intro c
      induction c with
      | nil =>
        intro pre he
        refine runD_end ?_
        dsimp only [calls_Order.F]
        rw [rest_sorted, List.length_map, if_neg (by rw [he]; simp)]
        unfold calls_Order.j1
        rw [if_pos (by omega)]; rfl
      | cons k c ihc =>
        intro pre he
        have hlen : pre.length < (rest W out).length := by rw [he]; simp
        have hi : (rest W out)[pre.length] = k := by simp [he]
        have hkm : k ∈ rest W out := by rw [he]; simp
        obtain ⟨hk1, hk2⟩ := mem_rest.1 hkm
        have hel : elt ((rest W out).map fun k : Nat => (k : Int)) (pre.length : Int) = some (k : Int) := by
          rw [elt_lt (by rw [List.length_map]; exact hlen), List.getElem_map, hi]
        have hg : mget (leftM W out) (k : Int) = some (cnt W out k : Int) := mget_map (g := fun k => (cnt W out k : Int)) hkm
        by_cases hc : cnt W out k = 0
        · rw [List.find?_cons_of_pos (by simpa using hc)]
          have hlr : (rest W (out ++ [(k : Int)])).length = f := by
            rw [rest_more]
            have h2 : (rest W out).length = ((rest W out).filter fun a => decide (a ≠ k)).length + 1 := by
              have e : ∀ l : List Nat, l.Nodup → k ∈ l → l.length = (l.filter fun a => decide (a ≠ k)).length + 1 := by
                intro l
                induction l with
                | nil => intro _ h; cases h
                | cons a l ih2 =>
                  intro hn hm
                  obtain ⟨n1, n2⟩ := List.nodup_cons.1 hn
                  by_cases ea : a = k
                  · subst ea
                    rw [List.filter_cons_of_neg (by simp), List.filter_eq_self.2, List.length_cons]
                    intro b hb
                    simp; intro e; subst e; exact n1 hb
                  · rw [List.filter_cons_of_pos (by simpa using ea), List.length_cons, List.length_cons, ih2 n2 ((List.mem_cons.1 hm).resolve_left (Ne.symm ea))]
              exact e _ (rest_nodup W out) hkm
            omega
          have IH := ih (out ++ [(k : Int)]) (by simp; omega) hlr
          refine runD_step (t := .l4 (W, 0) out (k : Int) ((rest W (out ++ [(k : Int)])).map fun q : Nat => ((q : Int), if q ∈ rest W (out ++ [(k : Int)]) then (cnt W out q : Int) else (cnt W (out ++ [(k : Int)]) q : Int))) ((rest W (out ++ [(k : Int)])).map fun q : Nat => ((q : Int), (cnt W out q : Int)))) ?_ (prog_walk hW hWl hk2 (by omega) _ _ rfl (rest_nodup _ _) (fun q h => h) _ IH)
          dsimp only [calls_Order.F]
          rw [rest_sorted, List.length_map, if_pos (by omega), hel]
          simp only [Option.bind_some]
          rw [hg, Option.getD_some, if_pos (by omega)]
          unfold calls_Order.j1 leftM
          rw [if_neg (by omega), mdel_map (g := fun k => (cnt W out k : Int)) (rest_nodup W out), ← rest_more]
          congr 4
          refine List.map_congr_left fun a ha => ?_
          rw [if_pos ha]
        · rw [List.find?_cons_of_neg (by simpa using hc), ← ihc (pre ++ [k]) (by rw [he]; simp)]
          have : runD (calls_Order.F m) (.l3 (W, 0) (leftM W out) out ((pre ++ [k]).length : Int)) = some _ := ihc (pre ++ [k]) (by rw [he]; simp)
          rw [this]
          refine runD_step ?_ this
          dsimp only [calls_Order.F]
          rw [rest_sorted, List.length_map, if_pos (by omega), hel]
          simp only [Option.bind_some]
          rw [hg, Option.getD_some, if_neg (by omega), wrap_succ pre.length (by omega), List.length_append]; rfl
    refine runD_step ?_ (scan (rest W out) [] rfl)
    dsimp only [calls_Order.F]
    have hok : okKeys (leftM W out) = true := ok_map (g := fun k => (cnt W out k : Int)) (rest_nodup W out) hlt (by omega)
    rw [if_pos (by unfold leftM; rw [List.length_map]; omega), if_pos hok]; rfl
theorem whomL_nodup (n : Nat) (c : List api_Instr) : (whomL n c).Nodup := ((range_rises n).imp fun h => Int.ne_of_lt h).filter _
theorem prog_order {m : api_Module} (S : Fit m) : calls_Order.f m = some (if anyBad m = true then ([], 2) else ordN (whoms m) m.Methods.length []) := by
  have hM := S.M
  have hWl : (whoms m).length = m.Methods.length := by simp [whoms]
  have hat : ∀ q, (whoms m).getD q [] = [] ∨ ∃ c, (whoms m).getD q [] = whomL m.Methods.length c := by
    intro q
    by_cases hq : q < m.Methods.length
    · exact .inr ⟨_, whoms_at hq⟩
    · exact .inl (by simp [List.getD_eq_getElem?_getD, List.getElem?_eq_none (show (whoms m).length ≤ q by omega)])
  unfold calls_Order.f
  by_cases hb : anyBad m = true
  · rw [if_pos hb]
    refine runD_end ?_
    dsimp only [calls_Order.F]
    rw [prog_all S, if_pos hb]
    simp only [Option.bind_some]
    rw [if_pos (by simp)]
  · rw [if_neg hb]
    refine runD_step (t := .l1 (whoms m, 0) ((List.range 0).map fun k : Nat => ((k : Int), (((whoms m).getD k []).length : Int))) ((0 : Nat) : Int)) (by
      dsimp only [calls_Order.F]
      rw [prog_all S, if_neg hb]
      simp only [Option.bind_some]
      rw [if_neg (by simp)]; rfl) ?_
    have lay : ∀ (j k : Nat), k + j = m.Methods.length → runD (calls_Order.F m) (.l1 (whoms m, 0) ((List.range k).map fun k : Nat => ((k : Int), (((whoms m).getD k []).length : Int))) (k : Int)) = some (ordN (whoms m) m.Methods.length []) := by
      intro j
      induction j with
      | zero =>
        intro k hk
        obtain rfl : k = m.Methods.length := by omega
        have hr : rest (whoms m) [] = List.range m.Methods.length := by unfold rest; rw [hWl]; exact List.filter_eq_self.2 fun a _ => by simp
        have hm : leftM (whoms m) [] = (List.range m.Methods.length).map fun k : Nat => ((k : Int), (((whoms m).getD k []).length : Int)) := by
          unfold leftM; rw [hr]
          refine List.map_congr_left fun a _ => ?_
          unfold cnt
          rw [List.filter_eq_self.2 fun a _ => by simp]
        refine runD_step (t := .l2 (whoms m, 0) (leftM (whoms m) []) []) (by
          dsimp only [calls_Order.F]
          rw [if_neg (by omega), hm]) (prog_rest (fun q => ?_) (fun q => ?_) (by omega) _ _ (by simp; omega) (by rw [hr, List.length_range]))
        · rcases hat q with e | ⟨c, e⟩
          · rw [e]; exact List.nodup_nil
          · rw [e]; exact whomL_nodup _ _
        · rcases hat q with e | ⟨c, e⟩
          · rw [e]; simp
          · rw [e]; exact Nat.le_trans (whomL_len _ _) hM
      | succ j ih =>
        intro k hk
        refine runD_step ?_ (ih (k + 1) (by omega))
        have hkl : k < (whoms m).length := by omega
        dsimp only [calls_Order.F]
        rw [if_pos (by omega), elt_lt hkl]
        simp only [Option.bind_some]
        rw [mset_new, wrap_succ k (by omega), List.range_succ, List.map_append]
        · congr 4
          simp [List.getD_eq_getElem?_getD, hkl]
        · intro p hp
          obtain ⟨a, ha, rfl⟩ := List.mem_map.1 hp
          have := List.mem_range.1 ha
          simp; omega
    exact lay m.Methods.length 0 (by omega)
end CallsPure
namespace CostPure
open FlowPure TypesPure CallsPure
def In (x : Int) : Prop := -9223372036854775808 ≤ x ∧ x < 9223372036854775808
theorem in_id {x : Int} (h : In x) : IntKind.i64.wrap x = x := wrap_id h.1 h.2
theorem in_wrap (x : Int) : In (IntKind.i64.wrap x) := by
  unfold In
  simp only [IntKind.wrap, IntKind.bits, IntKind.signed]
  first | omega | (split <;> omega) | (simp; omega)
theorem tm_in (l : List api_Instr) (R : List (Nat × Nat)) (a : Nat) : In (tm l R a) := by
  unfold tm
  have : ∀ (R : List (Nat × Nat)) (n : Int), In n → In (R.foldl (fun n x => if x.1 < a ∧ a ≤ x.2 then IntKind.i64.wrap (n * turns l x.1) else n) n) := by
    intro R
    induction R with
    | nil => intro n h; exact h
    | cons x R ih =>
      intro n h
      rw [List.foldl_cons]
      refine ih _ ?_
      split
      · exact in_wrap _
      · exact h
  exact this R 1 ⟨by omega, by omega⟩
theorem tms_len (l : List api_Instr) : (tms l).length = l.length := by simp [tms]
theorem tms_in (l : List api_Instr) (i : Nat) (h : i < (tms l).length) : In (tms l)[i] := by
  have : (tms l)[i] = tm l (RL (KK l) l.length) i := by simp [tms]
  rw [this]; exact tm_in _ _ _
theorem H_le {rows : List types_Row} (h : ∀ r ∈ rows, r.Kinds.length ≤ 400) : ∀ k, H rows k ≤ 400
  | 0 => by unfold H; omega
  | k + 1 => by
    have i := H_le h k
    have : (g rows k).Kinds.length ≤ 400 := by
      by_cases hk : k < rows.length
      · rw [g_lt hk]; exact h _ (List.getElem_mem hk)
      · unfold g; simp [List.getElem?_eq_none (show rows.length ≤ k by omega), R0, types_Row.zero]
    unfold H; split <;> omega
theorem rows_both {m : api_Module} {k : Nat} (hm : wf_api_Module m) (S : Small m) (hk : k < m.Methods.length) : ∃ rows e, types_Rows.f m k = some (rows, e) ∧ capstanref10_Rows.f m k = some (rows.map conv, e) ∧
    (e = 0 → rows.length = m.Methods[k].Code.length ∧ Known m.Methods[k].Code ∧ Fine m.Methods[k].Code ∧ ∀ r ∈ rows, r.Kinds.length ≤ 400) := by
  have h0 : (0 : Int) ≤ (k : Int) := by omega
  have h1 : (k : Int) < m.Methods.length := by omega
  have hx := elt_lt hk
  generalize hxe : m.Methods[k] = x at hx
  have hxm : x ∈ m.Methods := by rw [← hxe]; exact List.getElem_mem hk
  have hs := S.x x hxm
  have hwx : ∀ i ∈ x.Code, wf_api_Instr i := ((hm.2.2.1.2 x hxm).2.2.2.2.2.2.2).2
  obtain ⟨e1, e2, e3⟩ := rows_else (m := m) (k := k) (x := x) h0 h1 hx (by omega) hwx (by omega)
  obtain ⟨f1, f2, f3, f4⟩ := ref_rows (m := m) (k := k) (x := x) h0 h1 hx (by omega) hwx (by omega)
  by_cases hkn : Known x.Code
  · by_cases hf : Fine x.Code
    · by_cases hth : ∃ i ∈ x.Code, there (envOf m x) i = false
      · exact ⟨[], 100, e3 hkn hf hth, f3 hkn hf hth, by omega⟩
      · have W : Well (envOf m x) x.Code := ⟨hkn, hf, hwx, fun i hi => by
          cases ht : there (envOf m x) i
          · exact absurd ⟨i, hi, ht⟩ hth
          · rfl, fun y hy => by have := S.x y hy; omega⟩
        have hrow := rows_well h0 h1 hx W (by omega)
        exact ⟨(rowsC (envOf m x) x.Code).1, (rowsC (envOf m x) x.Code).2, hrow, f4 W, fun he => ⟨(rows_told W he).len, hkn, hf, (rows_told W he).sz⟩⟩
    · exact ⟨[], 90, e2 hkn hf, f2 hkn hf, by omega⟩
  · exact ⟨[], 40, e1 hkn, f1 hkn, by omega⟩
theorem one_both {m : api_Module} {k : Nat} {kn : List api_Cert} (hm : wf_api_Module m) (S : Small m) (hk : k < m.Methods.length) (hb : (nm m.Methods[k].Code).any (badN m.Methods.length) = false) (hkn : kn.length = m.Methods.length)
    {rows : List types_Row} (hr : types_Rows.f m k = some (rows, 0)) : ∃ c, cost_one.f m k kn = some c ∧ capstanref12_Of.f m k kn = some c := by
  obtain ⟨rows', e', g1, g2, g3⟩ := rows_both hm S hk
  rw [hr] at g1
  obtain ⟨rfl, rfl⟩ : rows = rows' ∧ (0 : Int) = e' := by simpa using g1
  obtain ⟨hlen, hK, hF, hsz⟩ := g3 rfl
  have hx := elt_lt hk
  have hxm := List.getElem_mem hk
  generalize m.Methods[k] = x at hx hxm hb hlen hK hF
  have hs := S.x x hxm
  have hwx : ∀ i ∈ x.Code, wf_api_Instr i := ((hm.2.2.1.2 x hxm).2.2.2.2.2.2.2).2
  have hl300 : x.Code.length ≤ 300 := hs.2.2
  have t1 := (prog_times (l := x.Code) (by omega) hwx).2.1 hK hF
  have t2 := (ref_times (l := x.Code) (by omega) hwx).2.1 hK hF
  have hH0 := H_nonneg rows rows.length
  have hH1 := H_le hsz rows.length
  have hn0 : IntKind.i64.wrap (IntKind.i64.wrap ((x.Args.length : Int) + (x.Locals.length : Int)) + H rows rows.length) = (x.Args.length : Int) + (x.Locals.length : Int) + H rows rows.length := by
    rw [wrap_id (x := (x.Args.length : Int) + (x.Locals.length : Int)) (by omega) (by omega), wrap_id (by omega) (by omega)]
  have main : ∀ (c pre : List api_Instr), x.Code = pre ++ c → (nm c).any (badN m.Methods.length) = false → ∀ f s h : Int, In f → In h → ∃ r, runF (cost_one.F m k kn) (.l1 x (tms x.Code, 0) (pre.length : Int) f s h x.Result x.Reads x.Fuel x.Stack x.Heap rows) = some r ∧ runF (capstanref12_Of.F m k kn) (.l1 x (tms x.Code, 0) (rows.map conv) (pre.length : Int) f s h) = some r := by
    intro c
    induction c with
    | nil =>
      intro pre he _ f s h _ _
      refine ⟨⟨f, s, h⟩, runF_end ?_, runF_end ?_⟩
      · dsimp only [cost_one.F]; rw [if_neg (by rw [he]; simp)]
      · dsimp only [capstanref12_Of.F]; rw [if_neg (by rw [he]; simp)]
    | cons i c ih =>
      intro pre he hb f s h hf hh
      have hpl : pre.length < x.Code.length := by rw [he]; simp
      have hi : x.Code[pre.length] = i := by simp [he]
      have htl : pre.length < (tms x.Code).length := by rw [tms_len]; exact hpl
      have ht := elt_lt htl
      have hti := tms_in x.Code pre.length htl
      generalize (tms x.Code)[pre.length] = t at ht hti
      have hrl : pre.length < rows.length := by omega
      have hrw := elt_lt hrl
      have hrc : elt (rows.map conv) (pre.length : Int) = some (conv rows[pre.length]) := by
        rw [elt_lt (by rw [List.length_map]; exact hrl), List.getElem_map]
      generalize rows[pre.length] = rw_ at hrw hrc
      have hnx : ((pre ++ [i]).length : Int) = IntKind.i64.wrap ((pre.length : Int) + 1) := by rw [wrap_succ pre.length (by omega), List.length_append]; rfl
      -- the heap of a new array
      have hheap : ∀ v : Int, v = (if i.Op = 22 then i.A else 0) → IntKind.i64.wrap (h + IntKind.i64.wrap (t * v)) = if i.Op = 22 then IntKind.i64.wrap (h + IntKind.i64.wrap (t * i.A)) else h := by
        intro v hv
        by_cases h22 : i.Op = 22
        · rw [if_pos h22] at hv ⊢; rw [hv]
        · rw [if_neg h22] at hv ⊢; rw [hv, Int.mul_zero, show IntKind.i64.wrap 0 = 0 from rfl, Int.add_zero, in_id hh]
      have hfuel : IntKind.i64.wrap (f + IntKind.i64.wrap (t * 1)) = IntKind.i64.wrap (f + t) := by rw [Int.mul_one, in_id hti]
      have hpstep : ∀ q, cost_one.j2 m k kn x (tms x.Code, 0) (pre.length : Int) f s h x.Result x.Reads x.Fuel x.Stack x.Heap rows i (if i.Op = 22 then i.A else 0) = q → runF (cost_one.F m k kn) (.l1 x (tms x.Code, 0) (pre.length : Int) f s h x.Result x.Reads x.Fuel x.Stack x.Heap rows) = q.bind fun z => match z with | .inl t => runF (cost_one.F m k kn) t | .inr r => some r := by
        intro q hq
        rw [runF_eq]
        dsimp only [cost_one.F]
        rw [if_pos (by omega), elt_lt hpl, hi]
        simp only [Option.bind_some]
        by_cases h22 : i.Op = 22
        · rw [if_pos h22] at hq ⊢; rw [hq]; cases q with
          | none => rfl
          | some z => cases z <;> rfl
        · rw [if_neg h22] at hq ⊢; rw [hq]; cases q with
          | none => rfl
          | some z => cases z <;> rfl
      have hrstep : ∀ q, capstanref12_Of.j2 m k kn x (tms x.Code, 0) (rows.map conv) (pre.length : Int) f s i t (if i.Op = 22 then IntKind.i64.wrap (h + IntKind.i64.wrap (t * i.A)) else h) = q → runF (capstanref12_Of.F m k kn) (.l1 x (tms x.Code, 0) (rows.map conv) (pre.length : Int) f s h) = q.bind fun z => match z with | .inl t => runF (capstanref12_Of.F m k kn) t | .inr r => some r := by
        intro q hq
        rw [runF_eq]
        dsimp only [capstanref12_Of.F]
        rw [if_pos (by omega), elt_lt hpl, hi]
        simp only [Option.bind_some]
        rw [ht]
        simp only [Option.bind_some]
        by_cases h22 : i.Op = 22
        · rw [if_pos h22] at hq ⊢
          rw [hq]; cases q with
          | none => rfl
          | some z => cases z <;> rfl
        · rw [if_neg h22] at hq ⊢; rw [hq]; cases q with
          | none => rfl
          | some z => cases z <;> rfl
      generalize hh' : (if i.Op = 22 then IntKind.i64.wrap (h + IntKind.i64.wrap (t * i.A)) else h) = h' at hrstep hheap
      have hih' : In h' := by rw [← hh']; split; exact in_wrap _; exact hh
      by_cases h30 : i.Op = 30
      · rw [nm_cons, if_pos h30, List.any_cons, Bool.or_eq_false_iff] at hb
        have hA := hb.1
        simp only [badN, Bool.or_eq_false_iff, decide_eq_false_iff_not] at hA
        have hA1 : i.A.toNat < m.Methods.length := by omega
        have e1 := elt_int (xs := m.Methods) (by omega) hA1
        have e2 := elt_int (xs := kn) (by omega) (by omega : i.A.toNat < kn.length)
        generalize m.Methods[i.A.toNat] = om at e1
        generalize kn[i.A.toNat] = oc at e2
        generalize hhigh : IntKind.i64.wrap (IntKind.i64.wrap (IntKind.i64.wrap (IntKind.i64.wrap ((x.Args.length : Int) + (x.Locals.length : Int)) + (rw_.Kinds.length : Int)) - (om.Args.length : Int)) + oc.Stack) = high
        obtain ⟨r, r1, r2⟩ := ih (pre ++ [i]) (by rw [he]; simp) hb.2 (IntKind.i64.wrap (IntKind.i64.wrap (f + t) + IntKind.i64.wrap (t * oc.Fuel))) (if rw_.Reached = true ∧ high > s then high else s) (IntKind.i64.wrap (h' + IntKind.i64.wrap (t * oc.Heap))) (in_wrap _) (in_wrap _)
        refine ⟨r, ?_, ?_⟩
        · rw [hpstep (some (.inl (.l1 x (tms x.Code, 0) ((pre ++ [i]).length : Int) (IntKind.i64.wrap (IntKind.i64.wrap (f + t) + IntKind.i64.wrap (t * oc.Fuel))) (if rw_.Reached = true ∧ high > s then high else s) (IntKind.i64.wrap (h' + IntKind.i64.wrap (t * oc.Heap))) x.Result x.Reads x.Fuel x.Stack x.Heap rows))) ?_]
          · exact r1
          · unfold cost_one.j2 cost_sum_often_s3.f
            rw [ht]
            simp only [Option.bind_some]
            rw [if_pos h30, e1]
            simp only [Option.bind_some]
            rw [e2]
            simp only [Option.bind_some]
            unfold cost_taker_call_s3.f cost_sum_often_s3.f cost_sum_high_s3.f
            simp only [Option.bind_some]
            rw [hrw]
            simp only [Option.bind_some]
            rw [hfuel, hheap _ rfl, hhigh]
            unfold cost_one.j1
            rw [hnx]
            by_cases hre : rw_.Reached = true
            · rw [if_pos hre]
              simp only [Option.bind_some, hre, true_and]
            · rw [if_neg hre]
              simp only [Option.bind_some]
              rw [if_neg (fun h => hre h.1)]
        · rw [hrstep (some (.inl (.l1 x (tms x.Code, 0) (rows.map conv) ((pre ++ [i]).length : Int) (IntKind.i64.wrap (IntKind.i64.wrap (f + t) + IntKind.i64.wrap (t * oc.Fuel))) (if rw_.Reached = true ∧ high > s then high else s) (IntKind.i64.wrap (h' + IntKind.i64.wrap (t * oc.Heap)))))) ?_]
          · exact r2
          · unfold capstanref12_Of.j2 capstanref12_Of.j1
            rw [if_neg (by simpa using h30), e2]
            simp only [Option.bind_some]
            rw [ht]
            simp only [Option.bind_some]
            rw [hrc]
            simp only [Option.bind_some]
            rw [e1]
            simp only [Option.bind_some]
            have hcond : ((conv rw_).Reached && decide (IntKind.i64.wrap (IntKind.i64.wrap (IntKind.i64.wrap (IntKind.i64.wrap ((x.Args.length : Int) + (x.Locals.length : Int)) + ((conv rw_).Kinds.length : Int)) - (om.Args.length : Int)) + oc.Stack) > s)) = true ↔ (rw_.Reached = true ∧ high > s) := by
              rw [Bool.and_eq_true, decide_eq_true_eq]; dsimp only [conv]; rw [hhigh]
            by_cases hc : rw_.Reached = true ∧ high > s
            · rw [if_pos (hcond.2 hc), if_pos hc, ← hnx]
              dsimp only [conv]; rw [hhigh]
            · rw [if_neg (fun h => hc (hcond.1 h)), if_neg hc, ← hnx]
      · rw [nm_cons, if_neg h30] at hb
        obtain ⟨r, r1, r2⟩ := ih (pre ++ [i]) (by rw [he]; simp) hb (IntKind.i64.wrap (f + t)) s h' (in_wrap _) hih'
        refine ⟨r, ?_, ?_⟩
        · rw [hpstep (some (.inl (.l1 x (tms x.Code, 0) ((pre ++ [i]).length : Int) (IntKind.i64.wrap (f + t)) s h' x.Result x.Reads x.Fuel x.Stack x.Heap rows))) ?_]
          · exact r1
          · unfold cost_one.j2 cost_sum_often_s3.f
            rw [ht]
            simp only [Option.bind_some]
            rw [if_neg h30, hfuel, hheap _ rfl]
            unfold cost_one.j1
            rw [hnx]
        · rw [hrstep (some (.inl (.l1 x (tms x.Code, 0) (rows.map conv) ((pre ++ [i]).length : Int) (IntKind.i64.wrap (f + t)) s h'))) ?_]
          · exact r2
          · unfold capstanref12_Of.j2 capstanref12_Of.j1
            rw [if_pos (by simpa using h30), ← hnx]
  obtain ⟨r, r1, r2⟩ := main x.Code [] rfl hb 0 ((x.Args.length : Int) + (x.Locals.length : Int) + H rows rows.length) 0 ⟨by omega, by omega⟩ ⟨by omega, by omega⟩
  refine ⟨r, ?_, ?_⟩
  · unfold cost_one.f
    rw [← r1]
    refine runF_step ?_
    dsimp only [cost_one.F]
    rw [hx]
    simp only [Option.bind_some]
    rw [hr]
    simp only [Option.bind_some]
    rw [t1]
    simp only [Option.bind_some]
    rw [height_eq (by omega)]
    simp only [Option.bind_some]
    unfold cost_sum_high_s2.f
    simp only [Option.bind_some]
    rw [hn0]
    congr 2
    by_cases h0 : (x.Args.length : Int) + (x.Locals.length : Int) + H rows rows.length > 0
    · rw [if_pos h0]; rfl
    · rw [if_neg h0, show (x.Args.length : Int) + (x.Locals.length : Int) + H rows rows.length = 0 by omega]; rfl
  · unfold capstanref12_Of.f
    rw [← r2]
    refine runF_step ?_
    dsimp only [capstanref12_Of.F]
    rw [hx]
    simp only [Option.bind_some]
    rw [g2]
    simp only [Option.bind_some]
    rw [t2]
    simp only [Option.bind_some]
    rw [ref_height (by omega)]
    simp only [Option.bind_some]
    rw [hn0]; rfl
end CostPure
namespace CostPure
open FlowPure TypesPure CallsPure
theorem ordN_ok {W : List (List Int)} : ∀ (f : Nat) (out : List Int), (∀ a ∈ out, 0 ≤ a ∧ a < W.length) → (ordN W f out).2 = 0 → (ordN W f out).1.length = out.length + f ∧ ∀ a ∈ (ordN W f out).1, 0 ≤ a ∧ a < W.length
  | 0, out, h, _ => ⟨rfl, h⟩
  | f + 1, out, h, h0 => by
    unfold ordN at h0 ⊢
    cases hn : nextOf W out with
    | none => rw [hn] at h0; simp at h0
    | some k =>
      rw [hn] at h0
      have hk : k < W.length := List.mem_range.1 (List.mem_of_find?_eq_some hn)
      obtain ⟨i1, i2⟩ := ordN_ok f (out ++ [(k : Int)]) (fun a ha => by
        rcases List.mem_append.1 ha with h1 | h1
        · exact h a h1
        · rw [List.mem_singleton] at h1; subst h1; omega) h0
      refine ⟨?_, i2⟩
      dsimp only; rw [i1]; simp; omega
theorem fits_ite (b y : Bool) : (if b = true then some y else some false) = some (b && y) := by cases b <;> rfl
theorem fits_both (c : api_Cert) (x : api_Method) : ∃ b, cost_Fits.f c x = some b ∧ capstanref12_Fits.f c x = some b := by
  unfold cost_Fits.f cost_within.f capstanref12_Fits.f
  simp only [Option.bind_some, fits_ite]
  refine ⟨_, rfl, ?_⟩
  split
  · rename_i h
    simp at h ⊢
    omega
  · split
    · rename_i h1 h2
      simp at h1 h2 ⊢
      omega
    · rename_i h1 h2
      simp at h1 h2 ⊢
      rw [Bool.eq_iff_iff]
      simp
      omega
theorem costs_both {m : api_Module} (hm : wf_api_Module m) (S : Small m) : ∃ L e, cost_Costs.f m = some (L, e) ∧ capstanref12_Costs.f m = some (L, e) ∧ L.length ≤ 40 := by
  have hM := S.M
  have F : Fit m := ⟨S.M, fun x hx => (S.x x hx).2.2⟩
  have p0 := prog_order F
  have r0 := ref_order F
  unfold cost_Costs.f capstanref12_Costs.f
  by_cases hb : anyBad m = true
  · rw [if_pos hb] at p0 r0
    refine ⟨[], 2, runF_end ?_, runF_end ?_, by simp⟩
    · dsimp only [cost_Costs.F]; rw [p0]; simp only [Option.bind_some]; rw [if_pos (by simp)]
    · dsimp only [capstanref12_Costs.F]; rw [r0]; simp only [Option.bind_some]; rw [if_pos (by simp)]
  · rw [if_neg hb] at p0 r0
    have hok := ordN_ok (W := whoms m) m.Methods.length [] (by simp)
    have hWl : (whoms m).length = m.Methods.length := by simp [whoms]
    generalize ordN (whoms m) m.Methods.length [] = oe at p0 r0 hok
    obtain ⟨o, e⟩ := oe
    by_cases he : e = 0
    · subst he
      obtain ⟨ho1, ho2⟩ := hok rfl
      have hol : o.length = m.Methods.length := by simpa using ho1
      have A : runF (cost_Costs.F m) .start = runF (cost_Costs.F m) (.l1 (o, 0) ((0 : Nat) : Int)) := runF_step (by dsimp only [cost_Costs.F]; rw [p0]; simp only [Option.bind_some]; rw [if_neg (by simp)]; rfl)
      have B : runF (capstanref12_Costs.F m) .start = runF (capstanref12_Costs.F m) (.l1 (o, 0) ((0 : Nat) : Int)) := runF_step (by dsimp only [capstanref12_Costs.F]; rw [r0]; simp only [Option.bind_some]; rw [if_neg (by simp)]; rfl)
      rw [A, B]
      -- the certificates, one by one
      have go : (∀ k (hk : k < m.Methods.length), ∃ rows, types_Rows.f m k = some (rows, 0)) → ∀ (c pre : List Int) (l : List api_Cert), o = pre ++ c → l.length = m.Methods.length → ∃ L e, runF (cost_Costs.F m) (.l2 (o, 0) l (pre.length : Int)) = some (L, e) ∧ runF (capstanref12_Costs.F m) (.l2 (o, 0) l (pre.length : Int)) = some (L, e) ∧ L.length ≤ 40 := by
        intro hrows c
        induction c with
        | nil =>
          intro pre l hp hl
          refine ⟨l, 0, runF_end ?_, runF_end ?_, by omega⟩
          · dsimp only [cost_Costs.F]; rw [if_neg (by rw [hp]; simp)]
          · dsimp only [capstanref12_Costs.F]; rw [if_neg (by rw [hp]; simp)]
        | cons a c ih =>
          intro pre l hp hl
          have hpl : pre.length < o.length := by rw [hp]; simp
          have hi : o[pre.length] = a := by simp [hp]
          obtain ⟨a0, a1⟩ := ho2 a (by rw [hp]; simp)
          have hk : a.toNat < m.Methods.length := by omega
          have hak : ((a.toNat : Nat) : Int) = a := by omega
          obtain ⟨rows, hr⟩ := hrows a.toNat hk
          have hbk : (nm m.Methods[a.toNat].Code).any (badN m.Methods.length) = false := by
            have := List.any_eq_false.1 (show (m.Methods.any fun x => (nm x.Code).any (badN m.Methods.length)) = false by simpa [anyBad] using hb) _ (List.getElem_mem hk)
            simpa using this
          obtain ⟨ct, c1, c2⟩ := one_both (kn := l) hm S hk hbk hl hr
          rw [hak] at c1 c2
          obtain ⟨fb, f1, f2⟩ := fits_both ct m.Methods[a.toNat]
          have e1 := elt_int (xs := l) a0 (by omega)
          have e2 : elt (l.set a.toNat ct) a = some ct := by
            rw [elt_int (xs := l.set a.toNat ct) a0 (by rw [List.length_set]; omega)]; simp
          have e3 := elt_int (xs := m.Methods) a0 hk
          cases fb with
          | false =>
            refine ⟨[], 120, runF_end ?_, runF_end ?_, by simp⟩
            · dsimp only [cost_Costs.F]
              rw [if_pos (by omega), elt_lt hpl, hi]; simp only [Option.bind_some]
              rw [c1]; simp only [Option.bind_some]
              rw [e1]; simp only [Option.bind_some]
              rw [e2]; simp only [Option.bind_some]
              rw [e3]; simp only [Option.bind_some]
              rw [f1]; simp only [Option.bind_some]
              rw [if_pos (by simp)]
            · dsimp only [capstanref12_Costs.F]
              rw [if_pos (by omega), elt_lt hpl, hi]; simp only [Option.bind_some]
              rw [c2]; simp only [Option.bind_some]
              rw [e1]; simp only [Option.bind_some]
              rw [e2]; simp only [Option.bind_some]
              rw [e3]; simp only [Option.bind_some]
              rw [f2]; simp only [Option.bind_some]
              rw [if_pos (by simp)]
          | true =>
            obtain ⟨L, e, g1, g2, g3⟩ := ih (pre ++ [a]) (l.set a.toNat ct) (by rw [hp]; simp) (by rw [List.length_set]; exact hl)
            refine ⟨L, e, ?_, ?_, g3⟩
            · rw [← g1]
              refine runF_step ?_
              dsimp only [cost_Costs.F]
              rw [if_pos (by omega), elt_lt hpl, hi]; simp only [Option.bind_some]
              rw [c1]; simp only [Option.bind_some]
              rw [e1]; simp only [Option.bind_some]
              rw [e2]; simp only [Option.bind_some]
              rw [e3]; simp only [Option.bind_some]
              rw [f1]; simp only [Option.bind_some]
              rw [if_neg (by simp), wrap_succ pre.length (by omega), List.length_append]; rfl
            · rw [← g2]
              refine runF_step ?_
              dsimp only [capstanref12_Costs.F]
              rw [if_pos (by omega), elt_lt hpl, hi]; simp only [Option.bind_some]
              rw [c2]; simp only [Option.bind_some]
              rw [e1]; simp only [Option.bind_some]
              rw [e2]; simp only [Option.bind_some]
              rw [e3]; simp only [Option.bind_some]
              rw [f2]; simp only [Option.bind_some]
              rw [if_neg (by simp), wrap_succ pre.length (by omega), List.length_append]; rfl
      -- are all rows well?
      have scan : ∀ (j k : Nat), k + j = m.Methods.length → (∀ q (hq : q < k), ∃ rows, types_Rows.f m q = some (rows, 0)) → ∃ L e, runF (cost_Costs.F m) (.l1 (o, 0) (k : Int)) = some (L, e) ∧ runF (capstanref12_Costs.F m) (.l1 (o, 0) (k : Int)) = some (L, e) ∧ L.length ≤ 40 := by
        intro j
        induction j with
        | zero =>
          intro k hk hq
          obtain ⟨L, e, g1, g2, g3⟩ := go (fun q hq' => hq q (by omega)) o [] (List.replicate o.length api_Cert.zero) rfl (by rw [List.length_replicate]; simpa using ho1)
          refine ⟨L, e, ?_, ?_, g3⟩
          · rw [← g1]
            refine runF_step ?_
            dsimp only [cost_Costs.F]
            rw [if_neg (by omega), if_pos (by have : o.length = m.Methods.length := by simpa using ho1
                                              omega)]
            simp
          · rw [← g2]
            refine runF_step ?_
            dsimp only [capstanref12_Costs.F]
            rw [if_neg (by omega), if_pos (by have : o.length = m.Methods.length := by simpa using ho1
                                              omega)]
            simp
        | succ j ihj =>
          intro k hk hq
          have hkl : k < m.Methods.length := by omega
          obtain ⟨rows, e, g1, g2, -⟩ := rows_both hm S hkl
          by_cases he : e = 0
          · subst he
            obtain ⟨L, e, i1, i2, i3⟩ := ihj (k + 1) (by omega) (fun q hq' => by
              by_cases hqk : q = k
              · subst hqk; exact ⟨rows, g1⟩
              · exact hq q (by omega))
            refine ⟨L, e, ?_, ?_, i3⟩
            · rw [← i1]
              refine runF_step ?_
              dsimp only [cost_Costs.F]
              unfold types_Check.f
              rw [if_pos (by omega), g1]; simp only [Option.bind_some]
              rw [if_neg (by simp), wrap_succ k (by omega)]
            · rw [← i2]
              refine runF_step ?_
              dsimp only [capstanref12_Costs.F]
              rw [if_pos (by omega), g2]; simp only [Option.bind_some]
              rw [if_neg (by simp), wrap_succ k (by omega)]
          · refine ⟨[], e, runF_end ?_, runF_end ?_, by simp⟩
            · dsimp only [cost_Costs.F]
              unfold types_Check.f
              rw [if_pos (by omega), g1]; simp only [Option.bind_some]
              rw [if_pos he]
            · dsimp only [capstanref12_Costs.F]
              rw [if_pos (by omega), g2]; simp only [Option.bind_some]
              rw [if_pos he]
      exact scan m.Methods.length 0 (by omega) (fun q hq => by omega)
    · refine ⟨[], e, runF_end ?_, runF_end ?_, by simp⟩
      · dsimp only [cost_Costs.F]; rw [p0]; simp only [Option.bind_some]; rw [if_pos he]
      · dsimp only [capstanref12_Costs.F]; rw [r0]; simp only [Option.bind_some]; rw [if_pos he]
theorem certs_refl {l : List api_Cert} (h : l.length < 4611686018427387904) : capstanref12_Same.f l l = some true := by
  unfold capstanref12_Same.f
  rw [runF_step (t := .l1 ((0 : Nat) : Int)) (by dsimp only [capstanref12_Same.F]; rw [if_neg (by simp)]; rfl)]
  refine (runF_up (F := capstanref12_Same.F l l) (n := l.length) (fun k => .l1 (k : Int)) (fun k hk => ?_)).trans (runF_end ?_)
  · dsimp only [capstanref12_Same.F]
    rw [if_pos (by omega), elt_lt hk]
    simp only [Option.bind_some]
    rw [if_neg (by simp), wrap_succ k (by omega)]
  · dsimp only [capstanref12_Same.F]
    rw [if_neg (by omega)]
end CostPure
namespace TypesPure
open FlowPure
theorem values_refl {l : List api_Value} (h : l.length < 4611686018427387904) : capstanref03_Same.f l l = some true := by
  unfold capstanref03_Same.f
  rw [runF_step (t := .l1 ((0 : Nat) : Int)) (by dsimp only [capstanref03_Same.F]; rw [if_neg (by simp)]; rfl)]
  refine (runF_up (F := capstanref03_Same.F l l) (n := l.length) (fun k => .l1 (k : Int)) (fun k hk => ?_)).trans (runF_end ?_)
  · dsimp only [capstanref03_Same.F]
    rw [if_pos (by omega), elt_lt hk]
    simp only [Option.bind_some]
    rw [if_neg (by simp), wrap_succ k (by omega)]
  · dsimp only [capstanref03_Same.F]
    rw [if_neg (by omega)]
theorem code_refl {l : List api_Instr} (h : l.length < 4611686018427387904) : capstanref05_Same.f l l = some true := by
  unfold capstanref05_Same.f
  rw [runF_step (t := .l1 ((0 : Nat) : Int)) (by dsimp only [capstanref05_Same.F]; rw [if_neg (by simp)]; rfl)]
  refine (runF_up (F := capstanref05_Same.F l l) (n := l.length) (fun k => .l1 (k : Int)) (fun k hk => ?_)).trans (runF_end ?_)
  · dsimp only [capstanref05_Same.F]
    rw [if_pos (by omega), elt_lt hk]
    simp only [Option.bind_some]
    rw [if_neg (by simp), wrap_succ k (by omega)]
  · dsimp only [capstanref05_Same.F]
    rw [if_neg (by omega)]
theorem module_refl {m : api_Module} (S : Small m) : capstanref08_Same.f m m = some true := by
  have h1 := S.G
  have h2 := S.P
  have h3 := S.M
  unfold capstanref08_Same.f
  rw [runF_step (t := .l1 ((0 : Nat) : Int)) (by
    dsimp only [capstanref08_Same.F]
    rw [if_neg (by simp), values_refl (by omega)]
    simp only [Option.bind_some]
    rw [if_neg (by simp), values_refl (by omega)]
    simp only [Option.bind_some]
    rw [if_neg (by simp)]; rfl)]
  refine (runF_up (F := capstanref08_Same.F m m) (n := m.Methods.length) (fun k => .l1 (k : Int)) (fun k hk => ?_)).trans (runF_end ?_)
  · have hs := S.x _ (List.getElem_mem hk)
    dsimp only [capstanref08_Same.F]
    rw [if_pos (by omega), elt_lt hk]
    simp only [Option.bind_some]
    unfold capstanref07_Same.f
    rw [kinds_same (by omega)]
    simp only [Option.bind_some]
    rw [if_pos (by simp), kinds_same (by omega)]
    simp only [Option.bind_some]
    rw [if_neg (by simp), code_refl (by omega)]
    simp only [Option.bind_some]
    unfold capstanref08_Same.j1
    rw [if_neg (by simp), wrap_succ k (by omega)]
  · dsimp only [capstanref08_Same.F]
    rw [if_neg (by omega)]
end TypesPure
namespace CostPure
open FlowPure TypesPure CallsPure
theorem law_tells {m : api_Module} (hm : wf_api_Module m) : capstanlaw12_CostTells.f m = some true := by
  unfold capstanlaw12_CostTells.f
  by_cases hg : greatB m = true
  · rw [runF_end]
    dsimp only [capstanlaw12_CostTells.F]
    rw [great_eq, hg]; rfl
  · have S := small_of (by simpa using hg)
    obtain ⟨L, e, hp, hr, hL⟩ := costs_both hm S
    have hc : cost_Check.f m = some e := by unfold cost_Check.f; rw [hp]; rfl
    -- what was told is written over
    have over1 : ∀ (c pre : List api_Cert), L.length = pre.length + c.length → runF (capstanlaw12_CostTells.F m) (.l1 m (L, e) (pre ++ c) (pre.length : Int)) = some true := by
      intro c
      induction c with
      | nil =>
        intro pre hl
        have over2 : ∀ (c pre : List api_Cert), L.length = pre.length + c.length → runF (capstanlaw12_CostTells.F m) (.l2 m (L, e) (pre ++ c) (pre.length : Int)) = some true := by
          intro c
          induction c with
          | nil =>
            intro pre hl
            refine runF_end ?_
            dsimp only [capstanlaw12_CostTells.F]; rw [if_neg (by simp)]
          | cons x c ih =>
            intro pre hl
            rw [← ih (pre ++ [⟨-5, x.Stack, x.Heap⟩]) (by simp at hl ⊢; omega)]
            refine runF_step ?_
            have hpl : pre.length < (pre ++ x :: c).length := by simp
            dsimp only [capstanlaw12_CostTells.F]
            rw [if_pos (by simp; omega), elt_lt hpl]
            simp only [Option.bind_some]
            rw [wrap_succ pre.length (by simp at hl; omega)]
            simp
        rw [runF_step (t := .l2 m (L, e) ([] ++ L) ((([] : List api_Cert).length : Nat) : Int)) (by
          dsimp only [capstanlaw12_CostTells.F]
          rw [if_neg (by simp), hp]
          simp only [Option.bind_some]
          rw [if_neg (by simp), hc]
          simp only [Option.bind_some]
          rw [if_neg (by simp), certs_refl (by omega)]
          simp only [Option.bind_some]
          rw [if_neg (by simp), module_refl S]
          simp only [Option.bind_some]
          rw [if_neg (by simp)]; rfl), over2 L [] (by simp)]
      | cons x c ih =>
        intro pre hl
        rw [← ih (pre ++ [⟨-5, x.Stack, x.Heap⟩]) (by simp at hl ⊢; omega)]
        refine runF_step ?_
        have hpl : pre.length < (pre ++ x :: c).length := by simp
        dsimp only [capstanlaw12_CostTells.F]
        rw [if_pos (by simp; omega), elt_lt hpl]
        simp only [Option.bind_some]
        rw [wrap_succ pre.length (by simp at hl; omega)]
        simp
    rw [runF_step (t := .l1 m (L, e) ([] ++ L) ((([] : List api_Cert).length : Nat) : Int)) (by
      dsimp only [capstanlaw12_CostTells.F]
      rw [great_eq]
      simp only [Option.bind_some]
      rw [if_neg hg, copy_eq S]
      simp only [Option.bind_some]
      rw [hr]
      simp only [Option.bind_some]
      rw [hp]
      simp only [Option.bind_some]
      rw [if_neg (by simp), hc]
      simp only [Option.bind_some]
      rw [if_neg (by simp), certs_refl (by omega)]
      simp only [Option.bind_some]
      rw [if_neg (by simp), module_refl S]
      simp only [Option.bind_some]
      rw [if_neg (by simp)]; rfl), over1 L [] (by simp)]
end CostPure
theorem costTells_card : Rows.CostTellsCardSaid := costTells.card fun x0 h => CostPure.law_tells h
#print axioms costTells_card
end Go.Proofs.YtmhkokkphgchlaaGreatDoor
