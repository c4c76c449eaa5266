/- Of any method of any module the rows, or the error, are those that the chapter says; it stays, and what is told is the caller's own (the law TypesTells): for every input, with no condition but what the card ties to the program (what op's table of bounds holds). -/
import Derived.Test.YtpbmkaenleedoaaGreatDoorRTypesTells
set_option linter.unusedVariables false
set_option linter.unusedSimpArgs false
namespace Go.Proofs.YtpbmkaenleedoaaGreatDoor
open Go.Q
namespace FlowPure
inductive Kn | loop | again (a : Nat) | other
deriving DecidableEq
def opn (K : Nat → Kn) : Nat → List Nat
  | 0 => []
  | i + 1 => match K i with
    | .loop => i :: opn K i
    | .again _ => (opn K i).tail
    | .other => opn K i
def good (K : Nat → Kn) (i : Nat) : Prop := match K i with
  | .loop => (opn K i).length < 4
  | .again a => (opn K i).head? = some a
  | .other => True
theorem opn_mem (K : Nat → Kn) : ∀ (i : Nat), (∀ j, j < i → good K j) →
    (∀ f, f ∈ opn K i ↔ (K f = .loop ∧ f < i ∧ ∀ j, f < j → j < i → K j ≠ .again f)) ∧ (opn K i).Pairwise (· > ·) ∧ (opn K i).length ≤ 4
  | 0, _ => by simp [opn]
  | i + 1, hg => by
    obtain ⟨h1, h2, h3⟩ := opn_mem K i (fun j hj => hg j (by omega))
    have gi := hg i (by omega)
    unfold good at gi
    unfold opn
    cases hk : K i with
    | loop =>
      rw [hk] at gi
      simp only at gi ⊢
      refine ⟨fun f => ?_, ?_, by simp; omega⟩
      · rw [List.mem_cons, h1]
        constructor
        · rintro (rfl | ⟨a, b, c⟩)
          · exact ⟨hk, by omega, fun j h1 h2 => by omega⟩
          · refine ⟨a, by omega, fun j q1 q2 => ?_⟩
            by_cases e : j = i
            · subst e; rw [hk]; exact fun z => Kn.noConfusion z
            · exact c j q1 (by omega)
        · rintro ⟨a, b, c⟩
          by_cases e : f = i
          · exact .inl e
          · exact .inr ⟨a, by omega, fun j q1 q2 => c j q1 (by omega)⟩
      · rw [List.pairwise_cons]
        exact ⟨fun x hx => ((h1 x).1 hx).2.1, h2⟩
    | again a =>
      rw [hk] at gi
      simp only at gi ⊢
      cases ho : opn K i with
      | nil => rw [ho] at gi; cases gi
      | cons b T =>
        rw [ho] at gi h1 h2 h3
        simp at gi
        subst gi
        rw [List.pairwise_cons] at h2
        refine ⟨fun f => ?_, h2.2, by simp at h3; simp; omega⟩
        simp only [List.tail_cons]
        constructor
        · intro hf
          obtain ⟨p, q, r⟩ := (h1 f).1 (List.mem_cons_of_mem _ hf)
          refine ⟨p, by omega, fun j q1 q2 => ?_⟩
          by_cases e : j = i
          · subst e; rw [hk]; intro z; cases z
            have := h2.1 _ hf; omega
          · exact r j q1 (by omega)
        · rintro ⟨p, q, r⟩
          have hne : f ≠ i := by rintro rfl; rw [hk] at p; cases p
          have := (h1 f).2 ⟨p, by omega, fun j q1 q2 => r j q1 (by omega)⟩
          rcases List.mem_cons.1 this with e | e
          · subst e; exact absurd hk (r i (by omega) (by omega))
          · exact e
    | other =>
      simp only
      refine ⟨fun f => ?_, h2, h3⟩
      rw [h1]
      constructor
      · rintro ⟨a, b, c⟩
        refine ⟨a, by omega, fun j q1 q2 => ?_⟩
        by_cases e : j = i
        · subst e; rw [hk]; exact fun z => Kn.noConfusion z
        · exact c j q1 (by omega)
      · rintro ⟨a, b, c⟩
        have hne : f ≠ i := by rintro rfl; rw [hk] at a; cases a
        exact ⟨a, by omega, fun j q1 q2 => c j q1 (by omega)⟩
theorem nodup_len {α : Type} [DecidableEq α] : ∀ (l m : List α), l.Nodup → (∀ x ∈ l, x ∈ m) → l.length ≤ m.length
  | [], _, _, _ => by simp
  | x :: l, m, hn, hs => by
    rw [List.nodup_cons] at hn
    have hx := hs x (by simp)
    have := nodup_len l (m.erase x) hn.2 (fun y hy => (List.mem_erase_of_ne (by rintro rfl; exact hn.1 hy)).2 (hs y (by simp [hy])))
    rw [List.length_erase_of_mem hx] at this
    have : 0 < m.length := List.length_pos_of_mem hx
    simp; omega
def Pr (K : Nat → Kn) (n f t : Nat) : Prop := f < n ∧ t < n ∧ K f = .loop ∧ K t = .again f
def Ok1 (K : Nat → Kn) (n : Nat) : Prop := ∀ f, f < n → K f = .loop → ∃ t, Pr K n f t ∧ f ≤ t ∧ ∀ t', Pr K n f t' → t' = t
def Ok2 (K : Nat → Kn) (n : Nat) : Prop := ∀ t a, t < n → K t = .again a → a < n ∧ K a = .loop
def Nest (K : Nat → Kn) (n : Nat) : Prop := ∀ f t g u, Pr K n f t → Pr K n g u → f < g → g < t → u ≤ t
def Deep (n : Nat) (R : List (Nat × Nat)) : Prop := ∀ a, a < n → (R.filter fun x => decide (x.1 < a) && decide (a ≤ x.2)).length ≤ 4
def Run (K : Nat → Kn) (n : Nat) : Prop := (∀ i, i < n → good K i) ∧ opn K n = []

theorem again_mem {K : Nat → Kn} {n t f : Nat} (h : ∀ i, i < n → good K i) (ht : t < n) (hk : K t = .again f) : ∃ T, opn K t = f :: T := by
  have := h t ht
  unfold good at this
  rw [hk] at this
  simp only at this
  cases ho : opn K t with
  | nil => rw [ho] at this; cases this
  | cons b T => rw [ho] at this; simp at this; subst this; exact ⟨T, rfl⟩
theorem run_pairs {K : Nat → Kn} {n : Nat} (h : Run K n) : Ok1 K n ∧ Ok2 K n := by
  obtain ⟨hg, hn⟩ := h
  have mem := fun i (hi : i ≤ n) => opn_mem K i (fun j hj => hg j (by omega))
  have back : ∀ t a, t < n → K t = .again a → K a = .loop ∧ a < t ∧ ∀ j, a < j → j < t → K j ≠ .again a := by
    intro t a ht hk
    obtain ⟨T, hT⟩ := again_mem hg ht hk
    exact ((mem t (by omega)).1 a).1 (by rw [hT]; simp)
  refine ⟨fun f hf hk => ?_, fun t a ht hk => ?_⟩
  · have : ∃ t, f < t ∧ t < n ∧ K t = .again f := by
      refine Classical.byContradiction fun hc => ?_
      have : f ∈ opn K n := ((mem n (Nat.le_refl _)).1 f).2 ⟨hk, hf, fun j q1 q2 e => hc ⟨j, q1, q2, e⟩⟩
      rw [hn] at this; cases this
    obtain ⟨t, h1, h2, h3⟩ := this
    refine ⟨t, ⟨hf, h2, hk, h3⟩, by omega, fun t' ⟨_, p2, _, p4⟩ => ?_⟩
    obtain ⟨-, q2, q3⟩ := back t' f p2 p4
    obtain ⟨-, r2, r3⟩ := back t f h2 h3
    rcases Nat.lt_trichotomy t t' with z | z | z
    · exact absurd h3 (q3 t h1 z)
    · exact z.symm
    · exact absurd p4 (r3 t' q2 z)
  · obtain ⟨a1, a2, -⟩ := back t a ht hk
    exact ⟨by omega, a1⟩
theorem opn_iff {K : Nat → Kn} {n i : Nat} (hi : i ≤ n) (hg : ∀ j, j < i → good K j) (h1 : Ok1 K n) (f : Nat) : f ∈ opn K i ↔ ∃ t, Pr K n f t ∧ f < i ∧ i ≤ t := by
  rw [(opn_mem K i hg).1]
  constructor
  · rintro ⟨a, b, c⟩
    obtain ⟨t, h, hl, -⟩ := h1 f (by omega) a
    refine ⟨t, h, b, ?_⟩
    rcases Nat.lt_or_ge t i with z | z
    · have : f ≠ t := by rintro rfl; have := h.2.2; rw [this.1] at this; exact Kn.noConfusion this.2
      exact absurd h.2.2.2 (c t (by omega) z)
    · exact z
  · rintro ⟨t, h, b, c⟩
    refine ⟨h.2.2.1, b, fun j q1 q2 e => ?_⟩
    obtain ⟨t0, _, _, hu⟩ := h1 f h.1 h.2.2.1
    have e1 := hu t h
    have e2 := hu j ⟨h.1, by omega, h.2.2.1, e⟩
    omega
theorem run_iff {K : Nat → Kn} {n : Nat} {R : List (Nat × Nat)} (hR : Ok1 K n → (∀ x, x ∈ R ↔ Pr K n x.1 x.2) ∧ (R.map (·.1)).Nodup) : Run K n ↔ Ok1 K n ∧ Ok2 K n ∧ Nest K n ∧ Deep n R := by
  constructor
  · intro h
    obtain ⟨h1, h2⟩ := run_pairs h
    obtain ⟨hg, hn⟩ := h
    obtain ⟨hm, hnd⟩ := hR h1
    refine ⟨h1, h2, fun f t g u p q hfg hgt => ?_, fun a ha => ?_⟩
    · rcases Nat.lt_or_ge t u with z | z
      · have mg : g ∈ opn K t := (opn_iff (n := n) (by have := p.2.1; omega) (fun j hj => hg j (by have := p.2.1; omega)) h1 g).2 ⟨u, q, hgt, by omega⟩
        obtain ⟨T, hT⟩ := again_mem hg p.2.1 p.2.2.2
        have pw := (opn_mem K t (fun j hj => hg j (by have := p.2.1; omega))).2.1
        rw [hT] at mg pw
        rw [List.pairwise_cons] at pw
        rcases List.mem_cons.1 mg with e | e
        · omega
        · have := pw.1 _ e; omega
      · exact z
    · have l4 := (opn_mem K a (fun j hj => hg j (by omega))).2.2
      have : ((R.filter fun x => decide (x.1 < a) && decide (a ≤ x.2)).map (·.1)).length ≤ (opn K a).length := by
        refine nodup_len _ _ (List.Nodup.sublist (List.Sublist.map _ List.filter_sublist) hnd) (fun f hf => ?_)
        rw [List.mem_map] at hf
        obtain ⟨x, hx, rfl⟩ := hf
        rw [List.mem_filter] at hx
        simp only [Bool.and_eq_true, decide_eq_true_eq] at hx
        exact (opn_iff (n := n) (by omega) (fun j hj => hg j (by omega)) h1 _).2 ⟨x.2, (hm x).1 hx.1, hx.2.1, hx.2.2⟩
      rw [List.length_map] at this
      omega
  · rintro ⟨h1, h2, h3, h4⟩
    obtain ⟨hm, hnd⟩ := hR h1
    have hg : ∀ i, i ≤ n → ∀ j, j < i → good K j := by
      intro i
      induction i with
      | zero => intro _ j hj; omega
      | succ i ih =>
        intro hi j hj
        have ih := ih (by omega)
        by_cases e : j = i
        · subst e
          unfold good
          obtain ⟨m1, m2, m3⟩ := opn_mem K j ih
          cases hk : K j with
          | loop =>
            simp only
            obtain ⟨t, p, hl, -⟩ := h1 j (by omega) hk
            have hne : j ≠ t := by rintro rfl; rw [p.2.2.1] at hk; have := p.2.2.2; rw [p.2.2.1] at this; exact Kn.noConfusion this
            have d := h4 (j + 1) (by have := p.2.1; omega)
            have : (j :: opn K j).length ≤ ((R.filter fun x => decide (x.1 < j + 1) && decide (j + 1 ≤ x.2)).map (·.1)).length := by
              refine nodup_len _ _ ?_ (fun f hf => ?_)
              · rw [List.nodup_cons]
                exact ⟨fun hc => by have := ((m1 j).1 hc).2.1; omega, m2.imp (fun h => by omega)⟩
              · rw [List.mem_map]
                rcases List.mem_cons.1 hf with e | e
                · subst e
                  exact ⟨(f, t), List.mem_filter.2 ⟨(hm _).2 p, by simp; omega⟩, rfl⟩
                · obtain ⟨u, q, q1, q2⟩ := (opn_iff (n := n) (by omega) ih h1 f).1 e
                  have : u ≠ j := by rintro rfl; have := q.2.2.2; rw [hk] at this; exact Kn.noConfusion this
                  exact ⟨(f, u), List.mem_filter.2 ⟨(hm _).2 q, by simp; omega⟩, rfl⟩
            rw [List.length_map, List.length_cons] at this
            omega
          | again a =>
            simp only
            obtain ⟨ha, hl⟩ := h2 j a (by omega) hk
            obtain ⟨t, p, q, hu⟩ := h1 a ha hl
            have e := hu j ⟨ha, by omega, hl, hk⟩
            subst e
            have hne : a ≠ j := by rintro rfl; rw [hl] at hk; exact Kn.noConfusion hk
            have ma : a ∈ opn K j := (opn_iff (n := n) (by omega) ih h1 a).2 ⟨j, p, by omega, by omega⟩
            cases ho : opn K j with
            | nil => rw [ho] at ma; cases ma
            | cons b T =>
              rw [ho] at ma m2
              rcases List.mem_cons.1 ma with e | e
              · subst e; rfl
              · rw [List.pairwise_cons] at m2
                have hab := m2.1 _ e
                obtain ⟨u, r, r1, r2⟩ := (opn_iff (n := n) (by omega) ih h1 b).1 (by rw [ho]; simp)
                have := h3 a j b u p r hab r1
                have : u = j := by omega
                subst this
                have := r.2.2.2
                rw [hk] at this
                cases this
                omega
          | other => trivial
        · exact ih j (by omega)
    have hg := hg n (Nat.le_refl _)
    refine ⟨hg, ?_⟩
    rw [List.eq_nil_iff_forall_not_mem]
    intro f hf
    obtain ⟨t, p, -, q⟩ := (opn_iff (n := n) (Nat.le_refl _) hg h1 f).1 hf
    have := p.2.1
    omega

def RL (K : Nat → Kn) (n : Nat) : List (Nat × Nat) := (List.range n).flatMap fun f => if K f = .loop then ((List.range n).filter fun t => decide (K t = .again f)).map fun t => (f, t) else []
def OL (K : Nat → Kn) (n : Nat) : List (Nat × Nat) := (List.range n).filterMap fun t => match K t with | .again a => some (a, t) | _ => none
theorem mem_RL {K : Nat → Kn} {n : Nat} (x : Nat × Nat) : x ∈ RL K n ↔ Pr K n x.1 x.2 := by
  unfold RL Pr
  rw [List.mem_flatMap]
  constructor
  · rintro ⟨f, hf, hx⟩
    split at hx
    · rename_i hk
      rw [List.mem_map] at hx
      obtain ⟨t, ht, rfl⟩ := hx
      rw [List.mem_filter] at ht
      simp only [List.mem_range, decide_eq_true_eq] at ht hf
      exact ⟨hf, ht.1, hk, ht.2⟩
    · cases hx
  · rintro ⟨h1, h2, h3, h4⟩
    refine ⟨x.1, List.mem_range.2 h1, ?_⟩
    rw [if_pos h3, List.mem_map]
    exact ⟨x.2, List.mem_filter.2 ⟨List.mem_range.2 h2, by simpa using h4⟩, rfl⟩
theorem RL_sorted {K : Nat → Kn} {n : Nat} (h : Ok1 K n) : (RL K n).Pairwise fun x y => x.1 < y.1 := by
  unfold RL
  rw [List.pairwise_flatMap]
  refine ⟨fun f hf => ?_, ?_⟩
  · split
    · rename_i hk
      obtain ⟨t, -, -, hu⟩ := h f (List.mem_range.1 hf) hk
      rw [List.pairwise_map]
      refine List.Pairwise.imp_of_mem (R := fun a b => a ≠ b) (fun {a b} ha hb hne => absurd ?_ hne) (List.nodup_range.sublist List.filter_sublist)
      rw [List.mem_filter, List.mem_range, decide_eq_true_eq] at ha hb
      rw [hu a ⟨List.mem_range.1 hf, ha.1, hk, ha.2⟩, hu b ⟨List.mem_range.1 hf, hb.1, hk, hb.2⟩]
    · exact List.Pairwise.nil
  · refine List.pairwise_lt_range.imp fun {a b} hab x hx y hy => ?_
    have e : ∀ f, ∀ z ∈ (if K f = .loop then ((List.range n).filter fun t => decide (K t = .again f)).map fun t => (f, t) else []), z.1 = f := by
      intro f z hz
      split at hz
      · rw [List.mem_map] at hz; obtain ⟨_, _, rfl⟩ := hz; rfl
      · cases hz
    rw [e a x hx, e b y hy]; exact hab
theorem RL_nodup {K : Nat → Kn} {n : Nat} (h : Ok1 K n) : ((RL K n).map (·.1)).Nodup := by
  show List.Pairwise _ _
  rw [List.pairwise_map]
  exact (RL_sorted h).imp fun h => Nat.ne_of_lt h
theorem mem_OL {K : Nat → Kn} {n : Nat} (h : Ok2 K n) (x : Nat × Nat) : x ∈ OL K n ↔ Pr K n x.1 x.2 := by
  unfold OL Pr
  rw [List.mem_filterMap]
  constructor
  · rintro ⟨t, ht, hx⟩
    cases hk : K t with
    | again a =>
      rw [hk] at hx
      simp at hx
      subst hx
      obtain ⟨h1, h2⟩ := h t a (List.mem_range.1 ht) hk
      exact ⟨h1, List.mem_range.1 ht, h2, hk⟩
    | loop => rw [hk] at hx; cases hx
    | other => rw [hk] at hx; cases hx
  · rintro ⟨h1, h2, h3, h4⟩
    exact ⟨x.2, List.mem_range.2 h2, by rw [h4]⟩
theorem OL_distinct {K : Nat → Kn} {n : Nat} (h1 : Ok1 K n) (h2 : Ok2 K n) : (OL K n).Pairwise fun x y => x.1 ≠ y.1 := by
  unfold OL
  rw [List.pairwise_filterMap]
  refine List.Pairwise.imp_of_mem (R := fun a b => a ≠ b) (fun {a b} ha hb hne x hx y hy => ?_) List.nodup_range
  rw [List.mem_range] at ha hb
  have key : ∀ t x, t < n → (match K t with | .again a => some (a, t) | _ => none) = some x → Pr K n x.1 t := by
    intro t x ht hx
    have := (mem_OL h2 x).1 (List.mem_filterMap.2 ⟨t, List.mem_range.2 ht, hx⟩)
    have e : x.2 = t := by
      cases hk : K t with
      | again a => rw [hk] at hx; simp at hx; subst hx; rfl
      | loop => rw [hk] at hx; cases hx
      | other => rw [hk] at hx; cases hx
    rwa [e] at this
  intro e
  have p := key a x ha hx
  have q := key b y hb hy
  rw [← e] at q
  obtain ⟨t, -, -, hu⟩ := h1 _ p.1 p.2.2.1
  exact hne ((hu a p).trans (hu b q).symm)
theorem strict_eq {α : Type} {key : α → Int} : ∀ (l m : List α), l.Pairwise (fun x y => key x < key y) → m.Pairwise (fun x y => key x < key y) → (∀ x, x ∈ l ↔ x ∈ m) → l = m
  | [], [], _, _, _ => rfl
  | [], y :: m, _, _, h => absurd ((h y).2 (by simp)) (by simp)
  | x :: l, [], _, _, h => absurd ((h x).1 (by simp)) (by simp)
  | x :: l, y :: m, hl, hm, h => by
    rw [List.pairwise_cons] at hl hm
    have hxy : x = y := by
      rcases List.mem_cons.1 ((h x).1 (by simp)) with e | e
      · exact e
      · rcases List.mem_cons.1 ((h y).2 (by simp)) with e' | e'
        · exact e'.symm
        · have := hl.1 _ e'; have := hm.1 _ e; omega
    subst hxy
    rw [strict_eq l m hl.2 hm.2 fun z => ?_]
    constructor
    · intro hz
      rcases List.mem_cons.1 ((h z).1 (List.mem_cons_of_mem _ hz)) with e | e
      · subst e; have := hl.1 _ hz; omega
      · exact e
    · intro hz
      rcases List.mem_cons.1 ((h z).2 (List.mem_cons_of_mem _ hz)) with e | e
      · subst e; have := hm.1 _ hz; omega
      · exact e
/-- What is told of the loops, brought into order, is what the chapter lists. -/
theorem sorted_RL {α : Type} {key : α → Int} {g : Nat × Nat → α} (hkey : ∀ x, key (g x) = (x.1 : Int)) {K : Nat → Kn} {n : Nat} (h1 : Ok1 K n) (h2 : Ok2 K n) {s : List α} (hp : s.Perm ((OL K n).map g)) (hs : s.Pairwise fun x y => key x ≤ key y) : s = (RL K n).map g := by
  refine strict_eq (key := key) s _ ?_ ?_ fun x => ?_
  · have hd : s.Pairwise fun x y => key x ≠ key y := by
      refine (hp.pairwise_iff (fun {x y} h => Ne.symm h)).2 ?_
      rw [List.pairwise_map]
      refine (OL_distinct h1 h2).imp fun {a b} h => ?_
      rw [hkey, hkey]; omega
    exact (hs.and hd).imp fun ⟨a, b⟩ => by omega
  · rw [List.pairwise_map]
    refine (RL_sorted h1).imp fun {a b} h => ?_
    rw [hkey, hkey]; omega
  · rw [hp.mem_iff, List.mem_map, List.mem_map]
    constructor
    · rintro ⟨a, ha, rfl⟩; exact ⟨a, (mem_RL a).2 ((mem_OL h2 a).1 ha), rfl⟩
    · rintro ⟨a, ha, rfl⟩; exact ⟨a, (mem_OL h2 a).2 ((mem_RL a).1 ha), rfl⟩
def FL (K : Nat → Kn) (n f : Nat) : List Nat := (List.range n).filter fun t => decide (K t = .again f)
theorem mem_FL {K : Nat → Kn} {n f t : Nat} : t ∈ FL K n f ↔ t < n ∧ K t = .again f := by
  unfold FL; rw [List.mem_filter, List.mem_range, decide_eq_true_eq]
theorem ok1_iff {K : Nat → Kn} {n : Nat} : Ok1 K n ↔ ∀ f, f < n → K f = .loop → ∃ t, FL K n f = [t] ∧ f ≤ t := by
  constructor
  · intro h f hf hk
    obtain ⟨t, p, hl, hu⟩ := h f hf hk
    refine ⟨t, ?_, hl⟩
    have hn : (FL K n f).Nodup := List.nodup_range.sublist List.filter_sublist
    have ha : ∀ x ∈ FL K n f, x = t := fun x hx => hu x ⟨hf, (mem_FL.1 hx).1, hk, (mem_FL.1 hx).2⟩
    have hm : t ∈ FL K n f := mem_FL.2 ⟨p.2.1, p.2.2.2⟩
    cases hF : FL K n f with
    | nil => rw [hF] at hm; cases hm
    | cons a r =>
      rw [hF] at hn ha
      obtain rfl := ha a (by simp)
      cases r with
      | nil => rfl
      | cons b r =>
        obtain rfl := ha b (by simp)
        simp at hn
  · intro h f hf hk
    obtain ⟨t, e, hl⟩ := h f hf hk
    have hm := mem_FL.1 (show t ∈ FL K n f by rw [e]; simp)
    refine ⟨t, ⟨hf, hm.1, hk, hm.2⟩, hl, fun t' p => ?_⟩
    have := mem_FL.2 ⟨p.2.1, p.2.2.2⟩
    rw [e] at this
    simpa using this
end FlowPure
namespace FlowPure
/-- The library's sort, by From. -/
theorem srt58_ok (d : Array flow_Loop) : (srt58 d).toList.Perm d.toList ∧ (srt58 d).toList.Pairwise (fun x y => x.From ≤ y.From) := by
  obtain ⟨⟨h1, -, h2⟩, h3⟩ := srt58_sorts d
  refine ⟨?_, ?_⟩
  · have e1 : (srt58 d).extract 0 d.size = srt58 d := by rw [← h1]; simp
    have e2 : d.extract 0 d.size = d := by simp
    rw [e1, e2] at h2
    exact h2
  · rw [List.pairwise_iff_getElem]
    intro i j hi hj hij
    have hi' : i < (srt58 d).size := by simpa using hi
    have hj' : j < (srt58 d).size := by simpa using hj
    have := h3 i j (Nat.zero_le _) hij (by omega)
    rw [lt58, getElem!_pos (srt58 d) i hi', getElem!_pos (srt58 d) j hj'] at this
    have := of_decide_eq_false this
    simp only [Array.getElem_toList]
    omega
end FlowPure
namespace FlowPure
/-! ### loops -/
theorem runF_chk {S R : Type} {F : S → Option (S ⊕ R)} {n : Nat} {b : R} (s : Nat → S) (p : Nat → Prop) (hs : ∀ k, k < n → (∀ j, j < k → p j) → p k → runF F (s k) = runF F (s (k + 1))) (hb : ∀ k, k < n → (∀ j, j < k → p j) → ¬ p k → runF F (s k) = some b) :
    ((∀ k, k < n → p k) → runF F (s 0) = runF F (s n)) ∧ (¬ (∀ k, k < n → p k) → runF F (s 0) = some b) := by
  have key : ∀ m, m ≤ n → (∀ j, j < m → p j) → runF F (s 0) = runF F (s m) := by
    intro m
    induction m with
    | zero => intro _ _; rfl
    | succ m ih => intro hm hp; rw [ih (by omega) (fun j hj => hp j (by omega)), hs m (by omega) (fun j hj => hp j (by omega)) (hp m (by omega))]
  have key2 : ∀ m, m ≤ n → (∀ j, j < m → p j) ∨ runF F (s 0) = some b := by
    intro m
    induction m with
    | zero => intro _; left; intro j hj; omega
    | succ m ih =>
      intro hm
      rcases ih (by omega) with h | h
      · by_cases hp : p m
        · left; intro j hj
          by_cases e : j = m
          · subst e; exact hp
          · exact h j (by omega)
        · right; rw [key m (by omega) h, hb m (by omega) h hp]
      · right; exact h
  refine ⟨key n (Nat.le_refl _), fun h => ?_⟩
  rcases key2 n (Nat.le_refl _) with h' | h'
  · exact absurd h' h
  · exact h'
theorem runF_scan {S R : Type} {F : S → Option (S ⊕ R)} {n : Nat} {b : R} {a : Nat → R} (s : Nat → S) (p : Nat → Bool) (hs : ∀ k, k < n → F (s k) = some (if p k then .inr (a k) else .inl (s (k + 1)))) (hb : F (s n) = some (.inr b)) :
    ∃ r, runF F (s 0) = some r ∧ ((∃ k, k < n ∧ p k = true ∧ r = a k) ∨ ((∀ k, k < n → p k = false) ∧ r = b)) := by
  have key : ∀ m k, k + m = n → (∀ j, j < k → p j = false) → ∃ r, runF F (s k) = some r ∧ ((∃ k, k < n ∧ p k = true ∧ r = a k) ∨ ((∀ k, k < n → p k = false) ∧ r = b)) := by
    intro m
    induction m with
    | zero => intro k e h; obtain rfl : k = n := by omega
              exact ⟨b, runF_end hb, .inr ⟨h, rfl⟩⟩
    | succ m ih =>
      intro k e h
      have hk := hs k (by omega)
      cases hp : p k with
      | true => rw [hp] at hk; exact ⟨a k, runF_end hk, .inl ⟨k, by omega, hp, rfl⟩⟩
      | false =>
        rw [hp] at hk
        rw [runF_step hk]
        refine ih (k + 1) (by omega) fun j hj => ?_
        by_cases e : j = k
        · subst e; exact hp
        · exact h j (by omega)
  exact key n 0 (by omega) (fun j hj => by omega)
theorem wrap_pred (k : Nat) (h : 0 < k) (h2 : k < 4611686018427387904) : IntKind.i64.wrap ((k : Int) - 1) = ((k - 1 : Nat) : Int) := by
  rw [wrap_id (by omega) (by omega)]; omega
theorem elt_int {α : Type} {xs : List α} {i : Int} (h0 : 0 ≤ i) (h : i.toNat < xs.length) : elt xs i = some xs[i.toNat] := by
  unfold elt; rw [if_pos h0, List.getElem?_eq_getElem h]

/-! ### instructions -/
theorem wf_op {i : api_Instr} (h : wf_api_Instr i) : 0 ≤ i.Op ∧ i.Op < 256 := by
  have := h.1
  simp [Lit.wf, IntKind.min, IntKind.max, IntKind.signed, IntKind.bits] at this
  omega
theorem bounds_some (n : Fin 256) : (op_Bounds.f (n.1 : Int)).isSome = true := by
  revert n; decide +kernel
theorem bounds_op {x : Int} (h0 : 0 ≤ x) (h1 : x < 256) : ∃ b, op_Bounds.f x = some b := by
  obtain ⟨n, rfl⟩ := Int.eq_ofNat_of_zero_le h0
  exact Option.isSome_iff_exists.1 (bounds_some ⟨n, by omega⟩)
def may (i : api_Instr) : Bool := match op_Bounds.f i.Op with
  | some b => ((decide (i.A ≥ b.1)) && (decide (i.A ≤ b.2))) && (decide (i.B = 0))
  | none => false
theorem op_may {i : api_Instr} (h : wf_api_Instr i) : op_May.f i = some (may i) := by
  obtain ⟨h0, h1⟩ := wf_op h
  obtain ⟨b, hb⟩ := bounds_op h0 h1
  unfold op_May.f may
  rw [hb]; rfl
theorem may_place {i : api_Instr} (h : may i = true) (ho : i.Op = 26 ∨ i.Op = 27 ∨ i.Op = 29) : 0 ≤ i.A ∧ i.A ≤ 199 ∧ i.B = 0 := by
  unfold may at h
  have e : op_Bounds.f i.Op = some (0, 199) := by rcases ho with e | e | e <;> rw [e] <;> decide +kernel
  rw [e] at h
  simp at h; omega
theorem may_turns {i : api_Instr} (h : may i = true) (ho : i.Op = 28) : 1 ≤ i.A ∧ i.A ≤ 100 ∧ i.B = 0 := by
  unfold may at h
  have e : op_Bounds.f i.Op = some (1, 100) := by rw [ho]; decide +kernel
  rw [e] at h
  simp at h; omega
theorem contains_may {l : List api_Instr} (hl : l.length < 4611686018427387904) (hw : ∀ x ∈ l, wf_api_Instr x) : slices_ContainsFunc_api_Instr_api_Instr_s1.f l = some (l.any fun x => !may x) := by
  unfold slices_ContainsFunc_api_Instr_api_Instr_s1.f slices_IndexFunc_api_Instr_api_Instr_s1.f
  rw [runF_step (t := .l1 ((0 : Nat) : Int)) rfl]
  obtain ⟨r, hr, hc⟩ := runF_scan (F := slices_IndexFunc_api_Instr_api_Instr_s1.F l) (n := l.length) (b := -1) (a := fun k => (k : Int)) (fun k => .l1 (k : Int)) (fun k => if h : k < l.length then !may l[k] else false) (fun k hk => by
    dsimp only [slices_IndexFunc_api_Instr_api_Instr_s1.F]
    rw [if_pos (by omega), elt_lt hk]
    simp only [Option.bind_some]
    unfold flow_Loops_1.f
    rw [op_may (hw _ (List.getElem_mem hk))]
    simp only [Option.bind_some, dif_pos hk, wrap_succ k (by omega)]
    cases may l[k] <;> rfl) (by dsimp only [slices_IndexFunc_api_Instr_api_Instr_s1.F]; rw [if_neg (by omega)])
  rw [hr]
  simp only [Option.bind_some]
  congr 1
  rw [Bool.eq_iff_iff]
  simp only [decide_eq_true_eq, List.any_eq_true]
  rcases hc with ⟨k, hk, hp, rfl⟩ | ⟨hn, rfl⟩
  · rw [dif_pos hk] at hp
    exact ⟨fun _ => ⟨_, List.getElem_mem hk, hp⟩, fun _ => by omega⟩
  · refine ⟨fun h => by omega, fun ⟨x, hx, hp⟩ => ?_⟩
    obtain ⟨k, hk, rfl⟩ := List.mem_iff_getElem.1 hx
    have := hn k hk
    rw [dif_pos hk, hp] at this; cases this
end FlowPure
namespace FlowPure
/-! ### the code's loops -/
def KK (l : List api_Instr) (k : Nat) : Kn := match l[k]? with
  | some x => if x.Op = 28 then .loop else if x.Op = 29 then .again x.A.toNat else .other
  | none => .other
def turns (l : List api_Instr) (k : Nat) : Int := (l.getD k api_Instr.zero).A
def gF (l : List api_Instr) (x : Nat × Nat) : flow_Loop := ⟨x.1, x.2, turns l x.1⟩
def arr (K : Nat → Kn) : Nat → List Int
  | 0 => List.replicate 4 0
  | i + 1 => match K i with
    | .loop => (arr K i).set (opn K i).length i
    | _ => arr K i
theorem arr_succ (K : Nat → Kn) (i : Nat) : arr K (i + 1) = match K i with
    | .loop => (arr K i).set (opn K i).length i
    | _ => arr K i := rfl
theorem opn_succ (K : Nat → Kn) (i : Nat) : opn K (i + 1) = match K i with
    | .loop => i :: opn K i
    | .again _ => (opn K i).tail
    | .other => opn K i := rfl
theorem take_set {α : Type} {v : α} : ∀ (a : List α) (m : Nat), m < a.length → (a.set m v).take (m + 1) = a.take m ++ [v]
  | [], m, h => by simp at h
  | x :: a, 0, h => by simp
  | x :: a, m + 1, h => by
    have := take_set (v := v) a m (by simpa using h)
    simp only [List.set_cons_succ, List.take_succ_cons, this, List.cons_append]
theorem arr_len (K : Nat → Kn) : ∀ i, (arr K i).length = 4
  | 0 => rfl
  | i + 1 => by unfold arr; split <;> simp [arr_len K i]
theorem arr_take (K : Nat → Kn) : ∀ (i : Nat), (∀ j, j < i → good K j) → (arr K i).take (opn K i).length = (opn K i).reverse.map fun (x : Nat) => (x : Int)
  | 0, _ => rfl
  | i + 1, hg => by
    have ih := arr_take K i (fun j hj => hg j (by omega))
    have gi := hg i (by omega)
    unfold good at gi
    rw [arr_succ, opn_succ]
    cases hk : K i with
    | loop =>
      rw [hk] at gi
      simp only at gi ⊢
      rw [List.length_cons, take_set _ _ (by rw [arr_len]; omega), ih]
      simp
    | again a =>
      rw [hk] at gi
      simp only at gi ⊢
      cases ho : opn K i with
      | nil => rw [ho] at gi; cases gi
      | cons b T =>
        rw [ho] at ih
        simp only [List.tail_cons]
        simp only [List.length_cons, List.reverse_cons, List.map_append, List.map_cons, List.map_nil] at ih
        have : (arr K i).take T.length = ((arr K i).take (T.length + 1)).take T.length := by
          rw [List.take_take]; congr 1; omega
        rw [this, ih, List.take_append_of_le_length (by simp), List.take_of_length_le (by simp)]
    | other => exact ih
theorem OL_succ (K : Nat → Kn) (i : Nat) : OL K (i + 1) = OL K i ++ (match K i with | .again a => [(a, i)] | _ => []) := by
  unfold OL
  rw [List.range_succ, List.filterMap_append]
  congr 1
  cases h : K i <;> simp [h]
theorem OL_le (K : Nat → Kn) (i : Nat) : (OL K i).length ≤ i := by
  unfold OL
  exact Nat.le_trans (List.length_filterMap_le _ _) (by simp)
theorem KK_at {l : List api_Instr} {k : Nat} (h : k < l.length) : KK l k = if l[k].Op = 28 then .loop else if l[k].Op = 29 then .again l[k].A.toNat else .other := by
  unfold KK; rw [List.getElem?_eq_getElem h]
theorem KK_lt {l : List api_Instr} {k : Nat} (h : KK l k ≠ .other) : k < l.length := by
  rcases Nat.lt_or_ge k l.length with z | z
  · exact z
  · unfold KK at h; rw [List.getElem?_eq_none z] at h; exact absurd rfl h
theorem turns_at {l : List api_Instr} {k : Nat} (h : k < l.length) : turns l k = l[k].A := by
  unfold turns; rw [List.getD_eq_getElem?_getD, List.getElem?_eq_getElem h]; rfl
theorem again_iff {l : List api_Instr} {k f : Nat} (hk : k < l.length) (hm : ∀ x ∈ l, may x = true) : KK l k = .again f ↔ (l[k].Op = 29 ∧ l[k].A = f) := by
  rw [KK_at hk]
  constructor
  · intro h
    split at h
    · cases h
    · split at h
      · rename_i h28 h29
        have := may_place (hm _ (List.getElem_mem hk)) (.inr (.inr h29))
        cases h
        exact ⟨h29, by omega⟩
      · cases h
  · rintro ⟨h29, hA⟩
    rw [if_neg (by omega), if_pos h29, hA]; rfl
theorem loop_iff {l : List api_Instr} {k : Nat} (hk : k < l.length) : KK l k = .loop ↔ l[k].Op = 28 := by
  rw [KK_at hk]
  constructor
  · intro h
    split at h
    · assumption
    · split at h <;> cases h
  · intro h; rw [if_pos h]
def RLp (K : Nat → Kn) (n m : Nat) : List (Nat × Nat) := (List.range m).flatMap fun f => if K f = .loop then (FL K n f).map fun t => (f, t) else []
theorem RLp_all (K : Nat → Kn) (n : Nat) : RLp K n n = RL K n := rfl
theorem RLp_succ (K : Nat → Kn) (n m : Nat) : RLp K n (m + 1) = RLp K n m ++ (if K m = .loop then (FL K n m).map fun t => (m, t) else []) := by
  unfold RLp
  rw [List.range_succ, List.flatMap_append]
  simp
def p1 (K : Nat → Kn) (n k : Nat) : Prop := K k = .loop → ∃ t, FL K n k = [t] ∧ k ≤ t
def p2 (K : Nat → Kn) (n k : Nat) : Prop := ∀ a, K k = .again a → a < n ∧ K a = .loop
theorem RLp_le {K : Nat → Kn} {n : Nat} : ∀ (m : Nat), (∀ j, j < m → p1 K n j) → (RLp K n m).length ≤ m
  | 0, _ => by simp [RLp]
  | m + 1, h => by
    have ih := RLp_le m (fun j hj => h j (by omega))
    rw [RLp_succ, List.length_append]
    split
    · rename_i hk
      obtain ⟨t, ht, -⟩ := h m (by omega) hk
      rw [ht]; simp; omega
    · simp; omega
theorem RL_len {l : List api_Instr} (h1 : Ok1 (KK l) l.length) : (RL (KK l) l.length).length ≤ l.length := by
  rw [← RLp_all]; exact RLp_le _ (ok1_iff.1 h1)
def st (l : List api_Instr) (k : Nat) : flow_Loops.S := .l1 (arr (KK l) k) (opn (KK l) k).length ((OL (KK l) k).map (gF l)) k
theorem loops_steps {l : List api_Instr} (hl : l.length ≤ 200) (hm : ∀ x ∈ l, may x = true) :
    ((∀ k, k < l.length → good (KK l) k) → runF (flow_Loops.F l) (st l 0) = runF (flow_Loops.F l) (st l l.length)) ∧ (¬ (∀ k, k < l.length → good (KK l) k) → runF (flow_Loops.F l) (st l 0) = some ([], 90)) := by
  refine runF_chk (F := flow_Loops.F l) (st l) (good (KK l)) (fun k hk hg hp => runF_step ?_) (fun k hk hg hp => runF_end ?_)
  all_goals
    have hkk := KK_at hk
    have m4 := (opn_mem (KK l) k hg).2.2
    have hat := arr_take (KK l) k hg
    have hal := arr_len (KK l) k
    dsimp only [st, flow_Loops.F]
    rw [if_pos (by omega), elt_lt hk]
    simp only [Option.bind_some]
  · -- goes on
    by_cases h28 : l[k].Op = 28
    · rw [if_pos h28] at hkk
      unfold good at hp
      rw [hkk] at hp
      simp only at hp
      rw [if_pos h28]
      unfold flow_open_push_s2.f
      rw [if_neg (by omega), elt_lt (by omega)]
      simp only [Option.bind_some]
      rw [if_neg (by simp)]
      unfold flow_Loops.j2
      rw [wrap_succ _ (by omega), wrap_succ _ (by omega), OL_succ, hkk]
      simp only [arr, opn, hkk, List.length_cons, Int.toNat_natCast, List.append_nil]
    · rw [if_neg h28] at hkk
      rw [if_neg h28]
      by_cases h29 : l[k].Op = 29
      · rw [if_pos h29] at hkk
        rw [if_pos h29]
        have hA := may_place (hm _ (List.getElem_mem hk)) (.inr (.inr h29))
        unfold good at hp
        rw [hkk] at hp
        simp only at hp
        cases ho : opn (KK l) k with
        | nil => rw [ho] at hp; cases hp
        | cons b T =>
          rw [ho] at hp hat m4
          simp only [List.head?_cons, Option.some.injEq] at hp
          have hb : b < k := ((opn_mem (KK l) k hg).1 b).1 (by rw [ho]; simp) |>.2.1
          have hbl : b < l.length := by omega
          have hel : elt (arr (KK l) k) (IntKind.i64.wrap (((b :: T).length : Int) - 1)) = some (b : Int) := by
            simp only [List.length_cons] at hat m4 ⊢
            rw [wrap_pred _ (by omega) (by omega), elt_nat]
            have := congrArg (fun z => z[T.length]?) hat
            simp only [List.reverse_cons, List.map_append, List.map_cons, List.map_nil] at this
            rw [List.getElem?_take_of_lt (by omega), List.getElem?_append_right (by simp)] at this
            simpa using this
          unfold flow_open_pop_s2.f
          rw [if_neg (by simp; omega), hel]
          simp only [Option.bind_some]
          have hbA : l[k].A = (b : Int) := by omega
          rw [← hp] at hkk
          unfold flow_open_pop_s2.j1
          rw [if_neg (by simp [hbA])]
          simp only [Option.bind_some, Bool.not_true, Bool.false_eq_true, if_false]
          rw [hbA, elt_lt hbl]
          simp only [Option.bind_some]
          rw [if_pos (by have := OL_le (KK l) k; simp; omega)]
          unfold flow_Loops.j2
          rw [wrap_succ _ (by omega), OL_succ, hkk]
          simp only [List.length_cons] at m4 ⊢
          rw [wrap_pred _ (by omega) (by omega)]
          simp only [arr, opn, hkk, ho, List.tail_cons, List.map_append, List.map_cons, List.map_nil, gF, turns_at hbl, Nat.add_sub_cancel]
      · rw [if_neg h29] at hkk
        rw [if_neg h29]
        unfold flow_Loops.j2
        rw [wrap_succ _ (by omega), OL_succ, hkk]
        simp only [arr, opn, hkk, List.append_nil]
  · -- stops
    by_cases h28 : l[k].Op = 28
    · rw [if_pos h28] at hkk
      unfold good at hp
      rw [hkk] at hp
      simp only at hp
      rw [if_pos h28]
      unfold flow_open_push_s2.f
      rw [if_pos (by omega)]
      rfl
    · rw [if_neg h28] at hkk
      rw [if_neg h28]
      by_cases h29 : l[k].Op = 29
      · rw [if_pos h29] at hkk
        rw [if_pos h29]
        have hA := may_place (hm _ (List.getElem_mem hk)) (.inr (.inr h29))
        unfold good at hp
        rw [hkk] at hp
        simp only at hp
        unfold flow_open_pop_s2.f
        cases ho : opn (KK l) k with
        | nil => rw [if_pos (by simp)]; rfl
        | cons b T =>
          rw [ho] at hp hat m4
          simp only [List.head?_cons, Option.some.injEq] at hp
          have hel : elt (arr (KK l) k) (IntKind.i64.wrap (((b :: T).length : Int) - 1)) = some (b : Int) := by
            simp only [List.length_cons] at hat m4 ⊢
            rw [wrap_pred _ (by omega) (by omega), elt_nat]
            have := congrArg (fun z => z[T.length]?) hat
            simp only [List.reverse_cons, List.map_append, List.map_cons, List.map_nil] at this
            rw [List.getElem?_take_of_lt (by omega), List.getElem?_append_right (by simp)] at this
            simpa using this
          rw [if_neg (by simp; omega), hel]
          simp only [Option.bind_some]
          unfold flow_open_pop_s2.j1
          rw [if_pos (by simp; omega)]
          rfl
      · rw [if_neg h29] at hkk
        unfold good at hp
        rw [hkk] at hp
        exact absurd trivial hp
end FlowPure
namespace FlowPure
def hasB (x : flow_Loop) (a : Int) : Bool := (decide (a > x.From)) && (decide (a ≤ x.To))
theorem hasB_iff {x : flow_Loop} {a : Int} : hasB x a = true ↔ x.From < a ∧ a ≤ x.To := by
  unfold hasB; rw [Bool.and_eq_true, decide_eq_true_eq, decide_eq_true_eq]
theorem hasB_no {x : flow_Loop} {a : Int} : hasB x a = false ↔ ¬ (x.From < a ∧ a ≤ x.To) := by
  rw [← hasB_iff, Bool.not_eq_true]
theorem contains_into {s : List flow_Loop} {a b c d : Int} (hl : s.length < 4611686018427387904) : slices_ContainsFunc_flow_Loop_flow_Loop_s1.f s a b c d = some (s.any fun x => hasB x b && !hasB x d) := by
  unfold slices_ContainsFunc_flow_Loop_flow_Loop_s1.f slices_IndexFunc_flow_Loop_flow_Loop_s1.f
  rw [runF_step (t := .l1 ((0 : Nat) : Int)) rfl]
  obtain ⟨r, hr, hc⟩ := runF_scan (F := slices_IndexFunc_flow_Loop_flow_Loop_s1.F s a b c d) (n := s.length) (b := -1) (a := fun k => (k : Int)) (fun k => .l1 (k : Int)) (fun k => if h : k < s.length then hasB s[k] b && !hasB s[k] d else false) (fun k hk => by
    dsimp only [slices_IndexFunc_flow_Loop_flow_Loop_s1.F]
    rw [if_pos (by omega), elt_lt hk]
    simp only [Option.bind_some]
    have : flow_jumps_1_s1.f s[k] a b c d = some (hasB s[k] b && !hasB s[k] d) := by
      unfold flow_jumps_1_s1.f flow_Loop_has.f
      simp only [Option.bind_some]
      show ((if hasB s[k] b = true then some (!hasB s[k] d) else some false).bind fun t15 => some t15) = _
      cases hasB s[k] b <;> rfl
    rw [this]
    simp only [Option.bind_some, dif_pos hk, wrap_succ k (by omega)]
    cases hasB s[k] b && !hasB s[k] d <;> rfl) (by dsimp only [slices_IndexFunc_flow_Loop_flow_Loop_s1.F]; rw [if_neg (by omega)])
  rw [hr]
  simp only [Option.bind_some]
  congr 1
  rw [Bool.eq_iff_iff]
  simp only [decide_eq_true_eq]
  rw [List.any_eq_true]
  rcases hc with ⟨k, hk, hp, rfl⟩ | ⟨hn, rfl⟩
  · rw [dif_pos hk] at hp
    exact ⟨fun _ => ⟨_, List.getElem_mem hk, hp⟩, fun _ => by omega⟩
  · refine ⟨fun h => by omega, fun ⟨x, hx, hp⟩ => ?_⟩
    obtain ⟨k, hk, rfl⟩ := List.mem_iff_getElem.1 hx
    have := hn k hk
    rw [dif_pos hk] at this
    rw [this] at hp; cases hp
/-- A place's jump is well. -/
def Jk (l : List api_Instr) (R : Nat × Nat → Prop) (k : Nat) : Prop := ∀ x, l[k]? = some x → (x.Op = 26 ∨ x.Op = 27) → (k : Int) < x.A ∧ x.A < l.length ∧ ∀ y, R y → (y.1 : Int) < x.A → x.A ≤ y.2 → y.1 < k ∧ k ≤ y.2
def Jm (l : List api_Instr) (R : Nat × Nat → Prop) : Prop := ∀ k, k < l.length → Jk l R k
theorem prog_jumps {l : List api_Instr} {O : List (Nat × Nat)} {R : Nat × Nat → Prop} (hl : l.length ≤ 200) (ho : O.length ≤ 200) (hR : ∀ x, x ∈ O ↔ R x) :
    (Jm l R → flow_jumps.f l (O.map (gF l)) = some true) ∧ (¬ Jm l R → flow_jumps.f l (O.map (gF l)) = some false) := by
  unfold flow_jumps.f
  rw [runF_step (t := .l1 ((0 : Nat) : Int)) rfl]
  have val : ∀ k (hk : k < l.length), (l[k].Op = 26 ∨ l[k].Op = 27) → (((if ((decide (l[k].A ≤ (k : Int))) || (decide (l[k].A ≥ (l.length : Int)))) = true then (some true) else ((slices_ContainsFunc_flow_Loop_flow_Loop_s1.f (O.map (gF l)) l[k].Op l[k].A l[k].B k).bind fun t49 => some t49)) = some true ∧ ¬ Jk l R k) ∨ ((if ((decide (l[k].A ≤ (k : Int))) || (decide (l[k].A ≥ (l.length : Int)))) = true then (some true) else ((slices_ContainsFunc_flow_Loop_flow_Loop_s1.f (O.map (gF l)) l[k].Op l[k].A l[k].B k).bind fun t49 => some t49)) = some false ∧ Jk l R k)) := by
    intro k hk hop
    by_cases hA : l[k].A ≤ (k : Int) ∨ l[k].A ≥ (l.length : Int)
    · left
      rw [if_pos (by simpa using hA)]
      refine ⟨rfl, fun h => ?_⟩
      have := h l[k] (List.getElem?_eq_getElem hk) hop
      omega
    · rw [if_neg (by simpa using hA), contains_into (by simp; omega)]
      simp only [Option.bind_some]
      cases hb : (O.map (gF l)).any fun x => hasB x l[k].A && !hasB x (k : Int) with
      | true =>
        left
        refine ⟨rfl, fun h => ?_⟩
        rw [List.any_eq_true] at hb
        obtain ⟨z, hz, hb⟩ := hb
        rw [List.mem_map] at hz
        obtain ⟨y, hy, rfl⟩ := hz
        have := (h l[k] (List.getElem?_eq_getElem hk) hop).2.2 y ((hR y).1 hy)
        rw [Bool.and_eq_true, Bool.not_eq_true', hasB_iff, hasB_no] at hb
        dsimp only [gF] at hb
        omega
      | false =>
        right
        refine ⟨rfl, fun x hx _ => ?_⟩
        rw [List.getElem?_eq_getElem hk] at hx
        cases hx
        refine ⟨by omega, by omega, fun y hy h1 h2 => ?_⟩
        have := List.any_eq_false.1 hb _ (List.mem_map_of_mem (f := gF l) ((hR y).2 hy))
        rw [Bool.and_eq_true, Bool.not_eq_true', hasB_iff, hasB_no] at this
        dsimp only [gF] at this
        omega
  have key := runF_chk (F := flow_jumps.F l (O.map (gF l))) (n := l.length) (b := false) (fun k => .l1 (k : Int)) (Jk l R) (fun k hk _ hp => runF_step (by
    dsimp only [flow_jumps.F]
    rw [if_pos (by omega), elt_lt hk]
    simp only [Option.bind_some]
    unfold flow_jumps.j1
    rw [wrap_succ k (by omega)]
    by_cases hop : l[k].Op = 26 ∨ l[k].Op = 27
    · rw [if_neg (by simp; omega)]
      rcases val k hk hop with ⟨-, h⟩ | ⟨h, -⟩
      · exact absurd hp h
      · rw [h]; rfl
    · rw [if_pos (by simp; omega)])) (fun k hk _ hp => runF_end (by
    dsimp only [flow_jumps.F]
    rw [if_pos (by omega), elt_lt hk]
    simp only [Option.bind_some]
    by_cases hop : l[k].Op = 26 ∨ l[k].Op = 27
    · rw [if_neg (by simp; omega)]
      rcases val k hk hop with ⟨h, -⟩ | ⟨-, h⟩
      · rw [h]; rfl
      · exact absurd h hp
    · refine absurd (fun x hx h => absurd h ?_) hp
      rw [List.getElem?_eq_getElem hk] at hx
      cases hx; exact hop))
  refine ⟨fun h => ?_, fun h => key.2 h⟩
  refine (key.1 h).trans (runF_end ?_)
  dsimp only [flow_jumps.F]
  rw [if_neg (by omega)]
def lastOk (l : List api_Instr) : Prop := ∀ x, l[l.length - 1]? = some x → x.Op = 31 ∨ x.Op = 32
def Known (l : List api_Instr) : Prop := 1 ≤ l.length ∧ l.length ≤ 200 ∧ ∀ x ∈ l, may x = true
def Fine (l : List api_Instr) : Prop := Run (KK l) l.length ∧ lastOk l ∧ Jm l fun x => Pr (KK l) l.length x.1 x.2
theorem OL_RL {K : Nat → Kn} {n : Nat} (h : Run K n) : (OL K n).length = (RL K n).length := by
  obtain ⟨h1, h2⟩ := run_pairs h
  have a : ((OL K n).map (·.1)).Nodup := by
    show List.Pairwise _ _
    rw [List.pairwise_map]; exact OL_distinct h1 h2
  have b := RL_nodup h1
  refine Nat.le_antisymm ?_ ?_
  · have := nodup_len _ ((RL K n).map (·.1)) a (fun x hx => by
      rw [List.mem_map] at hx ⊢
      obtain ⟨y, hy, rfl⟩ := hx
      exact ⟨y, (mem_RL y).2 ((mem_OL h2 y).1 hy), rfl⟩)
    simpa using this
  · have := nodup_len _ ((OL K n).map (·.1)) b (fun x hx => by
      rw [List.mem_map] at hx ⊢
      obtain ⟨y, hy, rfl⟩ := hx
      exact ⟨y, (mem_OL h2 y).2 ((mem_RL y).1 hy), rfl⟩)
    simpa using this
theorem prog_loops {l : List api_Instr} (hlen : l.length < 4611686018427387904) (hw : ∀ x ∈ l, wf_api_Instr x) :
    (¬ Known l → flow_Loops.f l = some ([], 40)) ∧ (Known l → Fine l → flow_Loops.f l = some ((RL (KK l) l.length).map (gF l), 0)) ∧ (Known l → ¬ Fine l → flow_Loops.f l = some ([], 90)) := by
  unfold flow_Loops.f
  refine ⟨fun hk => runF_end ?_, ?_⟩
  · dsimp only [flow_Loops.F]
    by_cases hn : l.length = 0 ∨ l.length > 200
    · rw [if_pos (by rw [Bool.or_eq_true, decide_eq_true_eq, decide_eq_true_eq]; omega)]; rfl
    · rw [if_neg (by rw [Bool.or_eq_true, decide_eq_true_eq, decide_eq_true_eq]; omega), contains_may hlen hw]
      have : (l.any fun x => !may x) = true := by
        refine Classical.byContradiction fun hc => hk ⟨by omega, by omega, fun x hx => ?_⟩
        have := List.any_eq_false.1 (Bool.eq_false_iff.2 hc) x hx
        simpa using this
      rw [this]; rfl
  suffices hs : Known l → (Fine l → runF (flow_Loops.F l) .start = some ((RL (KK l) l.length).map (gF l), 0)) ∧ (¬ Fine l → runF (flow_Loops.F l) .start = some ([], 90)) from ⟨fun a b => (hs a).1 b, fun a b => (hs a).2 b⟩
  rintro ⟨n1, n2, hm⟩
  have e0 : runF (flow_Loops.F l) .start = runF (flow_Loops.F l) (st l 0) := runF_step (by
    dsimp only [flow_Loops.F]
    rw [if_neg (by rw [Bool.or_eq_true, decide_eq_true_eq, decide_eq_true_eq]; omega), contains_may hlen hw]
    have : (l.any fun x => !may x) = false := by
      rw [List.any_eq_false]; intro x hx; simp [hm x hx]
    rw [this]; rfl)
  rw [e0]
  obtain ⟨h1, h2⟩ := loops_steps n2 hm
  by_cases hg : ∀ k, k < l.length → good (KK l) k
  case neg => exact ⟨fun h => absurd h.1.1 hg, fun _ => h2 hg⟩
  rw [h1 hg]
  have hlast : l.length - 1 < l.length := by omega
  have wl : IntKind.i64.wrap ((l.length : Int) - 1) = ((l.length - 1 : Nat) : Int) := wrap_pred _ (by omega) (by omega)
  have m4 := (opn_mem (KK l) l.length hg).2.2
  have e1 : flow_Loops.F l (st l l.length) = ((if ((opn (KK l) l.length).length : Int) > 0 then (some true) else some (!((decide (l[l.length - 1].Op = 31)) || (decide (l[l.length - 1].Op = 32))))).bind fun t92 => (if t92 = true then (some true) else ((flow_jumps.f l ((OL (KK l) l.length).map (gF l))).bind fun t95 => some (!t95))).bind fun t96 => if t96 = true then (flow_Loops.j1 l) else (some (.inr ((srt58 ((OL (KK l) l.length).map (gF l)).toArray).toList, 0)))) := by
    dsimp only [flow_Loops.F, st]
    rw [if_neg (by omega), wl, elt_lt hlast, if_pos (show ((OL (KK l) l.length).map (gF l)).length < 4611686018427387904 by have := OL_le (KK l) l.length; simp; omega)]
    simp only [Option.bind_some, flow_last.f]
  have lasteq : lastOk l ↔ (l[l.length - 1].Op = 31 ∨ l[l.length - 1].Op = 32) := by
    unfold lastOk
    constructor
    · intro h; exact h _ (List.getElem?_eq_getElem hlast)
    · intro h x hx; rw [List.getElem?_eq_getElem hlast] at hx; cases hx; exact h
  by_cases hS : opn (KK l) l.length = []
  case neg =>
    refine ⟨fun h => absurd h.1.2 hS, fun _ => runF_end ?_⟩
    rw [e1, if_pos (by cases ho : opn (KK l) l.length with | nil => exact absurd ho hS | cons => simp)]
    rfl
  have hrun : Run (KK l) l.length := ⟨hg, hS⟩
  obtain ⟨o1, o2⟩ := run_pairs hrun
  rw [hS] at e1
  rw [if_neg (by simp)] at e1
  simp only [Option.bind_some] at e1
  by_cases hL : lastOk l
  case neg =>
    refine ⟨fun h => absurd h.2.1 hL, fun _ => runF_end ?_⟩
    rw [e1, if_pos (by have := mt lasteq.2 hL; simp; omega)]
    rfl
  rw [if_neg (by have := lasteq.1 hL; simp; omega)] at e1
  obtain ⟨j1, j2⟩ := prog_jumps (R := fun x => Pr (KK l) l.length x.1 x.2) n2 (Nat.le_trans (OL_le _ _) n2) (mem_OL o2)
  by_cases hJ : Jm l fun x => Pr (KK l) l.length x.1 x.2
  · refine ⟨fun _ => runF_end ?_, fun h => absurd ⟨hrun, hL, hJ⟩ h⟩
    rw [e1, j1 hJ]
    simp only [Option.bind_some, Bool.not_true, Bool.false_eq_true, if_false]
    obtain ⟨sp, ss⟩ := srt58_ok ((OL (KK l) l.length).map (gF l)).toArray
    rw [sorted_RL (key := fun x : flow_Loop => x.From) (g := gF l) (fun _ => rfl) o1 o2 sp ss]
  · refine ⟨fun h => absurd h.2.2 hJ, fun _ => runF_end ?_⟩
    rw [e1, j2 hJ]
    rfl
end FlowPure
namespace FlowPure
/-! ### ways -/
theorem ms2 (x y : Int) : ([x, y].mergeSort fun x y => decide (x ≤ y)) = if x ≤ y then [x, y] else [y, x] := by
  by_cases h : x ≤ y
  · rw [if_pos h]
    exact List.mergeSort_of_pairwise (by simp [h])
  · rw [if_neg h]
    have hp : [x, y].mergeSort (fun x y => decide (x ≤ y)) = [y, x].mergeSort (fun x y => decide (x ≤ y)) := by
      have p1 := (List.mergeSort_perm [x, y] fun x y => decide (x ≤ y)).trans ((List.Perm.swap y x []).trans (List.mergeSort_perm [y, x] fun x y => decide (x ≤ y)).symm)
      refine List.Perm.eq_of_pairwise (le := fun a b => a ≤ b) (fun a b _ _ h1 h2 => Int.le_antisymm h1 h2) ?_ ?_ p1
      · exact (List.pairwise_mergeSort (le := fun x y => decide (x ≤ y)) (fun a b c h1 h2 => by simp at *; omega) (fun a b => by simp; omega) _).imp fun h => by simpa using h
      · exact (List.pairwise_mergeSort (le := fun x y => decide (x ≤ y)) (fun a b c h1 h2 => by simp at *; omega) (fun a b => by simp; omega) _).imp fun h => by simpa using h
    rw [hp]
    exact List.mergeSort_of_pairwise (by simp; omega)
theorem ct2 (x y : Int) : Lib.compact [x, y] = if x = y then [x] else [x, y] := by
  by_cases h : x = y
  · subst h; simp [Lib.compact, Lib.compactUpTo, Lib.keeps, List.range_succ]
  · simp [Lib.compact, Lib.compactUpTo, Lib.keeps, List.range_succ, h, Ne.symm h]
theorem ct1 (x : Int) : Lib.compact [x] = [x] := by simp [Lib.compact, Lib.compactUpTo, Lib.keeps, List.range_succ]
theorem ct0 : Lib.compact ([] : List Int) = [] := by simp [Lib.compact, Lib.compactUpTo]
/-- The ways of a place. -/
def ways (l : List api_Instr) (a : Nat) : List Int := match l[a]? with
  | none => []
  | some x => if x.Op = 31 ∨ x.Op = 32 then [] else if x.Op = 26 then [x.A] else if x.Op = 27 then (if x.A = ((a + 1 : Nat) : Int) then [x.A] else [((a + 1 : Nat) : Int), x.A]) else if x.Op = 29 then [x.A + 1, ((a + 1 : Nat) : Int)] else [((a + 1 : Nat) : Int)]
theorem j2_ways (l : List api_Instr) (a : Int) (s : List Int) (h : s.length < 4611686018427387904) : flow_Ways.j2 l a s = some (Lib.compact (s.mergeSort fun x y => decide (x ≤ y)), 0) := by
  unfold flow_Ways.j2
  rw [if_pos h, if_pos (by rw [List.length_mergeSort]; exact h)]
theorem leads_eq (n : Fin 33) : op_Leads.f (n.1 : Int) = some (decide (n.1 = 26 ∨ n.1 = 27 ∨ n.1 = 29)) := by
  revert n; decide +kernel
theorem op_lt {i : api_Instr} (hw : wf_api_Instr i) (h : may i = true) : 0 ≤ i.Op ∧ i.Op < 33 := by
  obtain ⟨h0, h1⟩ := wf_op hw
  refine ⟨h0, ?_⟩
  rcases Int.lt_or_le i.Op 33 with z | z
  · exact z
  · unfold may op_Bounds.f op_Known.f at h
    rw [wrap_id (by omega) (by omega)] at h
    simp only [Option.bind_some] at h
    rw [if_pos (by simp; omega)] at h
    simp at h
    omega
theorem prog_ways {l : List api_Instr} (hlen : l.length < 4611686018427387904) (hw : ∀ x ∈ l, wf_api_Instr x) :
    (∀ a, ¬ Known l → flow_Ways.f l a = some ([], 40)) ∧ (∀ a, Known l → ¬ Fine l → flow_Ways.f l a = some ([], 90)) ∧ (∀ a : Int, Known l → Fine l → (a < 0 ∨ a ≥ l.length) → flow_Ways.f l a = some ([], 2)) ∧ (∀ a : Nat, Known l → Fine l → a < l.length → flow_Ways.f l a = some (ways l a, 0)) := by
  obtain ⟨a1, a2, a3⟩ := prog_loops hlen hw
  unfold flow_Ways.f flow_Check.f
  refine ⟨fun a h => ?_, fun a h hf => ?_, fun a h hf ha => ?_, fun a h hf ha => ?_⟩
  · rw [a1 h]; rfl
  · rw [a3 h hf]; rfl
  · rw [a2 h hf]
    simp only [Option.bind_some]
    rw [if_neg (by simp), if_pos (by rw [Bool.or_eq_true, decide_eq_true_eq, decide_eq_true_eq]; exact ha)]
  · rw [a2 h hf]
    simp only [Option.bind_some]
    rw [if_neg (by simp), if_neg (by rw [Bool.or_eq_true, decide_eq_true_eq, decide_eq_true_eq]; omega), elt_lt ha]
    simp only [Option.bind_some]
    have hm := h.2.2 _ (List.getElem_mem ha)
    have hop := op_lt (hw _ (List.getElem_mem ha)) hm
    have hJ := hf.2.2 a ha
    have hn := h.2.1
    unfold ways
    rw [List.getElem?_eq_getElem ha]
    dsimp only
    generalize hx : l[a] = x at hm hop
    have hgoes : op_Goes.f x.Op = some (decide (x.Op ≠ 26 ∧ x.Op ≠ 31 ∧ x.Op ≠ 32)) := by
      unfold op_Goes.f op_Known.f
      rw [wrap_id (by omega) (by omega)]
      simp only [Option.bind_some]
      congr 1
      rw [Bool.eq_iff_iff]
      simp only [Bool.and_eq_true, decide_eq_true_eq]
      omega
    have hleads : op_Leads.f x.Op = some (decide (x.Op = 26 ∨ x.Op = 27 ∨ x.Op = 29)) := by
      obtain ⟨n, hn⟩ := Int.eq_ofNat_of_zero_le hop.1
      have := leads_eq ⟨n, by omega⟩
      dsimp only at this
      rw [hn]
      have e : (n : Int) = (Int.ofNat n) := rfl
      rw [this]
      congr 1
      rw [Bool.eq_iff_iff, decide_eq_true_eq, decide_eq_true_eq]
      omega
    have wa : IntKind.i64.wrap ((a : Int) + 1) = ((a + 1 : Nat) : Int) := wrap_succ a (by omega)
    rw [hgoes]
    simp only [Option.bind_some]
    rw [wa, if_pos (show (([] : List Int).length + [((a + 1 : Nat) : Int)].length) * 8 ≤ 140737488355328 by simp)]
    unfold flow_Ways.j1
    rw [hleads]
    simp only [Option.bind_some, List.nil_append]
    by_cases h31 : x.Op = 31 ∨ x.Op = 32
    · rw [if_neg (by rw [decide_eq_true_eq]; omega), if_neg (by omega), if_neg (by rw [decide_eq_true_eq]; omega), if_pos h31, j2_ways _ _ _ (by simp)]
      simp [ct0]
    · rw [if_neg h31]
      by_cases h26 : x.Op = 26
      · have hp := may_place hm (.inl h26)
        rw [if_neg (by rw [decide_eq_true_eq]; omega), if_neg (by omega), if_pos (by rw [decide_eq_true_eq]; omega), if_pos h26, if_pos (by simp), j2_ways _ _ _ (by simp)]
        simp [ct1]
      · rw [if_pos (by rw [decide_eq_true_eq]; omega), if_neg h26]
        by_cases h29 : x.Op = 29
        · have hp := may_place hm (.inr (.inr h29))
          have hA : x.A < a := by
            have hk : KK l a = .again x.A.toNat := by rw [KK_at ha, hx, if_neg (by omega), if_pos h29]
            obtain ⟨T, hT⟩ := again_mem hf.1.1 ha hk
            have := ((opn_mem (KK l) a fun j hj => hf.1.1 j (by omega)).1 x.A.toNat).1 (by rw [hT]; simp)
            omega
          have wA : IntKind.i64.wrap (x.A + 1) = x.A + 1 := wrap_id (by omega) (by omega)
          rw [if_pos h29, if_pos (by simp), if_neg (by omega), if_pos h29, wA, j2_ways _ _ _ (by simp)]
          simp only [List.singleton_append]
          rw [ms2, if_neg (by omega), ct2, if_neg (by omega)]
        · rw [if_neg h29, if_neg h29]
          by_cases h27 : x.Op = 27
          · have hj := (hJ x (by rw [List.getElem?_eq_getElem ha, hx]) (.inr h27)).1
            rw [if_pos (by rw [decide_eq_true_eq]; omega), if_pos h27, if_pos (by simp), j2_ways _ _ _ (by simp)]
            simp only [List.singleton_append]
            rw [ms2, if_pos (by omega), ct2]
            by_cases e : x.A = ((a + 1 : Nat) : Int)
            · rw [if_pos e.symm, if_pos e, e]
            · rw [if_neg (Ne.symm e), if_neg e]
          · rw [if_neg (by rw [decide_eq_true_eq]; omega), if_neg h27, j2_ways _ _ _ (by simp)]
            simp [ct1]
end FlowPure
namespace FlowPure
/-! ### code at hand -/
def goodB (K : Nat → Kn) (i : Nat) : Bool := match K i with
  | .loop => decide ((opn K i).length < 4)
  | .again a => decide ((opn K i).head? = some a)
  | .other => true
theorem goodB_iff {K : Nat → Kn} {i : Nat} : goodB K i = true ↔ good K i := by
  unfold goodB good
  cases K i <;> simp
def fineB (l : List api_Instr) : Bool :=
  ((List.range l.length).all (goodB (KK l)) && (opn (KK l) l.length).isEmpty) && ((match l[l.length - 1]? with | some x => decide (x.Op = 31 ∨ x.Op = 32) | none => true) &&
    (List.range l.length).all fun k => match l[k]? with
      | some x => if x.Op = 26 ∨ x.Op = 27 then decide ((k : Int) < x.A) && decide (x.A < l.length) && (RL (KK l) l.length).all fun y => decide ((y.1 : Int) < x.A → x.A ≤ y.2 → y.1 < k ∧ k ≤ y.2) else true
      | none => true)
theorem fineB_iff {l : List api_Instr} : fineB l = true ↔ Fine l := by
  unfold fineB Fine Run
  rw [Bool.and_eq_true, Bool.and_eq_true, Bool.and_eq_true]
  refine and_congr (and_congr ?_ (by simp)) (and_congr ?_ ?_)
  · rw [List.all_eq_true]
    constructor
    · intro h i hi; exact goodB_iff.1 (h i (List.mem_range.2 hi))
    · intro h i hi; exact goodB_iff.2 (h i (List.mem_range.1 hi))
  · unfold lastOk
    cases h : l[l.length - 1]? with
    | none => simp
    | some x => simp
  · unfold Jm
    rw [List.all_eq_true]
    constructor
    · intro h k hk x hx hop
      have := h k (List.mem_range.2 hk)
      rw [hx] at this
      dsimp only at this
      rw [if_pos hop, Bool.and_eq_true, Bool.and_eq_true, decide_eq_true_eq, decide_eq_true_eq, List.all_eq_true] at this
      refine ⟨this.1.1, this.1.2, fun y hy a b => ?_⟩
      have := this.2 y ((mem_RL y).2 hy)
      rw [decide_eq_true_eq] at this
      exact this a b
    · intro h k hk
      have := h k (List.mem_range.1 hk)
      cases hx : l[k]? with
      | none => rfl
      | some x =>
        dsimp only
        by_cases hop : x.Op = 26 ∨ x.Op = 27
        · have := this x hx hop
          rw [if_pos hop, Bool.and_eq_true, Bool.and_eq_true, decide_eq_true_eq, decide_eq_true_eq, List.all_eq_true]
          refine ⟨⟨this.1, this.2.1⟩, fun y hy => ?_⟩
          rw [decide_eq_true_eq]
          exact this.2.2 y ((mem_RL y).1 hy)
        · rw [if_neg hop]
instance (x : api_Instr) : Decidable (wf_api_Instr x) := by unfold wf_api_Instr; infer_instance
def knownB (l : List api_Instr) : Bool := decide (1 ≤ l.length) && decide (l.length ≤ 200) && l.all fun x => may x && decide (wf_api_Instr x)
theorem knownB_ok {l : List api_Instr} (h : knownB l = true) : Known l ∧ (∀ x ∈ l, wf_api_Instr x) ∧ l.length < 4611686018427387904 := by
  unfold knownB at h
  rw [Bool.and_eq_true, Bool.and_eq_true, decide_eq_true_eq, decide_eq_true_eq, List.all_eq_true] at h
  refine ⟨⟨h.1.1, h.1.2, fun x hx => ?_⟩, fun x hx => ?_, by omega⟩
  · have := h.2 x hx; rw [Bool.and_eq_true] at this; exact this.1
  · have := h.2 x hx; rw [Bool.and_eq_true, decide_eq_true_eq] at this; exact this.2
theorem chk {l : List api_Instr} (hk : knownB l = true) : flow_Check.f l = some (if fineB l = true then 0 else 90) := by
  obtain ⟨k1, k2, k3⟩ := knownB_ok hk
  obtain ⟨-, a2, a3⟩ := prog_loops k3 k2
  unfold flow_Check.f
  by_cases h : fineB l = true
  · rw [if_pos h, a2 k1 (fineB_iff.1 h)]; rfl
  · rw [if_neg h, a3 k1 (mt fineB_iff.2 h)]; rfl
theorem chk0 {l : List api_Instr} (h : (knownB l && fineB l) = true) : flow_Check.f l = some 0 := by
  rw [Bool.and_eq_true] at h
  rw [chk h.1, if_pos h.2]
theorem chk90 {l : List api_Instr} (h : (knownB l && !fineB l) = true) : flow_Check.f l = some 90 := by
  rw [Bool.and_eq_true, Bool.not_eq_true'] at h
  rw [chk h.1, h.2]; rfl
end FlowPure
namespace FlowPure
/-- What is known of a place's ways. -/
def WF (l : List api_Instr) (a : Nat) (x : api_Instr) (W : List Int) : Prop :=
  (W.length = 0 ↔ (x.Op = 31 ∨ x.Op = 32)) ∧ W.length ≤ 2 ∧ ∀ i (hi : i < W.length), 0 ≤ W[i] ∧ W[i] < l.length ∧ (W[i] ≤ a → x.Op = 29 ∧ W[i] = x.A + 1) ∧ (∀ h : 0 < i, W[i - 1] < W[i]) ∧
      ∀ y : Nat × Nat, Pr (KK l) l.length y.1 y.2 → (y.1 : Int) < W[i] → W[i] ≤ y.2 → y.1 ≤ a ∧ a ≤ y.2
theorem ways_facts {l : List api_Instr} (hk : Known l) (hf : Fine l) {a : Nat} (ha : a < l.length) : WF l a l[a] (ways l a) := by
  obtain ⟨o1, o2⟩ := run_pairs hf.1
  obtain ⟨-, -, hN, -⟩ := (run_iff (R := RL (KK l) l.length) fun h => ⟨fun x => mem_RL x, RL_nodup h⟩).1 hf.1
  have hJ := hf.2.2 a ha
  have hm := hk.2.2 _ (List.getElem_mem ha)
  have hlast : ¬ (l[a].Op = 31 ∨ l[a].Op = 32) → a + 1 < l.length := by
    intro h
    rcases Nat.lt_or_ge (a + 1) l.length with z | z
    · exact z
    · have e : l.length - 1 = a := by omega
      have := hf.2.1 l[a] (by rw [e, List.getElem?_eq_getElem ha])
      exact absurd this h
  have hag : l[a].Op = 29 → 0 ≤ l[a].A ∧ l[a].A < a ∧ KK l a = .again l[a].A.toNat := by
    intro h29
    have hp := may_place hm (.inr (.inr h29))
    have hkk : KK l a = .again l[a].A.toNat := by rw [KK_at ha, if_neg (by omega), if_pos h29]
    obtain ⟨T, hT⟩ := again_mem hf.1.1 ha hkk
    have := ((opn_mem (KK l) a fun j hj => hf.1.1 j (by omega)).1 l[a].A.toNat).1 (by rw [hT]; simp)
    exact ⟨hp.1, by omega, hkk⟩
  have hnext : ∀ x : Nat × Nat, Pr (KK l) l.length x.1 x.2 → (x.1 : Int) < ((a + 1 : Nat) : Int) → ((a + 1 : Nat) : Int) ≤ x.2 → x.1 ≤ a ∧ a ≤ x.2 := fun x _ h1 h2 => by omega
  have hjmp : (l[a].Op = 26 ∨ l[a].Op = 27) → (a : Int) < l[a].A ∧ l[a].A < l.length ∧ ∀ x : Nat × Nat, Pr (KK l) l.length x.1 x.2 → (x.1 : Int) < l[a].A → l[a].A ≤ x.2 → x.1 ≤ a ∧ a ≤ x.2 := by
    intro h
    have := hJ _ (List.getElem?_eq_getElem ha) h
    exact ⟨this.1, this.2.1, fun x hx h1 h2 => by have := this.2.2 x hx h1 h2; omega⟩
  have hback : l[a].Op = 29 → ∀ x : Nat × Nat, Pr (KK l) l.length x.1 x.2 → (x.1 : Int) < l[a].A + 1 → l[a].A + 1 ≤ x.2 → x.1 ≤ a ∧ a ≤ x.2 := by
    intro h29 x hx h1 h2
    obtain ⟨q1, q2, q3⟩ := hag h29
    obtain ⟨b1, b2⟩ := o2 a _ ha q3
    have pa : Pr (KK l) l.length l[a].A.toNat a := ⟨b1, ha, b2, q3⟩
    refine ⟨by omega, ?_⟩
    by_cases e : x.1 = l[a].A.toNat
    · obtain ⟨t0, -, -, hu⟩ := o1 _ pa.1 b2
      have e1 := hu _ pa
      have e2 := hu x.2 (by rw [← e]; exact hx)
      omega
    · exact hN _ _ _ _ hx pa (by omega) (by omega)
  have hway : ways l a = if l[a].Op = 31 ∨ l[a].Op = 32 then [] else if l[a].Op = 26 then [l[a].A] else if l[a].Op = 27 then (if l[a].A = ((a + 1 : Nat) : Int) then [l[a].A] else [((a + 1 : Nat) : Int), l[a].A]) else if l[a].Op = 29 then [l[a].A + 1, ((a + 1 : Nat) : Int)] else [((a + 1 : Nat) : Int)] := by
    unfold ways
    rw [List.getElem?_eq_getElem ha]
  rw [hway]
  clear hway
  generalize l[a] = x at *
  by_cases h31 : x.Op = 31 ∨ x.Op = 32
  · rw [if_pos h31]
    exact ⟨by simpa using h31, by simp, fun i hi => by simp at hi⟩
  · have hl := hlast h31
    rw [if_neg h31]
    have one : ∀ w : Int, (0 ≤ w ∧ w < l.length ∧ (w ≤ a → x.Op = 29 ∧ w = x.A + 1) ∧ ∀ y : Nat × Nat, Pr (KK l) l.length y.1 y.2 → (y.1 : Int) < w → w ≤ y.2 → y.1 ≤ a ∧ a ≤ y.2) → WF l a x [w] := by
      intro w hw
      refine ⟨by simpa using h31, by simp, fun i hi => ?_⟩
      obtain rfl : i = 0 := by simpa using hi
      exact ⟨hw.1, hw.2.1, hw.2.2.1, fun h => absurd h (by omega), hw.2.2.2⟩
    have two : ∀ v w : Int, v < w → (0 ≤ v ∧ v < l.length ∧ (v ≤ a → x.Op = 29 ∧ v = x.A + 1) ∧ ∀ y : Nat × Nat, Pr (KK l) l.length y.1 y.2 → (y.1 : Int) < v → v ≤ y.2 → y.1 ≤ a ∧ a ≤ y.2) → (0 ≤ w ∧ w < l.length ∧ (w ≤ a → x.Op = 29 ∧ w = x.A + 1) ∧ ∀ y : Nat × Nat, Pr (KK l) l.length y.1 y.2 → (y.1 : Int) < w → w ≤ y.2 → y.1 ≤ a ∧ a ≤ y.2) → WF l a x [v, w] := by
      intro v w hlt hv hw
      refine ⟨by simpa using h31, by simp, fun i hi => ?_⟩
      rcases i with _ | _ | i
      · exact ⟨hv.1, hv.2.1, hv.2.2.1, fun h => absurd h (by omega), hv.2.2.2⟩
      · exact ⟨hw.1, hw.2.1, hw.2.2.1, fun _ => hlt, hw.2.2.2⟩
      · simp at hi; omega
    by_cases h26 : x.Op = 26
    · rw [if_pos h26]
      obtain ⟨j1, j2, j3⟩ := hjmp (.inl h26)
      exact one _ ⟨by omega, j2, fun h => by omega, j3⟩
    · rw [if_neg h26]
      by_cases h27 : x.Op = 27
      · rw [if_pos h27]
        obtain ⟨j1, j2, j3⟩ := hjmp (.inr h27)
        by_cases e : x.A = ((a + 1 : Nat) : Int)
        · rw [if_pos e]
          exact one _ ⟨by omega, j2, fun h => by omega, j3⟩
        · rw [if_neg e]
          exact two _ _ (by omega) ⟨by omega, by omega, fun h => by omega, hnext⟩ ⟨by omega, j2, fun h => by omega, j3⟩
      · rw [if_neg h27]
        by_cases h29 : x.Op = 29
        · rw [if_pos h29]
          obtain ⟨q1, q2, q3⟩ := hag h29
          exact two _ _ (by omega) ⟨by omega, by omega, fun _ => ⟨h29, rfl⟩, hback h29⟩ ⟨by omega, by omega, fun h => by omega, hnext⟩
        · rw [if_neg h29]
          exact one _ ⟨by omega, by omega, fun h => by omega, hnext⟩
end FlowPure
namespace TypesPure
open FlowPure
/-! ### the library's functions -/
theorem concat2 {x y : List Int} (h : x.length + y.length ≤ 140737488355328) : slices_Concat_uint8_uint8.f [x, y] = some (x ++ y) := by
  unfold slices_Concat_uint8_uint8.f
  have w1 : IntKind.i64.wrap ((0 : Int) + (x.length : Int)) = x.length := by rw [wrap_id (by omega) (by omega)]; omega
  have w2 : IntKind.i64.wrap ((x.length : Int) + (y.length : Int)) = ((x.length + y.length : Nat) : Int) := by rw [wrap_id (by omega) (by omega)]; omega
  have i1 : IntKind.i64.wrap ((0 : Int) + 1) = 1 := by decide
  have i2 : IntKind.i64.wrap ((1 : Int) + 1) = 2 := by decide
  rw [runF_step (t := .l1 0 0) rfl, runF_step (t := .l1 (x.length : Int) 1), runF_step (t := .l1 ((x.length + y.length : Nat) : Int) 2), runF_step (t := .l2 [] 0), runF_step (t := .l2 x 1), runF_step (t := .l2 (x ++ y) 2), runF_end]
  · dsimp only [slices_Concat_uint8_uint8.F]; rw [if_neg (by simp)]
  · dsimp only [slices_Concat_uint8_uint8.F]; rw [if_pos (by simp), show elt [x, y] 1 = some y from rfl]; simp only [Option.bind_some]; rw [if_pos (by omega), i2]
  · dsimp only [slices_Concat_uint8_uint8.F]; rw [if_pos (by simp), show elt [x, y] 0 = some x from rfl]; simp only [Option.bind_some]; rw [if_pos (by simp; omega), i1]; rfl
  · dsimp only [slices_Concat_uint8_uint8.F]; rw [if_neg (by simp), if_pos (by omega)]
  · dsimp only [slices_Concat_uint8_uint8.F]; rw [if_pos (by simp), show elt [x, y] 1 = some y from rfl]; simp only [Option.bind_some]; rw [w2, if_neg (by omega)]; unfold slices_Concat_uint8_uint8.j1; rw [w2, i2]
  · dsimp only [slices_Concat_uint8_uint8.F]; rw [if_pos (by simp), show elt [x, y] 0 = some x from rfl]; simp only [Option.bind_some]; rw [w1, if_neg (by omega)]; unfold slices_Concat_uint8_uint8.j1; rw [w1, i1]
theorem clone8 {x : List Int} (h : x.length ≤ 140737488355328) : slices_Clone_uint8_uint8.f x = some x := by
  unfold slices_Clone_uint8_uint8.f
  rw [nilOr_same (by rintro rfl; rfl), if_pos (by simp; omega)]; rfl
theorem cloneRows {x : List types_Row} (h : x.length ≤ 200) : slices_Clone_types_Row_types_Row.f x = some x := by
  unfold slices_Clone_types_Row_types_Row.f
  rw [nilOr_same (by rintro rfl; rfl), if_pos (by simp; omega)]; rfl
theorem repeat2 (a : Int) : slices_Repeat_uint8_uint8.f [a] 2 = some [a, a] := by
  unfold slices_Repeat_uint8_uint8.f
  have m : math_bits_Mul.f (IntKind.u64.wrap (([a] : List Int).length : Int)) (IntKind.u64.wrap 2) = some (0, 2) := by show math_bits_Mul.f (IntKind.u64.wrap 1) (IntKind.u64.wrap 2) = some (0, 2); decide +kernel
  have w2 : IntKind.i64.wrap 2 = 2 := by decide
  rw [runF_step (t := .l1 [a, 0] 1), runF_step (t := .l1 [a, a] 2), runF_end]
  · dsimp only [slices_Repeat_uint8_uint8.F]; rw [if_neg (by simp)]
  · dsimp only [slices_Repeat_uint8_uint8.F]; rw [if_pos (by simp), if_pos (by simp), if_pos (by simp)]; rfl
  · dsimp only [slices_Repeat_uint8_uint8.F]
    rw [if_neg (by omega)]
    unfold slices_Repeat_uint8_uint8.j1
    rw [m]
    simp only [Option.bind_some]
    rw [if_neg (by decide)]
    unfold slices_Repeat_uint8_uint8.j2
    dsimp only
    rw [w2, if_pos (by omega)]; rfl
theorem same8 {x y : List Int} (h : x.length < 4611686018427387904) : slices_Equal_uint8_uint8.f x y = some (decide (x = y)) := by
  unfold slices_Equal_uint8_uint8.f
  by_cases hl : x.length = y.length
  · rw [runF_step (t := .l1 ((0 : Nat) : Int)) (by dsimp only [slices_Equal_uint8_uint8.F]; rw [if_neg (by omega)]; rfl)]
    obtain ⟨r, hr, hc⟩ := runF_scan (F := slices_Equal_uint8_uint8.F x y) (n := x.length) (b := true) (a := fun _ => false) (fun k => .l1 (k : Int)) (fun k => decide (x[k]? ≠ y[k]?)) (fun k hk => by
      have hk' : k < y.length := by omega
      dsimp only [slices_Equal_uint8_uint8.F]
      rw [if_pos (by omega), elt_lt hk, elt_lt hk', List.getElem?_eq_getElem hk, List.getElem?_eq_getElem hk']
      simp only [Option.bind_some, Option.some.injEq, ne_eq, wrap_succ k (by omega), decide_eq_true_eq]
      by_cases e : x[k] = y[k]
      · rw [if_neg (by simpa using e), if_neg (by simpa using e)]
      · rw [if_pos (by simpa using e), if_pos (by simpa using e)]) (by dsimp only [slices_Equal_uint8_uint8.F]; rw [if_neg (by omega)])
    rw [hr]
    congr 1
    rcases hc with ⟨k, hk, hp, rfl⟩ | ⟨hn, rfl⟩
    · rw [eq_comm, decide_eq_false_iff_not]
      rintro rfl; simp at hp
    · rw [eq_comm, decide_eq_true_eq]
      refine List.ext_getElem? fun k => ?_
      rcases Nat.lt_or_ge k x.length with z | z
      · have := hn k z; simpa using this
      · rw [List.getElem?_eq_none z, List.getElem?_eq_none (by omega)]
  · rw [runF_end (r := false) (by dsimp only [slices_Equal_uint8_uint8.F]; rw [if_pos (by omega)])]
    congr 1
    rw [eq_comm, decide_eq_false_iff_not]
    rintro rfl; exact hl rfl
/-! ### what an instruction names -/
structure TE where
  G : List api_Value
  P : List api_Value
  M : List api_Method
  res : Int
  K : List Int
def there (E : TE) (i : api_Instr) : Bool := if i.Op = 1 then decide (i.A < E.P.length) else if i.Op = 2 ∨ i.Op = 3 then decide (i.A < E.K.length) else if i.Op = 4 ∨ i.Op = 5 then decide (i.A < E.G.length) else if i.Op = 30 then decide (i.A < E.M.length) else true
theorem there_eq (E : TE) (mig : Int) (ar lo : List Int) (re : Bool) (fu sta he : Int) (co : List api_Instr) (i : api_Instr) : types_look_there_s1.f E.G E.P E.M mig ar lo E.res re fu sta he co E.K i = some (there E i) := by
  unfold types_look_there_s1.f types_look_there_s1.j2 types_look_there_s1.j3 types_look_there_s1.j1 there
  by_cases h1 : i.Op = 1
  · simp [h1]
  · by_cases h2 : i.Op = 2
    · simp [h2]
    · by_cases h3 : i.Op = 3
      · simp [h3]
      · by_cases h4 : i.Op = 4
        · simp [h4]
        · by_cases h5 : i.Op = 5
          · simp [h5]
          · by_cases h6 : i.Op = 30
            · simp [h6]
            · simp [h1, h2, h3, h4, h5, h6]
theorem contains_there {E : TE} {mig : Int} {ar lo : List Int} {re : Bool} {fu sta he : Int} {co l : List api_Instr} (hl : l.length < 4611686018427387904) : slices_ContainsFunc_api_Instr_api_Instr_s2.f l E.G E.P E.M mig ar lo E.res re fu sta he co E.K = some (l.any fun x => !there E x) := by
  unfold slices_ContainsFunc_api_Instr_api_Instr_s2.f slices_IndexFunc_api_Instr_api_Instr_s2.f
  rw [runF_step (t := .l1 ((0 : Nat) : Int)) rfl]
  obtain ⟨r, hr, hc⟩ := runF_scan (F := slices_IndexFunc_api_Instr_api_Instr_s2.F l E.G E.P E.M mig ar lo E.res re fu sta he co E.K) (n := l.length) (b := -1) (a := fun k => (k : Int)) (fun k => .l1 (k : Int)) (fun k => if h : k < l.length then !there E l[k] else false) (fun k hk => by
    dsimp only [slices_IndexFunc_api_Instr_api_Instr_s2.F]
    rw [if_pos (by omega), elt_lt hk]
    simp only [Option.bind_some]
    unfold types_Rows_1_s1.f
    rw [there_eq]
    simp only [Option.bind_some, dif_pos hk, wrap_succ k (by omega)]
    cases there E l[k] <;> rfl) (by dsimp only [slices_IndexFunc_api_Instr_api_Instr_s2.F]; rw [if_neg (by omega)])
  rw [hr]
  simp only [Option.bind_some]
  congr 1
  rw [Bool.eq_iff_iff]
  simp only [decide_eq_true_eq, List.any_eq_true]
  rcases hc with ⟨k, hk, hp, rfl⟩ | ⟨hn, rfl⟩
  · rw [dif_pos hk] at hp
    exact ⟨fun _ => ⟨_, List.getElem_mem hk, hp⟩, fun _ => by omega⟩
  · refine ⟨fun h => by omega, fun ⟨x, hx, hp⟩ => ?_⟩
    obtain ⟨k, hk, rfl⟩ := List.mem_iff_getElem.1 hx
    have := hn k hk
    rw [dif_pos hk, hp] at this; cases this
/-- What is named is there. -/
theorem may_named {i : api_Instr} (hw : wf_api_Instr i) (h : may i = true) (ho : i.Op = 1 ∨ i.Op = 2 ∨ i.Op = 3 ∨ i.Op = 4 ∨ i.Op = 5 ∨ i.Op = 30) : 0 ≤ i.A := by
  unfold may at h
  have e : (op_Bounds.f i.Op).map (·.1) = some 0 := by rcases ho with e | e | e | e | e | e <;> rw [e] <;> decide +kernel
  cases hb : op_Bounds.f i.Op with
  | none => rw [hb] at e; cases e
  | some b =>
    rw [hb] at e h
    simp at e h; omega
def At {α : Type} (xs : List α) (d : α) (a : Int) : α := xs[a.toNat]?.getD d
theorem elt_At {α : Type} {xs : List α} {a : Int} (d : α) (h0 : 0 ≤ a) (h1 : a < xs.length) : elt xs a = some (At xs d a) := by
  have : a.toNat < xs.length := by omega
  rw [elt_int h0 this]
  simp [At, this]
def named (E : TE) (i : api_Instr) : Int := if i.Op = 1 then (At E.P api_Value.zero i.A).Kind else if i.Op = 4 ∨ i.Op = 5 then (At E.G api_Value.zero i.A).Kind else At E.K 0 i.A
theorem named_eq {E : TE} {mig : Int} {ar lo : List Int} {re : Bool} {fu sta he : Int} {co : List api_Instr} {rows : List types_Row} {i : api_Instr} (hw : wf_api_Instr i) (hm : may i = true) (ht : there E i = true) (ho : i.Op = 1 ∨ i.Op = 2 ∨ i.Op = 3 ∨ i.Op = 4 ∨ i.Op = 5) :
    types_look_named_s1.f E.G E.P E.M mig ar lo E.res re fu sta he co E.K rows i = some (named E i, rows) := by
  have h0 := may_named hw hm (by omega)
  unfold types_look_named_s1.f types_look_named_s1.j1 named
  unfold there at ht
  rcases ho with e | e | e | e | e
  · simp only [e, if_true, decide_eq_true_eq] at ht ⊢
    rw [elt_At api_Value.zero h0 ht]; rfl
  · simp [e] at ht ⊢
    rw [elt_At 0 h0 ht]; rfl
  · simp [e] at ht ⊢
    rw [elt_At 0 h0 ht]; rfl
  · simp [e] at ht ⊢
    rw [elt_At api_Value.zero h0 ht]; rfl
  · simp [e] at ht ⊢
    rw [elt_At api_Value.zero h0 ht]; rfl
end TypesPure
namespace TypesPure
open FlowPure
/-! ### what an instruction takes and gives -/
def ofOk (n : Nat) (o : Option (op_Shape × Bool)) : Bool := match o with
  | none => false
  | some s => if s.2 = true then decide (s.1.Takes.length ≤ 3 ∧ s.1.Gives.length ≤ 2) && decide (n ≠ 31) else decide (s.1.Takes = [] ∧ s.1.Gives = []) && decide (n = 1 ∨ n = 2 ∨ n = 3 ∨ n = 4 ∨ n = 5 ∨ n = 7 ∨ n = 8 ∨ n = 30 ∨ n = 31)
theorem of_all (n : Fin 33) : ofOk n.1 (op_Of.f (n.1 : Int)) = true := by revert n; decide +kernel
theorem of_some {x : Int} (h0 : 0 ≤ x) (h1 : x < 33) : ∃ s : op_Shape × Bool, op_Of.f x = some s ∧ ((s.2 = true ∧ s.1.Takes.length ≤ 3 ∧ s.1.Gives.length ≤ 2 ∧ x ≠ 31) ∨ (s = (⟨[], []⟩, false) ∧ (x = 1 ∨ x = 2 ∨ x = 3 ∨ x = 4 ∨ x = 5 ∨ x = 7 ∨ x = 8 ∨ x = 30 ∨ x = 31))) := by
  obtain ⟨n, rfl⟩ := Int.eq_ofNat_of_zero_le h0
  have := of_all ⟨n, by omega⟩
  dsimp only at this
  cases ho : op_Of.f (n : Int) with
  | none => rw [ho] at this; cases this
  | some s =>
    rw [ho] at this
    refine ⟨s, rfl, ?_⟩
    unfold ofOk at this
    dsimp only at this
    by_cases hs : s.2 = true
    · rw [if_pos hs, Bool.and_eq_true, decide_eq_true_eq, decide_eq_true_eq] at this
      exact .inl ⟨hs, this.1.1, this.1.2, by omega⟩
    · rw [if_neg hs, Bool.and_eq_true, decide_eq_true_eq, decide_eq_true_eq] at this
      obtain ⟨⟨t, g⟩, b⟩ := s
      obtain ⟨⟨rfl, rfl⟩, h⟩ := this
      simp only [Bool.not_eq_true] at hs
      subst hs
      exact .inr ⟨rfl, by omega⟩
def two (row : List Int) : List Int := row.drop (row.length - 2)
def shapeC (E : TE) (i : api_Instr) (row : List Int) : List Int × List Int := match op_Of.f i.Op with
  | none => ([], [])
  | some s => if s.2 = true then (s.1.Takes, s.1.Gives)
    else if i.Op = 1 ∨ i.Op = 2 ∨ i.Op = 4 then ([], [named E i])
    else if i.Op = 3 ∨ i.Op = 5 then ([named E i], [])
    else if i.Op = 30 then ((At E.M api_Method.zero i.A).Args, [(At E.M api_Method.zero i.A).Result])
    else if i.Op = 31 then ([E.res], [])
    else if i.Op = 8 then ([0, 0], (two row).reverse)
    else ([0], if row = [] then [] else [row.getLastD 0, row.getLastD 0])
theorem two_len (row : List Int) : (two row).length ≤ 2 := by unfold two; simp; omega
theorem two_last {row : List Int} (h : row ≠ []) : (two row).drop ((two row).length - 1) = [row.getLastD 0] := by
  have hp : 0 < row.length := List.length_pos_iff.2 h
  have e : row = row.dropLast ++ [row.getLast h] := (List.dropLast_concat_getLast h).symm
  have hl : row.getLastD 0 = row.getLast h := by rw [List.getLastD_eq_getLast?, List.getLast?_eq_some_getLast h]; rfl
  unfold two
  rw [List.drop_drop, List.length_drop, hl]
  have : row.length - 2 + (row.length - (row.length - 2) - 1) = row.dropLast.length := by rw [List.length_dropLast]; omega
  rw [this]
  conv => lhs; rw [e]
  rw [List.drop_left' (by simp)]
theorem shape_eq {E : TE} {mig : Int} {ar lo : List Int} {re : Bool} {fu sta he : Int} {co : List api_Instr} {rows : List types_Row} {i : api_Instr} {row : List Int} (hw : wf_api_Instr i) (hm : may i = true) (ht : there E i = true) (hrow : row.length ≤ 100000) :
    types_look_shape_s1.f E.G E.P E.M mig ar lo E.res re fu sta he co E.K rows i row = some (⟨(shapeC E i row).1, (shapeC E i row).2⟩, rows) := by
  obtain ⟨o0, o1⟩ := op_lt hw hm
  obtain ⟨s, hs, h⟩ := of_some o0 o1
  unfold types_look_shape_s1.f shapeC
  rw [hs]
  simp only [Option.bind_some]
  rcases h with ⟨h2, -, -, -⟩ | ⟨rfl, ho⟩
  · rw [if_pos h2, if_pos h2]
  · simp only [Bool.false_eq_true, if_false]
    have w : IntKind.i64.wrap ((row.length : Int) - 2) = (row.length : Int) - 2 := wrap_id (by omega) (by omega)
    have e : (if (IntKind.i64.wrap ((row.length : Int) - 2)) > 0 then IntKind.i64.wrap ((row.length : Int) - 2) else 0 : Int) = ((row.length - 2 : Nat) : Int) := by rw [w]; split <;> omega
    rw [e, if_pos (by omega)]
    have et : ((row.length - 2 : Nat) : Int).toNat = row.length - 2 := by omega
    rw [et, clone8 (by simp; omega)]
    simp only [Option.bind_some]
    change (if i.Op = 1 then types_look_shape_s1.j3 _ _ _ _ _ _ _ _ _ _ _ _ _ _ _ _ _ (two row) _ else _) = _
    have hj : ∀ b : Bool, b = decide (i.Op = 1 ∨ i.Op = 2 ∨ i.Op = 4) → types_look_shape_s1.j3 E.G E.P E.M mig ar lo E.res re fu sta he co E.K rows i row (⟨[], []⟩, false) (two row) b = some (⟨(if i.Op = 1 ∨ i.Op = 2 ∨ i.Op = 4 then ([], [named E i])
      else if i.Op = 3 ∨ i.Op = 5 then ([named E i], [])
      else if i.Op = 30 then ((At E.M api_Method.zero i.A).Args, [(At E.M api_Method.zero i.A).Result])
      else if i.Op = 31 then ([E.res], [])
      else if i.Op = 8 then ([0, 0], (two row).reverse)
      else ([0], if row = [] then [] else [row.getLastD 0, row.getLastD 0]) : List Int × List Int).1, (if i.Op = 1 ∨ i.Op = 2 ∨ i.Op = 4 then ([], [named E i])
      else if i.Op = 3 ∨ i.Op = 5 then ([named E i], [])
      else if i.Op = 30 then ((At E.M api_Method.zero i.A).Args, [(At E.M api_Method.zero i.A).Result])
      else if i.Op = 31 then ([E.res], [])
      else if i.Op = 8 then ([0, 0], (two row).reverse)
      else ([0], if row = [] then [] else [row.getLastD 0, row.getLastD 0]) : List Int × List Int).2⟩, rows) := by
      rintro b rfl
      unfold types_look_shape_s1.j3
      by_cases h124 : i.Op = 1 ∨ i.Op = 2 ∨ i.Op = 4
      · rw [if_pos (by simpa using h124), named_eq hw hm ht (by omega), if_pos h124]; rfl
      · rw [if_neg (by simpa using h124), if_neg h124]
        have hj4 : ∀ b : Bool, b = decide (i.Op = 3 ∨ i.Op = 5) → types_look_shape_s1.j4 E.G E.P E.M mig ar lo E.res re fu sta he co E.K rows i row (⟨[], []⟩, false) (two row) b = some (⟨(if i.Op = 3 ∨ i.Op = 5 then ([named E i], [])
          else if i.Op = 30 then ((At E.M api_Method.zero i.A).Args, [(At E.M api_Method.zero i.A).Result])
          else if i.Op = 31 then ([E.res], [])
          else if i.Op = 8 then ([0, 0], (two row).reverse)
          else ([0], if row = [] then [] else [row.getLastD 0, row.getLastD 0]) : List Int × List Int).1, (if i.Op = 3 ∨ i.Op = 5 then ([named E i], [])
          else if i.Op = 30 then ((At E.M api_Method.zero i.A).Args, [(At E.M api_Method.zero i.A).Result])
          else if i.Op = 31 then ([E.res], [])
          else if i.Op = 8 then ([0, 0], (two row).reverse)
          else ([0], if row = [] then [] else [row.getLastD 0, row.getLastD 0]) : List Int × List Int).2⟩, rows) := by
          rintro b rfl
          unfold types_look_shape_s1.j4
          by_cases h35 : i.Op = 3 ∨ i.Op = 5
          · rw [if_pos (by simpa using h35), named_eq hw hm ht (by omega), if_pos h35]; rfl
          · rw [if_neg (by simpa using h35), if_neg h35]
            by_cases h30 : i.Op = 30
            · have a0 := may_named hw hm (by omega)
              have a1 : i.A < E.M.length := by simpa [there, h30] using ht
              rw [if_pos h30, if_pos h30, elt_At api_Method.zero a0 a1]; rfl
            · rw [if_neg h30, if_neg h30]
              by_cases h31 : i.Op = 31
              · rw [if_pos h31, if_pos h31]; rfl
              · rw [if_neg h31, if_neg h31]
                by_cases h8 : i.Op = 8
                · have := two_len row
                  rw [if_pos h8, if_pos h8, if_pos (by omega), if_pos (by simp)]; rfl
                · rw [if_neg h8, if_neg h8]
                  by_cases h7 : i.Op = 7
                  · rw [if_pos h7]
                    by_cases hr : row = []
                    · subst hr; rfl
                    · have hp : 0 < row.length := List.length_pos_iff.2 hr
                      have t1 := two_len row
                      have t2 : 0 < (two row).length := by unfold two; simp; omega
                      have w1 : IntKind.i64.wrap (((two row).length : Int) - 1) = (((two row).length - 1 : Nat) : Int) := by rw [wrap_id (by omega) (by omega)]; omega
                      rw [if_pos (by omega), w1, if_pos (by omega), if_neg hr]
                      have et : (((two row).length - 1 : Nat) : Int).toNat = (two row).length - 1 := by omega
                      rw [et, two_last hr, repeat2]; rfl
                  · omega
        by_cases h3 : i.Op = 3
        · rw [if_pos h3]; exact hj4 _ (by simp [h3])
        · rw [if_neg h3]; exact hj4 _ (by simp [h3])
    by_cases h1 : i.Op = 1
    · rw [if_pos h1]; exact hj _ (by simp [h1])
    · rw [if_neg h1]
      by_cases h2 : i.Op = 2
      · rw [if_pos h2]; exact hj _ (by simp [h2])
      · rw [if_neg h2]; exact hj _ (by simp [h1, h2])
theorem gives_len {E : TE} {i : api_Instr} {row : List Int} (hw : wf_api_Instr i) (hm : may i = true) : (shapeC E i row).2.length ≤ 2 := by
  obtain ⟨o0, o1⟩ := op_lt hw hm
  obtain ⟨s, hs, h⟩ := of_some o0 o1
  have := two_len row
  unfold shapeC
  rw [hs]
  dsimp only
  rcases h with ⟨h2, -, h3, -⟩ | ⟨rfl, ho⟩
  · rw [if_pos h2]; exact h3
  · rw [if_neg (by simp)]
    split
    · simp
    · split
      · simp
      · split
        · simp
        · split
          · simp
          · split
            · simpa using this
            · dsimp only; split <;> simp
theorem takes_len {E : TE} {i : api_Instr} {row : List Int} (hw : wf_api_Instr i) (hm : may i = true) (hM : ∀ m ∈ E.M, m.Args.length < 4611686018427387904) : (shapeC E i row).1.length < 4611686018427387904 := by
  obtain ⟨o0, o1⟩ := op_lt hw hm
  obtain ⟨s, hs, h⟩ := of_some o0 o1
  unfold shapeC
  rw [hs]
  dsimp only
  rcases h with ⟨h2, h3, -, -⟩ | ⟨rfl, ho⟩
  · rw [if_pos h2]; dsimp only; omega
  · rw [if_neg (by simp)]
    split
    · simp
    · split
      · simp
      · split
        · unfold At
          dsimp only
          rcases Nat.lt_or_ge i.A.toNat E.M.length with z | z
          · rw [List.getElem?_eq_getElem z]; exact hM _ (List.getElem_mem z)
          · rw [List.getElem?_eq_none z]; simp [api_Method.zero]
        · split
          · simp
          · split
            · simp
            · simp
/-- A row behind an instruction. -/
def takesB (t row : List Int) : Bool := (t.zip (row.drop (row.length - t.length))).all fun x => decide (x.1 = 0 ∨ x.1 = x.2)
def afterC (E : TE) (i : api_Instr) (row : List Int) : List Int × Int := if row.length < (shapeC E i row).1.length then ([], 101) else if takesB (shapeC E i row).1 row = true then (row.take (row.length - (shapeC E i row).1.length) ++ (shapeC E i row).2, 0) else ([], 100)
theorem after_eq {E : TE} {mig : Int} {ar lo : List Int} {re : Bool} {fu sta he : Int} {co : List api_Instr} {rows : List types_Row} {i : api_Instr} {row : List Int} (hw : wf_api_Instr i) (hm : may i = true) (ht : there E i = true) (hrow : row.length ≤ 100000) (hM : ∀ m ∈ E.M, m.Args.length < 4611686018427387904) :
    types_look_after_s1.f E.G E.P E.M mig ar lo E.res re fu sta he co E.K rows i row = some (afterC E i row, rows) := by
  have hg := gives_len (E := E) (row := row) hw hm
  have htk := takes_len (E := E) (row := row) hw hm hM
  unfold types_look_after_s1.f afterC
  have hs := shape_eq (mig := mig) (ar := ar) (lo := lo) (re := re) (fu := fu) (sta := sta) (he := he) (co := co) (rows := rows) hw hm ht hrow
  generalize shapeC E i row = sh at hg htk hs ⊢
  obtain ⟨t, g⟩ := sh
  dsimp only at hg htk hs ⊢
  have w : IntKind.i64.wrap ((row.length : Int) - (t.length : Int)) = (row.length : Int) - t.length := wrap_id (by omega) (by omega)
  by_cases hlt : row.length < t.length
  · rw [if_pos hlt, runF_end]
    dsimp only [types_look_after_s1.F]
    rw [hs]
    simp only [Option.bind_some]
    rw [w, if_pos (by omega)]
  · rw [if_neg hlt, runF_step (t := .l1 (⟨t, g⟩, rows) ((0 : Nat) : Int))]
    · obtain ⟨r, hr, hc⟩ := runF_scan (F := types_look_after_s1.F E.G E.P E.M mig ar lo E.res re fu sta he co E.K rows i row) (n := t.length) (b := ((row.take (row.length - t.length) ++ g, 0), rows)) (a := fun _ => (([], 100), rows)) (fun k => .l1 (⟨t, g⟩, rows) (k : Int)) (fun k => match (t.zip (row.drop (row.length - t.length)))[k]? with | some x => !decide (x.1 = 0 ∨ x.1 = x.2) | none => false) (fun k hk => by
        dsimp only [types_look_after_s1.F]
        have hk2 : row.length - t.length + k < row.length := by omega
        have w2 : IntKind.i64.wrap ((row.length : Int) - t.length + k) = ((row.length - t.length + k : Nat) : Int) := by rw [wrap_id (by omega) (by omega)]; omega
        rw [if_pos (by omega), elt_lt hk, w, w2, elt_lt hk2]
        simp only [Option.bind_some, wrap_succ k (by omega)]
        rw [List.getElem?_eq_getElem (by simp; omega), List.getElem_zip, List.getElem_drop]
        dsimp only
        by_cases h0 : t[k] = 0
        · simp [h0]
        · by_cases h1 : t[k] = row[row.length - t.length + k]
          · simp [h1]
          · simp [h0, h1]) (by
        dsimp only [types_look_after_s1.F]
        have et : ((row.length : Int) - t.length).toNat = row.length - t.length := by omega
        rw [if_neg (by omega), w, if_pos (by omega), et, concat2 (by simp; omega)]; rfl)
      rw [hr]
      congr 1
      unfold takesB
      rcases hc with ⟨k, hk, hp, rfl⟩ | ⟨hn, rfl⟩
      · rw [if_neg]
        intro hall
        rw [List.all_eq_true] at hall
        split at hp
        · rename_i x hx
          have := hall x (List.mem_of_getElem? hx)
          rw [this] at hp; cases hp
        · cases hp
      · rw [if_pos]
        rw [List.all_eq_true]
        intro x hx
        obtain ⟨k, hk, hx⟩ := List.mem_iff_getElem.1 hx
        have h2 := hn k (by simp at hk; omega)
        rw [List.getElem?_eq_getElem hk, hx] at h2
        dsimp only at h2
        rw [Bool.not_eq_false'] at h2
        exact h2
    · dsimp only [types_look_after_s1.F]
      rw [hs]
      simp only [Option.bind_some]
      rw [w, if_neg (by omega)]; rfl
theorem after_len {E : TE} {i : api_Instr} {row : List Int} (hw : wf_api_Instr i) (hm : may i = true) : (afterC E i row).1.length ≤ row.length + 2 := by
  have hg := gives_len (E := E) (row := row) hw hm
  unfold afterC
  split
  · simp
  · split
    · simp; omega
    · simp
end TypesPure
namespace TypesPure
open FlowPure
/-! ### a place -/
def R0 : types_Row := types_Row.zero
def put (next : List Int) : List types_Row → List Int → Int × List types_Row
  | rows, [] => (0, rows)
  | rows, w :: ws => if (At rows R0 w).Reached = true ∧ (At rows R0 w).Kinds ≠ next then (100, rows) else put next (rows.set w.toNat ⟨true, next⟩) ws
def placeC (E : TE) (l : List api_Instr) (rows : List types_Row) (a : Nat) : Int × List types_Row :=
  if (At rows R0 a).Reached = true then (if (afterC E (At l api_Instr.zero a) (At rows R0 a).Kinds).2 ≠ 0 then ((afterC E (At l api_Instr.zero a) (At rows R0 a).Kinds).2, rows) else put (afterC E (At l api_Instr.zero a) (At rows R0 a).Kinds).1 rows (FlowPure.ways l a)) else (0, rows)
theorem At_nat {α : Type} {xs : List α} {d : α} {a : Nat} (h : a < xs.length) : At xs d (a : Int) = xs[a] := by
  unfold At
  rw [show ((a : Int).toNat) = a from by omega, List.getElem?_eq_getElem h]; rfl
structure Well (E : TE) (l : List api_Instr) : Prop where
  known : Known l
  fine : Fine l
  wf : ∀ x ∈ l, wf_api_Instr x
  th : ∀ x ∈ l, there E x = true
  M : ∀ m ∈ E.M, m.Args.length < 4611686018427387904
def Sz (k : Nat) (rows : List types_Row) : Prop := rows.length = 200 ∧ ∀ r ∈ rows, r.Kinds.length ≤ 2 * k
theorem put_sz {k : Nat} {next : List Int} (hn : next.length ≤ 2 * k) : ∀ (ws : List Int) (rows : List types_Row), Sz k rows → Sz k (put next rows ws).2
  | [], rows, h => h
  | w :: ws, rows, h => by
    unfold put
    split
    · exact h
    · refine put_sz hn ws _ ⟨by rw [List.length_set]; exact h.1, fun r hr => ?_⟩
      rcases List.mem_or_eq_of_mem_set hr with hr | rfl
      · exact h.2 r hr
      · exact hn
theorem At_mem {α : Type} {xs : List α} {d : α} {a : Int} {p : α → Prop} (hd : p d) (h : ∀ x ∈ xs, p x) : p (At xs d a) := by
  unfold At
  rcases Nat.lt_or_ge a.toNat xs.length with z | z
  · rw [List.getElem?_eq_getElem z]; exact h _ (List.getElem_mem z)
  · rw [List.getElem?_eq_none z]; exact hd
theorem place_sz {E : TE} {l : List api_Instr} (W : Well E l) {k : Nat} (hk : k < l.length) {rows : List types_Row} (h : Sz k rows) : Sz (k + 1) (placeC E l rows k).2 := by
  have h' : Sz (k + 1) rows := ⟨h.1, fun r hr => by have := h.2 r hr; omega⟩
  unfold placeC
  split
  · split
    · exact h'
    · refine put_sz ?_ _ _ h'
      have hm := W.known.2.2 _ (List.getElem_mem hk)
      have hw := W.wf _ (List.getElem_mem hk)
      rw [At_nat hk]
      have := after_len (E := E) (row := (At rows R0 (k : Int)).Kinds) hw hm
      have h2 : (At rows R0 (k : Int)).Kinds.length ≤ 2 * k := At_mem (p := fun r : types_Row => r.Kinds.length ≤ 2 * k) (by simp [R0, types_Row.zero]) h.2
      omega
  · exact h'
theorem place_eq {E : TE} {mig : Int} {ar lo : List Int} {re : Bool} {fu sta he : Int} {l : List api_Instr} (W : Well E l) {rows : List types_Row} {k : Nat} (hk : k < l.length) (h : Sz k rows) :
    types_look_place_s1.f E.G E.P E.M mig ar lo E.res re fu sta he l E.K rows (k : Int) = some (placeC E l rows k) := by
  have hn : l.length ≤ 200 := W.known.2.1
  have hm := W.known.2.2 _ (List.getElem_mem hk)
  have hw := W.wf _ (List.getElem_mem hk)
  have ht := W.th _ (List.getElem_mem hk)
  have hk2 : k < rows.length := by rw [h.1]; omega
  have hr : rows[k].Kinds.length ≤ 2 * k := h.2 _ (List.getElem_mem hk2)
  have ha := after_eq (mig := mig) (ar := ar) (lo := lo) (re := re) (fu := fu) (sta := sta) (he := he) (co := l) (rows := rows) hw hm ht (row := rows[k].Kinds) (by omega) W.M
  have hl := after_len (E := E) (row := rows[k].Kinds) hw hm
  have hws := (prog_ways (by omega) W.wf).2.2.2 k W.known W.fine hk
  unfold types_look_place_s1.f placeC
  rw [At_nat hk2, At_nat hk]
  by_cases hre : rows[k].Reached = true
  · rw [if_pos hre]
    by_cases hq : (afterC E l[k] rows[k].Kinds).2 ≠ 0
    · rw [if_pos hq, runF_end]
      dsimp only [types_look_place_s1.F]
      rw [elt_lt hk2]
      simp only [Option.bind_some]
      rw [if_neg (by simp [hre]), elt_lt hk]
      simp only [Option.bind_some]
      rw [ha]
      simp only [Option.bind_some]
      rw [if_pos hq]
    · rw [if_neg hq, runF_step (t := .l1 (afterC E l[k] rows[k].Kinds, rows) (FlowPure.ways l k, 0) rows ((0 : Nat) : Int)) (by
        dsimp only [types_look_place_s1.F]
        rw [elt_lt hk2]
        simp only [Option.bind_some]
        rw [if_neg (by simp [hre]), elt_lt hk]
        simp only [Option.bind_some]
        rw [ha]
        simp only [Option.bind_some]
        rw [if_neg hq, hws]; rfl)]
      have hf := ways_facts W.known W.fine hk
      have key : ∀ (ws : List Int) (j : Nat) (rs : List types_Row), (FlowPure.ways l k).drop j = ws → rs.length = 200 → (∀ r ∈ rs, r.Kinds.length ≤ 2 * k + 2) → runF (types_look_place_s1.F E.G E.P E.M mig ar lo E.res re fu sta he l E.K rows k) (.l1 (afterC E l[k] rows[k].Kinds, rows) (FlowPure.ways l k, 0) rs (j : Int)) = some (put (afterC E l[k] rows[k].Kinds).1 rs ws) := by
        intro ws
        induction ws with
        | nil =>
          intro j rs hd hrs _
          have hj : (FlowPure.ways l k).length ≤ j := by simpa using hd
          refine runF_end ?_
          dsimp only [types_look_place_s1.F]
          rw [if_neg (by omega)]; rfl
        | cons w ws ih =>
          intro j rs hd hrs hsz
          have hj : j < (FlowPure.ways l k).length := by
            rcases Nat.lt_or_ge j (FlowPure.ways l k).length with z | z
            · exact z
            · rw [List.drop_eq_nil_of_le z] at hd; cases hd
          have hw' : (FlowPure.ways l k)[j] = w := by
            have := congrArg (fun z => z[0]?) hd
            simp [List.getElem?_eq_getElem hj] at this
            exact this
          obtain ⟨w0, w1, -⟩ := hf.2.2 j hj
          rw [hw'] at w0 w1
          have hle := hf.2.1
          unfold put
          have hel : elt rs w = some (At rs R0 w) := elt_At R0 w0 (by rw [hrs]; omega)
          have hs8 : slices_Equal_uint8_uint8.f (At rs R0 w).Kinds (afterC E l[k] rows[k].Kinds).1 = some (decide ((At rs R0 w).Kinds = (afterC E l[k] rows[k].Kinds).1)) := same8 (by
            have : (At rs R0 w).Kinds.length ≤ 2 * k + 2 := At_mem (p := fun r : types_Row => r.Kinds.length ≤ 2 * k + 2) (by simp [R0, types_Row.zero]) hsz
            omega)
          have step : ∀ b : Bool, b = decide ((At rs R0 w).Reached = true ∧ (At rs R0 w).Kinds ≠ (afterC E l[k] rows[k].Kinds).1) → types_look_place_s1.F E.G E.P E.M mig ar lo E.res re fu sta he l E.K rows k (.l1 (afterC E l[k] rows[k].Kinds, rows) (FlowPure.ways l k, 0) rs (j : Int)) = if b = true then some (.inr (100, rs)) else some (.inl (.l1 (afterC E l[k] rows[k].Kinds, rows) (FlowPure.ways l k, 0) (rs.set w.toNat ⟨true, (afterC E l[k] rows[k].Kinds).1⟩) ((j + 1 : Nat) : Int))) := by
            rintro b rfl
            dsimp only [types_look_place_s1.F]
            rw [if_pos (by omega), elt_lt hj, hw']
            simp only [Option.bind_some]
            rw [hel]
            simp only [Option.bind_some, wrap_succ j (by omega)]
            rw [hs8]
            by_cases q1 : (At rs R0 w).Reached = true
            · by_cases q2 : (At rs R0 w).Kinds = (afterC E l[k] rows[k].Kinds).1
              · simp [q1, q2]
              · simp [q1, q2]
            · simp [q1]
          by_cases hc : (At rs R0 w).Reached = true ∧ (At rs R0 w).Kinds ≠ (afterC E l[k] rows[k].Kinds).1
          · rw [if_pos hc, runF_end (r := (100, rs))]
            rw [step true (by rw [eq_comm, decide_eq_true_eq]; exact hc), if_pos rfl]
          · rw [if_neg hc, runF_step (t := .l1 (afterC E l[k] rows[k].Kinds, rows) (FlowPure.ways l k, 0) (rs.set w.toNat ⟨true, (afterC E l[k] rows[k].Kinds).1⟩) ((j + 1 : Nat) : Int))]
            · refine ih (j + 1) _ ?_ (by rw [List.length_set]; exact hrs) fun r hr => ?_
              · rw [← List.drop_drop, hd]; rfl
              · rcases List.mem_or_eq_of_mem_set hr with hr | rfl
                · exact hsz r hr
                · dsimp only; omega
            · rw [step false (by rw [eq_comm, decide_eq_false_iff_not]; exact hc), if_neg (by simp)]
      exact key _ 0 rows rfl h.1 fun r hr => by have := h.2 r hr; omega
  · rw [if_neg hre, runF_end]
    dsimp only [types_look_place_s1.F]
    rw [elt_lt hk2]
    simp only [Option.bind_some]
    rw [if_pos (by simpa using hre)]
/-! ### all places -/
def rows0 : List types_Row := (List.replicate 200 types_Row.zero).set 0 ⟨true, []⟩
def rowsAt (E : TE) (l : List api_Instr) : Nat → Int × List types_Row
  | 0 => (0, rows0)
  | k + 1 => if (rowsAt E l k).1 ≠ 0 then rowsAt E l k else placeC E l (rowsAt E l k).2 k
def rowsC (E : TE) (l : List api_Instr) : List types_Row × Int := if (rowsAt E l l.length).1 ≠ 0 then ([], (rowsAt E l l.length).1) else ((rowsAt E l l.length).2.take l.length, 0)
theorem rowsAt_sz {E : TE} {l : List api_Instr} (W : Well E l) : ∀ k, k ≤ l.length → Sz k (rowsAt E l k).2
  | 0, _ => ⟨by show rows0.length = 200; unfold rows0; rw [List.length_set, List.length_replicate], fun r hr => by
    unfold rowsAt rows0 at hr
    rcases List.mem_or_eq_of_mem_set hr with hr | rfl
    · rw [List.eq_of_mem_replicate hr]; exact Nat.zero_le _
    · exact Nat.zero_le _⟩
  | k + 1, hk => by
    have ih := rowsAt_sz W k (by omega)
    unfold rowsAt
    split
    · exact ⟨ih.1, fun r hr => by have := ih.2 r hr; omega⟩
    · exact place_sz W hk ih
def envOf (m : api_Module) (x : api_Method) : TE := ⟨m.Globals, m.Pool, m.Methods, x.Result, x.Args ++ x.Locals⟩
end TypesPure
namespace TypesPure
open FlowPure
/-- Where the rows are told: the first ones are the caller's own already. -/
def l2s (rows : List types_Row) : types_Rows.S := .l2 rows (rows.map fun z => (z, false)) 0
def fl (rows : List types_Row) (j : Nat) : List (types_Row × Bool) := rows.mapIdx fun i z => (z, decide (i < j))
theorem fl_get (rows : List types_Row) (j i : Nat) : (fl rows j)[i]? = rows[i]?.map fun z => (z, decide (i < j)) := by
  unfold fl; rw [List.getElem?_mapIdx]
theorem fl_len (rows : List types_Row) (j : Nat) : (fl rows j).length = rows.length := by simp [fl]
theorem fl_zero (rows : List types_Row) : fl rows 0 = rows.map fun z => (z, false) := by
  refine List.ext_getElem? fun i => ?_
  rw [fl_get, List.getElem?_map]; simp
theorem fl_succ {rows : List types_Row} {j : Nat} (h : j < rows.length) : (fl rows j).set j (rows[j], true) = fl rows (j + 1) := by
  refine List.ext_getElem? fun i => ?_
  by_cases e : i = j
  · subst e
    rw [List.getElem?_set_self (by rw [fl_len]; exact h), fl_get, List.getElem?_eq_getElem h]; simp
  · rw [List.getElem?_set_ne (by omega), fl_get, fl_get]
    congr 1
    funext z
    congr 1
    simp only [decide_eq_decide]; omega
theorem fl_end (rows : List types_Row) : ((fl rows rows.length).all fun z => z.2) = true ∧ ((fl rows rows.length).map fun z => z.1) = rows := by
  constructor
  · rw [List.all_eq_true]
    intro z hz
    obtain ⟨i, hi⟩ := List.mem_iff_getElem?.1 hz
    rw [fl_get] at hi
    cases hr : rows[i]? with
    | none => rw [hr] at hi; cases hi
    | some r =>
      rw [hr] at hi
      simp only [Option.map_some, Option.some.injEq] at hi
      rw [← hi]
      have : i < rows.length := by
        rcases Nat.lt_or_ge i rows.length with z | z
        · exact z
        · rw [List.getElem?_eq_none z] at hr; cases hr
      simp [this]
  · refine List.ext_getElem? fun i => ?_
    rw [List.getElem?_map, fl_get]
    cases rows[i]? <;> rfl
theorem clones {m : api_Module} {k : Int} {rows : List types_Row} (h : rows.length ≤ 200) (hs : ∀ r ∈ rows, r.Kinds.length ≤ 1000) : runF (types_Rows.F m k) (l2s rows) = some (rows, 0) := by
  unfold l2s
  rw [← fl_zero]
  obtain ⟨e1, e2⟩ := fl_end rows
  refine (runF_up (F := types_Rows.F m k) (n := rows.length) (fun j => .l2 rows (fl rows j) (j : Int)) (fun j hj => ?_)).trans (runF_end ?_)
  · dsimp only [types_Rows.F]
    have := hs _ (List.getElem_mem hj)
    have hel : elt (fl rows j) (j : Int) = some (rows[j], false) := by
      rw [elt_nat, fl_get, List.getElem?_eq_getElem hj]; simp
    rw [if_pos (by rw [List.length_map]; omega), hel]
    simp only [Option.bind_some, if_true]
    rw [clone8 (by omega)]
    simp only [Option.bind_some, wrap_succ j (by omega)]
    rw [show (j : Int).toNat = j from by omega, ← fl_succ hj]
  · dsimp only [types_Rows.F]
    rw [if_neg (by rw [List.length_map]; omega), if_pos e1, e2]
end TypesPure
namespace TypesPure
open FlowPure
theorem rows_well {m : api_Module} {k : Int} {x : api_Method} (h0 : 0 ≤ k) (h1 : k < m.Methods.length) (hx : elt m.Methods k = some x) (W : Well (envOf m x) x.Code) (hlen : x.Args.length + x.Locals.length ≤ 140737488355328) :
    types_Rows.f m k = some (rowsC (envOf m x) x.Code) := by
  have hn : x.Code.length ≤ 200 := W.known.2.1
  have hp : 1 ≤ x.Code.length := W.known.1
  unfold types_Rows.f
  have hck : flow_Check.f x.Code = some 0 := by
    unfold flow_Check.f
    rw [(prog_loops (by omega) W.wf).2.1 W.known W.fine]; rfl
  have hth : slices_ContainsFunc_api_Instr_api_Instr_s2.f x.Code m.Globals m.Pool m.Methods m.Migrate x.Args x.Locals x.Result x.Reads x.Fuel x.Stack x.Heap x.Code (x.Args ++ x.Locals) = some false := by
    refine (contains_there (E := envOf m x) (l := x.Code) (by omega)).trans ?_
    congr 1
    rw [List.any_eq_false]
    intro y hy
    rw [W.th y hy]; simp
  rw [runF_step (t := .l1 x (x.Args ++ x.Locals) rows0 ((0 : Nat) : Int)) (by
    dsimp only [types_Rows.F]
    rw [if_neg (by simp; omega), hx]
    simp only [Option.bind_some]
    rw [hck]
    simp only [Option.bind_some]
    rw [if_neg (by simp), concat2 hlen]
    simp only [Option.bind_some]
    rw [hth]
    simp only [Option.bind_some]
    rfl)]
  have key : ∀ j, j ≤ x.Code.length → runF (types_Rows.F m k) (.l1 x (x.Args ++ x.Locals) rows0 ((0 : Nat) : Int)) = if (rowsAt (envOf m x) x.Code j).1 ≠ 0 then some ([], (rowsAt (envOf m x) x.Code j).1) else runF (types_Rows.F m k) (.l1 x (x.Args ++ x.Locals) (rowsAt (envOf m x) x.Code j).2 (j : Int)) := by
    intro j
    induction j with
    | zero => intro _; rfl
    | succ j ih =>
      intro hj
      rw [ih (by omega)]
      have hz := rowsAt_sz W j (by omega)
      by_cases he : (rowsAt (envOf m x) x.Code j).1 ≠ 0
      · have e1 : rowsAt (envOf m x) x.Code (j + 1) = rowsAt (envOf m x) x.Code j := by rw [rowsAt, if_pos he]
        rw [e1, if_pos he, if_pos he]
      · have e1 : rowsAt (envOf m x) x.Code (j + 1) = placeC (envOf m x) x.Code (rowsAt (envOf m x) x.Code j).2 j := by rw [rowsAt, if_neg he]
        rw [e1, if_neg he]
        have hpl := place_eq (mig := m.Migrate) (ar := x.Args) (lo := x.Locals) (re := x.Reads) (fu := x.Fuel) (sta := x.Stack) (he := x.Heap) W (k := j) (by omega) hz
        have hpl : types_look_place_s1.f m.Globals m.Pool m.Methods m.Migrate x.Args x.Locals x.Result x.Reads x.Fuel x.Stack x.Heap x.Code (x.Args ++ x.Locals) (rowsAt (envOf m x) x.Code j).2 (j : Int) = _ := hpl
        generalize placeC (envOf m x) x.Code (rowsAt (envOf m x) x.Code j).2 j = pr at hpl ⊢
        by_cases hq : pr.1 ≠ 0
        · rw [if_pos hq, runF_end]
          dsimp only [types_Rows.F]
          rw [if_pos (by omega), hpl]
          simp only [Option.bind_some]
          rw [if_pos hq]
        · rw [if_neg hq]
          refine runF_step ?_
          dsimp only [types_Rows.F]
          rw [if_pos (by omega), hpl]
          simp only [Option.bind_some]
          rw [if_neg hq, wrap_succ j (by omega)]
  rw [key _ (Nat.le_refl _)]
  unfold rowsC
  by_cases he : (rowsAt (envOf m x) x.Code x.Code.length).1 ≠ 0
  · rw [if_pos he, if_pos he]
  · rw [if_neg he, if_neg he]
    have hz := rowsAt_sz W _ (Nat.le_refl _)
    have hl : ((rowsAt (envOf m x) x.Code x.Code.length).2.take x.Code.length).length ≤ 200 := by rw [List.length_take]; omega
    rw [runF_step (t := l2s ((rowsAt (envOf m x) x.Code x.Code.length).2.take x.Code.length)) (by
      dsimp only [types_Rows.F]
      rw [if_neg (by omega), if_pos (by omega), show ((x.Code.length : Int)).toNat = x.Code.length from by omega, cloneRows hl]; rfl)]
    exact clones hl fun r hr => by have := hz.2 r (List.mem_of_mem_take hr); omega
theorem rows_out {m : api_Module} {k : Int} (h : ¬ (0 ≤ k ∧ k < m.Methods.length)) : types_Rows.f m k = some ([], 2) := by
  unfold types_Rows.f
  rw [runF_end]
  dsimp only [types_Rows.F]
  rw [if_pos (by simp; omega)]
theorem rows_else {m : api_Module} {k : Int} {x : api_Method} (h0 : 0 ≤ k) (h1 : k < m.Methods.length) (hx : elt m.Methods k = some x) (hl : x.Code.length < 4611686018427387904) (hw : ∀ i ∈ x.Code, wf_api_Instr i) (hlen : x.Args.length + x.Locals.length ≤ 140737488355328) :
    (¬ Known x.Code → types_Rows.f m k = some ([], 40)) ∧ (Known x.Code → ¬ Fine x.Code → types_Rows.f m k = some ([], 90)) ∧ (Known x.Code → Fine x.Code → (∃ i ∈ x.Code, there (envOf m x) i = false) → types_Rows.f m k = some ([], 100)) := by
  obtain ⟨a1, a2, a3⟩ := prog_loops hl hw
  unfold types_Rows.f
  refine ⟨fun h => ?_, fun h hf => ?_, fun h hf ht => ?_⟩
  · rw [runF_end]
    dsimp only [types_Rows.F]
    rw [if_neg (by simp; omega), hx]
    simp only [Option.bind_some]
    unfold flow_Check.f
    rw [a1 h]; rfl
  · rw [runF_end]
    dsimp only [types_Rows.F]
    rw [if_neg (by simp; omega), hx]
    simp only [Option.bind_some]
    unfold flow_Check.f
    rw [a3 h hf]; rfl
  · have hth : slices_ContainsFunc_api_Instr_api_Instr_s2.f x.Code m.Globals m.Pool m.Methods m.Migrate x.Args x.Locals x.Result x.Reads x.Fuel x.Stack x.Heap x.Code (x.Args ++ x.Locals) = some true := by
      refine (contains_there (E := envOf m x) (l := x.Code) (by omega)).trans ?_
      congr 1
      rw [List.any_eq_true]
      obtain ⟨i, hi, ht⟩ := ht
      exact ⟨i, hi, by rw [ht]; rfl⟩
    rw [runF_end]
    dsimp only [types_Rows.F]
    rw [if_neg (by simp; omega), hx]
    simp only [Option.bind_some]
    unfold flow_Check.f
    rw [a2 h hf]
    simp only [Option.bind_some]
    rw [if_neg (by simp), concat2 hlen]
    simp only [Option.bind_some]
    rw [hth]
    simp only [Option.bind_some]
    rfl
end TypesPure
namespace TypesPure
open FlowPure
/-! ### what is known of the rows -/
def g (rows : List types_Row) (p : Nat) : types_Row := rows[p]?.getD R0
theorem At_g (rows : List types_Row) (w : Int) : At rows R0 w = g rows w.toNat := rfl
theorem g_set {rows : List types_Row} {k p : Nat} {v : types_Row} (h : k < rows.length) : g (rows.set k v) p = if p = k then v else g rows p := by
  unfold g
  by_cases e : p = k
  · subst e; rw [if_pos rfl, List.getElem?_set_self h]; rfl
  · rw [if_neg e, List.getElem?_set_ne (by omega)]
structure Put (next : List Int) (rows : List types_Row) (ws : List Int) (rows' : List types_Row) : Prop where
  len : rows'.length = rows.length
  keep : ∀ p, (g rows p).Reached = true → g rows' p = g rows p
  ways : ∀ w ∈ ws, g rows' w.toNat = ⟨true, next⟩
  new : ∀ p, (g rows' p).Reached = true → (g rows p).Reached = true ∨ ∃ w ∈ ws, w.toNat = p
  old : ∀ p, ¬ (g rows' p).Reached = true → g rows' p = g rows p
theorem put_ok {next : List Int} : ∀ (ws : List Int) (rows : List types_Row), (∀ w ∈ ws, w.toNat < rows.length) → (put next rows ws).1 = 0 → Put next rows ws (put next rows ws).2
  | [], rows, _, _ => ⟨rfl, fun _ _ => rfl, fun w hw => by simp at hw, fun p h => .inl h, fun _ _ => rfl⟩
  | w :: ws, rows, hl, h => by
    unfold put at h ⊢
    by_cases hc : (At rows R0 w).Reached = true ∧ (At rows R0 w).Kinds ≠ next
    · rw [if_pos hc] at h; cases h
    · rw [if_neg hc] at h ⊢
      have hw : w.toNat < rows.length := hl w (by simp)
      have ih := put_ok ws _ (fun u hu => by rw [List.length_set]; exact hl u (by simp [hu])) h
      have same : (g rows w.toNat).Reached = true → g rows w.toNat = ⟨true, next⟩ := by
        intro hr
        rw [At_g] at hc
        generalize g rows w.toNat = r at hc hr
        obtain ⟨a, b⟩ := r
        dsimp only at hr hc
        subst hr
        have : b = next := by
          refine Classical.byContradiction fun hb => hc ⟨rfl, hb⟩
        rw [this]
      have hs := fun p => g_set (rows := rows) (p := p) (v := (⟨true, next⟩ : types_Row)) hw
      refine ⟨by rw [ih.len, List.length_set], fun p hp => ?_, fun u hu => ?_, fun p hp => ?_, fun p hp => ?_⟩
      · have e : g (rows.set w.toNat ⟨true, next⟩) p = g rows p := by
          rw [hs]
          by_cases e : p = w.toNat
          · subst e; rw [if_pos rfl, same hp]
          · rw [if_neg e]
        rw [ih.keep p (by rw [e]; exact hp), e]
      · rcases List.mem_cons.1 hu with rfl | hu
        · have e : g (rows.set u.toNat ⟨true, next⟩) u.toNat = ⟨true, next⟩ := by rw [hs, if_pos rfl]
          rw [ih.keep _ (by rw [e]), e]
        · exact ih.ways u hu
      · rcases ih.new p hp with h1 | ⟨u, hu, e⟩
        · rw [hs] at h1
          by_cases e : p = w.toNat
          · exact .inr ⟨w, by simp, e.symm⟩
          · rw [if_neg e] at h1; exact .inl h1
        · exact .inr ⟨u, by simp [hu], e⟩
      · have h1 := ih.old p hp
        rw [hs] at h1
        by_cases e : p = w.toNat
        · rw [if_pos e] at h1; rw [h1] at hp; exact absurd rfl hp
        · rw [if_neg e] at h1; exact h1
structure Inv (E : TE) (l : List api_Instr) (t : Nat) (rows : List types_Row) : Prop where
  len : rows.length = 200
  r0 : g rows 0 = ⟨true, []⟩
  un : ∀ p, ¬ (g rows p).Reached = true → (g rows p).Kinds = []
  top : ∀ p, (g rows p).Reached = true → p < l.length
  led : ∀ p, (g rows p).Reached = true → p = 0 ∨ ∃ q, q < p ∧ q < t ∧ (g rows q).Reached = true ∧ (p : Int) ∈ FlowPure.ways l q
  done : ∀ q (hq : q < l.length), q < t → (g rows q).Reached = true → (afterC E l[q] (g rows q).Kinds).2 = 0 ∧ ∀ w ∈ FlowPure.ways l q, g rows w.toNat = ⟨true, (afterC E l[q] (g rows q).Kinds).1⟩
theorem back_pair {l : List api_Instr} (hk : Known l) (hf : Fine l) {a : Nat} (ha : a < l.length) (h29 : l[a].Op = 29) : 0 ≤ l[a].A ∧ l[a].A < a ∧ Pr (KK l) l.length l[a].A.toNat a ∧ KK l l[a].A.toNat = .loop := by
  obtain ⟨o1, o2⟩ := run_pairs hf.1
  have hm := hk.2.2 _ (List.getElem_mem ha)
  have hp := may_place hm (.inr (.inr h29))
  have hkk : KK l a = .again l[a].A.toNat := by rw [KK_at ha, if_neg (by omega), if_pos h29]
  obtain ⟨T, hT⟩ := again_mem hf.1.1 ha hkk
  have := ((opn_mem (KK l) a fun j hj => hf.1.1 j (by omega)).1 l[a].A.toNat).1 (by rw [hT]; simp)
  obtain ⟨b1, b2⟩ := o2 a _ ha hkk
  exact ⟨hp.1, by omega, ⟨b1, ha, b2, hkk⟩, b2⟩
theorem ways_loop {l : List api_Instr} {a : Nat} (ha : a < l.length) (h : l[a].Op = 28) : FlowPure.ways l a = [((a + 1 : Nat) : Int)] := by
  unfold FlowPure.ways
  rw [List.getElem?_eq_getElem ha]
  dsimp only
  rw [if_neg (by omega), if_neg (by omega), if_neg (by omega), if_neg (by omega)]
theorem inv_zero {E : TE} {l : List api_Instr} (hl : 1 ≤ l.length) : Inv E l 0 rows0 := by
  have h0 : (0 : Nat) < (List.replicate 200 types_Row.zero).length := by rw [List.length_replicate]; omega
  have hs := fun p => g_set (p := p) (v := (⟨true, []⟩ : types_Row)) h0
  have hz : ∀ p, g (List.replicate 200 types_Row.zero) p = R0 := by
    intro p
    unfold g
    rcases Nat.lt_or_ge p 200 with z | z
    · rw [List.getElem?_eq_getElem (by rw [List.length_replicate]; exact z), List.getElem_replicate]; rfl
    · rw [List.getElem?_eq_none (by rw [List.length_replicate]; exact z)]; rfl
  have hg : ∀ p, g rows0 p = if p = 0 then ⟨true, []⟩ else R0 := fun p => by unfold rows0; rw [hs, hz]
  have hr : ∀ p, (g rows0 p).Reached = true → p = 0 := by
    intro p hp
    rw [hg] at hp
    by_cases e : p = 0
    · exact e
    · rw [if_neg e] at hp; cases hp
  refine ⟨by unfold rows0; rw [List.length_set, List.length_replicate], by rw [hg, if_pos rfl], fun p hp => ?_, fun p hp => by have := hr p hp; omega, fun p hp => .inl (hr p hp), fun q _ hq => by omega⟩
  rw [hg]; split <;> rfl
theorem inv_step {E : TE} {l : List api_Instr} (W : Well E l) {t : Nat} (ht : t < l.length) {rows : List types_Row} (I : Inv E l t rows) (h : (placeC E l rows t).1 = 0) : Inv E l (t + 1) (placeC E l rows t).2 := by
  have hn : l.length ≤ 200 := W.known.2.1
  unfold placeC at h ⊢
  rw [At_g, show ((t : Int)).toNat = t from by omega, At_nat ht] at h ⊢
  by_cases hre : (g rows t).Reached = true
  · rw [if_pos hre] at h ⊢
    by_cases he : (afterC E l[t] (g rows t).Kinds).2 ≠ 0
    · rw [if_pos he] at h; exact absurd h he
    · rw [if_neg he] at h ⊢
      have he : (afterC E l[t] (g rows t).Kinds).2 = 0 := Classical.not_not.1 he
      have hf := ways_facts W.known W.fine ht
      have hin : ∀ w ∈ FlowPure.ways l t, 0 ≤ w ∧ w < l.length := by
        intro w hw
        obtain ⟨i, hi, rfl⟩ := List.mem_iff_getElem.1 hw
        have := hf.2.2 i hi
        exact ⟨this.1, this.2.1⟩
      have P := put_ok (next := (afterC E l[t] (g rows t).Kinds).1) (FlowPure.ways l t) rows (fun w hw => by have := hin w hw; rw [I.len]; omega) h
      generalize (put (afterC E l[t] (g rows t).Kinds).1 rows (FlowPure.ways l t)).2 = rows' at P ⊢
      -- what a way back leads to was reached
      have back : ∀ w ∈ FlowPure.ways l t, w.toNat ≤ t → (g rows w.toNat).Reached = true := by
        intro w hw hle
        obtain ⟨i, hi, rfl⟩ := List.mem_iff_getElem.1 hw
        obtain ⟨w0, w1, w2, -, -⟩ := hf.2.2 i hi
        obtain ⟨h29, e⟩ := w2 (by omega)
        obtain ⟨a0, a1, pr, kl⟩ := back_pair W.known W.fine ht h29
        have desc : ∀ r, r ≤ t → l[t].A.toNat < r → (g rows r).Reached = true → (g rows l[t].A.toNat).Reached = true := by
          intro r
          induction r using Nat.strongRecOn with
          | _ r ih =>
            intro hr hA hg
            rcases I.led r hg with e0 | ⟨q, q1, q2, q3, q4⟩
            · omega
            · have hq : q < l.length := by omega
              obtain ⟨j, hj, ej⟩ := List.mem_iff_getElem.1 q4
              obtain ⟨-, -, -, -, hy⟩ := (ways_facts W.known W.fine hq).2.2 j hj
              have := hy (l[t].A.toNat, t) pr (by rw [ej]; dsimp only; omega) (by rw [ej]; dsimp only; omega)
              dsimp only at this
              by_cases eq : q = l[t].A.toNat
              · rw [← eq]; exact q3
              · exact ih q q1 (by omega) (by omega) q3
        have hA := desc t (Nat.le_refl _) (by omega) hre
        have hAl : l[t].A.toNat < l.length := by omega
        have hop : l[l[t].A.toNat].Op = 28 := (loop_iff hAl).1 kl
        have := (I.done _ hAl (by omega) hA).2 ((l[t].A.toNat + 1 : Nat) : Int) (by rw [ways_loop hAl hop]; simp)
        have e2 : (FlowPure.ways l t)[i].toNat = (((l[t].A.toNat + 1 : Nat) : Int)).toNat := by rw [e]; omega
        rw [e2, this]
      have was : ∀ p, p ≤ t → (g rows' p).Reached = true → (g rows p).Reached = true := by
        intro p hp hr
        rcases P.new p hr with h1 | ⟨w, hw, rfl⟩
        · exact h1
        · exact back w hw hp
      refine ⟨by rw [P.len, I.len], by rw [P.keep 0 (by rw [I.r0]), I.r0], fun p hp => ?_, fun p hp => ?_, fun p hp => ?_, fun q hq hqt hr => ?_⟩
      · have e := P.old p hp
        rw [e] at hp ⊢; exact I.un p hp
      · rcases P.new p hp with h1 | ⟨w, hw, rfl⟩
        · exact I.top p h1
        · have := hin w hw; omega
      · have carry : (g rows p).Reached = true → p = 0 ∨ ∃ q, q < p ∧ q < t + 1 ∧ (g rows' q).Reached = true ∧ (p : Int) ∈ FlowPure.ways l q := by
          intro h1
          rcases I.led p h1 with e | ⟨q, q1, q2, q3, q4⟩
          · exact .inl e
          · exact .inr ⟨q, q1, by omega, by rw [P.keep q q3]; exact q3, q4⟩
        rcases P.new p hp with h1 | ⟨w, hw, e⟩
        · exact carry h1
        · rcases Nat.lt_or_ge t p with z | z
          · have := hin w hw
            have ep : (p : Int) = w := by omega
            exact .inr ⟨t, z, by omega, by rw [P.keep t hre]; exact hre, by rw [ep]; exact hw⟩
          · exact carry (was p z hp)
      · have h1 := was q (by omega) hr
        rw [P.keep q h1]
        by_cases e : q = t
        · subst e; exact ⟨he, P.ways⟩
        · obtain ⟨d1, d2⟩ := I.done q hq (by omega) h1
          refine ⟨d1, fun w hw => ?_⟩
          rw [P.keep _ (by rw [d2 w hw]), d2 w hw]
  · rw [if_neg hre]
    refine ⟨I.len, I.r0, I.un, I.top, fun p hp => ?_, fun q hq hqt hr => ?_⟩
    · rcases I.led p hp with e | ⟨q, q1, q2, q3, q4⟩
      · exact .inl e
      · exact .inr ⟨q, q1, by omega, q3, q4⟩
    · by_cases e : q = t
      · subst e; exact absurd hr hre
      · exact I.done q hq (by omega) hr
theorem rowsAt_inv {E : TE} {l : List api_Instr} (W : Well E l) : ∀ k, k ≤ l.length → (rowsAt E l k).1 = 0 → Inv E l k (rowsAt E l k).2
  | 0, _, _ => inv_zero W.known.1
  | k + 1, hk, h => by
    unfold rowsAt at h ⊢
    by_cases he : (rowsAt E l k).1 ≠ 0
    · rw [if_pos he] at h; exact absurd h he
    · rw [if_neg he] at h ⊢
      exact inv_step W hk (rowsAt_inv W k (by omega) (Classical.not_not.1 he)) h
/-- What Rows tell, where they tell rows. -/
structure Told (E : TE) (l : List api_Instr) (rows : List types_Row) : Prop where
  len : rows.length = l.length
  r0 : g rows 0 = ⟨true, []⟩
  un : ∀ p, ¬ (g rows p).Reached = true → (g rows p).Kinds = []
  led : ∀ p, (g rows p).Reached = true → p = 0 ∨ ∃ q, q < p ∧ (g rows q).Reached = true ∧ (p : Int) ∈ FlowPure.ways l q
  done : ∀ q (hq : q < l.length), (g rows q).Reached = true → (afterC E l[q] (g rows q).Kinds).2 = 0 ∧ ∀ w ∈ FlowPure.ways l q, g rows w.toNat = ⟨true, (afterC E l[q] (g rows q).Kinds).1⟩
  sz : ∀ r ∈ rows, r.Kinds.length ≤ 400
theorem g_take {rows : List types_Row} {n : Nat} (hu : ∀ p, n ≤ p → g rows p = R0) (p : Nat) : g (rows.take n) p = g rows p := by
  rcases Nat.lt_or_ge p n with z | z
  · unfold g; rw [List.getElem?_take_of_lt z]
  · rw [hu p z]; unfold g; rw [List.getElem?_eq_none (by rw [List.length_take]; omega)]; rfl
theorem rows_told {E : TE} {l : List api_Instr} (W : Well E l) (h : (rowsC E l).2 = 0) : Told E l (rowsC E l).1 := by
  have hn : l.length ≤ 200 := W.known.2.1
  unfold rowsC at h ⊢
  by_cases he : (rowsAt E l l.length).1 ≠ 0
  · rw [if_pos he] at h; exact absurd h he
  · rw [if_neg he]
    have I := rowsAt_inv W _ (Nat.le_refl _) (Classical.not_not.1 he)
    have S := rowsAt_sz W _ (Nat.le_refl _)
    generalize (rowsAt E l l.length).2 = rows at I S ⊢
    have hu : ∀ p, l.length ≤ p → g rows p = R0 := by
      intro p hp
      have hr : ¬ (g rows p).Reached = true := fun h => by have := I.top p h; omega
      have hk := I.un p hr
      generalize g rows p = r at hr hk ⊢
      obtain ⟨a, b⟩ := r
      dsimp only at hr hk
      subst hk
      rw [Bool.not_eq_true] at hr
      subst hr; rfl
    have e := g_take hu
    refine ⟨by rw [List.length_take, I.len]; omega, by rw [e, I.r0], fun p hp => by rw [e] at hp ⊢; exact I.un p hp, fun p hp => ?_, fun q hq hr => ?_, fun r hr => by have := S.2 r (List.mem_of_mem_take hr); omega⟩
    · rw [e] at hp
      rcases I.led p hp with e0 | ⟨q, q1, -, q3, q4⟩
      · exact .inl e0
      · exact .inr ⟨q, q1, by rw [e]; exact q3, q4⟩
    · rw [e] at hr ⊢
      obtain ⟨d1, d2⟩ := I.done q hq hq hr
      exact ⟨d1, fun w hw => by rw [e]; exact d2 w hw⟩
theorem rows_err {E : TE} {l : List api_Instr} (h : (rowsC E l).2 ≠ 0) : (rowsC E l).1 = [] := by
  unfold rowsC at h ⊢
  by_cases he : (rowsAt E l l.length).1 ≠ 0
  · rw [if_pos he]
  · rw [if_neg he] at h; exact absurd rfl h
end TypesPure
deriving instance DecidableEq for types_Row
namespace TypesPure
open FlowPure
/-! ### the guard, the height, the chapter's examples -/
def greatM (x : api_Method) : Bool := decide ((x.Args.length : Int) > 100) || decide ((x.Locals.length : Int) > 100) || decide ((x.Code.length : Int) > 300)
def greatB (m : api_Module) : Bool := ((decide ((m.Globals.length : Int) > 100) || decide ((m.Pool.length : Int) > 100)) || decide ((m.Methods.length : Int) > 40)) || m.Methods.any greatM
theorem great_eq (m : api_Module) : capstanlaw08_Great.f m = some (greatB m) := by
  unfold capstanlaw08_Great.f greatB
  by_cases h : ((decide ((m.Globals.length : Int) > 100) || decide ((m.Pool.length : Int) > 100)) || decide ((m.Methods.length : Int) > 40)) = true
  · rw [h, runF_end (r := true)]; rfl
    dsimp only [capstanlaw08_Great.F]; rw [if_pos h]
  · rw [runF_step (t := .l1 ((0 : Nat) : Int)) (by dsimp only [capstanlaw08_Great.F]; rw [if_neg h]; rfl)]
    have hlen : m.Methods.length ≤ 40 := by
      simp only [Bool.not_eq_true, Bool.or_eq_false_iff, decide_eq_false_iff_not] at h; omega
    have h' := h
    rw [Bool.not_eq_true] at h
    rw [h, Bool.false_or]
    obtain ⟨r, hr, hc⟩ := runF_scan (F := capstanlaw08_Great.F m) (n := m.Methods.length) (b := false) (a := fun _ => true) (fun k => .l1 (k : Int)) (fun k => if h : k < m.Methods.length then greatM m.Methods[k] else false) (fun k hk => by
      dsimp only [capstanlaw08_Great.F]
      rw [if_pos (by omega), elt_lt hk]
      simp only [Option.bind_some]
      unfold capstanlaw07_Great.f
      simp only [Option.bind_some, dif_pos hk, wrap_succ k (by omega)]
      unfold greatM
      cases decide ((m.Methods[k].Args.length : Int) > 100) <;> cases decide ((m.Methods[k].Locals.length : Int) > 100) <;> simp <;> split <;> rfl) (by dsimp only [capstanlaw08_Great.F]; rw [if_neg (by omega)])
    rw [hr]
    congr 1
    rcases hc with ⟨k, hk, hp, rfl⟩ | ⟨hn, rfl⟩
    · rw [dif_pos hk] at hp
      rw [eq_comm, List.any_eq_true]
      exact ⟨_, List.getElem_mem hk, hp⟩
    · rw [eq_comm, List.any_eq_false]
      intro x hx
      obtain ⟨k, hk, rfl⟩ := List.mem_iff_getElem.1 hx
      have := hn k hk
      rw [dif_pos hk] at this
      rw [this]; simp
structure Small (m : api_Module) : Prop where
  G : m.Globals.length ≤ 100
  P : m.Pool.length ≤ 100
  M : m.Methods.length ≤ 40
  x : ∀ x ∈ m.Methods, x.Args.length ≤ 100 ∧ x.Locals.length ≤ 100 ∧ x.Code.length ≤ 300
theorem small_of {m : api_Module} (h : greatB m = false) : Small m := by
  unfold greatB at h
  simp only [Bool.or_eq_false_iff, decide_eq_false_iff_not, List.any_eq_false] at h
  obtain ⟨⟨⟨h1, h2⟩, h3⟩, h4⟩ := h
  refine ⟨by omega, by omega, by omega, fun x hx => ?_⟩
  have := h4 x hx
  unfold greatM at this
  simp only [Bool.not_eq_true, Bool.or_eq_false_iff, decide_eq_false_iff_not] at this
  omega
def H (rows : List types_Row) : Nat → Int
  | 0 => 0
  | k + 1 => if ((g rows k).Kinds.length : Int) > H rows k then ((g rows k).Kinds.length : Int) else H rows k
theorem H_nonneg (rows : List types_Row) : ∀ k, 0 ≤ H rows k
  | 0 => by simp [H]
  | k + 1 => by have := H_nonneg rows k; unfold H; split <;> omega
theorem H_ge (rows : List types_Row) : ∀ k p, p < k → ((g rows p).Kinds.length : Int) ≤ H rows k
  | 0, p, h => by omega
  | k + 1, p, h => by
    unfold H
    by_cases e : p = k
    · subst e; split <;> omega
    · have := H_ge rows k p (by omega); split <;> omega
theorem g_lt {rows : List types_Row} {k : Nat} (h : k < rows.length) : g rows k = rows[k] := by unfold g; rw [List.getElem?_eq_getElem h]; rfl
theorem height_eq {rows : List types_Row} (h : rows.length < 4611686018427387904) : types_Height.f rows = some (H rows rows.length) := by
  unfold types_Height.f
  rw [runF_step (t := .l1 (H rows 0) ((0 : Nat) : Int)) rfl]
  refine (runF_up (F := types_Height.F rows) (n := rows.length) (fun k => .l1 (H rows k) (k : Int)) (fun k hk => ?_)).trans (runF_end ?_)
  · dsimp only [types_Height.F]
    rw [if_pos (by omega), elt_lt hk]
    simp only [Option.bind_some, wrap_succ k (by omega)]
    rw [show H rows (k + 1) = if ((g rows k).Kinds.length : Int) > H rows k then ((g rows k).Kinds.length : Int) else H rows k from rfl, g_lt hk]
  · dsimp only [types_Height.F]
    rw [if_neg (by omega)]
end TypesPure
namespace TypesPure
open FlowPure
/-! ### what Rows tell, by cases -/
theorem rows_cases {m : api_Module} {k : Int} (hm : wf_api_Module m) (S : Small m) : (∃ e, e ≠ 0 ∧ types_Rows.f m k = some ([], e)) ∨
    (∃ x rows, 0 ≤ k ∧ k < m.Methods.length ∧ elt m.Methods k = some x ∧ x ∈ m.Methods ∧ Well (envOf m x) x.Code ∧ rowsC (envOf m x) x.Code = (rows, 0) ∧ types_Rows.f m k = some (rows, 0) ∧ Told (envOf m x) x.Code rows) := by
  by_cases hr : 0 ≤ k ∧ k < m.Methods.length
  · obtain ⟨h0, h1⟩ := hr
    have hkl : k.toNat < m.Methods.length := by omega
    have hx := elt_int h0 hkl
    generalize hxe : m.Methods[k.toNat] = x at hx
    have hxm : x ∈ m.Methods := by rw [← hxe]; exact List.getElem_mem hkl
    have hs := S.x x hxm
    have hwx : ∀ i ∈ x.Code, wf_api_Instr i := ((hm.2.2.1.2 x hxm).2.2.2.2.2.2.2).2
    obtain ⟨e1, e2, e3⟩ := rows_else (m := m) (k := k) (x := x) h0 h1 hx (by omega) hwx (by omega)
    by_cases hkn : Known x.Code
    · by_cases hf : Fine x.Code
      · by_cases hth : ∃ i ∈ x.Code, there (envOf m x) i = false
        · exact .inl ⟨100, by omega, e3 hkn hf hth⟩
        · have W : Well (envOf m x) x.Code := ⟨hkn, hf, hwx, fun i hi => by
            cases ht : there (envOf m x) i
            · exact absurd ⟨i, hi, ht⟩ hth
            · rfl, fun y hy => by have := S.x y hy; omega⟩
          have hrow := rows_well h0 h1 hx W (by omega)
          by_cases he : (rowsC (envOf m x) x.Code).2 = 0
          · have hp : rowsC (envOf m x) x.Code = ((rowsC (envOf m x) x.Code).1, 0) := by rw [← he]
            exact .inr ⟨x, _, h0, h1, hx, hxm, W, hp, hrow.trans (congrArg some hp), rows_told W he⟩
          · refine .inl ⟨_, he, ?_⟩
            rw [hrow, ← rows_err he]
      · exact .inl ⟨90, by omega, e2 hkn hf⟩
    · exact .inl ⟨40, by omega, e1 hkn⟩
  · exact .inl ⟨2, by omega, rows_out hr⟩
end TypesPure
namespace FlowPure
theorem bounds_eq (n : Fin 256) : op_Bounds.f (n.1 : Int) = capstanref04_Bounds.f (n.1 : Int) ∧ (op_Bounds.f (n.1 : Int)).isSome = true := by
  revert n; decide +kernel
theorem bounds_both {x : Int} (h0 : 0 ≤ x) (h1 : x < 256) : ∃ b, op_Bounds.f x = some b ∧ capstanref04_Bounds.f x = some b := by
  obtain ⟨n, rfl⟩ := Int.eq_ofNat_of_zero_le h0
  obtain ⟨e, s⟩ := bounds_eq ⟨n, by omega⟩
  dsimp only at e s
  obtain ⟨b, hb⟩ := Option.isSome_iff_exists.1 s
  exact ⟨b, hb, e ▸ hb⟩
theorem ref_may {i : api_Instr} (h : wf_api_Instr i) : capstanref04_May.f i = some (may i) := by
  obtain ⟨h0, h1⟩ := wf_op h
  obtain ⟨b, hb, hb'⟩ := bounds_both h0 h1
  unfold capstanref04_May.f may
  rw [hb, hb']
  simp only [Option.bind_some]
  congr 1
  rw [Bool.eq_iff_iff]
  simp only [Bool.and_eq_true, decide_eq_true_eq]
  omega
end FlowPure
namespace FlowPure
/-! ### the chapter's loops -/
def gR (l : List api_Instr) (x : Nat × Nat) : capstanref09_Loop := ⟨x.1, x.2, turns l x.1⟩
def FLp (K : Nat → Kn) (f m : Nat) : List Nat := (List.range m).filter fun t => decide (K t = .again f)
theorem FLp_succ (K : Nat → Kn) (f m : Nat) : FLp K f (m + 1) = FLp K f m ++ (if K m = .again f then [m] else []) := by
  unfold FLp
  rw [List.range_succ, List.filter_append]
  congr 1
  by_cases h : K m = .again f <;> simp [h]
theorem FLp_le (K : Nat → Kn) (f m : Nat) : (FLp K f m).length ≤ m := by
  unfold FLp
  exact Nat.le_trans (List.length_filter_le _ _) (by simp)
theorem ref_inner {l : List api_Instr} (hl : l.length ≤ 200) (hm : ∀ x ∈ l, may x = true) {f : Nat} (hf : f < l.length) {out : List capstanref09_Loop} (ho : out.length ≤ 200) :
    runF (capstanref09_all.F l) (.l2 f out 0 0) = runF (capstanref09_all.F l) (.l2 f (out ++ ((FL (KK l) l.length f).map fun t => gR l (f, t))) (FL (KK l) l.length f).length l.length) := by
  have key := runF_up (F := capstanref09_all.F l) (n := l.length) (fun m => .l2 f (out ++ ((FLp (KK l) f m).map fun t => gR l (f, t))) (FLp (KK l) f m).length m) (fun k hk => by
    have hle := FLp_le (KK l) f k
    dsimp only [capstanref09_all.F]
    rw [if_pos (by omega), elt_lt hk, elt_lt hf]
    simp only [Option.bind_some]
    rw [FLp_succ]
    have ha := again_iff (f := f) hk hm
    by_cases h29 : l[k].Op = 29
    · rw [if_pos h29]
      simp only [Option.bind_some]
      by_cases hA : l[k].A = (f : Int)
      · rw [if_pos (by simpa using hA), if_pos (by simp; omega), if_pos (ha.2 ⟨h29, hA⟩)]
        unfold capstanref09_all.j2
        rw [wrap_succ _ (by omega), wrap_succ _ (by omega)]
        simp only [List.map_append, List.map_cons, List.map_nil, List.append_assoc, List.length_append, List.length_cons, List.length_nil, gR, turns_at hf, Nat.zero_add]
      · rw [if_neg (by simpa using hA), if_neg (fun h => hA (ha.1 h).2)]
        unfold capstanref09_all.j2
        rw [wrap_succ _ (by omega)]
        simp only [List.append_nil]
    · rw [if_neg h29]
      simp only [Option.bind_some]
      rw [if_neg (by simp), if_neg (fun h => h29 (ha.1 h).1)]
      unfold capstanref09_all.j2
      rw [wrap_succ _ (by omega)]
      simp only [List.append_nil])
  have e : (FLp (KK l) f 0) = [] := rfl
  simp only [e, List.map_nil, List.append_nil] at key
  exact key
theorem ref_all {l : List api_Instr} (hl : l.length ≤ 200) (hm : ∀ x ∈ l, may x = true) :
    (Ok1 (KK l) l.length ∧ Ok2 (KK l) l.length → capstanref09_all.f l = some ((RL (KK l) l.length).map (gR l), true)) ∧ (¬ (Ok1 (KK l) l.length ∧ Ok2 (KK l) l.length) → capstanref09_all.f l = some ([], false)) := by
  unfold capstanref09_all.f
  rw [runF_step (t := .l1 [] ((0 : Nat) : Int)) rfl]
  have inner : ∀ k (hk : k < l.length), (∀ j, j < k → p1 (KK l) l.length j) → KK l k = .loop → ((p1 (KK l) l.length k → capstanref09_all.F l (.l2 k ((RLp (KK l) l.length k).map (gR l) ++ ((FL (KK l) l.length k).map fun t => gR l (k, t))) (FL (KK l) l.length k).length l.length) = some (.inl (.l1 ((RLp (KK l) l.length (k + 1)).map (gR l)) ((k + 1 : Nat) : Int)))) ∧
      (¬ p1 (KK l) l.length k → capstanref09_all.F l (.l2 k ((RLp (KK l) l.length k).map (gR l) ++ ((FL (KK l) l.length k).map fun t => gR l (k, t))) (FL (KK l) l.length k).length l.length) = some (.inr ([], false)))) := by
    intro k hk hj hK
    have hle := RLp_le k hj
    have e0 : ∀ t, FL (KK l) l.length k = [t] → elt ((RLp (KK l) l.length k).map (gR l) ++ ((FL (KK l) l.length k).map fun t => gR l (k, t))) (IntKind.i64.wrap ((((RLp (KK l) l.length k).map (gR l) ++ ((FL (KK l) l.length k).map fun t => gR l (k, t))).length : Int) - 1)) = some (gR l (k, t)) := by
      intro t ht
      rw [ht, wrap_pred _ (by simp) (by simp; omega), elt_nat]
      simp
    dsimp only [capstanref09_all.F]
    rw [if_neg (by omega)]
    refine ⟨fun h => ?_, fun h => ?_⟩
    · obtain ⟨t, ht, hkt⟩ := h hK
      rw [e0 t ht, if_neg (by rw [ht]; simp)]
      simp only [Option.bind_some]
      rw [if_neg (by rw [decide_eq_true_eq]; dsimp only [gR]; omega)]
      unfold capstanref09_all.j1
      rw [wrap_succ _ (by omega), RLp_succ, if_pos hK]
      simp only [List.map_append, List.map_map]
      rfl
    · by_cases h1 : (FL (KK l) l.length k).length = 1
      · obtain ⟨t, ht⟩ := List.length_eq_one_iff.1 h1
        rw [e0 t ht, if_neg (by omega)]
        simp only [Option.bind_some]
        rw [if_pos (by
          rw [decide_eq_true_eq]; dsimp only [gR]
          rcases Nat.lt_or_ge t k with z | z
          · omega
          · exact absurd (fun _ => ⟨t, ht, z⟩) h)]
      · rw [if_pos (by omega)]
        rfl
  have key := runF_chk (F := capstanref09_all.F l) (n := l.length) (b := ([], false)) (fun k => .l1 ((RLp (KK l) l.length k).map (gR l)) (k : Int)) (p1 (KK l) l.length) (fun k hk hj hp => by
    have hle := RLp_le k hj
    by_cases h28 : l[k].Op = 28
    · rw [runF_step (t := .l2 k ((RLp (KK l) l.length k).map (gR l)) 0 0) (by
        dsimp only [capstanref09_all.F]
        rw [if_pos (by omega), elt_lt hk]
        simp only [Option.bind_some]
        rw [if_neg (by simpa using h28)])]
      rw [ref_inner hl hm hk (by simp; omega)]
      exact runF_step ((inner k hk hj ((loop_iff hk).2 h28)).1 hp)
    · refine runF_step ?_
      dsimp only [capstanref09_all.F]
      rw [if_pos (by omega), elt_lt hk]
      simp only [Option.bind_some]
      rw [if_pos h28]
      unfold capstanref09_all.j1
      rw [wrap_succ _ (by omega), RLp_succ, if_neg (fun h => h28 ((loop_iff hk).1 h)), List.append_nil]) (fun k hk hj hp => by
    have hle := RLp_le k hj
    have hK : KK l k = .loop := Classical.byContradiction fun hc => hp fun h => absurd h hc
    rw [runF_step (t := .l2 k ((RLp (KK l) l.length k).map (gR l)) 0 0) (by
        dsimp only [capstanref09_all.F]
        rw [if_pos (by omega), elt_lt hk]
        simp only [Option.bind_some]
        rw [if_neg (by simpa using (loop_iff hk).1 hK)])]
    rw [ref_inner hl hm hk (by simp; omega)]
    exact runF_end ((inner k hk hj hK).2 hp))
  have key2 := runF_chk (F := capstanref09_all.F l) (n := l.length) (b := ([], false)) (fun k => .l3 ((RL (KK l) l.length).map (gR l)) (k : Int)) (p2 (KK l) l.length) (fun k hk hj hp => runF_step (by
    dsimp only [capstanref09_all.F]
    rw [if_pos (by omega), elt_lt hk]
    simp only [Option.bind_some]
    rw [wrap_succ _ (by omega)]
    by_cases h29 : l[k].Op = 29
    · have hA := may_place (hm _ (List.getElem_mem hk)) (.inr (.inr h29))
      obtain ⟨q1, q2⟩ := hp l[k].A.toNat ((again_iff hk hm).2 ⟨h29, by omega⟩)
      rw [if_pos h29, if_neg (by omega), elt_int hA.1 q1]
      simp only [Option.bind_some]
      rw [if_neg (by rw [decide_eq_true_eq]; exact fun h => h ((loop_iff q1).1 q2))]
    · rw [if_neg h29]
      simp only [Option.bind_some]
      rw [if_neg (by simp)])) (fun k hk hj hp => runF_end (by
    dsimp only [capstanref09_all.F]
    rw [if_pos (by omega), elt_lt hk]
    simp only [Option.bind_some]
    by_cases h29 : l[k].Op = 29
    · have hA := may_place (hm _ (List.getElem_mem hk)) (.inr (.inr h29))
      rw [if_pos h29]
      by_cases hn : l[k].A ≥ l.length
      · rw [if_pos hn]; rfl
      · rw [if_neg hn, elt_int hA.1 (by omega)]
        simp only [Option.bind_some]
        rw [if_pos (by
          rw [decide_eq_true_eq]
          intro h
          refine hp fun a ha => ?_
          have := (again_iff hk hm).1 ha
          have e : a = l[k].A.toNat := by omega
          subst e
          exact ⟨by omega, (loop_iff (by omega)).2 h⟩)]
    · refine absurd (fun a ha => ?_) hp
      exact absurd ((again_iff hk hm).1 ha).1 h29))
  have mid : runF (capstanref09_all.F l) (.l1 ((RLp (KK l) l.length l.length).map (gR l)) (l.length : Int)) = runF (capstanref09_all.F l) (.l3 ((RL (KK l) l.length).map (gR l)) ((0 : Nat) : Int)) := runF_step (by
    dsimp only [capstanref09_all.F]
    rw [if_neg (by omega)]; rfl)
  have h0 : runF (capstanref09_all.F l) (.l1 [] ((0 : Nat) : Int)) = runF (capstanref09_all.F l) (.l1 ((RLp (KK l) l.length 0).map (gR l)) ((0 : Nat) : Int)) := rfl
  rw [h0]
  by_cases q1 : ∀ k, k < l.length → p1 (KK l) l.length k
  · have hO1 : Ok1 (KK l) l.length := ok1_iff.2 q1
    rw [key.1 q1, mid]
    by_cases q2 : ∀ k, k < l.length → p2 (KK l) l.length k
    · refine ⟨fun _ => (key2.1 q2).trans (runF_end ?_), fun h => absurd ⟨hO1, fun t a ht hk => q2 t ht a hk⟩ h⟩
      dsimp only [capstanref09_all.F]
      rw [if_neg (by omega)]
    · exact ⟨fun h => absurd (fun k hk a ha => h.2 k a hk ha) q2, fun _ => key2.2 q2⟩
  · exact ⟨fun h => absurd (ok1_iff.1 h.1) q1, fun _ => key.2 q1⟩
end FlowPure
namespace FlowPure
def wiB (x : capstanref09_Loop) (a : Int) : Bool := (decide (x.From < a)) && (decide (a ≤ x.To))
theorem wiB_iff {x : capstanref09_Loop} {a : Int} : wiB x a = true ↔ x.From < a ∧ a ≤ x.To := by
  unfold wiB; rw [Bool.and_eq_true, decide_eq_true_eq, decide_eq_true_eq]
theorem wi_f (x : capstanref09_Loop) (a : Int) : capstanref09_within.f x a = some (wiB x a) := rfl
theorem in_f (x y : capstanref09_Loop) : capstanref09_inside.f x y = some (wiB y x.From && wiB y x.To) := by
  unfold capstanref09_inside.f
  rw [wi_f, wi_f]
  simp only [Option.bind_some]
  cases wiB y x.From <;> rfl
/-- Two loops go athwart. -/
def bad (x y : capstanref09_Loop) : Prop := (x.From < y.To ∧ y.From < x.To) ∧ ¬ ((y.From < x.From ∧ x.From ≤ y.To) ∧ (y.From < x.To ∧ x.To ≤ y.To)) ∧ ¬ ((x.From < y.From ∧ y.From ≤ x.To) ∧ (x.From < y.To ∧ y.To ≤ x.To))
def deepAt (s : List capstanref09_Loop) (a : Nat) : Nat := (s.filter fun x => wiB x a).length
theorem nested_inner {s : List capstanref09_Loop} {n : Int} (hs : s.length ≤ 400) {i : Nat} (hi : i < s.length) :
    ((∀ k (hk : k < i), ¬ bad s[i] s[k]) → runF (capstanref09_nested.F s n) (.l2 i 0) = runF (capstanref09_nested.F s n) (.l1 ((i + 1 : Nat) : Int))) ∧ (¬ (∀ k (hk : k < i), ¬ bad s[i] s[k]) → runF (capstanref09_nested.F s n) (.l2 i 0) = some false) := by
  have val : ∀ k (hk : k < i), (bad s[i] s[k] → capstanref09_nested.F s n (.l2 i k) = some (.inr false)) ∧ (¬ bad s[i] s[k] → capstanref09_nested.F s n (.l2 i k) = some (.inl (.l2 i ((k + 1 : Nat) : Int)))) := by
    intro k hk
    have e : capstanref09_nested.F s n (.l2 i k) = if ((decide (s[i].From < s[k].To)) && (decide (s[k].From < s[i].To))) = true then (if (!(wiB s[k] s[i].From && wiB s[k] s[i].To)) = true then (capstanref09_nested.j1 s n i k (!(wiB s[i] s[k].From && wiB s[i] s[k].To))) else (capstanref09_nested.j1 s n i k false)) else (capstanref09_nested.j1 s n i k false) := by
      dsimp only [capstanref09_nested.F]
      rw [if_pos (by omega), elt_lt hi, elt_lt (show k < s.length by omega)]
      simp only [Option.bind_some, in_f, capstanref09_common.f]
    rw [e]
    have go : capstanref09_nested.j1 s n i k false = some (.inl (.l2 i ((k + 1 : Nat) : Int))) := by
      unfold capstanref09_nested.j1
      rw [if_neg (by simp), wrap_succ _ (by omega)]
    have i1 : ∀ b c d : Bool, (b && c) = d ↔ (if b = true then c else false) = d := by intro b c d; cases b <;> simp
    unfold bad
    by_cases hc : s[i].From < s[k].To ∧ s[k].From < s[i].To
    · rw [if_pos (by rw [Bool.and_eq_true, decide_eq_true_eq, decide_eq_true_eq]; exact hc)]
      by_cases h1 : (s[k].From < s[i].From ∧ s[i].From ≤ s[k].To) ∧ (s[k].From < s[i].To ∧ s[i].To ≤ s[k].To)
      · rw [if_neg (by rw [Bool.not_eq_true', ← Bool.not_eq_true, Bool.and_eq_true, wiB_iff, wiB_iff]; exact fun h => h h1), go]
        exact ⟨fun h => absurd h1 h.2.1, fun _ => rfl⟩
      · rw [if_pos (by rw [Bool.not_eq_true', ← Bool.not_eq_true, Bool.and_eq_true, wiB_iff, wiB_iff]; exact h1)]
        by_cases h2 : (s[i].From < s[k].From ∧ s[k].From ≤ s[i].To) ∧ (s[i].From < s[k].To ∧ s[k].To ≤ s[i].To)
        · have : (!(wiB s[i] s[k].From && wiB s[i] s[k].To)) = false := by
            rw [Bool.not_eq_false', Bool.and_eq_true, wiB_iff, wiB_iff]; exact h2
          rw [this, go]
          exact ⟨fun h => absurd h2 h.2.2, fun _ => rfl⟩
        · have : (!(wiB s[i] s[k].From && wiB s[i] s[k].To)) = true := by
            rw [Bool.not_eq_true', ← Bool.not_eq_true, Bool.and_eq_true, wiB_iff, wiB_iff]; exact h2
          rw [this]
          exact ⟨fun _ => rfl, fun h => absurd ⟨hc, h1, h2⟩ h⟩
    · rw [if_neg (by rw [Bool.and_eq_true, decide_eq_true_eq, decide_eq_true_eq]; exact hc), go]
      exact ⟨fun h => absurd h.1 hc, fun _ => rfl⟩
  have key := runF_chk (F := capstanref09_nested.F s n) (n := i) (b := false) (fun k => .l2 i (k : Int)) (fun k => ∀ hk : k < i, ¬ bad s[i] s[k]) (fun k hk _ hp => runF_step ((val k hk).2 (hp hk))) (fun k hk _ hp => runF_end ((val k hk).1 (Classical.byContradiction fun hc => hp fun _ => hc)))
  refine ⟨fun h => (key.1 fun k _ hk => h k hk).trans (runF_step ?_), fun h => key.2 fun hc => h fun k hk => hc k hk hk⟩
  dsimp only [capstanref09_nested.F]
  rw [if_neg (by omega), wrap_succ _ (by omega)]
theorem nested_deep {s : List capstanref09_Loop} {n : Int} (hs : s.length ≤ 400) {a : Nat} :
    runF (capstanref09_nested.F s n) (.l4 a 0 0) = runF (capstanref09_nested.F s n) (.l4 a (deepAt s a) s.length) := by
  have key := runF_up (F := capstanref09_nested.F s n) (n := s.length) (fun k => .l4 a ((s.take k).filter fun x => wiB x a).length k) (fun k hk => by
    have hle : ((s.take k).filter fun x => wiB x a).length ≤ k := Nat.le_trans (List.length_filter_le _ _) (by simp; omega)
    dsimp only [capstanref09_nested.F]
    rw [if_pos (by omega), elt_lt hk]
    simp only [Option.bind_some, wi_f]
    rw [take_succ _ _ hk, List.filter_append]
    unfold capstanref09_nested.j2
    cases hb : wiB s[k] a with
    | true => rw [if_pos rfl, wrap_succ _ (by omega), wrap_succ _ (by omega)]; simp [hb]
    | false => rw [if_neg (by simp), wrap_succ _ (by omega)]; simp [hb])
  rw [List.take_length] at key
  exact key
theorem ref_nested {s : List capstanref09_Loop} {n : Nat} (hs : s.length ≤ 400) (hn : n ≤ 200) :
    ((∀ i (hi : i < s.length) k (hk : k < i), ¬ bad s[i] s[k]) ∧ (∀ a, a < n → deepAt s a ≤ 4) → capstanref09_nested.f s n = some true) ∧ (¬ ((∀ i (hi : i < s.length) k (hk : k < i), ¬ bad s[i] s[k]) ∧ (∀ a, a < n → deepAt s a ≤ 4)) → capstanref09_nested.f s n = some false) := by
  unfold capstanref09_nested.f
  rw [runF_step (t := .l1 ((0 : Nat) : Int)) rfl]
  have st2 : ∀ i, i < s.length → runF (capstanref09_nested.F s n) (.l1 i) = runF (capstanref09_nested.F s n) (.l2 i 0) := fun i hi => runF_step (by
    dsimp only [capstanref09_nested.F]; rw [if_pos (by omega)])
  have key := runF_chk (F := capstanref09_nested.F s n) (n := s.length) (b := false) (fun i => .l1 (i : Int)) (fun i => ∀ (hi : i < s.length) k (hk : k < i), ¬ bad s[i] s[k]) (fun i hi _ hp => (st2 i hi).trans ((nested_inner hs hi).1 (hp hi))) (fun i hi _ hp => (st2 i hi).trans ((nested_inner hs hi).2 (fun hc => hp fun _ => hc)))
  have st4 : ∀ a, a < n → runF (capstanref09_nested.F s n) (.l3 a) = runF (capstanref09_nested.F s n) (.l4 a (deepAt s a) s.length) := fun a ha => (runF_step (by
    dsimp only [capstanref09_nested.F]; rw [if_pos (by omega)])).trans (nested_deep hs)
  have key2 := runF_chk (F := capstanref09_nested.F s n) (n := n) (b := false) (fun a => .l3 (a : Int)) (fun a => deepAt s a ≤ 4) (fun a ha _ hp => (st4 a ha).trans (runF_step (by
    dsimp only [capstanref09_nested.F]; rw [if_neg (by omega), if_neg (by omega), wrap_succ _ (by omega)]))) (fun a ha _ hp => (st4 a ha).trans (runF_end (by
    dsimp only [capstanref09_nested.F]; rw [if_neg (by omega), if_pos (by omega)])))
  have mid : runF (capstanref09_nested.F s n) (.l1 (s.length : Int)) = runF (capstanref09_nested.F s n) (.l3 ((0 : Nat) : Int)) := runF_step (by
    dsimp only [capstanref09_nested.F]; rw [if_neg (by omega)]; rfl)
  by_cases q1 : ∀ i (hi : i < s.length) k (hk : k < i), ¬ bad s[i] s[k]
  · have e1 := (key.1 fun i _ hi => q1 i hi).trans mid
    by_cases q2 : ∀ a, a < n → deepAt s a ≤ 4
    · refine ⟨fun _ => (e1.trans (key2.1 q2)).trans (runF_end ?_), fun h => absurd ⟨q1, q2⟩ h⟩
      dsimp only [capstanref09_nested.F]; rw [if_neg (by omega)]
    · exact ⟨fun h => absurd h.2 q2, fun _ => e1.trans (key2.2 q2)⟩
  · exact ⟨fun h => absurd h.1 q1, fun _ => key.2 fun hc => q1 fun i hi => hc i hi hi⟩
theorem nested_iff {l : List api_Instr} (h1 : Ok1 (KK l) l.length) :
    ((∀ i (hi : i < ((RL (KK l) l.length).map (gR l)).length) k (hk : k < i), ¬ bad ((RL (KK l) l.length).map (gR l))[i] ((RL (KK l) l.length).map (gR l))[k]) ∧ (∀ a, a < l.length → deepAt ((RL (KK l) l.length).map (gR l)) a ≤ 4)) ↔ (Nest (KK l) l.length ∧ Deep l.length (RL (KK l) l.length)) := by
  have hd : ∀ a, deepAt ((RL (KK l) l.length).map (gR l)) a = ((RL (KK l) l.length).filter fun x => decide (x.1 < a) && decide (a ≤ x.2)).length := by
    intro a
    unfold deepAt
    rw [List.filter_map, List.length_map]
    congr 2
    funext x
    show wiB (gR l x) a = _
    rw [Bool.eq_iff_iff, wiB_iff, Bool.and_eq_true, decide_eq_true_eq, decide_eq_true_eq]
    dsimp only [gR]; omega
  have hs := RL_sorted h1
  rw [List.pairwise_iff_getElem] at hs
  have hb : (∀ i (hi : i < ((RL (KK l) l.length).map (gR l)).length) k (hk : k < i), ¬ bad ((RL (KK l) l.length).map (gR l))[i] ((RL (KK l) l.length).map (gR l))[k]) ↔ Nest (KK l) l.length := by
    constructor
    · intro h f t g u p q hfg hgt
      obtain ⟨k, hk, ek⟩ := List.mem_iff_getElem.1 ((mem_RL (f, t)).2 p)
      obtain ⟨i, hi, ei⟩ := List.mem_iff_getElem.1 ((mem_RL (g, u)).2 q)
      have hki : k < i := by
        rcases Nat.lt_trichotomy k i with z | z | z
        · exact z
        · subst z; rw [ek] at ei; cases ei; omega
        · have := hs i k hi hk z; rw [ek, ei] at this; simp only at this; omega
      have := h i (by simpa using hi) k hki
      simp only [List.getElem_map, ek, ei] at this
      obtain ⟨u', q', hu', hq'⟩ := h1 g q.1 q.2.2.1
      have := hq' u q
      unfold bad at *
      dsimp only [gR] at *
      omega
    · intro h i hi k hk hbad
      simp only [List.length_map] at hi
      simp only [List.getElem_map] at hbad
      have hlt := hs k i (by omega) hi hk
      have pk := (mem_RL _).1 (List.getElem_mem (show k < (RL (KK l) l.length).length by omega))
      have pi := (mem_RL _).1 (List.getElem_mem hi)
      have := h _ _ _ _ pk pi hlt
      unfold bad at hbad
      dsimp only [gR] at hbad
      omega
  rw [hb]
  refine and_congr Iff.rfl ?_
  unfold Deep
  constructor
  · intro h a ha; rw [← hd]; exact h a ha
  · intro h a ha; rw [hd]; exact h a ha
end FlowPure
namespace FlowPure
theorem ref_jump {l : List api_Instr} (hl : l.length ≤ 200) (h1 : Ok1 (KK l) l.length) {k : Nat} (hk : k < l.length) (hop : l[k].Op = 26 ∨ l[k].Op = 27) (hA : (k : Int) < l[k].A ∧ l[k].A < l.length) :
    (Jk l (fun x => Pr (KK l) l.length x.1 x.2) k → runF (capstanref09_Loops.F l) (.l3 ((RL (KK l) l.length).map (gR l)) k 0) = runF (capstanref09_Loops.F l) (.l2 ((RL (KK l) l.length).map (gR l)) ((k + 1 : Nat) : Int))) ∧
    (¬ Jk l (fun x => Pr (KK l) l.length x.1 x.2) k → runF (capstanref09_Loops.F l) (.l3 ((RL (KK l) l.length).map (gR l)) k 0) = some ([], 90)) := by
  have hlen := RL_len h1
  have key := runF_chk (F := capstanref09_Loops.F l) (n := (RL (KK l) l.length).length) (b := ([], 90)) (fun q => .l3 ((RL (KK l) l.length).map (gR l)) k (q : Int)) (fun q => ∀ hq : q < (RL (KK l) l.length).length, ((RL (KK l) l.length)[q].1 : Int) < l[k].A → l[k].A ≤ (RL (KK l) l.length)[q].2 → (RL (KK l) l.length)[q].1 < k ∧ k ≤ (RL (KK l) l.length)[q].2) (fun q hq _ hp => runF_step (by
    have e : elt ((RL (KK l) l.length).map (gR l)) (q : Int) = some (gR l (RL (KK l) l.length)[q]) := by rw [elt_lt (by simpa using hq), List.getElem_map]
    dsimp only [capstanref09_Loops.F]
    rw [if_pos (by simp; omega), e, elt_lt hk]
    simp only [Option.bind_some, wi_f]
    have go : capstanref09_Loops.j2 l ((RL (KK l) l.length).map (gR l)) k q false = some (.inl (.l3 ((RL (KK l) l.length).map (gR l)) k ((q + 1 : Nat) : Int))) := by
      unfold capstanref09_Loops.j2
      rw [if_neg (by simp), wrap_succ _ (by omega)]
    by_cases hw : wiB (gR l (RL (KK l) l.length)[q]) l[k].A = true
    · rw [if_pos hw]
      rw [wiB_iff] at hw
      have := hp hq hw.1 hw.2
      have hw2 : wiB (gR l (RL (KK l) l.length)[q]) k = true := by rw [wiB_iff]; dsimp only [gR]; omega
      rw [hw2]; exact go
    · rw [if_neg hw]; exact go)) (fun q hq _ hp => runF_end (by
    have e : elt ((RL (KK l) l.length).map (gR l)) (q : Int) = some (gR l (RL (KK l) l.length)[q]) := by rw [elt_lt (by simpa using hq), List.getElem_map]
    dsimp only [capstanref09_Loops.F]
    rw [if_pos (by simp; omega), e, elt_lt hk]
    simp only [Option.bind_some, wi_f]
    have hx : ((RL (KK l) l.length)[q].1 : Int) < l[k].A ∧ l[k].A ≤ (RL (KK l) l.length)[q].2 ∧ ¬ ((RL (KK l) l.length)[q].1 < k ∧ k ≤ (RL (KK l) l.length)[q].2) := by
      refine Classical.byContradiction fun hc => hp fun _ a b => Classical.byContradiction fun hd => hc ⟨a, b, hd⟩
    rw [if_pos (by rw [wiB_iff]; exact ⟨hx.1, hx.2.1⟩)]
    have hw2 : wiB (gR l (RL (KK l) l.length)[q]) k = false := by rw [← Bool.not_eq_true, wiB_iff]; clear hp; dsimp only [gR]; omega
    rw [hw2]; rfl))
  refine ⟨fun h => (key.1 fun q hq _ a b => ?_).trans (runF_step ?_), fun h => key.2 fun hc => h fun x hx _ => ?_⟩
  · exact (h _ (List.getElem?_eq_getElem hk) hop).2.2 _ ((mem_RL _).1 (List.getElem_mem hq)) a b
  · dsimp only [capstanref09_Loops.F]
    rw [if_neg (by simp)]
    unfold capstanref09_Loops.j1
    rw [wrap_succ _ (by omega)]
  · rw [List.getElem?_eq_getElem hk] at hx
    cases hx
    refine ⟨hA.1, hA.2, fun y hy a b => ?_⟩
    obtain ⟨q, hq, rfl⟩ := List.mem_iff_getElem.1 ((mem_RL y).2 hy)
    exact hc q hq hq a b
theorem ref_loops {l : List api_Instr} (hlen : l.length < 4611686018427387904) (hw : ∀ x ∈ l, wf_api_Instr x) :
    (¬ Known l → capstanref09_Loops.f l = some ([], 40)) ∧ (Known l → Fine l → capstanref09_Loops.f l = some ((RL (KK l) l.length).map (gR l), 0)) ∧ (Known l → ¬ Fine l → capstanref09_Loops.f l = some ([], 90)) := by
  unfold capstanref09_Loops.f
  by_cases hn : 1 ≤ l.length ∧ l.length ≤ 200
  case neg =>
    refine ⟨fun _ => runF_end ?_, fun h => absurd ⟨h.1, h.2.1⟩ hn, fun h => absurd ⟨h.1, h.2.1⟩ hn⟩
    dsimp only [capstanref09_Loops.F]
    rw [if_pos (by rw [Bool.or_eq_true, decide_eq_true_eq, decide_eq_true_eq]; omega)]
  obtain ⟨n1, n2⟩ := hn
  rw [runF_step (t := .l1 ((0 : Nat) : Int)) (by
    dsimp only [capstanref09_Loops.F]
    rw [if_neg (by rw [Bool.or_eq_true, decide_eq_true_eq, decide_eq_true_eq]; omega)]; rfl)]
  have key := runF_chk (F := capstanref09_Loops.F l) (n := l.length) (b := ([], 40)) (fun k => .l1 (k : Int)) (fun k => ∀ hk : k < l.length, may l[k] = true) (fun k hk _ hp => runF_step (by
    dsimp only [capstanref09_Loops.F]
    rw [if_pos (by omega), elt_lt hk]
    simp only [Option.bind_some]
    rw [ref_may (hw _ (List.getElem_mem hk)), hp hk]
    simp only [Option.bind_some]
    rw [if_neg (by simp), wrap_succ _ (by omega)])) (fun k hk _ hp => runF_end (by
    dsimp only [capstanref09_Loops.F]
    rw [if_pos (by omega), elt_lt hk]
    simp only [Option.bind_some]
    rw [ref_may (hw _ (List.getElem_mem hk))]
    simp only [Option.bind_some]
    rw [if_pos (by cases h : may l[k] with | false => rfl | true => exact absurd (fun _ => h) hp)]))
  by_cases hm : ∀ x ∈ l, may x = true
  case neg =>
    have : ¬ (∀ k, k < l.length → ∀ hk : k < l.length, may l[k] = true) := fun h => hm fun x hx => by
      obtain ⟨k, hk, rfl⟩ := List.mem_iff_getElem.1 hx
      exact h k hk hk
    exact ⟨fun _ => key.2 this, fun h => absurd h.2.2 hm, fun h => absurd h.2.2 hm⟩
  have hK : Known l := ⟨n1, n2, hm⟩
  refine ⟨fun h => absurd hK h, ?_⟩
  suffices hs : (Fine l → runF (capstanref09_Loops.F l) (.l1 ((0 : Nat) : Int)) = some ((RL (KK l) l.length).map (gR l), 0)) ∧ (¬ Fine l → runF (capstanref09_Loops.F l) (.l1 ((0 : Nat) : Int)) = some ([], 90)) from ⟨fun _ => hs.1, fun _ => hs.2⟩
  rw [key.1 fun k hk _ => hm _ (List.getElem_mem hk)]
  have hlast : l.length - 1 < l.length := by omega
  have wl : IntKind.i64.wrap ((l.length : Int) - 1) = ((l.length - 1 : Nat) : Int) := wrap_pred _ (by omega) (by omega)
  have lasteq : lastOk l ↔ (l[l.length - 1].Op = 31 ∨ l[l.length - 1].Op = 32) := by
    unfold lastOk
    constructor
    · intro h; exact h _ (List.getElem?_eq_getElem hlast)
    · intro h x hx; rw [List.getElem?_eq_getElem hlast] at hx; cases hx; exact h
  obtain ⟨a1, a2⟩ := ref_all n2 hm
  by_cases hO : Ok1 (KK l) l.length ∧ Ok2 (KK l) l.length
  case neg =>
    refine ⟨fun h => absurd (run_pairs h.1) hO, fun _ => runF_end ?_⟩
    dsimp only [capstanref09_Loops.F]
    rw [if_neg (by omega), a2 hO, wl, elt_lt hlast]
    simp only [Option.bind_some]
    rfl
  obtain ⟨o1, o2⟩ := hO
  have hRL := RL_len o1
  obtain ⟨b1, b2⟩ := ref_nested (s := (RL (KK l) l.length).map (gR l)) (n := l.length) (by simp; omega) n2
  have hrun : Run (KK l) l.length ↔ ((∀ i (hi : i < ((RL (KK l) l.length).map (gR l)).length) k (hk : k < i), ¬ bad ((RL (KK l) l.length).map (gR l))[i] ((RL (KK l) l.length).map (gR l))[k]) ∧ (∀ a, a < l.length → deepAt ((RL (KK l) l.length).map (gR l)) a ≤ 4)) := by
    rw [nested_iff o1, run_iff (R := RL (KK l) l.length) fun h => ⟨fun x => mem_RL x, RL_nodup h⟩]
    exact ⟨fun h => h.2.2, fun h => ⟨o1, o2, h⟩⟩
  by_cases hR : Run (KK l) l.length
  case neg =>
    refine ⟨fun h => absurd h.1 hR, fun _ => runF_end ?_⟩
    dsimp only [capstanref09_Loops.F]
    rw [if_neg (by omega), a1 ⟨o1, o2⟩, wl, elt_lt hlast]
    simp only [Option.bind_some, Bool.not_true, Bool.false_eq_true, if_false]
    rw [b2 (mt hrun.2 hR)]
    rfl
  by_cases hL : lastOk l
  case neg =>
    refine ⟨fun h => absurd h.2.1 hL, fun _ => runF_end ?_⟩
    dsimp only [capstanref09_Loops.F]
    rw [if_neg (by omega), a1 ⟨o1, o2⟩, wl, elt_lt hlast]
    simp only [Option.bind_some, Bool.not_true, Bool.false_eq_true, if_false]
    rw [b1 (hrun.1 hR)]
    simp only [Option.bind_some, Bool.not_true, Bool.false_or]
    rw [if_pos (by rw [Bool.and_eq_true, decide_eq_true_eq, decide_eq_true_eq]; have := mt lasteq.2 hL; omega)]
  have e2 : runF (capstanref09_Loops.F l) (.l1 (l.length : Int)) = runF (capstanref09_Loops.F l) (.l2 ((RL (KK l) l.length).map (gR l)) ((0 : Nat) : Int)) := runF_step (by
    dsimp only [capstanref09_Loops.F]
    rw [if_neg (by omega), a1 ⟨o1, o2⟩, wl, elt_lt hlast]
    simp only [Option.bind_some, Bool.not_true, Bool.false_eq_true, if_false]
    rw [b1 (hrun.1 hR)]
    simp only [Option.bind_some, Bool.not_true, Bool.false_or]
    rw [if_neg (by rw [Bool.and_eq_true, decide_eq_true_eq, decide_eq_true_eq]; have := lasteq.1 hL; omega)]
    rfl)
  rw [e2]
  have opb : ∀ k (hk : k < l.length), (if l[k].Op ≠ 26 then ((elt l (k : Int)).bind fun x349 => some (decide (x349.Op ≠ 27))) else (some false)) = some (decide (¬ (l[k].Op = 26 ∨ l[k].Op = 27))) := by
    intro k hk
    rw [elt_lt hk]
    simp only [Option.bind_some]
    by_cases h : l[k].Op = 26
    · rw [if_neg (by simpa using h)]; simp [h]
    · rw [if_pos h]; simp [h]
  have fin := runF_chk (F := capstanref09_Loops.F l) (n := l.length) (b := ([], 90)) (fun k => .l2 ((RL (KK l) l.length).map (gR l)) (k : Int)) (Jk l fun x => Pr (KK l) l.length x.1 x.2) (fun k hk _ hp => by
    by_cases hop : l[k].Op = 26 ∨ l[k].Op = 27
    · have hA := hp _ (List.getElem?_eq_getElem hk) hop
      rw [runF_step (t := .l3 ((RL (KK l) l.length).map (gR l)) k 0) (by
        dsimp only [capstanref09_Loops.F]
        rw [if_pos (by omega), elt_lt hk]
        simp only [Option.bind_some]
        have := opb k hk
        rw [elt_lt hk] at this
        simp only [Option.bind_some] at this
        rw [this]
        simp only [Option.bind_some]
        rw [if_neg (by rw [decide_eq_true_eq]; exact fun h => h hop), if_neg (by omega)]
        simp only [Option.bind_some]
        rw [if_neg (by rw [decide_eq_true_eq]; omega)])]
      exact (ref_jump n2 o1 hk hop ⟨hA.1, hA.2.1⟩).1 hp
    · refine runF_step ?_
      dsimp only [capstanref09_Loops.F]
      rw [if_pos (by omega), elt_lt hk]
      simp only [Option.bind_some]
      have := opb k hk
      rw [elt_lt hk] at this
      simp only [Option.bind_some] at this
      rw [this]
      simp only [Option.bind_some]
      rw [if_pos (by rw [decide_eq_true_eq]; exact hop)]
      unfold capstanref09_Loops.j1
      rw [wrap_succ _ (by omega)]) (fun k hk _ hp => by
    have hop : l[k].Op = 26 ∨ l[k].Op = 27 := Classical.byContradiction fun hc => hp fun x hx h => by
      rw [List.getElem?_eq_getElem hk] at hx; cases hx; exact absurd h hc
    have pre : ∀ (r : Option (capstanref09_Loops.S ⊕ ((List capstanref09_Loop) × Int))), (((if l[k].A ≤ (k : Int) then (some true) else some (decide (l[k].A ≥ (l.length : Int)))).bind fun t365 => if t365 = true then (some (.inr ([], 90))) else (some (.inl (.l3 ((RL (KK l) l.length).map (gR l)) k 0)))) = r) → capstanref09_Loops.F l (.l2 ((RL (KK l) l.length).map (gR l)) k) = r := by
      intro r hr
      dsimp only [capstanref09_Loops.F]
      rw [if_pos (by omega), elt_lt hk]
      simp only [Option.bind_some]
      have := opb k hk
      rw [elt_lt hk] at this
      simp only [Option.bind_some] at this
      rw [this]
      simp only [Option.bind_some]
      rw [if_neg (by rw [decide_eq_true_eq]; exact fun h => h hop)]
      exact hr
    by_cases hA : (k : Int) < l[k].A ∧ l[k].A < l.length
    · rw [runF_step (t := .l3 ((RL (KK l) l.length).map (gR l)) k 0) (pre _ (by
        rw [if_neg (by omega)]
        simp only [Option.bind_some]
        rw [if_neg (by rw [decide_eq_true_eq]; omega)]))]
      exact (ref_jump n2 o1 hk hop hA).2 hp
    · refine runF_end (pre _ ?_)
      by_cases h : l[k].A ≤ (k : Int)
      · rw [if_pos h]; rfl
      · rw [if_neg h]
        simp only [Option.bind_some]
        rw [if_pos (by rw [decide_eq_true_eq]; omega)])
  by_cases hJ : Jm l fun x => Pr (KK l) l.length x.1 x.2
  · refine ⟨fun _ => (fin.1 hJ).trans (runF_end ?_), fun h => absurd ⟨hR, hL, hJ⟩ h⟩
    dsimp only [capstanref09_Loops.F]
    rw [if_neg (by omega)]
  · exact ⟨fun h => absurd h.2.2 hJ, fun _ => fin.2 hJ⟩
end FlowPure
namespace FlowPure
theorem ref_ways {l : List api_Instr} (hlen : l.length < 4611686018427387904) (hw : ∀ x ∈ l, wf_api_Instr x) :
    (∀ a, ¬ Known l → capstanref09_Ways.f l a = some ([], 40)) ∧ (∀ a, Known l → ¬ Fine l → capstanref09_Ways.f l a = some ([], 90)) ∧ (∀ a : Int, Known l → Fine l → (a < 0 ∨ a ≥ l.length) → capstanref09_Ways.f l a = some ([], 2)) ∧ (∀ a : Nat, Known l → Fine l → a < l.length → capstanref09_Ways.f l a = some (ways l a, 0)) := by
  obtain ⟨a1, a2, a3⟩ := ref_loops hlen hw
  unfold capstanref09_Ways.f
  refine ⟨fun a h => ?_, fun a h hf => ?_, fun a h hf ha => ?_, fun a h hf ha => ?_⟩
  · rw [a1 h]; rfl
  · rw [a3 h hf]; rfl
  · rw [a2 h hf]
    simp only [Option.bind_some]
    rw [if_neg (by simp), if_pos (by rw [Bool.or_eq_true, decide_eq_true_eq, decide_eq_true_eq]; exact ha)]
  · rw [a2 h hf]
    simp only [Option.bind_some]
    rw [if_neg (by simp), if_neg (by rw [Bool.or_eq_true, decide_eq_true_eq, decide_eq_true_eq]; omega), elt_lt ha]
    simp only [Option.bind_some]
    have hm := h.2.2 _ (List.getElem_mem ha)
    have hn := h.2.1
    unfold ways
    rw [List.getElem?_eq_getElem ha]
    dsimp only
    generalize hx : l[a] = x at hm
    have wa : IntKind.i64.wrap ((a : Int) + 1) = ((a + 1 : Nat) : Int) := wrap_succ a (by omega)
    unfold capstanref09_Ways.j1
    rw [wa]
    by_cases h31 : x.Op = 31
    · rw [if_pos h31, if_pos (by rw [decide_eq_true_eq]; exact h31), if_pos (.inl h31)]
    · rw [if_neg h31]
      by_cases h32 : x.Op = 32
      · rw [if_pos (by rw [decide_eq_true_eq]; exact h32), if_pos (.inr h32)]
      · rw [if_neg (by rw [decide_eq_true_eq]; exact h32), if_neg (show ¬ (x.Op = 31 ∨ x.Op = 32) by omega)]
        by_cases h26 : x.Op = 26
        · rw [if_pos h26, if_pos h26]
        · rw [if_neg h26, if_neg h26]
          by_cases h27 : x.Op = 27
          · rw [if_pos h27, if_pos h27]
            by_cases e : x.A = ((a + 1 : Nat) : Int)
            · rw [if_pos e, if_pos e]
            · rw [if_neg e, if_neg e]
          · rw [if_neg h27, if_neg h27]
            by_cases h29 : x.Op = 29
            · have hp := may_place hm (.inr (.inr h29))
              have wA : IntKind.i64.wrap (x.A + 1) = x.A + 1 := wrap_id (by omega) (by omega)
              rw [if_pos h29, if_pos h29, wA]
            · rw [if_neg h29, if_neg h29]
end FlowPure
namespace TypesPure
open FlowPure
theorem kinds_same {x y : List Int} (h : x.length < 4611686018427387904) : capstanref07_SameKinds.f x y = some (decide (x = y)) := by
  rw [← same8 h]
  have e : ∀ s, slices_Equal_uint8_uint8.F x y (match s with | .start => .start | .l1 a => .l1 a) = (capstanref07_SameKinds.F x y s).map (fun r => match r with | .inl (.start) => .inl (.start) | .inl (.l1 a) => .inl (.l1 a) | .inr b => .inr b) := by
    intro s
    cases s with
    | start => dsimp only [slices_Equal_uint8_uint8.F, capstanref07_SameKinds.F]; split <;> rfl
    | l1 a =>
      dsimp only [slices_Equal_uint8_uint8.F, capstanref07_SameKinds.F]
      split
      · cases elt x a with
        | none => rfl
        | some u =>
          cases elt y a with
          | none => rfl
          | some v => simp only [Option.bind_some]; split <;> rfl
      · rfl
  unfold slices_Equal_uint8_uint8.f capstanref07_SameKinds.f
  by_cases hl : x.length = y.length
  · rw [runF_step (F := capstanref07_SameKinds.F x y) (t := .l1 ((0 : Nat) : Int)) (by dsimp only [capstanref07_SameKinds.F]; rw [if_neg (by omega)]; rfl)]
    rw [runF_step (F := slices_Equal_uint8_uint8.F x y) (t := .l1 ((0 : Nat) : Int)) (by dsimp only [slices_Equal_uint8_uint8.F]; rw [if_neg (by omega)]; rfl)]
    have key : ∀ n k, x.length - k = n → runF (capstanref07_SameKinds.F x y) (.l1 (k : Int)) = runF (slices_Equal_uint8_uint8.F x y) (.l1 (k : Int)) := by
      intro n
      induction n with
      | zero =>
        intro k hk
        rw [runF_end (F := capstanref07_SameKinds.F x y) (r := true) (by dsimp only [capstanref07_SameKinds.F]; rw [if_neg (by omega)]), runF_end (F := slices_Equal_uint8_uint8.F x y) (r := true) (by dsimp only [slices_Equal_uint8_uint8.F]; rw [if_neg (by omega)])]
      | succ n ih =>
        intro k hk
        have h1 : k < x.length := by omega
        have h2 : k < y.length := by omega
        by_cases e : x[k] = y[k]
        · rw [runF_step (F := capstanref07_SameKinds.F x y) (t := .l1 ((k + 1 : Nat) : Int)) (by dsimp only [capstanref07_SameKinds.F]; rw [if_pos (by omega), elt_lt h1, elt_lt h2]; simp only [Option.bind_some]; rw [if_neg (by simpa using e), wrap_succ k (by omega)]), runF_step (F := slices_Equal_uint8_uint8.F x y) (t := .l1 ((k + 1 : Nat) : Int)) (by dsimp only [slices_Equal_uint8_uint8.F]; rw [if_pos (by omega), elt_lt h1, elt_lt h2]; simp only [Option.bind_some]; rw [if_neg (by simpa using e), wrap_succ k (by omega)])]
          exact ih (k + 1) (by omega)
        · rw [runF_end (F := capstanref07_SameKinds.F x y) (r := false) (by dsimp only [capstanref07_SameKinds.F]; rw [if_pos (by omega), elt_lt h1, elt_lt h2]; simp only [Option.bind_some]; rw [if_pos (by simpa using e)]), runF_end (F := slices_Equal_uint8_uint8.F x y) (r := false) (by dsimp only [slices_Equal_uint8_uint8.F]; rw [if_pos (by omega), elt_lt h1, elt_lt h2]; simp only [Option.bind_some]; rw [if_pos (by simpa using e)])]
    exact key _ 0 rfl
  · rw [runF_end (F := capstanref07_SameKinds.F x y) (r := false) (by dsimp only [capstanref07_SameKinds.F]; rw [if_pos (by omega)]), runF_end (F := slices_Equal_uint8_uint8.F x y) (r := false) (by dsimp only [slices_Equal_uint8_uint8.F]; rw [if_pos (by omega)])]
end TypesPure
namespace TypesPure
open FlowPure
/-! ### a module's copy -/
theorem copy_eq {m : api_Module} (S : Small m) : capstanref08_Copy.f m = some m := by
  have h1 := S.G
  have h2 := S.P
  have h3 := S.M
  unfold capstanref08_Copy.f
  have c3 : ∀ l : List api_Value, l.length ≤ 100 → capstanref03_Copy.f l = some l := by
    intro l hl
    unfold capstanref03_Copy.f
    rw [if_pos (by simp; omega)]; rfl
  rw [runF_step (t := .l1 m.Globals m.Pool ((0 : Nat) : Int) (m.Methods.take 0)) (by
    dsimp only [capstanref08_Copy.F]
    rw [c3 _ h1]
    simp only [Option.bind_some]
    rw [c3 _ h2]
    rfl)]
  refine (runF_up (F := capstanref08_Copy.F m) (n := m.Methods.length) (fun k => .l1 m.Globals m.Pool (k : Int) (m.Methods.take k)) (fun k hk => ?_)).trans (runF_end ?_)
  · have hs := S.x _ (List.getElem_mem hk)
    dsimp only [capstanref08_Copy.F]
    rw [if_pos (by omega), elt_lt hk]
    simp only [Option.bind_some]
    rw [if_pos (by simp; omega), if_pos (by simp; omega)]
    have c5 : capstanref05_Copy.f m.Methods[k].Code = some m.Methods[k].Code := by
      unfold capstanref05_Copy.f
      rw [if_pos (by simp; omega)]; rfl
    rw [c5]
    simp only [Option.bind_some]
    rw [if_pos (by simp; omega), wrap_succ k (by omega), take_succ _ k hk]
    rfl
  · dsimp only [capstanref08_Copy.F]
    rw [if_neg (by omega), List.take_length]
/-! ### what rows hang on -/
structure Alike (E E' : TE) : Prop where
  G : E'.G.length = E.G.length
  G1 : ∀ a, (At E'.G api_Value.zero a).Kind = (At E.G api_Value.zero a).Kind
  P : E'.P.length = E.P.length
  P1 : ∀ a, (At E'.P api_Value.zero a).Kind = (At E.P api_Value.zero a).Kind
  M : E'.M.length = E.M.length
  M1 : ∀ a, (At E'.M api_Method.zero a).Args = (At E.M api_Method.zero a).Args ∧ (At E'.M api_Method.zero a).Result = (At E.M api_Method.zero a).Result
  res : E'.res = E.res
  K : E'.K = E.K
theorem Alike.there {E E' : TE} (h : Alike E E') (i : api_Instr) : there E' i = there E i := by
  unfold TypesPure.there
  rw [h.G, h.P, h.M, h.K]
theorem Alike.named {E E' : TE} (h : Alike E E') (i : api_Instr) : named E' i = named E i := by
  unfold TypesPure.named
  rw [h.G1, h.P1, h.K]
theorem Alike.shape {E E' : TE} (h : Alike E E') (i : api_Instr) (row : List Int) : shapeC E' i row = shapeC E i row := by
  unfold shapeC
  rw [h.named, (h.M1 i.A).1, (h.M1 i.A).2, h.res]
theorem Alike.after {E E' : TE} (h : Alike E E') (i : api_Instr) (row : List Int) : afterC E' i row = afterC E i row := by
  unfold afterC
  rw [h.shape]
theorem Alike.place {E E' : TE} (h : Alike E E') (l : List api_Instr) (rows : List types_Row) (k : Nat) : placeC E' l rows k = placeC E l rows k := by
  unfold placeC
  rw [h.after]
theorem Alike.at {E E' : TE} (h : Alike E E') (l : List api_Instr) : ∀ k, rowsAt E' l k = rowsAt E l k
  | 0 => rfl
  | k + 1 => by unfold rowsAt; rw [h.at l k, h.place]
theorem Alike.rows {E E' : TE} (h : Alike E E') (l : List api_Instr) : rowsC E' l = rowsC E l := by
  unfold rowsC
  rw [h.at]
theorem rows_alike {m w : api_Module} {k : Int} {x x' : api_Method} (h0 : 0 ≤ k) (h1 : k < m.Methods.length) (hx : elt m.Methods k = some x) (hx' : elt w.Methods k = some x') (hc : x'.Code = x.Code) (ha : x'.Args = x.Args) (hl : x'.Locals = x.Locals) (A : Alike (envOf m x) (envOf w x'))
    (hM : ∀ y ∈ m.Methods, y.Args.length < 4611686018427387904) (hM' : ∀ y ∈ w.Methods, y.Args.length < 4611686018427387904) (hcl : x.Code.length < 4611686018427387904) (hw : ∀ i ∈ x.Code, wf_api_Instr i) (hlen : x.Args.length + x.Locals.length ≤ 140737488355328) : types_Rows.f w k = types_Rows.f m k := by
  have h1' : k < w.Methods.length := by have := A.M; simp only [envOf] at this; rw [this]; exact h1
  obtain ⟨e1, e2, e3⟩ := rows_else h0 h1 hx hcl hw hlen
  obtain ⟨f1, f2, f3⟩ := rows_else h0 h1' hx' (by rw [hc]; exact hcl) (by rw [hc]; exact hw) (by rw [ha, hl]; exact hlen)
  rw [hc] at f1 f2 f3
  by_cases hkn : Known x.Code
  · by_cases hf : Fine x.Code
    · by_cases hth : ∃ i ∈ x.Code, there (envOf m x) i = false
      · rw [e3 hkn hf hth, f3 hkn hf (by obtain ⟨i, hi, ht⟩ := hth; exact ⟨i, hi, by rw [A.there]; exact ht⟩)]
      · have th : ∀ i ∈ x.Code, there (envOf m x) i = true := fun i hi => by
          cases ht : there (envOf m x) i
          · exact absurd ⟨i, hi, ht⟩ hth
          · rfl
        have W : Well (envOf m x) x.Code := ⟨hkn, hf, hw, th, hM⟩
        have W' : Well (envOf w x') x'.Code := by rw [hc]; exact ⟨hkn, hf, hw, fun i hi => by rw [A.there]; exact th i hi, hM'⟩
        rw [rows_well h0 h1 hx W hlen, rows_well h0 h1' hx' W' (by rw [ha, hl]; exact hlen), hc, A.rows]
    · rw [e2 hkn hf, f2 hkn hf]
  · rw [e1 hkn, f1 hkn]
end TypesPure
namespace TypesPure
open FlowPure
/-! ### the chapter's After -/
theorem with_eq {s : List Int} {k : Int} (h : s.length ≤ 100000) : capstanref10_with.f s k = some (s ++ [k]) := by
  unfold capstanref10_with.f
  rw [if_pos (by simp; omega), if_pos (by simp; omega)]; rfl
theorem rkinds {x : api_Method} (h : x.Args.length + x.Locals.length ≤ 1000) : capstanref07_Kinds.f x = some (x.Args ++ x.Locals) := by
  unfold capstanref07_Kinds.f
  rw [if_pos (by simp; omega), if_pos (by simp; omega)]; rfl
theorem there_ref {m : api_Module} {x : api_Method} (i : api_Instr) (h : x.Args.length + x.Locals.length ≤ 1000) : capstanref10_there.f m x i = some (there (envOf m x) i) := by
  have w : IntKind.i64.wrap ((x.Args.length : Int) + (x.Locals.length : Int)) = ((x.Args ++ x.Locals).length : Int) := by rw [wrap_id (by omega) (by omega), List.length_append]; omega
  unfold capstanref10_there.f capstanref10_there.j1 capstanref10_there.j2 there
  rw [w]
  by_cases h1 : i.Op = 1
  · simp [h1, envOf]; rfl
  · by_cases h2 : i.Op = 2
    · simp [h2, envOf]
    · by_cases h3 : i.Op = 3
      · simp [h3, envOf]
      · by_cases h4 : i.Op = 4
        · simp [h4, envOf]; rfl
        · by_cases h5 : i.Op = 5
          · simp [h5, envOf]; rfl
          · by_cases h6 : i.Op = 30
            · simp [h6, envOf]; rfl
            · simp [h1, h2, h3, h4, h5, h6]
theorem taken_eq {row : List Int} {k : Int} (hl : row.length ≤ 100000) : capstanref10_taken.f row k = some (if h : row.length = 0 then ([], 101) else if k = 0 ∨ k = row[row.length - 1]'(by omega) then (row.take (row.length - 1), 0) else ([], 100)) := by
  unfold capstanref10_taken.f
  by_cases h : row.length = 0
  · rw [if_pos (by omega), dif_pos h]
  · rw [if_neg (by omega), dif_neg h]
    have w1 : IntKind.i64.wrap ((row.length : Int) - 1) = ((row.length - 1 : Nat) : Int) := by rw [wrap_id (by omega) (by omega)]; omega
    rw [w1, elt_lt (by omega)]
    simp only [Option.bind_some]
    have et : ((row.length - 1 : Nat) : Int).toNat = row.length - 1 := by omega
    by_cases h0 : k = 0
    · rw [if_neg (by simpa using h0), if_pos (show k = 0 ∨ k = row[row.length - 1]'(by omega) from .inl h0)]
      simp only [Option.bind_some]
      rw [if_neg (by simp), if_pos (by omega), et]
    · rw [if_pos h0]
      simp only [Option.bind_some]
      by_cases h1 : k = row[row.length - 1]'(by omega)
      · rw [if_neg (by simp [← h1]), if_pos (show k = 0 ∨ k = row[row.length - 1]'(by omega) from .inr h1), if_pos (by omega), et]
      · rw [if_pos (by simpa using fun e => h1 e.symm), if_neg (show ¬ (k = 0 ∨ k = row[row.length - 1]'(by omega)) from fun h => h.elim h0 h1)]
theorem takesB_iff {t row : List Int} (h : t.length ≤ row.length) : takesB t row = true ↔ ∀ k (hk : k < t.length), t[t.length - 1 - k]'(by omega) = 0 ∨ t[t.length - 1 - k]'(by omega) = row[row.length - 1 - k]'(by omega) := by
  unfold takesB
  rw [List.all_eq_true]
  constructor
  · intro ha k hk
    have hz : t.length - 1 - k < (t.zip (row.drop (row.length - t.length))).length := by simp; omega
    have := ha _ (List.getElem_mem hz)
    rw [List.getElem_zip, List.getElem_drop, decide_eq_true_eq] at this
    have e : row.length - t.length + (t.length - 1 - k) = row.length - 1 - k := by omega
    simp only [e] at this
    exact this
  · intro ha z hz
    obtain ⟨q, hq, rfl⟩ := List.mem_iff_getElem.1 hz
    have hq' : q < t.length := by simp at hq; omega
    rw [List.getElem_zip, List.getElem_drop, decide_eq_true_eq]
    have := ha (t.length - 1 - q) (by omega)
    have e1 : t.length - 1 - (t.length - 1 - q) = q := by omega
    have e2 : row.length - 1 - (t.length - 1 - q) = row.length - t.length + q := by omega
    simp only [e1, e2] at this
    exact this
def takeC (t row : List Int) : List Int × Int := if row.length < t.length then ([], 101) else if takesB t row = true then (row.take (row.length - t.length), 0) else ([], 100)
theorem taken_takeC {row : List Int} {k : Int} (hl : row.length ≤ 100000) : capstanref10_taken.f row k = some (takeC [k] row) := by
  rw [taken_eq hl]
  unfold takeC
  by_cases h : row.length = 0
  · rw [dif_pos h, if_pos (by rw [List.length_singleton]; omega)]
  · rw [dif_neg h, if_neg (show ¬ row.length < ([k] : List Int).length by rw [List.length_singleton]; omega)]
    have hb := takesB_iff (t := [k]) (row := row) (by rw [List.length_singleton]; omega)
    by_cases h1 : k = 0 ∨ k = row[row.length - 1]'(by omega)
    · rw [if_pos h1, if_pos (hb.2 fun j hj => by
        obtain rfl : j = 0 := by simpa using hj
        simpa using h1)]
      rfl
    · rw [if_neg h1, if_neg (fun h => h1 (by simpa using hb.1 h 0 (by simp)))]
theorem takes_ref {t row : List Int} (hl : row.length ≤ 100000) (ht : t.length < 4611686018427387904) : capstanref10_takes.f row t = some (takeC t row) := by
  unfold capstanref10_takes.f takeC
  by_cases hlt : row.length < t.length
  · rw [if_pos hlt, runF_end]
    dsimp only [capstanref10_takes.F]
    rw [if_pos (by omega)]
  · rw [if_neg hlt, runF_step (t := .l1 (row.take (row.length - 0)) ((t.length : Int) - 1 - ((0 : Nat) : Int))) (by
      dsimp only [capstanref10_takes.F]
      rw [if_neg (by omega), wrap_id (by omega) (by omega), Nat.sub_zero, List.take_length]; simp)]
    have step : ∀ k (hk : k < t.length), capstanref10_takes.F row t (.l1 (row.take (row.length - k)) ((t.length : Int) - 1 - (k : Int))) = if t[t.length - 1 - k]'(by omega) = 0 ∨ t[t.length - 1 - k]'(by omega) = row[row.length - 1 - k]'(by omega) then some (.inl (.l1 (row.take (row.length - (k + 1))) ((t.length : Int) - 1 - ((k + 1 : Nat) : Int)))) else some (.inr ([], 100)) := by
      intro k hk
      dsimp only [capstanref10_takes.F]
      have e1 : (t.length : Int) - 1 - (k : Int) = ((t.length - 1 - k : Nat) : Int) := by omega
      rw [if_pos (by omega), e1, elt_lt (by omega)]
      simp only [Option.bind_some]
      have hlen : (row.take (row.length - k)).length = row.length - k := by rw [List.length_take]; omega
      rw [taken_eq (by rw [hlen]; omega)]
      simp only [Option.bind_some]
      rw [dif_neg (by rw [hlen]; omega)]
      have e2 : (row.take (row.length - k))[(row.take (row.length - k)).length - 1]'(by rw [hlen]; omega) = row[row.length - 1 - k]'(by omega) := by
        rw [List.getElem_take]
        have : (row.take (row.length - k)).length - 1 = row.length - 1 - k := by rw [hlen]; omega
        simp only [this]
      rw [e2]
      have e3 : (row.take (row.length - k)).take ((row.take (row.length - k)).length - 1) = row.take (row.length - (k + 1)) := by
        rw [hlen, List.take_take]
        congr 1; omega
      rw [e3]
      have e4 : IntKind.i64.wrap (((t.length - 1 - k : Nat) : Int) - 1) = (t.length : Int) - 1 - ((k + 1 : Nat) : Int) := by rw [wrap_id (by omega) (by omega)]; omega
      rw [e4]
      by_cases hc : t[t.length - 1 - k]'(by omega) = 0 ∨ t[t.length - 1 - k]'(by omega) = row[row.length - 1 - k]'(by omega)
      · rw [if_pos hc, if_pos hc]; rfl
      · rw [if_neg hc, if_neg hc]; rfl
    obtain ⟨a1, a2⟩ := runF_chk (F := capstanref10_takes.F row t) (n := t.length) (b := ([], 100)) (fun k => .l1 (row.take (row.length - k)) ((t.length : Int) - 1 - (k : Int))) (fun k => ∀ hk : k < t.length, t[t.length - 1 - k]'(by omega) = 0 ∨ t[t.length - 1 - k]'(by omega) = row[row.length - 1 - k]'(by omega)) (fun k hk _ hp => by
      refine runF_step ?_
      rw [step k hk, if_pos (hp hk)]) (fun k hk _ hp => by
      refine runF_end ?_
      rw [step k hk, if_neg (fun h => hp fun _ => h)])
    have hb := takesB_iff (t := t) (row := row) (by omega)
    by_cases hall : takesB t row = true
    · rw [if_pos hall]
      refine (a1 fun k hk _ => hb.1 hall k hk).trans (runF_end ?_)
      dsimp only [capstanref10_takes.F]
      rw [if_neg (by omega)]
    · rw [if_neg hall]
      exact a2 fun h => hall (hb.2 fun k hk => h k hk hk)
/-! ### what is taken and given, as texts -/
def letterC (c : Int) : Int := if c = 110 then 1 else if c = 112 then 2 else if c = 114 then 3 else 0
theorem letter_eq (c : Int) : capstanref04_letter.f c = some (letterC c) := by
  unfold capstanref04_letter.f letterC
  split
  · rfl
  · split
    · rfl
    · split <;> rfl
def kindsC (s : ByteArray) : List Int := (List.range s.size).map fun (k : Nat) => letterC ((strAt s (k : Int)).getD 0)
theorem kinds_text {s : ByteArray} (h : s.size ≤ 1000) : capstanref04_kinds.f s = some (kindsC s) := by
  unfold capstanref04_kinds.f
  rw [runF_step (t := .l1 ((kindsC s).take 0) ((0 : Nat) : Int)) rfl]
  have hl : (kindsC s).length = s.size := by simp [kindsC]
  refine (runF_up (F := capstanref04_kinds.F s) (n := s.size) (fun k => .l1 ((kindsC s).take k) (k : Int)) (fun k hk => ?_)).trans (runF_end ?_)
  · dsimp only [capstanref04_kinds.F]
    have hs : strAt s (k : Int) = some ((strAt s (k : Int)).getD 0) := by
      unfold strAt
      rw [dif_pos ⟨by omega, by omega⟩]; rfl
    rw [if_pos (by omega), hs]
    simp only [Option.bind_some]
    rw [letter_eq]
    simp only [Option.bind_some]
    rw [if_pos (by simp; omega), wrap_succ k (by omega), take_succ _ k (by omega)]
    simp [kindsC]
  · dsimp only [capstanref04_kinds.F]
    rw [if_neg (by omega), List.take_of_length_le (by omega)]
def ofBoth (n : Nat) : Bool := match capstanref04_shape.f (n : Int), op_Of.f (n : Int) with
  | some t, some s => decide (t.1.size ≤ 10 ∧ t.2.size ≤ 10) && (if (t.1.toList == (⟨#[63]⟩ : ByteArray).toList) = true then !s.2 else s.2 && decide (kindsC t.1 = s.1.Takes ∧ kindsC t.2 = s.1.Gives))
  | _, _ => false
theorem of_both_all (n : Fin 33) : ofBoth n.1 = true := by revert n; decide +kernel
theorem of_ref {x : Int} (h0 : 0 ≤ x) (h1 : x < 33) {s : op_Shape × Bool} (hs : op_Of.f x = some s) (h2 : s.2 = true) : capstanref04_Of.f x = some (s.1.Takes, s.1.Gives, true) := by
  obtain ⟨n, rfl⟩ := Int.eq_ofNat_of_zero_le h0
  have hb := of_both_all ⟨n, by omega⟩
  unfold ofBoth at hb
  dsimp only at hb
  rw [hs] at hb
  unfold capstanref04_Of.f
  cases ht : capstanref04_shape.f (n : Int) with
  | none => rw [ht] at hb; cases hb
  | some t =>
    rw [ht] at hb
    dsimp only at hb
    rw [Bool.and_eq_true, decide_eq_true_eq] at hb
    obtain ⟨⟨b1, b2⟩, hb⟩ := hb
    simp only [Option.bind_some]
    by_cases hq : (t.1.toList == (⟨#[63]⟩ : ByteArray).toList) = true
    · rw [if_pos hq, h2] at hb; cases hb
    · rw [if_neg hq, h2, Bool.true_and, decide_eq_true_eq] at hb
      rw [if_neg hq, kinds_text (by omega)]
      simp only [Option.bind_some]
      rw [kinds_text (by omega)]
      simp only [Option.bind_some]
      rw [hb.1, hb.2]
end TypesPure
namespace TypesPure
open FlowPure
theorem after_take (E : TE) (i : api_Instr) (row : List Int) : afterC E i row = if (takeC (shapeC E i row).1 row).2 ≠ 0 then ([], (takeC (shapeC E i row).1 row).2) else ((takeC (shapeC E i row).1 row).1 ++ (shapeC E i row).2, 0) := by
  unfold afterC takeC
  by_cases h1 : row.length < (shapeC E i row).1.length
  · rw [if_pos h1, if_pos h1]; rfl
  · rw [if_neg h1, if_neg h1]
    by_cases h2 : takesB (shapeC E i row).1 row = true
    · rw [if_pos h2, if_pos h2]; rfl
    · rw [if_neg h2, if_neg h2]; rfl
theorem takeC_nil (row : List Int) : takeC [] row = (row, 0) := by
  unfold takeC
  rw [if_neg (by simp), if_pos (by rfl)]; simp
theorem takeC_zeros {t row : List Int} (h : ∀ z ∈ t, z = 0) : takeC t row = if row.length < t.length then ([], 101) else (row.take (row.length - t.length), 0) := by
  unfold takeC
  by_cases h1 : row.length < t.length
  · rw [if_pos h1, if_pos h1]
  · rw [if_neg h1, if_neg h1, if_pos ((takesB_iff (by omega)).2 fun k hk => .inl (h _ (List.getElem_mem _)))]
theorem takeC_len {t row : List Int} : (takeC t row).1.length ≤ row.length := by
  unfold takeC
  split
  · simp
  · split
    · rw [List.length_take]; omega
    · simp
theorem after_ref {m : api_Module} {x : api_Method} {i : api_Instr} {s : List Int} (hw : wf_api_Instr i) (hm : may i = true) (ht : there (envOf m x) i = true) (hM : ∀ y ∈ m.Methods, y.Args.length < 4611686018427387904) (hs : s.length ≤ 1000) (hl : x.Args.length + x.Locals.length ≤ 1000) :
    capstanref10_After.f m x i s = some (afterC (envOf m x) i s) := by
  obtain ⟨o0, o1⟩ := op_lt hw hm
  obtain ⟨sh, hsh, hc⟩ := of_some o0 o1
  have hg := gives_len (E := envOf m x) (row := s) hw hm
  have htk := takes_len (E := envOf m x) (row := s) hw hm hM
  have ha := after_take (envOf m x) i s
  generalize hshape : shapeC (envOf m x) i s = shp at ha hg htk
  obtain ⟨t, v⟩ := shp
  dsimp only at ha hg htk
  rw [ha]
  have htake := takes_ref (row := s) (t := t) (by omega) htk
  have htl := takeC_len (t := t) (row := s)
  unfold shapeC at hshape
  rw [hsh] at hshape
  dsimp only at hshape
  unfold capstanref10_After.f
  have one : ∀ k : Int, t = [k] → v = [] → ∀ r, capstanref10_After.F m x i s .start = r → r = ((capstanref10_taken.f s k).bind fun t27 => some (.inr (t27.1, t27.2))) → runF (capstanref10_After.F m x i s) .start = some (if (takeC t s).2 ≠ 0 then ([], (takeC t s).2) else ((takeC t s).1 ++ v, 0)) := by
    rintro k rfl rfl r h1 h2
    refine runF_end ?_
    rw [h1, h2, taken_takeC (by omega)]
    simp only [Option.bind_some]
    congr 2
    by_cases he : (takeC [k] s).2 ≠ 0
    · rw [if_pos he]
      have : (takeC [k] s).1 = [] := by
        unfold takeC at he ⊢
        split
        · rfl
        · rename_i q1
          rw [if_neg q1] at he
          split
          · rename_i q2
            rw [if_pos q2] at he; exact absurd rfl he
          · rfl
      rw [this]
    · rw [if_neg he, List.append_nil]
      have := Classical.not_not.1 he
      rw [this]
  rcases hc with ⟨h2, hc1, hc2, hc3⟩ | ⟨rfl, ho⟩
  · rw [if_pos h2] at hshape
    obtain ⟨rfl, rfl⟩ := Prod.mk.inj hshape
    have hno : i.Op ≠ 1 ∧ i.Op ≠ 2 ∧ i.Op ≠ 3 ∧ i.Op ≠ 4 ∧ i.Op ≠ 5 ∧ i.Op ≠ 7 ∧ i.Op ≠ 8 ∧ i.Op ≠ 30 := by
      refine ⟨?_, ?_, ?_, ?_, ?_, ?_, ?_, ?_⟩ <;> intro e <;> rw [e] at hsh <;> have hz := congrArg (fun o => o.map (·.2)) hsh <;> revert hz <;> simp only [Option.map_some, h2] <;> decide +kernel
    obtain ⟨n1, n2, n3, n4, n5, n7, n8, n30⟩ := hno
    have hstart : capstanref10_After.F m x i s .start = if (takeC sh.1.Takes s).2 ≠ 0 then some (.inr ([], (takeC sh.1.Takes s).2)) else some (.inl (.l1 (sh.1.Takes, sh.1.Gives, true) (takeC sh.1.Takes s).1 0)) := by
      dsimp only [capstanref10_After.F]
      rw [if_neg n1, if_neg n2, if_neg n3, if_neg n4, if_neg n5, if_neg n7, if_neg n8, if_neg n30, if_neg hc3, of_ref o0 o1 hsh h2]
      simp only [Option.bind_some]
      rw [htake]
      simp only [Option.bind_some]
    by_cases he : (takeC sh.1.Takes s).2 ≠ 0
    · rw [if_pos he] at hstart ⊢
      exact runF_end hstart
    · rw [if_neg he] at hstart ⊢
      rw [runF_step hstart]
      generalize (takeC sh.1.Takes s).1 = left at htl
      have e0 : left = left ++ sh.1.Gives.take 0 := by simp
      have key := runF_up (F := capstanref10_After.F m x i s) (n := sh.1.Gives.length) (fun k => .l1 (sh.1.Takes, sh.1.Gives, true) (left ++ sh.1.Gives.take k) (k : Int)) (fun k hk => by
        dsimp only [capstanref10_After.F]
        rw [if_pos (by omega), elt_lt hk]
        simp only [Option.bind_some]
        rw [with_eq (by rw [List.length_append, List.length_take]; omega)]
        simp only [Option.bind_some]
        rw [wrap_succ k (by omega), take_succ _ k hk, List.append_assoc])
      rw [List.take_zero, List.append_nil, List.take_length] at key
      refine Eq.trans key (runF_end ?_)
      dsimp only [capstanref10_After.F]
      rw [if_neg (by omega)]
  · simp only [Bool.false_eq_true, if_false] at hshape
    by_cases h1 : i.Op = 1
    · rw [if_pos (.inl h1)] at hshape
      obtain ⟨rfl, rfl⟩ := Prod.mk.inj hshape
      have a0 := may_named hw hm (by omega)
      have a1 : i.A < m.Pool.length := by have := ht; simp only [there, h1, envOf, if_true] at this; exact of_decide_eq_true this
      rw [takeC_nil]
      refine runF_end ?_
      dsimp only [capstanref10_After.F]
      rw [if_pos h1, elt_At api_Value.zero a0 a1]
      simp only [Option.bind_some]
      rw [with_eq (by omega)]
      simp [named, h1, envOf]
    · by_cases h2 : i.Op = 2
      · rw [if_pos (.inr (.inl h2))] at hshape
        obtain ⟨rfl, rfl⟩ := Prod.mk.inj hshape
        have a0 := may_named hw hm (by omega)
        have a1 : i.A < (x.Args ++ x.Locals).length := by have := ht; simp [there, h2, envOf] at this; simpa using this
        rw [takeC_nil]
        refine runF_end ?_
        dsimp only [capstanref10_After.F]
        unfold capstanref10_local.f
        rw [if_neg h1, if_pos h2, rkinds hl]
        simp only [Option.bind_some]
        rw [elt_At 0 a0 a1]
        simp only [Option.bind_some]
        rw [with_eq (by omega)]
        simp [named, h2, envOf]
      · by_cases h4 : i.Op = 4
        · rw [if_pos (.inr (.inr h4))] at hshape
          obtain ⟨rfl, rfl⟩ := Prod.mk.inj hshape
          have a0 := may_named hw hm (by omega)
          have a1 : i.A < m.Globals.length := by have := ht; simp [there, h4, envOf] at this; exact of_decide_eq_true this
          rw [takeC_nil]
          refine runF_end ?_
          dsimp only [capstanref10_After.F]
          rw [if_neg h1, if_neg h2, if_neg (by omega), if_pos h4, elt_At api_Value.zero a0 a1]
          simp only [Option.bind_some]
          rw [with_eq (by omega)]
          simp [named, h4, envOf]
        · rw [if_neg (by omega)] at hshape
          by_cases h3 : i.Op = 3
          · rw [if_pos (.inl h3)] at hshape
            obtain ⟨rfl, rfl⟩ := Prod.mk.inj hshape
            have a0 := may_named hw hm (by omega)
            have a1 : i.A < (x.Args ++ x.Locals).length := by have := ht; simp [there, h3, envOf] at this; simpa using this
            refine one (named (envOf m x) i) rfl rfl _ rfl ?_
            dsimp only [capstanref10_After.F]
            unfold capstanref10_local.f
            rw [if_neg h1, if_neg h2, if_pos h3, rkinds hl]
            simp only [Option.bind_some]
            rw [elt_At 0 a0 a1]
            simp only [Option.bind_some]
            have e : named (envOf m x) i = At (x.Args ++ x.Locals) 0 i.A := by simp [named, h3, envOf]
            rw [e]
          · by_cases h5 : i.Op = 5
            · rw [if_pos (.inr h5)] at hshape
              obtain ⟨rfl, rfl⟩ := Prod.mk.inj hshape
              have a0 := may_named hw hm (by omega)
              have a1 : i.A < m.Globals.length := by have := ht; simp [there, h5, envOf] at this; exact of_decide_eq_true this
              refine one (named (envOf m x) i) rfl rfl _ rfl ?_
              dsimp only [capstanref10_After.F]
              rw [if_neg h1, if_neg h2, if_neg h3, if_neg h4, if_pos h5, elt_At api_Value.zero a0 a1]
              simp only [Option.bind_some]
              have e : named (envOf m x) i = (At m.Globals api_Value.zero i.A).Kind := by simp [named, h5, envOf]
              rw [e]
            · rw [if_neg (by omega)] at hshape
              by_cases h30 : i.Op = 30
              · rw [if_pos h30] at hshape
                obtain ⟨rfl, rfl⟩ := Prod.mk.inj hshape
                have a0 := may_named hw hm (by omega)
                have a1 : i.A < m.Methods.length := by have := ht; simp [there, h30, envOf] at this; exact of_decide_eq_true this
                have htake : capstanref10_takes.f s (At m.Methods api_Method.zero i.A).Args = some (takeC (At m.Methods api_Method.zero i.A).Args s) := htake
                show _ = some (if (takeC (At m.Methods api_Method.zero i.A).Args s).2 ≠ 0 then ([], (takeC (At m.Methods api_Method.zero i.A).Args s).2) else ((takeC (At m.Methods api_Method.zero i.A).Args s).1 ++ [(At m.Methods api_Method.zero i.A).Result], 0))
                refine runF_end ?_
                dsimp only [capstanref10_After.F]
                rw [if_neg h1, if_neg h2, if_neg h3, if_neg h4, if_neg h5, if_neg (by omega), if_neg (by omega), if_pos h30, elt_At api_Method.zero a0 a1]
                simp only [Option.bind_some]
                rw [htake]
                simp only [Option.bind_some]
                have htl : (takeC (At m.Methods api_Method.zero i.A).Args s).1.length ≤ s.length := htl
                by_cases he : (takeC (At m.Methods api_Method.zero i.A).Args s).2 ≠ 0
                · rw [if_pos he, if_pos he]
                · rw [if_neg he, if_neg he, with_eq (by omega)]; rfl
              · rw [if_neg h30] at hshape
                by_cases h31 : i.Op = 31
                · rw [if_pos h31] at hshape
                  obtain ⟨rfl, rfl⟩ := Prod.mk.inj hshape
                  refine one x.Result rfl rfl _ rfl ?_
                  dsimp only [capstanref10_After.F]
                  rw [if_neg h1, if_neg h2, if_neg h3, if_neg h4, if_neg h5, if_neg (by omega), if_neg (by omega), if_neg (by omega), if_pos h31]
                · rw [if_neg h31] at hshape
                  by_cases h8 : i.Op = 8
                  · rw [if_pos h8] at hshape
                    obtain ⟨rfl, rfl⟩ := Prod.mk.inj hshape
                    rw [takeC_zeros (by simp)]
                    refine runF_end ?_
                    dsimp only [capstanref10_After.F]
                    rw [if_neg h1, if_neg h2, if_neg h3, if_neg h4, if_neg h5, if_neg (by omega), if_pos h8]
                    by_cases hlen : s.length < 2
                    · rw [if_pos (by omega), if_pos (show s.length < ([0, 0] : List Int).length from hlen)]; rfl
                    · rw [if_neg (by omega), if_neg (show ¬ s.length < ([0, 0] : List Int).length from hlen)]
                      have w1 : IntKind.i64.wrap ((s.length : Int) - 1) = ((s.length - 1 : Nat) : Int) := by rw [wrap_id (by omega) (by omega)]; omega
                      have w2 : IntKind.i64.wrap ((s.length : Int) - 2) = ((s.length - 2 : Nat) : Int) := by rw [wrap_id (by omega) (by omega)]; omega
                      have hrev : two s = [s[s.length - 2]'(by omega), s[s.length - 1]'(by omega)] := by
                        unfold two
                        rw [List.drop_eq_getElem_cons (by omega), List.drop_eq_getElem_cons (by omega), List.drop_eq_nil_of_le (by omega)]
                        have : s.length - 2 + 1 = s.length - 1 := by omega
                        simp only [this]
                      rw [w1, w2, elt_lt (by omega), elt_lt (by omega)]
                      simp only [Option.bind_some]
                      rw [if_pos (by omega), show ((s.length - 2 : Nat) : Int).toNat = s.length - 2 from by omega, with_eq (by rw [List.length_take]; omega)]
                      simp only [Option.bind_some]
                      rw [with_eq (by rw [List.length_append, List.length_take]; simp; omega)]
                      simp only [Option.bind_some]
                      rw [hrev]
                      simp
                  · rw [if_neg h8] at hshape
                    have h7 : i.Op = 7 := by omega
                    obtain ⟨rfl, rfl⟩ := Prod.mk.inj hshape
                    rw [takeC_zeros (by simp)]
                    refine runF_end ?_
                    dsimp only [capstanref10_After.F]
                    rw [if_neg h1, if_neg h2, if_neg h3, if_neg h4, if_neg h5, if_pos h7]
                    by_cases hlen : s.length < 1
                    · rw [if_pos (by omega), if_pos (show s.length < ([0] : List Int).length from hlen)]; rfl
                    · rw [if_neg (by omega), if_neg (show ¬ s.length < ([0] : List Int).length from hlen)]
                      have hne : s ≠ [] := by rintro rfl; simp at hlen
                      have w1 : IntKind.i64.wrap ((s.length : Int) - 1) = ((s.length - 1 : Nat) : Int) := by rw [wrap_id (by omega) (by omega)]; omega
                      have hlast : s.getLastD 0 = s[s.length - 1]'(by omega) := by
                        rw [List.getLastD_eq_getLast?, List.getLast?_eq_getElem?, List.getElem?_eq_getElem (by omega)]; rfl
                      have hs2 : ∀ e, s[s.length - 1]'(by omega) = e → s = s.take (s.length - 1) ++ [e] := by
                        rintro e rfl
                        have := take_succ s (s.length - 1) (by omega)
                        rw [show s.length - 1 + 1 = s.length from by omega, List.take_length] at this
                        exact this
                      rw [w1, elt_lt (by omega)]
                      simp only [Option.bind_some]
                      rw [with_eq (by omega)]
                      simp only [Option.bind_some]
                      rw [if_neg hne, hlast]
                      have h9 := hs2 _ rfl
                      generalize s[s.length - 1]'(by omega) = e at h9 ⊢
                      have : s ++ [e] = s.take (s.length - ([0] : List Int).length) ++ [e, e] := by
                        conv => lhs; rw [h9]
                        simp
                      rw [this]; rfl
end TypesPure
namespace TypesPure
open FlowPure
/-! ### the chapter's Rows -/
def conv (r : types_Row) : capstanref10_Row := ⟨r.Reached, r.Kinds⟩
def cv (rows : List types_Row) (n : Nat) : List capstanref10_Row := (rows.take n).map conv
theorem cv_len {rows : List types_Row} {n : Nat} (h : n ≤ rows.length) : (cv rows n).length = n := by unfold cv; rw [List.length_map, List.length_take]; omega
theorem cv_elt {rows : List types_Row} {n : Nat} {w : Int} (h0 : 0 ≤ w) (h1 : w < n) (h : n ≤ rows.length) : elt (cv rows n) w = some (conv (At rows R0 w)) := by
  have hr : w.toNat < rows.length := by omega
  have e : elt (cv rows n) ((w.toNat : Nat) : Int) = (cv rows n)[w.toNat]? := elt_nat _ _
  rw [show ((w.toNat : Nat) : Int) = w from by omega] at e
  rw [e]
  unfold cv At
  rw [List.getElem?_map, List.getElem?_take_of_lt (by omega), List.getElem?_eq_getElem hr]; rfl
theorem cv_set (rows : List types_Row) (n : Nat) (w : Nat) (v : types_Row) : (cv rows n).set w (conv v) = cv (rows.set w v) n := by
  unfold cv
  rw [List.take_set, List.map_set]
theorem ref_put {m : api_Module} {k : Int} {x : api_Method} {a : Nat} (W : Well (envOf m x) x.Code) (ha : a < x.Code.length) {t : (List Int) × Int} (htl : t.1.length ≤ 1000) : ∀ (ws : List Int) (j : Nat) (rs : List types_Row), (FlowPure.ways x.Code a).drop j = ws → rs.length = 200 → (∀ r ∈ rs, r.Kinds.length ≤ 1000) →
    runF (capstanref10_Rows.F m k) (.l3 x (a : Int) t (FlowPure.ways x.Code a, 0) (cv rs x.Code.length) (j : Int)) = if (put t.1 rs ws).1 ≠ 0 then some ([], (put t.1 rs ws).1) else runF (capstanref10_Rows.F m k) (.l2 x (cv (put t.1 rs ws).2 x.Code.length) ((a + 1 : Nat) : Int)) := by
  have hn : x.Code.length ≤ 200 := W.known.2.1
  have hf := ways_facts W.known W.fine ha
  intro ws
  induction ws with
  | nil =>
    intro j rs hd hrs _
    have hj : (FlowPure.ways x.Code a).length ≤ j := by simpa using hd
    rw [show put t.1 rs [] = (0, rs) from rfl, if_neg (by simp)]
    refine runF_step ?_
    dsimp only [capstanref10_Rows.F]
    rw [if_neg (by omega)]
    unfold capstanref10_Rows.j1
    rw [wrap_succ a (by omega)]
  | cons w ws ih =>
    intro j rs hd hrs hsz
    have hj : j < (FlowPure.ways x.Code a).length := by
      rcases Nat.lt_or_ge j (FlowPure.ways x.Code a).length with z | z
      · exact z
      · rw [List.drop_eq_nil_of_le z] at hd; cases hd
    have hw' : (FlowPure.ways x.Code a)[j] = w := by
      have := congrArg (fun z => z[0]?) hd
      simp [List.getElem?_eq_getElem hj] at this
      exact this
    obtain ⟨w0, w1, -⟩ := hf.2.2 j hj
    rw [hw'] at w0 w1
    have hle := hf.2.1
    have hlen : x.Code.length ≤ rs.length := by rw [hrs]; exact hn
    have hel : elt (cv rs x.Code.length) w = some (conv (At rs R0 w)) := cv_elt w0 w1 hlen
    have hks : capstanref07_SameKinds.f (At rs R0 w).Kinds t.1 = some (decide ((At rs R0 w).Kinds = t.1)) := kinds_same (by
      have : (At rs R0 w).Kinds.length ≤ 1000 := At_mem (p := fun r : types_Row => r.Kinds.length ≤ 1000) (by simp [R0, types_Row.zero]) hsz
      omega)
    have step : ∀ b : Bool, b = decide ((At rs R0 w).Reached = true ∧ (At rs R0 w).Kinds ≠ t.1) → capstanref10_Rows.F m k (.l3 x (a : Int) t (FlowPure.ways x.Code a, 0) (cv rs x.Code.length) (j : Int)) = if b = true then some (.inr ([], 100)) else some (.inl (.l3 x (a : Int) t (FlowPure.ways x.Code a, 0) (cv (rs.set w.toNat ⟨true, t.1⟩) x.Code.length) ((j + 1 : Nat) : Int))) := by
      rintro b rfl
      dsimp only [capstanref10_Rows.F]
      rw [if_pos (by omega), elt_lt hj, hw']
      simp only [Option.bind_some]
      rw [hel]
      simp only [Option.bind_some]
      have tail : (if (([] : List Int).length + t.1.length) * 1 ≤ 140737488355328 then ((elt ((cv rs x.Code.length).set w.toNat ({ conv (At rs R0 w) with Reached := true } : capstanref10_Row)) w).bind fun x400 => some (.inl (.l3 x (a : Int) t (FlowPure.ways x.Code a, 0) (((cv rs x.Code.length).set w.toNat ({ conv (At rs R0 w) with Reached := true } : capstanref10_Row)).set w.toNat ({ x400 with Kinds := ([] : List Int) ++ t.1 } : capstanref10_Row)) (IntKind.i64.wrap ((j : Int) + 1))))) else none) = (some (.inl (.l3 x (a : Int) t (FlowPure.ways x.Code a, 0) (cv (rs.set w.toNat ⟨true, t.1⟩) x.Code.length) ((j + 1 : Nat) : Int))) : Option (capstanref10_Rows.S ⊕ ((List capstanref10_Row) × Int))) := by
        have hwl : w.toNat < ((cv rs x.Code.length).set w.toNat ({ conv (At rs R0 w) with Reached := true } : capstanref10_Row)).length := by rw [List.length_set, cv_len hlen]; omega
        rw [if_pos (by simp; omega), elt_int w0 hwl, List.getElem_set_self]
        simp only [Option.bind_some]
        rw [List.set_set, wrap_succ j (by omega), ← cv_set]
        rfl
      by_cases q1 : (At rs R0 w).Reached = true
      · rw [if_pos (show (conv (At rs R0 w)).Reached = true from q1)]
        show ((capstanref07_SameKinds.f (At rs R0 w).Kinds t.1).bind fun t388 => some (!t388)).bind _ = _
        rw [hks]
        simp only [Option.bind_some]
        by_cases q2 : (At rs R0 w).Kinds = t.1
        · rw [if_neg (by simp [q2]), tail, if_neg (by simp [q2])]
        · rw [if_pos (by simp [q2]), if_pos (by simp [q1, q2])]
      · rw [if_neg (show ¬ (conv (At rs R0 w)).Reached = true from q1)]
        simp only [Option.bind_some]
        rw [if_neg (by simp), tail, if_neg (by simp [q1])]
    unfold put
    by_cases hc : (At rs R0 w).Reached = true ∧ (At rs R0 w).Kinds ≠ t.1
    · rw [if_pos hc, if_pos (show (100 : Int) ≠ 0 by omega)]
      refine runF_end ?_
      rw [step true (by rw [eq_comm, decide_eq_true_eq]; exact hc), if_pos rfl]
    · rw [if_neg hc]
      rw [runF_step (t := .l3 x (a : Int) t (FlowPure.ways x.Code a, 0) (cv (rs.set w.toNat ⟨true, t.1⟩) x.Code.length) ((j + 1 : Nat) : Int)) (by rw [step false (by rw [eq_comm, decide_eq_false_iff_not]; exact hc), if_neg (by simp)])]
      refine ih (j + 1) _ ?_ (by rw [List.length_set]; exact hrs) fun r hr => ?_
      · rw [← List.drop_drop, hd]; rfl
      · rcases List.mem_or_eq_of_mem_set hr with hr | rfl
        · exact hsz r hr
        · exact htl
theorem ref_place {m : api_Module} {k : Int} {x : api_Method} {a : Nat} (W : Well (envOf m x) x.Code) (ha : a < x.Code.length) (hl : x.Args.length + x.Locals.length ≤ 1000) {rows : List types_Row} (h : Sz a rows) :
    runF (capstanref10_Rows.F m k) (.l2 x (cv rows x.Code.length) (a : Int)) = if (placeC (envOf m x) x.Code rows a).1 ≠ 0 then some ([], (placeC (envOf m x) x.Code rows a).1) else runF (capstanref10_Rows.F m k) (.l2 x (cv (placeC (envOf m x) x.Code rows a).2 x.Code.length) ((a + 1 : Nat) : Int)) := by
  have hn : x.Code.length ≤ 200 := W.known.2.1
  have hm := W.known.2.2 _ (List.getElem_mem ha)
  have hw := W.wf _ (List.getElem_mem ha)
  have ht := W.th _ (List.getElem_mem ha)
  have hlen : x.Code.length ≤ rows.length := by rw [h.1]; exact hn
  have ha2 : a < rows.length := by omega
  have hr : rows[a].Kinds.length ≤ 2 * a := h.2 _ (List.getElem_mem ha2)
  have hel : elt (cv rows x.Code.length) (a : Int) = some (conv rows[a]) := by
    rw [cv_elt (by omega) (by omega) hlen, At_nat ha2]
  have hwy := (ref_ways (by omega) W.wf).2.2.2 a W.known W.fine ha
  have hal := after_len (E := envOf m x) (row := rows[a].Kinds) hw hm
  unfold placeC
  rw [At_nat ha2, At_nat ha]
  by_cases hre : rows[a].Reached = true
  · rw [if_pos hre]
    have haf := after_ref (m := m) (x := x) (s := rows[a].Kinds) hw hm ht W.M (by omega) hl
    have hstart : capstanref10_Rows.F m k (.l2 x (cv rows x.Code.length) (a : Int)) = if (afterC (envOf m x) x.Code[a] rows[a].Kinds).2 ≠ 0 then some (.inr ([], (afterC (envOf m x) x.Code[a] rows[a].Kinds).2)) else some (.inl (.l3 x (a : Int) (afterC (envOf m x) x.Code[a] rows[a].Kinds) (FlowPure.ways x.Code a, 0) (cv rows x.Code.length) ((0 : Nat) : Int))) := by
      dsimp only [capstanref10_Rows.F]
      rw [if_pos (by rw [cv_len hlen]; omega), hel]
      simp only [Option.bind_some]
      rw [if_neg (by simp [conv, hre]), elt_lt ha]
      simp only [Option.bind_some]
      have haf : capstanref10_After.f m x x.Code[a] (conv rows[a]).Kinds = some (afterC (envOf m x) x.Code[a] rows[a].Kinds) := haf
      rw [haf]
      simp only [Option.bind_some]
      rw [hwy]; rfl
    by_cases he : (afterC (envOf m x) x.Code[a] rows[a].Kinds).2 ≠ 0
    · rw [if_pos he] at hstart ⊢
      rw [if_pos he]
      exact runF_end hstart
    · rw [if_neg he] at hstart ⊢
      rw [runF_step hstart]
      exact ref_put W ha (by omega) (FlowPure.ways x.Code a) 0 rows rfl h.1 fun r hr => by have := h.2 r hr; omega
  · rw [if_neg hre, if_neg (by simp)]
    refine runF_step ?_
    dsimp only [capstanref10_Rows.F]
    rw [if_pos (by rw [cv_len hlen]; omega), hel]
    simp only [Option.bind_some]
    rw [if_pos (by simpa [conv] using hre)]
    unfold capstanref10_Rows.j1
    rw [wrap_succ a (by omega)]
theorem ref_there {m : api_Module} {k : Int} {x : api_Method} (hn : x.Code.length ≤ 200) (hl : x.Args.length + x.Locals.length ≤ 1000) : ((∀ i ∈ x.Code, there (envOf m x) i = true) → runF (capstanref10_Rows.F m k) (.l1 x ((0 : Nat) : Int)) = runF (capstanref10_Rows.F m k) (.l1 x (x.Code.length : Int))) ∧ ((∃ i ∈ x.Code, there (envOf m x) i = false) → runF (capstanref10_Rows.F m k) (.l1 x ((0 : Nat) : Int)) = some ([], 100)) := by
  have step : ∀ j (hj : j < x.Code.length), capstanref10_Rows.F m k (.l1 x (j : Int)) = if there (envOf m x) x.Code[j] = true then some (.inl (.l1 x ((j + 1 : Nat) : Int))) else some (.inr ([], 100)) := by
    intro j hj
    dsimp only [capstanref10_Rows.F]
    rw [if_pos (by omega), elt_lt hj]
    simp only [Option.bind_some]
    rw [there_ref _ hl]
    simp only [Option.bind_some]
    rw [wrap_succ j (by omega)]
    cases there (envOf m x) x.Code[j] <;> rfl
  obtain ⟨a1, a2⟩ := runF_chk (F := capstanref10_Rows.F m k) (n := x.Code.length) (b := ([], 100)) (fun j => .l1 x (j : Int)) (fun j => ∀ hj : j < x.Code.length, there (envOf m x) x.Code[j] = true) (fun j hj _ hp => runF_step (by rw [step j hj, if_pos (hp hj)])) (fun j hj _ hp => runF_end (by rw [step j hj, if_neg (fun h => hp fun _ => h)]))
  refine ⟨fun h => a1 fun j hj _ => h _ (List.getElem_mem hj), fun ⟨i, hi, ht⟩ => a2 fun h => ?_⟩
  obtain ⟨j, hj, rfl⟩ := List.mem_iff_getElem.1 hi
  rw [h j hj hj] at ht; cases ht
theorem ref_rows {m : api_Module} {k : Int} {x : api_Method} (h0 : 0 ≤ k) (h1 : k < m.Methods.length) (hx : elt m.Methods k = some x) (hlen : x.Code.length < 4611686018427387904) (hw : ∀ i ∈ x.Code, wf_api_Instr i) (hl : x.Args.length + x.Locals.length ≤ 1000) :
    (¬ Known x.Code → capstanref10_Rows.f m k = some ([], 40)) ∧ (Known x.Code → ¬ Fine x.Code → capstanref10_Rows.f m k = some ([], 90)) ∧ (Known x.Code → Fine x.Code → (∃ i ∈ x.Code, there (envOf m x) i = false) → capstanref10_Rows.f m k = some ([], 100)) ∧
    (Well (envOf m x) x.Code → capstanref10_Rows.f m k = some ((rowsC (envOf m x) x.Code).1.map conv, (rowsC (envOf m x) x.Code).2)) := by
  obtain ⟨a1, a2, a3⟩ := ref_loops hlen hw
  have hstart : ∀ z, capstanref09_Loops.f x.Code = some z → capstanref10_Rows.F m k .start = if z.2 ≠ 0 then some (.inr ([], z.2)) else some (.inl (.l1 x ((0 : Nat) : Int))) := by
    intro z hz
    dsimp only [capstanref10_Rows.F]
    rw [if_neg (by simp; omega), hx]
    simp only [Option.bind_some]
    rw [hz]; rfl
  unfold capstanref10_Rows.f
  refine ⟨fun h => runF_end ?_, fun h hf => runF_end ?_, fun h hf ht => ?_, fun W => ?_⟩
  · rw [hstart _ (a1 h), if_pos (by simp)]
  · rw [hstart _ (a3 h hf), if_pos (by simp)]
  · rw [runF_step (t := .l1 x ((0 : Nat) : Int)) (by rw [hstart _ (a2 h hf), if_neg (by simp)])]
    exact (ref_there h.2.1 hl).2 ht
  · have hn : x.Code.length ≤ 200 := W.known.2.1
    have hp : 1 ≤ x.Code.length := W.known.1
    rw [runF_step (t := .l1 x ((0 : Nat) : Int)) (by rw [hstart _ (a2 W.known W.fine), if_neg (by simp)]), (ref_there hn hl).1 W.th]
    have hz0 : (List.replicate x.Code.length capstanref10_Row.zero).set 0 ({ capstanref10_Row.zero with Reached := true } : capstanref10_Row) = cv rows0 x.Code.length := by
      unfold rows0
      rw [← cv_set]
      congr 1
      unfold cv
      rw [List.take_replicate, List.map_replicate, show min x.Code.length 200 = x.Code.length from by omega]; rfl
    rw [runF_step (t := .l2 x (cv rows0 x.Code.length) ((0 : Nat) : Int)) (by
      dsimp only [capstanref10_Rows.F]
      rw [if_neg (by omega), if_pos (by omega), show ((x.Code.length : Int)).toNat = x.Code.length from by omega, show elt (List.replicate x.Code.length capstanref10_Row.zero) 0 = some capstanref10_Row.zero from by
        have := elt_lt (xs := List.replicate x.Code.length capstanref10_Row.zero) (k := 0) (by rw [List.length_replicate]; omega)
        rw [List.getElem_replicate] at this
        exact this]
      simp only [Option.bind_some]
      rw [show ((0 : Int)).toNat = 0 from rfl, hz0]; rfl)]
    have key : ∀ j, j ≤ x.Code.length → runF (capstanref10_Rows.F m k) (.l2 x (cv rows0 x.Code.length) ((0 : Nat) : Int)) = if (rowsAt (envOf m x) x.Code j).1 ≠ 0 then some ([], (rowsAt (envOf m x) x.Code j).1) else runF (capstanref10_Rows.F m k) (.l2 x (cv (rowsAt (envOf m x) x.Code j).2 x.Code.length) (j : Int)) := by
      intro j
      induction j with
      | zero => intro _; rfl
      | succ j ih =>
        intro hj
        rw [ih (by omega)]
        have hz := rowsAt_sz W j (by omega)
        by_cases he : (rowsAt (envOf m x) x.Code j).1 ≠ 0
        · have e1 : rowsAt (envOf m x) x.Code (j + 1) = rowsAt (envOf m x) x.Code j := by rw [rowsAt, if_pos he]
          rw [e1, if_pos he, if_pos he]
        · have e1 : rowsAt (envOf m x) x.Code (j + 1) = placeC (envOf m x) x.Code (rowsAt (envOf m x) x.Code j).2 j := by rw [rowsAt, if_neg he]
          rw [e1, if_neg he]
          exact ref_place W (by omega) hl hz
    rw [key _ (Nat.le_refl _)]
    unfold rowsC
    by_cases he : (rowsAt (envOf m x) x.Code x.Code.length).1 ≠ 0
    · rw [if_pos he, if_pos he]; rfl
    · rw [if_neg he, if_neg he]
      have hz := rowsAt_sz W _ (Nat.le_refl _)
      refine runF_end ?_
      dsimp only [capstanref10_Rows.F]
      rw [if_neg (by rw [cv_len (by rw [hz.1]; exact hn)]; omega)]; rfl
theorem ref_out {m : api_Module} {k : Int} (h : ¬ (0 ≤ k ∧ k < m.Methods.length)) : capstanref10_Rows.f m k = some ([], 2) := by
  unfold capstanref10_Rows.f
  rw [runF_end]
  dsimp only [capstanref10_Rows.F]
  rw [if_pos (by simp; omega)]
theorem ref_same {m : api_Module} {k : Int} (hm : wf_api_Module m) (S : Small m) : ∃ rows e, types_Rows.f m k = some (rows, e) ∧ capstanref10_Rows.f m k = some (rows.map conv, e) ∧ (∀ r ∈ rows, r.Kinds.length ≤ 400) ∧ rows.length ≤ 200 := by
  by_cases hr : 0 ≤ k ∧ k < m.Methods.length
  · obtain ⟨h0, h1⟩ := hr
    have hkl : k.toNat < m.Methods.length := by omega
    have hx := elt_int h0 hkl
    generalize hxe : m.Methods[k.toNat] = x at hx
    have hxm : x ∈ m.Methods := by rw [← hxe]; exact List.getElem_mem hkl
    have hs := S.x x hxm
    have hwx : ∀ i ∈ x.Code, wf_api_Instr i := ((hm.2.2.1.2 x hxm).2.2.2.2.2.2.2).2
    obtain ⟨e1, e2, e3⟩ := rows_else (m := m) (k := k) (x := x) h0 h1 hx (by omega) hwx (by omega)
    obtain ⟨f1, f2, f3, f4⟩ := ref_rows (m := m) (k := k) (x := x) h0 h1 hx (by omega) hwx (by omega)
    by_cases hkn : Known x.Code
    · by_cases hf : Fine x.Code
      · by_cases hth : ∃ i ∈ x.Code, there (envOf m x) i = false
        · exact ⟨[], 100, e3 hkn hf hth, f3 hkn hf hth, by simp, by simp⟩
        · have W : Well (envOf m x) x.Code := ⟨hkn, hf, hwx, fun i hi => by
            cases ht : there (envOf m x) i
            · exact absurd ⟨i, hi, ht⟩ hth
            · rfl, fun y hy => by have := S.x y hy; omega⟩
          have hrow := rows_well h0 h1 hx W (by omega)
          refine ⟨(rowsC (envOf m x) x.Code).1, (rowsC (envOf m x) x.Code).2, hrow, f4 W, fun r hr => ?_, ?_⟩
          · by_cases he : (rowsC (envOf m x) x.Code).2 = 0
            · exact (rows_told W he).sz r hr
            · rw [rows_err he] at hr; simp at hr
          · by_cases he : (rowsC (envOf m x) x.Code).2 = 0
            · rw [(rows_told W he).len]; exact hkn.2.1
            · rw [rows_err he]; simp
      · exact ⟨[], 90, e2 hkn hf, f2 hkn hf, by simp, by simp⟩
    · exact ⟨[], 40, e1 hkn, f1 hkn, by simp, by simp⟩
  · exact ⟨[], 2, rows_out hr, ref_out hr, by simp, by simp⟩
theorem ref_height {rows : List types_Row} (h : rows.length < 4611686018427387904) : capstanref10_Height.f (rows.map conv) = some (H rows rows.length) := by
  unfold capstanref10_Height.f
  rw [runF_step (t := .l1 (H rows 0) ((0 : Nat) : Int)) rfl]
  refine (runF_up (F := capstanref10_Height.F (rows.map conv)) (n := rows.length) (fun k => .l1 (H rows k) (k : Int)) (fun k hk => ?_)).trans (runF_end ?_)
  · dsimp only [capstanref10_Height.F]
    have hl : k < (rows.map conv).length := by rw [List.length_map]; exact hk
    rw [if_pos (by rw [List.length_map]; omega), elt_lt hl, List.getElem_map]
    simp only [Option.bind_some]
    unfold capstanref10_Height.j1
    rw [wrap_succ k (by omega)]
    rw [show H rows (k + 1) = if ((g rows k).Kinds.length : Int) > H rows k then ((g rows k).Kinds.length : Int) else H rows k from rfl, g_lt hk]
    show (if (rows[k].Kinds.length : Int) > H rows k then (some (.inl (.l1 (rows[k].Kinds.length : Int) ((k + 1 : Nat) : Int))) : Option (capstanref10_Height.S ⊕ Int)) else some (.inl (.l1 (H rows k) ((k + 1 : Nat) : Int)))) = _
    split <;> rfl
  · dsimp only [capstanref10_Height.F]
    rw [if_neg (by rw [List.length_map]; omega)]
end TypesPure
namespace TypesPure
open FlowPure
/-! ### the law TypesTells -/
theorem values_refl {l : List api_Value} (h : l.length < 4611686018427387904) : capstanref03_Same.f l l = some true := by
  unfold capstanref03_Same.f
  rw [runF_step (t := .l1 ((0 : Nat) : Int)) (by dsimp only [capstanref03_Same.F]; rw [if_neg (by simp)]; rfl)]
  refine (runF_up (F := capstanref03_Same.F l l) (n := l.length) (fun k => .l1 (k : Int)) (fun k hk => ?_)).trans (runF_end ?_)
  · dsimp only [capstanref03_Same.F]
    rw [if_pos (by omega), elt_lt hk]
    simp only [Option.bind_some]
    rw [if_neg (by simp), wrap_succ k (by omega)]
  · dsimp only [capstanref03_Same.F]
    rw [if_neg (by omega)]
theorem code_refl {l : List api_Instr} (h : l.length < 4611686018427387904) : capstanref05_Same.f l l = some true := by
  unfold capstanref05_Same.f
  rw [runF_step (t := .l1 ((0 : Nat) : Int)) (by dsimp only [capstanref05_Same.F]; rw [if_neg (by simp)]; rfl)]
  refine (runF_up (F := capstanref05_Same.F l l) (n := l.length) (fun k => .l1 (k : Int)) (fun k hk => ?_)).trans (runF_end ?_)
  · dsimp only [capstanref05_Same.F]
    rw [if_pos (by omega), elt_lt hk]
    simp only [Option.bind_some]
    rw [if_neg (by simp), wrap_succ k (by omega)]
  · dsimp only [capstanref05_Same.F]
    rw [if_neg (by omega)]
theorem module_refl {m : api_Module} (S : Small m) : capstanref08_Same.f m m = some true := by
  have h1 := S.G
  have h2 := S.P
  have h3 := S.M
  unfold capstanref08_Same.f
  rw [runF_step (t := .l1 ((0 : Nat) : Int)) (by
    dsimp only [capstanref08_Same.F]
    rw [if_neg (by simp), values_refl (by omega)]
    simp only [Option.bind_some]
    rw [if_neg (by simp), values_refl (by omega)]
    simp only [Option.bind_some]
    rw [if_neg (by simp)]; rfl)]
  refine (runF_up (F := capstanref08_Same.F m m) (n := m.Methods.length) (fun k => .l1 (k : Int)) (fun k hk => ?_)).trans (runF_end ?_)
  · have hs := S.x _ (List.getElem_mem hk)
    dsimp only [capstanref08_Same.F]
    rw [if_pos (by omega), elt_lt hk]
    simp only [Option.bind_some]
    unfold capstanref07_Same.f
    rw [kinds_same (by omega)]
    simp only [Option.bind_some]
    rw [if_pos (by simp), kinds_same (by omega)]
    simp only [Option.bind_some]
    rw [if_neg (by simp), code_refl (by omega)]
    simp only [Option.bind_some]
    unfold capstanref08_Same.j1
    rw [if_neg (by simp), wrap_succ k (by omega)]
  · dsimp only [capstanref08_Same.F]
    rw [if_neg (by omega)]
/-- The first j are written over. -/
def w77 (ks : List Int) (j : Nat) : List Int := List.replicate (min j ks.length) 77 ++ ks.drop j
theorem w77_len (ks : List Int) (j : Nat) : (w77 ks j).length = ks.length := by unfold w77; simp; omega
theorem w77_zero (ks : List Int) : w77 ks 0 = ks := by simp [w77]
theorem w77_set {ks : List Int} {j : Nat} (h : j < ks.length) : (w77 ks j).set j 77 = w77 ks (j + 1) := by
  unfold w77
  rw [show min j ks.length = j from by omega, show min (j + 1) ks.length = j + 1 from by omega, List.set_append_right _ _ (by simp), List.length_replicate, Nat.sub_self, List.drop_eq_getElem_cons h, List.set_cons_zero, List.replicate_succ', List.append_assoc]; rfl
def over (rows : List types_Row) (i j : Nat) : List types_Row := rows.mapIdx fun q r => if q < i then ⟨r.Reached, w77 r.Kinds r.Kinds.length⟩ else if q = i then ⟨r.Reached, w77 r.Kinds j⟩ else r
theorem over_get (rows : List types_Row) (i j q : Nat) : (over rows i j)[q]? = rows[q]?.map fun r => if q < i then ⟨r.Reached, w77 r.Kinds r.Kinds.length⟩ else if q = i then ⟨r.Reached, w77 r.Kinds j⟩ else r := by
  unfold over; rw [List.getElem?_mapIdx]
theorem over_len (rows : List types_Row) (i j : Nat) : (over rows i j).length = rows.length := by simp [over]
theorem over_zero (rows : List types_Row) : over rows 0 0 = rows := by
  refine List.ext_getElem? fun q => ?_
  rw [over_get]
  cases rows[q]? with
  | none => rfl
  | some r =>
    simp only [Option.map_some, Nat.not_lt_zero, if_false, w77_zero]
    split <;> rfl
theorem over_at {rows : List types_Row} {i j : Nat} (h : i < rows.length) : elt (over rows i j) (i : Int) = some ⟨rows[i].Reached, w77 rows[i].Kinds j⟩ := by
  rw [elt_nat, over_get, List.getElem?_eq_getElem h]
  simp
theorem over_next {rows : List types_Row} {i j : Nat} (h : i + 1 < rows.length) : elt (over rows i j) ((i + 1 : Nat) : Int) = some rows[i + 1] := by
  rw [elt_nat, over_get, List.getElem?_eq_getElem h]
  simp only [Option.map_some]
  rw [if_neg (by omega), if_neg (by omega)]
theorem over_set {rows : List types_Row} {i j : Nat} (h : i < rows.length) (hj : j < rows[i].Kinds.length) : (over rows i j).set i ⟨rows[i].Reached, (w77 rows[i].Kinds j).set j 77⟩ = over rows i (j + 1) := by
  refine List.ext_getElem? fun q => ?_
  by_cases e : q = i
  · subst e
    rw [List.getElem?_set_self (by rw [over_len]; exact h), over_get, List.getElem?_eq_getElem h, w77_set hj]
    simp
  · rw [List.getElem?_set_ne (by omega), over_get, over_get]
    congr 1
    funext r
    rw [if_neg e, if_neg e]
theorem over_end {rows : List types_Row} {i : Nat} (h : i < rows.length) : over rows i rows[i].Kinds.length = over rows (i + 1) 0 := by
  refine List.ext_getElem? fun q => ?_
  rw [over_get, over_get]
  cases hr : rows[q]? with
  | none => rfl
  | some r =>
    simp only [Option.map_some, Option.some.injEq]
    by_cases e1 : q < i
    · rw [if_pos e1, if_pos (by omega)]
    · by_cases e2 : q = i
      · subst e2
        rw [List.getElem?_eq_getElem h] at hr
        obtain rfl := Option.some.inj hr
        rw [if_neg e1, if_pos rfl, if_pos (by omega)]
      · rw [if_neg e1, if_neg e2, if_neg (by omega)]
        split
        · rw [w77_zero]
        · rfl
theorem law_tells {m : api_Module} {k : Int} (hm : wf_api_Module m) : capstanlaw10_TypesTells.f m k = some true := by
  unfold capstanlaw10_TypesTells.f
  by_cases hg : greatB m = true
  · rw [runF_end]
    dsimp only [capstanlaw10_TypesTells.F]
    rw [great_eq, hg]; rfl
  · have S := small_of (by simpa using hg)
    obtain ⟨rows, e, hrow, href, hsz, hln⟩ := ref_same (k := k) hm S
    have hel : ∀ j (hj : j < rows.length), elt (rows.map conv) (j : Int) = some (conv rows[j]) := by
      intro j hj
      have hl : j < (rows.map conv).length := by rw [List.length_map]; exact hj
      rw [elt_lt hl, List.getElem_map]
    have same : ∀ j (hj : j < rows.length), capstanref07_SameKinds.f rows[j].Kinds (conv rows[j]).Kinds = some true := by
      intro j hj
      have := hsz _ (List.getElem_mem hj)
      rw [kinds_same (by omega)]
      simp [conv]
    rw [runF_step (t := .l1 m (rows.map conv, e) (rows, e) ((0 : Nat) : Int)) (by
      dsimp only [capstanlaw10_TypesTells.F]
      rw [great_eq]
      simp only [Option.bind_some]
      rw [if_neg hg, copy_eq S]
      simp only [Option.bind_some]
      rw [href, hrow]
      simp only [Option.bind_some]
      unfold types_Check.f
      rw [if_neg (by simp), hrow]
      simp only [Option.bind_some]
      rw [if_neg (by simp), height_eq (by omega), ref_height (by omega)]
      simp only [Option.bind_some]
      rw [if_neg (by simp)]; rfl)]
    -- the first turn
    refine (runF_up (F := capstanlaw10_TypesTells.F m k) (n := rows.length) (fun j => .l1 m (rows.map conv, e) (rows, e) (j : Int)) (fun j hj => ?_)).trans ?_
    · dsimp only [capstanlaw10_TypesTells.F]
      rw [if_pos (by omega), elt_lt hj, hel j hj]
      simp only [Option.bind_some]
      rw [if_neg (by simp [conv]), same j hj]
      simp only [Option.bind_some]
      unfold capstanlaw10_TypesTells.j1
      rw [if_neg (by simp), wrap_succ j (by omega)]
    rw [runF_step (t := .l2 m (rows.map conv, e) (over rows 0 0) ((0 : Nat) : Int)) (by
      dsimp only [capstanlaw10_TypesTells.F]
      rw [if_neg (by omega), over_zero]; rfl)]
    refine ((?_ : ∀ i, i ≤ rows.length → runF (capstanlaw10_TypesTells.F m k) (.l2 m (rows.map conv, e) (over rows 0 0) ((0 : Nat) : Int)) = runF (capstanlaw10_TypesTells.F m k) (.l2 m (rows.map conv, e) (over rows i 0) (i : Int))) _ (Nat.le_refl _)).trans ?_
    · intro i
      induction i with
      | zero => intro _; rfl
      | succ i ih =>
        intro hi
        rw [ih (by omega)]
        have hil : i < rows.length := by omega
        have hks := hsz _ (List.getElem_mem hil)
        rw [runF_step (t := .l3 m (rows.map conv, e) (i : Int) (over rows i 0) ((0 : Nat) : Int)) (by
          dsimp only [capstanlaw10_TypesTells.F]
          rw [if_pos (by rw [over_len]; omega)]; rfl)]
        refine (runF_up (F := capstanlaw10_TypesTells.F m k) (n := rows[i].Kinds.length) (fun j => .l3 m (rows.map conv, e) (i : Int) (over rows i j) (j : Int)) (fun j hj => ?_)).trans ?_
        · dsimp only [capstanlaw10_TypesTells.F]
          have hj2 : j < (w77 rows[i].Kinds j).length := by rw [w77_len]; exact hj
          rw [over_at hil]
          simp only [Option.bind_some]
          rw [if_pos (by rw [w77_len]; omega), elt_lt hj2]
          simp only [Option.bind_some]
          rw [wrap_succ j (by omega), show ((j : Nat) : Int).toNat = j from by omega, show ((i : Nat) : Int).toNat = i from by omega]
          show (some (.inl (.l3 m (rows.map conv, e) (i : Int) ((over rows i j).set i ⟨rows[i].Reached, (w77 rows[i].Kinds j).set j 77⟩) ((j + 1 : Nat) : Int))) : Option (capstanlaw10_TypesTells.S ⊕ Bool)) = _
          rw [over_set hil hj]
        · refine runF_step ?_
          dsimp only [capstanlaw10_TypesTells.F]
          rw [over_at hil]
          simp only [Option.bind_some]
          rw [if_neg (by rw [w77_len]; omega), wrap_succ i (by omega), over_len]
          unfold capstanlaw10_TypesTells.j2
          rw [wrap_succ i (by omega)]
          by_cases hnx : i + 1 < rows.length
          · rw [if_pos (by omega), over_next hnx, hel _ hnx]
            simp only [Option.bind_some]
            rw [same _ hnx]
            simp only [Option.bind_some]
            rw [if_neg (by simp), over_end hil]
          · rw [if_neg (by omega), if_neg (by simp), over_end hil]
    rw [runF_step (t := .l4 m (rows.map conv, e) (rows, e) ((0 : Nat) : Int)) (by
      dsimp only [capstanlaw10_TypesTells.F]
      rw [if_neg (by rw [over_len]; omega), module_refl S]
      simp only [Option.bind_some]
      rw [if_neg (by simp), hrow]
      simp only [Option.bind_some]
      unfold types_Check.f
      rw [if_neg (by simp), hrow]
      simp only [Option.bind_some]
      rw [if_neg (by simp), height_eq (by omega), ref_height (by omega)]
      simp only [Option.bind_some]
      rw [if_neg (by simp)]; rfl)]
    -- the second turn
    refine (runF_up (F := capstanlaw10_TypesTells.F m k) (n := rows.length) (fun j => .l4 m (rows.map conv, e) (rows, e) (j : Int)) (fun j hj => ?_)).trans ?_
    · dsimp only [capstanlaw10_TypesTells.F]
      rw [if_pos (by omega), elt_lt hj, hel j hj]
      simp only [Option.bind_some]
      rw [if_neg (by simp [conv]), same j hj]
      simp only [Option.bind_some]
      unfold capstanlaw10_TypesTells.j3
      rw [if_neg (by simp), wrap_succ j (by omega)]
    rw [runF_step (t := .l5 m (rows.map conv, e) (over rows 0 0) ((0 : Nat) : Int)) (by
      dsimp only [capstanlaw10_TypesTells.F]
      rw [if_neg (by omega), over_zero]; rfl)]
    refine ((?_ : ∀ i, i ≤ rows.length → runF (capstanlaw10_TypesTells.F m k) (.l5 m (rows.map conv, e) (over rows 0 0) ((0 : Nat) : Int)) = runF (capstanlaw10_TypesTells.F m k) (.l5 m (rows.map conv, e) (over rows i 0) (i : Int))) _ (Nat.le_refl _)).trans ?_
    · intro i
      induction i with
      | zero => intro _; rfl
      | succ i ih =>
        intro hi
        rw [ih (by omega)]
        have hil : i < rows.length := by omega
        have hks := hsz _ (List.getElem_mem hil)
        rw [runF_step (t := .l6 m (rows.map conv, e) (i : Int) (over rows i 0) ((0 : Nat) : Int)) (by
          dsimp only [capstanlaw10_TypesTells.F]
          rw [if_pos (by rw [over_len]; omega)]; rfl)]
        refine (runF_up (F := capstanlaw10_TypesTells.F m k) (n := rows[i].Kinds.length) (fun j => .l6 m (rows.map conv, e) (i : Int) (over rows i j) (j : Int)) (fun j hj => ?_)).trans ?_
        · dsimp only [capstanlaw10_TypesTells.F]
          have hj2 : j < (w77 rows[i].Kinds j).length := by rw [w77_len]; exact hj
          rw [over_at hil]
          simp only [Option.bind_some]
          rw [if_pos (by rw [w77_len]; omega), elt_lt hj2]
          simp only [Option.bind_some]
          rw [wrap_succ j (by omega), show ((j : Nat) : Int).toNat = j from by omega, show ((i : Nat) : Int).toNat = i from by omega]
          show (some (.inl (.l6 m (rows.map conv, e) (i : Int) ((over rows i j).set i ⟨rows[i].Reached, (w77 rows[i].Kinds j).set j 77⟩) ((j + 1 : Nat) : Int))) : Option (capstanlaw10_TypesTells.S ⊕ Bool)) = _
          rw [over_set hil hj]
        · refine runF_step ?_
          dsimp only [capstanlaw10_TypesTells.F]
          rw [over_at hil]
          simp only [Option.bind_some]
          rw [if_neg (by rw [w77_len]; omega), wrap_succ i (by omega), over_len]
          unfold capstanlaw10_TypesTells.j4
          rw [wrap_succ i (by omega)]
          by_cases hnx : i + 1 < rows.length
          · rw [if_pos (by omega), over_next hnx, hel _ hnx]
            simp only [Option.bind_some]
            rw [same _ hnx]
            simp only [Option.bind_some]
            rw [if_neg (by simp), over_end hil]
          · rw [if_neg (by omega), if_neg (by simp), over_end hil]
    refine runF_end ?_
    dsimp only [capstanlaw10_TypesTells.F]
    rw [if_neg (by rw [over_len]; omega), module_refl S]
    simp only [Option.bind_some]
    rw [if_neg (by simp)]
end TypesPure
/-- The rows, or the error, are those that the chapter says. -/
theorem typesTells_card : Rows.TypesTellsCardSaid := typesTells.card fun x0 x1 h0 h1 => TypesPure.law_tells h0
#print axioms typesTells_card
end Go.Proofs.YtpbmkaenleedoaaGreatDoor
