/- Each way of a place is one of the code, and leads to one behind it, or, of an OpAgain, to the one behind its OpLoop; there are none just at an OpRet or an OpTrap; a place is within each loop that a way leads into, unless it is its OpLoop (the law FlowAhead): for every input, with no condition but what the card ties to the program (what op's table of bounds holds). -/
import Derived.Test.YtbejlahmhloloaaDoorRFlowAhead
set_option linter.unusedVariables false
set_option linter.unusedSimpArgs false
namespace Go.Proofs.YtbejlahmhloloaaDoor
open Go.Q
namespace FlowPure
inductive Kn | loop | again (a : Nat) | other
deriving DecidableEq
def opn (K : Nat → Kn) : Nat → List Nat
  | 0 => []
  | i + 1 => match K i with
    | .loop => i :: opn K i
    | .again _ => (opn K i).tail
    | .other => opn K i
def good (K : Nat → Kn) (i : Nat) : Prop := match K i with
  | .loop => (opn K i).length < 4
  | .again a => (opn K i).head? = some a
  | .other => True
theorem opn_mem (K : Nat → Kn) : ∀ (i : Nat), (∀ j, j < i → good K j) →
    (∀ f, f ∈ opn K i ↔ (K f = .loop ∧ f < i ∧ ∀ j, f < j → j < i → K j ≠ .again f)) ∧ (opn K i).Pairwise (· > ·) ∧ (opn K i).length ≤ 4
  | 0, _ => by simp [opn]
  | i + 1, hg => by
    obtain ⟨h1, h2, h3⟩ := opn_mem K i (fun j hj => hg j (by omega))
    have gi := hg i (by omega)
    unfold good at gi
    unfold opn
    cases hk : K i with
    | loop =>
      rw [hk] at gi
      simp only at gi ⊢
      refine ⟨fun f => ?_, ?_, by simp; omega⟩
      · rw [List.mem_cons, h1]
        constructor
        · rintro (rfl | ⟨a, b, c⟩)
          · exact ⟨hk, by omega, fun j h1 h2 => by omega⟩
          · refine ⟨a, by omega, fun j q1 q2 => ?_⟩
            by_cases e : j = i
            · subst e; rw [hk]; exact fun z => Kn.noConfusion z
            · exact c j q1 (by omega)
        · rintro ⟨a, b, c⟩
          by_cases e : f = i
          · exact .inl e
          · exact .inr ⟨a, by omega, fun j q1 q2 => c j q1 (by omega)⟩
      · rw [List.pairwise_cons]
        exact ⟨fun x hx => ((h1 x).1 hx).2.1, h2⟩
    | again a =>
      rw [hk] at gi
      simp only at gi ⊢
      cases ho : opn K i with
      | nil => rw [ho] at gi; cases gi
      | cons b T =>
        rw [ho] at gi h1 h2 h3
        simp at gi
        subst gi
        rw [List.pairwise_cons] at h2
        refine ⟨fun f => ?_, h2.2, by simp at h3; simp; omega⟩
        simp only [List.tail_cons]
        constructor
        · intro hf
          obtain ⟨p, q, r⟩ := (h1 f).1 (List.mem_cons_of_mem _ hf)
          refine ⟨p, by omega, fun j q1 q2 => ?_⟩
          by_cases e : j = i
          · subst e; rw [hk]; intro z; cases z
            have := h2.1 _ hf; omega
          · exact r j q1 (by omega)
        · rintro ⟨p, q, r⟩
          have hne : f ≠ i := by rintro rfl; rw [hk] at p; cases p
          have := (h1 f).2 ⟨p, by omega, fun j q1 q2 => r j q1 (by omega)⟩
          rcases List.mem_cons.1 this with e | e
          · subst e; exact absurd hk (r i (by omega) (by omega))
          · exact e
    | other =>
      simp only
      refine ⟨fun f => ?_, h2, h3⟩
      rw [h1]
      constructor
      · rintro ⟨a, b, c⟩
        refine ⟨a, by omega, fun j q1 q2 => ?_⟩
        by_cases e : j = i
        · subst e; rw [hk]; exact fun z => Kn.noConfusion z
        · exact c j q1 (by omega)
      · rintro ⟨a, b, c⟩
        have hne : f ≠ i := by rintro rfl; rw [hk] at a; cases a
        exact ⟨a, by omega, fun j q1 q2 => c j q1 (by omega)⟩
theorem nodup_len {α : Type} [DecidableEq α] : ∀ (l m : List α), l.Nodup → (∀ x ∈ l, x ∈ m) → l.length ≤ m.length
  | [], _, _, _ => by simp
  | x :: l, m, hn, hs => by
    rw [List.nodup_cons] at hn
    have hx := hs x (by simp)
    have := nodup_len l (m.erase x) hn.2 (fun y hy => (List.mem_erase_of_ne (by rintro rfl; exact hn.1 hy)).2 (hs y (by simp [hy])))
    rw [List.length_erase_of_mem hx] at this
    have : 0 < m.length := List.length_pos_of_mem hx
    simp; omega
def Pr (K : Nat → Kn) (n f t : Nat) : Prop := f < n ∧ t < n ∧ K f = .loop ∧ K t = .again f
def Ok1 (K : Nat → Kn) (n : Nat) : Prop := ∀ f, f < n → K f = .loop → ∃ t, Pr K n f t ∧ f ≤ t ∧ ∀ t', Pr K n f t' → t' = t
def Ok2 (K : Nat → Kn) (n : Nat) : Prop := ∀ t a, t < n → K t = .again a → a < n ∧ K a = .loop
def Nest (K : Nat → Kn) (n : Nat) : Prop := ∀ f t g u, Pr K n f t → Pr K n g u → f < g → g < t → u ≤ t
def Deep (n : Nat) (R : List (Nat × Nat)) : Prop := ∀ a, a < n → (R.filter fun x => decide (x.1 < a) && decide (a ≤ x.2)).length ≤ 4
def Run (K : Nat → Kn) (n : Nat) : Prop := (∀ i, i < n → good K i) ∧ opn K n = []

theorem again_mem {K : Nat → Kn} {n t f : Nat} (h : ∀ i, i < n → good K i) (ht : t < n) (hk : K t = .again f) : ∃ T, opn K t = f :: T := by
  have := h t ht
  unfold good at this
  rw [hk] at this
  simp only at this
  cases ho : opn K t with
  | nil => rw [ho] at this; cases this
  | cons b T => rw [ho] at this; simp at this; subst this; exact ⟨T, rfl⟩
theorem run_pairs {K : Nat → Kn} {n : Nat} (h : Run K n) : Ok1 K n ∧ Ok2 K n := by
  obtain ⟨hg, hn⟩ := h
  have mem := fun i (hi : i ≤ n) => opn_mem K i (fun j hj => hg j (by omega))
  have back : ∀ t a, t < n → K t = .again a → K a = .loop ∧ a < t ∧ ∀ j, a < j → j < t → K j ≠ .again a := by
    intro t a ht hk
    obtain ⟨T, hT⟩ := again_mem hg ht hk
    exact ((mem t (by omega)).1 a).1 (by rw [hT]; simp)
  refine ⟨fun f hf hk => ?_, fun t a ht hk => ?_⟩
  · have : ∃ t, f < t ∧ t < n ∧ K t = .again f := by
      refine Classical.byContradiction fun hc => ?_
      have : f ∈ opn K n := ((mem n (Nat.le_refl _)).1 f).2 ⟨hk, hf, fun j q1 q2 e => hc ⟨j, q1, q2, e⟩⟩
      rw [hn] at this; cases this
    obtain ⟨t, h1, h2, h3⟩ := this
    refine ⟨t, ⟨hf, h2, hk, h3⟩, by omega, fun t' ⟨_, p2, _, p4⟩ => ?_⟩
    obtain ⟨-, q2, q3⟩ := back t' f p2 p4
    obtain ⟨-, r2, r3⟩ := back t f h2 h3
    rcases Nat.lt_trichotomy t t' with z | z | z
    · exact absurd h3 (q3 t h1 z)
    · exact z.symm
    · exact absurd p4 (r3 t' q2 z)
  · obtain ⟨a1, a2, -⟩ := back t a ht hk
    exact ⟨by omega, a1⟩
theorem opn_iff {K : Nat → Kn} {n i : Nat} (hi : i ≤ n) (hg : ∀ j, j < i → good K j) (h1 : Ok1 K n) (f : Nat) : f ∈ opn K i ↔ ∃ t, Pr K n f t ∧ f < i ∧ i ≤ t := by
  rw [(opn_mem K i hg).1]
  constructor
  · rintro ⟨a, b, c⟩
    obtain ⟨t, h, hl, -⟩ := h1 f (by omega) a
    refine ⟨t, h, b, ?_⟩
    rcases Nat.lt_or_ge t i with z | z
    · have : f ≠ t := by rintro rfl; have := h.2.2; rw [this.1] at this; exact Kn.noConfusion this.2
      exact absurd h.2.2.2 (c t (by omega) z)
    · exact z
  · rintro ⟨t, h, b, c⟩
    refine ⟨h.2.2.1, b, fun j q1 q2 e => ?_⟩
    obtain ⟨t0, _, _, hu⟩ := h1 f h.1 h.2.2.1
    have e1 := hu t h
    have e2 := hu j ⟨h.1, by omega, h.2.2.1, e⟩
    omega
theorem run_iff {K : Nat → Kn} {n : Nat} {R : List (Nat × Nat)} (hR : Ok1 K n → (∀ x, x ∈ R ↔ Pr K n x.1 x.2) ∧ (R.map (·.1)).Nodup) : Run K n ↔ Ok1 K n ∧ Ok2 K n ∧ Nest K n ∧ Deep n R := by
  constructor
  · intro h
    obtain ⟨h1, h2⟩ := run_pairs h
    obtain ⟨hg, hn⟩ := h
    obtain ⟨hm, hnd⟩ := hR h1
    refine ⟨h1, h2, fun f t g u p q hfg hgt => ?_, fun a ha => ?_⟩
    · rcases Nat.lt_or_ge t u with z | z
      · have mg : g ∈ opn K t := (opn_iff (n := n) (by have := p.2.1; omega) (fun j hj => hg j (by have := p.2.1; omega)) h1 g).2 ⟨u, q, hgt, by omega⟩
        obtain ⟨T, hT⟩ := again_mem hg p.2.1 p.2.2.2
        have pw := (opn_mem K t (fun j hj => hg j (by have := p.2.1; omega))).2.1
        rw [hT] at mg pw
        rw [List.pairwise_cons] at pw
        rcases List.mem_cons.1 mg with e | e
        · omega
        · have := pw.1 _ e; omega
      · exact z
    · have l4 := (opn_mem K a (fun j hj => hg j (by omega))).2.2
      have : ((R.filter fun x => decide (x.1 < a) && decide (a ≤ x.2)).map (·.1)).length ≤ (opn K a).length := by
        refine nodup_len _ _ (List.Nodup.sublist (List.Sublist.map _ List.filter_sublist) hnd) (fun f hf => ?_)
        rw [List.mem_map] at hf
        obtain ⟨x, hx, rfl⟩ := hf
        rw [List.mem_filter] at hx
        simp only [Bool.and_eq_true, decide_eq_true_eq] at hx
        exact (opn_iff (n := n) (by omega) (fun j hj => hg j (by omega)) h1 _).2 ⟨x.2, (hm x).1 hx.1, hx.2.1, hx.2.2⟩
      rw [List.length_map] at this
      omega
  · rintro ⟨h1, h2, h3, h4⟩
    obtain ⟨hm, hnd⟩ := hR h1
    have hg : ∀ i, i ≤ n → ∀ j, j < i → good K j := by
      intro i
      induction i with
      | zero => intro _ j hj; omega
      | succ i ih =>
        intro hi j hj
        have ih := ih (by omega)
        by_cases e : j = i
        · subst e
          unfold good
          obtain ⟨m1, m2, m3⟩ := opn_mem K j ih
          cases hk : K j with
          | loop =>
            simp only
            obtain ⟨t, p, hl, -⟩ := h1 j (by omega) hk
            have hne : j ≠ t := by rintro rfl; rw [p.2.2.1] at hk; have := p.2.2.2; rw [p.2.2.1] at this; exact Kn.noConfusion this
            have d := h4 (j + 1) (by have := p.2.1; omega)
            have : (j :: opn K j).length ≤ ((R.filter fun x => decide (x.1 < j + 1) && decide (j + 1 ≤ x.2)).map (·.1)).length := by
              refine nodup_len _ _ ?_ (fun f hf => ?_)
              · rw [List.nodup_cons]
                exact ⟨fun hc => by have := ((m1 j).1 hc).2.1; omega, m2.imp (fun h => by omega)⟩
              · rw [List.mem_map]
                rcases List.mem_cons.1 hf with e | e
                · subst e
                  exact ⟨(f, t), List.mem_filter.2 ⟨(hm _).2 p, by simp; omega⟩, rfl⟩
                · obtain ⟨u, q, q1, q2⟩ := (opn_iff (n := n) (by omega) ih h1 f).1 e
                  have : u ≠ j := by rintro rfl; have := q.2.2.2; rw [hk] at this; exact Kn.noConfusion this
                  exact ⟨(f, u), List.mem_filter.2 ⟨(hm _).2 q, by simp; omega⟩, rfl⟩
            rw [List.length_map, List.length_cons] at this
            omega
          | again a =>
            simp only
            obtain ⟨ha, hl⟩ := h2 j a (by omega) hk
            obtain ⟨t, p, q, hu⟩ := h1 a ha hl
            have e := hu j ⟨ha, by omega, hl, hk⟩
            subst e
            have hne : a ≠ j := by rintro rfl; rw [hl] at hk; exact Kn.noConfusion hk
            have ma : a ∈ opn K j := (opn_iff (n := n) (by omega) ih h1 a).2 ⟨j, p, by omega, by omega⟩
            cases ho : opn K j with
            | nil => rw [ho] at ma; cases ma
            | cons b T =>
              rw [ho] at ma m2
              rcases List.mem_cons.1 ma with e | e
              · subst e; rfl
              · rw [List.pairwise_cons] at m2
                have hab := m2.1 _ e
                obtain ⟨u, r, r1, r2⟩ := (opn_iff (n := n) (by omega) ih h1 b).1 (by rw [ho]; simp)
                have := h3 a j b u p r hab r1
                have : u = j := by omega
                subst this
                have := r.2.2.2
                rw [hk] at this
                cases this
                omega
          | other => trivial
        · exact ih j (by omega)
    have hg := hg n (Nat.le_refl _)
    refine ⟨hg, ?_⟩
    rw [List.eq_nil_iff_forall_not_mem]
    intro f hf
    obtain ⟨t, p, -, q⟩ := (opn_iff (n := n) (Nat.le_refl _) hg h1 f).1 hf
    have := p.2.1
    omega

def RL (K : Nat → Kn) (n : Nat) : List (Nat × Nat) := (List.range n).flatMap fun f => if K f = .loop then ((List.range n).filter fun t => decide (K t = .again f)).map fun t => (f, t) else []
def OL (K : Nat → Kn) (n : Nat) : List (Nat × Nat) := (List.range n).filterMap fun t => match K t with | .again a => some (a, t) | _ => none
theorem mem_RL {K : Nat → Kn} {n : Nat} (x : Nat × Nat) : x ∈ RL K n ↔ Pr K n x.1 x.2 := by
  unfold RL Pr
  rw [List.mem_flatMap]
  constructor
  · rintro ⟨f, hf, hx⟩
    split at hx
    · rename_i hk
      rw [List.mem_map] at hx
      obtain ⟨t, ht, rfl⟩ := hx
      rw [List.mem_filter] at ht
      simp only [List.mem_range, decide_eq_true_eq] at ht hf
      exact ⟨hf, ht.1, hk, ht.2⟩
    · cases hx
  · rintro ⟨h1, h2, h3, h4⟩
    refine ⟨x.1, List.mem_range.2 h1, ?_⟩
    rw [if_pos h3, List.mem_map]
    exact ⟨x.2, List.mem_filter.2 ⟨List.mem_range.2 h2, by simpa using h4⟩, rfl⟩
theorem RL_sorted {K : Nat → Kn} {n : Nat} (h : Ok1 K n) : (RL K n).Pairwise fun x y => x.1 < y.1 := by
  unfold RL
  rw [List.pairwise_flatMap]
  refine ⟨fun f hf => ?_, ?_⟩
  · split
    · rename_i hk
      obtain ⟨t, -, -, hu⟩ := h f (List.mem_range.1 hf) hk
      rw [List.pairwise_map]
      refine List.Pairwise.imp_of_mem (R := fun a b => a ≠ b) (fun {a b} ha hb hne => absurd ?_ hne) (List.nodup_range.sublist List.filter_sublist)
      rw [List.mem_filter, List.mem_range, decide_eq_true_eq] at ha hb
      rw [hu a ⟨List.mem_range.1 hf, ha.1, hk, ha.2⟩, hu b ⟨List.mem_range.1 hf, hb.1, hk, hb.2⟩]
    · exact List.Pairwise.nil
  · refine List.pairwise_lt_range.imp fun {a b} hab x hx y hy => ?_
    have e : ∀ f, ∀ z ∈ (if K f = .loop then ((List.range n).filter fun t => decide (K t = .again f)).map fun t => (f, t) else []), z.1 = f := by
      intro f z hz
      split at hz
      · rw [List.mem_map] at hz; obtain ⟨_, _, rfl⟩ := hz; rfl
      · cases hz
    rw [e a x hx, e b y hy]; exact hab
theorem RL_nodup {K : Nat → Kn} {n : Nat} (h : Ok1 K n) : ((RL K n).map (·.1)).Nodup := by
  show List.Pairwise _ _
  rw [List.pairwise_map]
  exact (RL_sorted h).imp fun h => Nat.ne_of_lt h
theorem mem_OL {K : Nat → Kn} {n : Nat} (h : Ok2 K n) (x : Nat × Nat) : x ∈ OL K n ↔ Pr K n x.1 x.2 := by
  unfold OL Pr
  rw [List.mem_filterMap]
  constructor
  · rintro ⟨t, ht, hx⟩
    cases hk : K t with
    | again a =>
      rw [hk] at hx
      simp at hx
      subst hx
      obtain ⟨h1, h2⟩ := h t a (List.mem_range.1 ht) hk
      exact ⟨h1, List.mem_range.1 ht, h2, hk⟩
    | loop => rw [hk] at hx; cases hx
    | other => rw [hk] at hx; cases hx
  · rintro ⟨h1, h2, h3, h4⟩
    exact ⟨x.2, List.mem_range.2 h2, by rw [h4]⟩
theorem OL_distinct {K : Nat → Kn} {n : Nat} (h1 : Ok1 K n) (h2 : Ok2 K n) : (OL K n).Pairwise fun x y => x.1 ≠ y.1 := by
  unfold OL
  rw [List.pairwise_filterMap]
  refine List.Pairwise.imp_of_mem (R := fun a b => a ≠ b) (fun {a b} ha hb hne x hx y hy => ?_) List.nodup_range
  rw [List.mem_range] at ha hb
  have key : ∀ t x, t < n → (match K t with | .again a => some (a, t) | _ => none) = some x → Pr K n x.1 t := by
    intro t x ht hx
    have := (mem_OL h2 x).1 (List.mem_filterMap.2 ⟨t, List.mem_range.2 ht, hx⟩)
    have e : x.2 = t := by
      cases hk : K t with
      | again a => rw [hk] at hx; simp at hx; subst hx; rfl
      | loop => rw [hk] at hx; cases hx
      | other => rw [hk] at hx; cases hx
    rwa [e] at this
  intro e
  have p := key a x ha hx
  have q := key b y hb hy
  rw [← e] at q
  obtain ⟨t, -, -, hu⟩ := h1 _ p.1 p.2.2.1
  exact hne ((hu a p).trans (hu b q).symm)
theorem strict_eq {α : Type} {key : α → Int} : ∀ (l m : List α), l.Pairwise (fun x y => key x < key y) → m.Pairwise (fun x y => key x < key y) → (∀ x, x ∈ l ↔ x ∈ m) → l = m
  | [], [], _, _, _ => rfl
  | [], y :: m, _, _, h => absurd ((h y).2 (by simp)) (by simp)
  | x :: l, [], _, _, h => absurd ((h x).1 (by simp)) (by simp)
  | x :: l, y :: m, hl, hm, h => by
    rw [List.pairwise_cons] at hl hm
    have hxy : x = y := by
      rcases List.mem_cons.1 ((h x).1 (by simp)) with e | e
      · exact e
      · rcases List.mem_cons.1 ((h y).2 (by simp)) with e' | e'
        · exact e'.symm
        · have := hl.1 _ e'; have := hm.1 _ e; omega
    subst hxy
    rw [strict_eq l m hl.2 hm.2 fun z => ?_]
    constructor
    · intro hz
      rcases List.mem_cons.1 ((h z).1 (List.mem_cons_of_mem _ hz)) with e | e
      · subst e; have := hl.1 _ hz; omega
      · exact e
    · intro hz
      rcases List.mem_cons.1 ((h z).2 (List.mem_cons_of_mem _ hz)) with e | e
      · subst e; have := hm.1 _ hz; omega
      · exact e
/-- What is told of the loops, brought into order, is what the chapter lists. -/
theorem sorted_RL {α : Type} {key : α → Int} {g : Nat × Nat → α} (hkey : ∀ x, key (g x) = (x.1 : Int)) {K : Nat → Kn} {n : Nat} (h1 : Ok1 K n) (h2 : Ok2 K n) {s : List α} (hp : s.Perm ((OL K n).map g)) (hs : s.Pairwise fun x y => key x ≤ key y) : s = (RL K n).map g := by
  refine strict_eq (key := key) s _ ?_ ?_ fun x => ?_
  · have hd : s.Pairwise fun x y => key x ≠ key y := by
      refine (hp.pairwise_iff (fun {x y} h => Ne.symm h)).2 ?_
      rw [List.pairwise_map]
      refine (OL_distinct h1 h2).imp fun {a b} h => ?_
      rw [hkey, hkey]; omega
    exact (hs.and hd).imp fun ⟨a, b⟩ => by omega
  · rw [List.pairwise_map]
    refine (RL_sorted h1).imp fun {a b} h => ?_
    rw [hkey, hkey]; omega
  · rw [hp.mem_iff, List.mem_map, List.mem_map]
    constructor
    · rintro ⟨a, ha, rfl⟩; exact ⟨a, (mem_RL a).2 ((mem_OL h2 a).1 ha), rfl⟩
    · rintro ⟨a, ha, rfl⟩; exact ⟨a, (mem_OL h2 a).2 ((mem_RL a).1 ha), rfl⟩
def FL (K : Nat → Kn) (n f : Nat) : List Nat := (List.range n).filter fun t => decide (K t = .again f)
theorem mem_FL {K : Nat → Kn} {n f t : Nat} : t ∈ FL K n f ↔ t < n ∧ K t = .again f := by
  unfold FL; rw [List.mem_filter, List.mem_range, decide_eq_true_eq]
theorem ok1_iff {K : Nat → Kn} {n : Nat} : Ok1 K n ↔ ∀ f, f < n → K f = .loop → ∃ t, FL K n f = [t] ∧ f ≤ t := by
  constructor
  · intro h f hf hk
    obtain ⟨t, p, hl, hu⟩ := h f hf hk
    refine ⟨t, ?_, hl⟩
    have hn : (FL K n f).Nodup := List.nodup_range.sublist List.filter_sublist
    have ha : ∀ x ∈ FL K n f, x = t := fun x hx => hu x ⟨hf, (mem_FL.1 hx).1, hk, (mem_FL.1 hx).2⟩
    have hm : t ∈ FL K n f := mem_FL.2 ⟨p.2.1, p.2.2.2⟩
    cases hF : FL K n f with
    | nil => rw [hF] at hm; cases hm
    | cons a r =>
      rw [hF] at hn ha
      obtain rfl := ha a (by simp)
      cases r with
      | nil => rfl
      | cons b r =>
        obtain rfl := ha b (by simp)
        simp at hn
  · intro h f hf hk
    obtain ⟨t, e, hl⟩ := h f hf hk
    have hm := mem_FL.1 (show t ∈ FL K n f by rw [e]; simp)
    refine ⟨t, ⟨hf, hm.1, hk, hm.2⟩, hl, fun t' p => ?_⟩
    have := mem_FL.2 ⟨p.2.1, p.2.2.2⟩
    rw [e] at this
    simpa using this
end FlowPure
namespace FlowPure
/-- The library's sort, by From. -/
theorem srt32_ok (d : Array flow_Loop) : (srt32 d).toList.Perm d.toList ∧ (srt32 d).toList.Pairwise (fun x y => x.From ≤ y.From) := by
  obtain ⟨⟨h1, -, h2⟩, h3⟩ := srt32_sorts d
  refine ⟨?_, ?_⟩
  · have e1 : (srt32 d).extract 0 d.size = srt32 d := by rw [← h1]; simp
    have e2 : d.extract 0 d.size = d := by simp
    rw [e1, e2] at h2
    exact h2
  · rw [List.pairwise_iff_getElem]
    intro i j hi hj hij
    have hi' : i < (srt32 d).size := by simpa using hi
    have hj' : j < (srt32 d).size := by simpa using hj
    have := h3 i j (Nat.zero_le _) hij (by omega)
    rw [lt32, getElem!_pos (srt32 d) i hi', getElem!_pos (srt32 d) j hj'] at this
    have := of_decide_eq_false this
    simp only [Array.getElem_toList]
    omega
end FlowPure
namespace FlowPure
/-! ### loops -/
theorem runF_chk {S R : Type} {F : S → Option (S ⊕ R)} {n : Nat} {b : R} (s : Nat → S) (p : Nat → Prop) (hs : ∀ k, k < n → (∀ j, j < k → p j) → p k → runF F (s k) = runF F (s (k + 1))) (hb : ∀ k, k < n → (∀ j, j < k → p j) → ¬ p k → runF F (s k) = some b) :
    ((∀ k, k < n → p k) → runF F (s 0) = runF F (s n)) ∧ (¬ (∀ k, k < n → p k) → runF F (s 0) = some b) := by
  have key : ∀ m, m ≤ n → (∀ j, j < m → p j) → runF F (s 0) = runF F (s m) := by
    intro m
    induction m with
    | zero => intro _ _; rfl
    | succ m ih => intro hm hp; rw [ih (by omega) (fun j hj => hp j (by omega)), hs m (by omega) (fun j hj => hp j (by omega)) (hp m (by omega))]
  have key2 : ∀ m, m ≤ n → (∀ j, j < m → p j) ∨ runF F (s 0) = some b := by
    intro m
    induction m with
    | zero => intro _; left; intro j hj; omega
    | succ m ih =>
      intro hm
      rcases ih (by omega) with h | h
      · by_cases hp : p m
        · left; intro j hj
          by_cases e : j = m
          · subst e; exact hp
          · exact h j (by omega)
        · right; rw [key m (by omega) h, hb m (by omega) h hp]
      · right; exact h
  refine ⟨key n (Nat.le_refl _), fun h => ?_⟩
  rcases key2 n (Nat.le_refl _) with h' | h'
  · exact absurd h' h
  · exact h'
theorem runF_scan {S R : Type} {F : S → Option (S ⊕ R)} {n : Nat} {b : R} {a : Nat → R} (s : Nat → S) (p : Nat → Bool) (hs : ∀ k, k < n → F (s k) = some (if p k then .inr (a k) else .inl (s (k + 1)))) (hb : F (s n) = some (.inr b)) :
    ∃ r, runF F (s 0) = some r ∧ ((∃ k, k < n ∧ p k = true ∧ r = a k) ∨ ((∀ k, k < n → p k = false) ∧ r = b)) := by
  have key : ∀ m k, k + m = n → (∀ j, j < k → p j = false) → ∃ r, runF F (s k) = some r ∧ ((∃ k, k < n ∧ p k = true ∧ r = a k) ∨ ((∀ k, k < n → p k = false) ∧ r = b)) := by
    intro m
    induction m with
    | zero => intro k e h; obtain rfl : k = n := by omega
              exact ⟨b, runF_end hb, .inr ⟨h, rfl⟩⟩
    | succ m ih =>
      intro k e h
      have hk := hs k (by omega)
      cases hp : p k with
      | true => rw [hp] at hk; exact ⟨a k, runF_end hk, .inl ⟨k, by omega, hp, rfl⟩⟩
      | false =>
        rw [hp] at hk
        rw [runF_step hk]
        refine ih (k + 1) (by omega) fun j hj => ?_
        by_cases e : j = k
        · subst e; exact hp
        · exact h j (by omega)
  exact key n 0 (by omega) (fun j hj => by omega)
theorem wrap_pred (k : Nat) (h : 0 < k) (h2 : k < 4611686018427387904) : IntKind.i64.wrap ((k : Int) - 1) = ((k - 1 : Nat) : Int) := by
  rw [wrap_id (by omega) (by omega)]; omega
theorem elt_int {α : Type} {xs : List α} {i : Int} (h0 : 0 ≤ i) (h : i.toNat < xs.length) : elt xs i = some xs[i.toNat] := by
  unfold elt; rw [if_pos h0, List.getElem?_eq_getElem h]

/-! ### instructions -/
theorem wf_op {i : api_Instr} (h : wf_api_Instr i) : 0 ≤ i.Op ∧ i.Op < 256 := by
  have := h.1
  simp [Lit.wf, IntKind.min, IntKind.max, IntKind.signed, IntKind.bits] at this
  omega
theorem bounds_some (n : Fin 256) : (op_Bounds.f (n.1 : Int)).isSome = true := by
  revert n; decide +kernel
theorem bounds_op {x : Int} (h0 : 0 ≤ x) (h1 : x < 256) : ∃ b, op_Bounds.f x = some b := by
  obtain ⟨n, rfl⟩ := Int.eq_ofNat_of_zero_le h0
  exact Option.isSome_iff_exists.1 (bounds_some ⟨n, by omega⟩)
def may (i : api_Instr) : Bool := match op_Bounds.f i.Op with
  | some b => ((decide (i.A ≥ b.1)) && (decide (i.A ≤ b.2))) && (decide (i.B = 0))
  | none => false
theorem op_may {i : api_Instr} (h : wf_api_Instr i) : op_May.f i = some (may i) := by
  obtain ⟨h0, h1⟩ := wf_op h
  obtain ⟨b, hb⟩ := bounds_op h0 h1
  unfold op_May.f may
  rw [hb]; rfl
theorem may_place {i : api_Instr} (h : may i = true) (ho : i.Op = 26 ∨ i.Op = 27 ∨ i.Op = 29) : 0 ≤ i.A ∧ i.A ≤ 199 ∧ i.B = 0 := by
  unfold may at h
  have e : op_Bounds.f i.Op = some (0, 199) := by rcases ho with e | e | e <;> rw [e] <;> decide +kernel
  rw [e] at h
  simp at h; omega
theorem may_turns {i : api_Instr} (h : may i = true) (ho : i.Op = 28) : 1 ≤ i.A ∧ i.A ≤ 100 ∧ i.B = 0 := by
  unfold may at h
  have e : op_Bounds.f i.Op = some (1, 100) := by rw [ho]; decide +kernel
  rw [e] at h
  simp at h; omega
theorem contains_may {l : List api_Instr} (hl : l.length < 4611686018427387904) (hw : ∀ x ∈ l, wf_api_Instr x) : slices_ContainsFunc_api_Instr_api_Instr_s1.f l = some (l.any fun x => !may x) := by
  unfold slices_ContainsFunc_api_Instr_api_Instr_s1.f slices_IndexFunc_api_Instr_api_Instr_s1.f
  rw [runF_step (t := .l1 ((0 : Nat) : Int)) rfl]
  obtain ⟨r, hr, hc⟩ := runF_scan (F := slices_IndexFunc_api_Instr_api_Instr_s1.F l) (n := l.length) (b := -1) (a := fun k => (k : Int)) (fun k => .l1 (k : Int)) (fun k => if h : k < l.length then !may l[k] else false) (fun k hk => by
    dsimp only [slices_IndexFunc_api_Instr_api_Instr_s1.F]
    rw [if_pos (by omega), elt_lt hk]
    simp only [Option.bind_some]
    unfold flow_Loops_1.f
    rw [op_may (hw _ (List.getElem_mem hk))]
    simp only [Option.bind_some, dif_pos hk, wrap_succ k (by omega)]
    cases may l[k] <;> rfl) (by dsimp only [slices_IndexFunc_api_Instr_api_Instr_s1.F]; rw [if_neg (by omega)])
  rw [hr]
  simp only [Option.bind_some]
  congr 1
  rw [Bool.eq_iff_iff]
  simp only [decide_eq_true_eq, List.any_eq_true]
  rcases hc with ⟨k, hk, hp, rfl⟩ | ⟨hn, rfl⟩
  · rw [dif_pos hk] at hp
    exact ⟨fun _ => ⟨_, List.getElem_mem hk, hp⟩, fun _ => by omega⟩
  · refine ⟨fun h => by omega, fun ⟨x, hx, hp⟩ => ?_⟩
    obtain ⟨k, hk, rfl⟩ := List.mem_iff_getElem.1 hx
    have := hn k hk
    rw [dif_pos hk, hp] at this; cases this
end FlowPure
namespace FlowPure
/-! ### the code's loops -/
def KK (l : List api_Instr) (k : Nat) : Kn := match l[k]? with
  | some x => if x.Op = 28 then .loop else if x.Op = 29 then .again x.A.toNat else .other
  | none => .other
def turns (l : List api_Instr) (k : Nat) : Int := (l.getD k api_Instr.zero).A
def gF (l : List api_Instr) (x : Nat × Nat) : flow_Loop := ⟨x.1, x.2, turns l x.1⟩
def arr (K : Nat → Kn) : Nat → List Int
  | 0 => List.replicate 4 0
  | i + 1 => match K i with
    | .loop => (arr K i).set (opn K i).length i
    | _ => arr K i
theorem arr_succ (K : Nat → Kn) (i : Nat) : arr K (i + 1) = match K i with
    | .loop => (arr K i).set (opn K i).length i
    | _ => arr K i := rfl
theorem opn_succ (K : Nat → Kn) (i : Nat) : opn K (i + 1) = match K i with
    | .loop => i :: opn K i
    | .again _ => (opn K i).tail
    | .other => opn K i := rfl
theorem take_set {α : Type} {v : α} : ∀ (a : List α) (m : Nat), m < a.length → (a.set m v).take (m + 1) = a.take m ++ [v]
  | [], m, h => by simp at h
  | x :: a, 0, h => by simp
  | x :: a, m + 1, h => by
    have := take_set (v := v) a m (by simpa using h)
    simp only [List.set_cons_succ, List.take_succ_cons, this, List.cons_append]
theorem arr_len (K : Nat → Kn) : ∀ i, (arr K i).length = 4
  | 0 => rfl
  | i + 1 => by unfold arr; split <;> simp [arr_len K i]
theorem arr_take (K : Nat → Kn) : ∀ (i : Nat), (∀ j, j < i → good K j) → (arr K i).take (opn K i).length = (opn K i).reverse.map fun (x : Nat) => (x : Int)
  | 0, _ => rfl
  | i + 1, hg => by
    have ih := arr_take K i (fun j hj => hg j (by omega))
    have gi := hg i (by omega)
    unfold good at gi
    rw [arr_succ, opn_succ]
    cases hk : K i with
    | loop =>
      rw [hk] at gi
      simp only at gi ⊢
      rw [List.length_cons, take_set _ _ (by rw [arr_len]; omega), ih]
      simp
    | again a =>
      rw [hk] at gi
      simp only at gi ⊢
      cases ho : opn K i with
      | nil => rw [ho] at gi; cases gi
      | cons b T =>
        rw [ho] at ih
        simp only [List.tail_cons]
        simp only [List.length_cons, List.reverse_cons, List.map_append, List.map_cons, List.map_nil] at ih
        have : (arr K i).take T.length = ((arr K i).take (T.length + 1)).take T.length := by
          rw [List.take_take]; congr 1; omega
        rw [this, ih, List.take_append_of_le_length (by simp), List.take_of_length_le (by simp)]
    | other => exact ih
theorem OL_succ (K : Nat → Kn) (i : Nat) : OL K (i + 1) = OL K i ++ (match K i with | .again a => [(a, i)] | _ => []) := by
  unfold OL
  rw [List.range_succ, List.filterMap_append]
  congr 1
  cases h : K i <;> simp [h]
theorem OL_le (K : Nat → Kn) (i : Nat) : (OL K i).length ≤ i := by
  unfold OL
  exact Nat.le_trans (List.length_filterMap_le _ _) (by simp)
theorem KK_at {l : List api_Instr} {k : Nat} (h : k < l.length) : KK l k = if l[k].Op = 28 then .loop else if l[k].Op = 29 then .again l[k].A.toNat else .other := by
  unfold KK; rw [List.getElem?_eq_getElem h]
theorem KK_lt {l : List api_Instr} {k : Nat} (h : KK l k ≠ .other) : k < l.length := by
  rcases Nat.lt_or_ge k l.length with z | z
  · exact z
  · unfold KK at h; rw [List.getElem?_eq_none z] at h; exact absurd rfl h
theorem turns_at {l : List api_Instr} {k : Nat} (h : k < l.length) : turns l k = l[k].A := by
  unfold turns; rw [List.getD_eq_getElem?_getD, List.getElem?_eq_getElem h]; rfl
theorem again_iff {l : List api_Instr} {k f : Nat} (hk : k < l.length) (hm : ∀ x ∈ l, may x = true) : KK l k = .again f ↔ (l[k].Op = 29 ∧ l[k].A = f) := by
  rw [KK_at hk]
  constructor
  · intro h
    split at h
    · cases h
    · split at h
      · rename_i h28 h29
        have := may_place (hm _ (List.getElem_mem hk)) (.inr (.inr h29))
        cases h
        exact ⟨h29, by omega⟩
      · cases h
  · rintro ⟨h29, hA⟩
    rw [if_neg (by omega), if_pos h29, hA]; rfl
theorem loop_iff {l : List api_Instr} {k : Nat} (hk : k < l.length) : KK l k = .loop ↔ l[k].Op = 28 := by
  rw [KK_at hk]
  constructor
  · intro h
    split at h
    · assumption
    · split at h <;> cases h
  · intro h; rw [if_pos h]
def RLp (K : Nat → Kn) (n m : Nat) : List (Nat × Nat) := (List.range m).flatMap fun f => if K f = .loop then (FL K n f).map fun t => (f, t) else []
theorem RLp_all (K : Nat → Kn) (n : Nat) : RLp K n n = RL K n := rfl
theorem RLp_succ (K : Nat → Kn) (n m : Nat) : RLp K n (m + 1) = RLp K n m ++ (if K m = .loop then (FL K n m).map fun t => (m, t) else []) := by
  unfold RLp
  rw [List.range_succ, List.flatMap_append]
  simp
def p1 (K : Nat → Kn) (n k : Nat) : Prop := K k = .loop → ∃ t, FL K n k = [t] ∧ k ≤ t
def p2 (K : Nat → Kn) (n k : Nat) : Prop := ∀ a, K k = .again a → a < n ∧ K a = .loop
theorem RLp_le {K : Nat → Kn} {n : Nat} : ∀ (m : Nat), (∀ j, j < m → p1 K n j) → (RLp K n m).length ≤ m
  | 0, _ => by simp [RLp]
  | m + 1, h => by
    have ih := RLp_le m (fun j hj => h j (by omega))
    rw [RLp_succ, List.length_append]
    split
    · rename_i hk
      obtain ⟨t, ht, -⟩ := h m (by omega) hk
      rw [ht]; simp; omega
    · simp; omega
theorem RL_len {l : List api_Instr} (h1 : Ok1 (KK l) l.length) : (RL (KK l) l.length).length ≤ l.length := by
  rw [← RLp_all]; exact RLp_le _ (ok1_iff.1 h1)
def st (l : List api_Instr) (k : Nat) : flow_Loops.S := .l1 (arr (KK l) k) (opn (KK l) k).length ((OL (KK l) k).map (gF l)) k
theorem loops_steps {l : List api_Instr} (hl : l.length ≤ 200) (hm : ∀ x ∈ l, may x = true) :
    ((∀ k, k < l.length → good (KK l) k) → runF (flow_Loops.F l) (st l 0) = runF (flow_Loops.F l) (st l l.length)) ∧ (¬ (∀ k, k < l.length → good (KK l) k) → runF (flow_Loops.F l) (st l 0) = some ([], 90)) := by
  refine runF_chk (F := flow_Loops.F l) (st l) (good (KK l)) (fun k hk hg hp => runF_step ?_) (fun k hk hg hp => runF_end ?_)
  all_goals
    have hkk := KK_at hk
    have m4 := (opn_mem (KK l) k hg).2.2
    have hat := arr_take (KK l) k hg
    have hal := arr_len (KK l) k
    dsimp only [st, flow_Loops.F]
    rw [if_pos (by omega), elt_lt hk]
    simp only [Option.bind_some]
  · -- goes on
    by_cases h28 : l[k].Op = 28
    · rw [if_pos h28] at hkk
      unfold good at hp
      rw [hkk] at hp
      simp only at hp
      rw [if_pos h28]
      unfold flow_open_push_s2.f
      rw [if_neg (by omega), elt_lt (by omega)]
      simp only [Option.bind_some]
      rw [if_neg (by simp)]
      unfold flow_Loops.j2
      rw [wrap_succ _ (by omega), wrap_succ _ (by omega), OL_succ, hkk]
      simp only [arr, opn, hkk, List.length_cons, Int.toNat_natCast, List.append_nil]
    · rw [if_neg h28] at hkk
      rw [if_neg h28]
      by_cases h29 : l[k].Op = 29
      · rw [if_pos h29] at hkk
        rw [if_pos h29]
        have hA := may_place (hm _ (List.getElem_mem hk)) (.inr (.inr h29))
        unfold good at hp
        rw [hkk] at hp
        simp only at hp
        cases ho : opn (KK l) k with
        | nil => rw [ho] at hp; cases hp
        | cons b T =>
          rw [ho] at hp hat m4
          simp only [List.head?_cons, Option.some.injEq] at hp
          have hb : b < k := ((opn_mem (KK l) k hg).1 b).1 (by rw [ho]; simp) |>.2.1
          have hbl : b < l.length := by omega
          have hel : elt (arr (KK l) k) (IntKind.i64.wrap (((b :: T).length : Int) - 1)) = some (b : Int) := by
            simp only [List.length_cons] at hat m4 ⊢
            rw [wrap_pred _ (by omega) (by omega), elt_nat]
            have := congrArg (fun z => z[T.length]?) hat
            simp only [List.reverse_cons, List.map_append, List.map_cons, List.map_nil] at this
            rw [List.getElem?_take_of_lt (by omega), List.getElem?_append_right (by simp)] at this
            simpa using this
          unfold flow_open_pop_s2.f
          rw [if_neg (by simp; omega), hel]
          simp only [Option.bind_some]
          have hbA : l[k].A = (b : Int) := by omega
          rw [← hp] at hkk
          unfold flow_open_pop_s2.j1
          rw [if_neg (by simp [hbA])]
          simp only [Option.bind_some, Bool.not_true, Bool.false_eq_true, if_false]
          rw [hbA, elt_lt hbl]
          simp only [Option.bind_some]
          rw [if_pos (by have := OL_le (KK l) k; simp; omega)]
          unfold flow_Loops.j2
          rw [wrap_succ _ (by omega), OL_succ, hkk]
          simp only [List.length_cons] at m4 ⊢
          rw [wrap_pred _ (by omega) (by omega)]
          simp only [arr, opn, hkk, ho, List.tail_cons, List.map_append, List.map_cons, List.map_nil, gF, turns_at hbl, Nat.add_sub_cancel]
      · rw [if_neg h29] at hkk
        rw [if_neg h29]
        unfold flow_Loops.j2
        rw [wrap_succ _ (by omega), OL_succ, hkk]
        simp only [arr, opn, hkk, List.append_nil]
  · -- stops
    by_cases h28 : l[k].Op = 28
    · rw [if_pos h28] at hkk
      unfold good at hp
      rw [hkk] at hp
      simp only at hp
      rw [if_pos h28]
      unfold flow_open_push_s2.f
      rw [if_pos (by omega)]
      rfl
    · rw [if_neg h28] at hkk
      rw [if_neg h28]
      by_cases h29 : l[k].Op = 29
      · rw [if_pos h29] at hkk
        rw [if_pos h29]
        have hA := may_place (hm _ (List.getElem_mem hk)) (.inr (.inr h29))
        unfold good at hp
        rw [hkk] at hp
        simp only at hp
        unfold flow_open_pop_s2.f
        cases ho : opn (KK l) k with
        | nil => rw [if_pos (by simp)]; rfl
        | cons b T =>
          rw [ho] at hp hat m4
          simp only [List.head?_cons, Option.some.injEq] at hp
          have hel : elt (arr (KK l) k) (IntKind.i64.wrap (((b :: T).length : Int) - 1)) = some (b : Int) := by
            simp only [List.length_cons] at hat m4 ⊢
            rw [wrap_pred _ (by omega) (by omega), elt_nat]
            have := congrArg (fun z => z[T.length]?) hat
            simp only [List.reverse_cons, List.map_append, List.map_cons, List.map_nil] at this
            rw [List.getElem?_take_of_lt (by omega), List.getElem?_append_right (by simp)] at this
            simpa using this
          rw [if_neg (by simp; omega), hel]
          simp only [Option.bind_some]
          unfold flow_open_pop_s2.j1
          rw [if_pos (by simp; omega)]
          rfl
      · rw [if_neg h29] at hkk
        unfold good at hp
        rw [hkk] at hp
        exact absurd trivial hp
end FlowPure
namespace FlowPure
def hasB (x : flow_Loop) (a : Int) : Bool := (decide (a > x.From)) && (decide (a ≤ x.To))
theorem hasB_iff {x : flow_Loop} {a : Int} : hasB x a = true ↔ x.From < a ∧ a ≤ x.To := by
  unfold hasB; rw [Bool.and_eq_true, decide_eq_true_eq, decide_eq_true_eq]
theorem hasB_no {x : flow_Loop} {a : Int} : hasB x a = false ↔ ¬ (x.From < a ∧ a ≤ x.To) := by
  rw [← hasB_iff, Bool.not_eq_true]
theorem contains_into {s : List flow_Loop} {a b c d : Int} (hl : s.length < 4611686018427387904) : slices_ContainsFunc_flow_Loop_flow_Loop_s1.f s a b c d = some (s.any fun x => hasB x b && !hasB x d) := by
  unfold slices_ContainsFunc_flow_Loop_flow_Loop_s1.f slices_IndexFunc_flow_Loop_flow_Loop_s1.f
  rw [runF_step (t := .l1 ((0 : Nat) : Int)) rfl]
  obtain ⟨r, hr, hc⟩ := runF_scan (F := slices_IndexFunc_flow_Loop_flow_Loop_s1.F s a b c d) (n := s.length) (b := -1) (a := fun k => (k : Int)) (fun k => .l1 (k : Int)) (fun k => if h : k < s.length then hasB s[k] b && !hasB s[k] d else false) (fun k hk => by
    dsimp only [slices_IndexFunc_flow_Loop_flow_Loop_s1.F]
    rw [if_pos (by omega), elt_lt hk]
    simp only [Option.bind_some]
    have : flow_jumps_1_s1.f s[k] a b c d = some (hasB s[k] b && !hasB s[k] d) := by
      unfold flow_jumps_1_s1.f flow_Loop_has.f
      simp only [Option.bind_some]
      show ((if hasB s[k] b = true then some (!hasB s[k] d) else some false).bind fun t15 => some t15) = _
      cases hasB s[k] b <;> rfl
    rw [this]
    simp only [Option.bind_some, dif_pos hk, wrap_succ k (by omega)]
    cases hasB s[k] b && !hasB s[k] d <;> rfl) (by dsimp only [slices_IndexFunc_flow_Loop_flow_Loop_s1.F]; rw [if_neg (by omega)])
  rw [hr]
  simp only [Option.bind_some]
  congr 1
  rw [Bool.eq_iff_iff]
  simp only [decide_eq_true_eq]
  rw [List.any_eq_true]
  rcases hc with ⟨k, hk, hp, rfl⟩ | ⟨hn, rfl⟩
  · rw [dif_pos hk] at hp
    exact ⟨fun _ => ⟨_, List.getElem_mem hk, hp⟩, fun _ => by omega⟩
  · refine ⟨fun h => by omega, fun ⟨x, hx, hp⟩ => ?_⟩
    obtain ⟨k, hk, rfl⟩ := List.mem_iff_getElem.1 hx
    have := hn k hk
    rw [dif_pos hk] at this
    rw [this] at hp; cases hp
/-- A place's jump is well. -/
def Jk (l : List api_Instr) (R : Nat × Nat → Prop) (k : Nat) : Prop := ∀ x, l[k]? = some x → (x.Op = 26 ∨ x.Op = 27) → (k : Int) < x.A ∧ x.A < l.length ∧ ∀ y, R y → (y.1 : Int) < x.A → x.A ≤ y.2 → y.1 < k ∧ k ≤ y.2
def Jm (l : List api_Instr) (R : Nat × Nat → Prop) : Prop := ∀ k, k < l.length → Jk l R k
theorem prog_jumps {l : List api_Instr} {O : List (Nat × Nat)} {R : Nat × Nat → Prop} (hl : l.length ≤ 200) (ho : O.length ≤ 200) (hR : ∀ x, x ∈ O ↔ R x) :
    (Jm l R → flow_jumps.f l (O.map (gF l)) = some true) ∧ (¬ Jm l R → flow_jumps.f l (O.map (gF l)) = some false) := by
  unfold flow_jumps.f
  rw [runF_step (t := .l1 ((0 : Nat) : Int)) rfl]
  have val : ∀ k (hk : k < l.length), (l[k].Op = 26 ∨ l[k].Op = 27) → (((if ((decide (l[k].A ≤ (k : Int))) || (decide (l[k].A ≥ (l.length : Int)))) = true then (some true) else ((slices_ContainsFunc_flow_Loop_flow_Loop_s1.f (O.map (gF l)) l[k].Op l[k].A l[k].B k).bind fun t49 => some t49)) = some true ∧ ¬ Jk l R k) ∨ ((if ((decide (l[k].A ≤ (k : Int))) || (decide (l[k].A ≥ (l.length : Int)))) = true then (some true) else ((slices_ContainsFunc_flow_Loop_flow_Loop_s1.f (O.map (gF l)) l[k].Op l[k].A l[k].B k).bind fun t49 => some t49)) = some false ∧ Jk l R k)) := by
    intro k hk hop
    by_cases hA : l[k].A ≤ (k : Int) ∨ l[k].A ≥ (l.length : Int)
    · left
      rw [if_pos (by simpa using hA)]
      refine ⟨rfl, fun h => ?_⟩
      have := h l[k] (List.getElem?_eq_getElem hk) hop
      omega
    · rw [if_neg (by simpa using hA), contains_into (by simp; omega)]
      simp only [Option.bind_some]
      cases hb : (O.map (gF l)).any fun x => hasB x l[k].A && !hasB x (k : Int) with
      | true =>
        left
        refine ⟨rfl, fun h => ?_⟩
        rw [List.any_eq_true] at hb
        obtain ⟨z, hz, hb⟩ := hb
        rw [List.mem_map] at hz
        obtain ⟨y, hy, rfl⟩ := hz
        have := (h l[k] (List.getElem?_eq_getElem hk) hop).2.2 y ((hR y).1 hy)
        rw [Bool.and_eq_true, Bool.not_eq_true', hasB_iff, hasB_no] at hb
        dsimp only [gF] at hb
        omega
      | false =>
        right
        refine ⟨rfl, fun x hx _ => ?_⟩
        rw [List.getElem?_eq_getElem hk] at hx
        cases hx
        refine ⟨by omega, by omega, fun y hy h1 h2 => ?_⟩
        have := List.any_eq_false.1 hb _ (List.mem_map_of_mem (f := gF l) ((hR y).2 hy))
        rw [Bool.and_eq_true, Bool.not_eq_true', hasB_iff, hasB_no] at this
        dsimp only [gF] at this
        omega
  have key := runF_chk (F := flow_jumps.F l (O.map (gF l))) (n := l.length) (b := false) (fun k => .l1 (k : Int)) (Jk l R) (fun k hk _ hp => runF_step (by
    dsimp only [flow_jumps.F]
    rw [if_pos (by omega), elt_lt hk]
    simp only [Option.bind_some]
    unfold flow_jumps.j1
    rw [wrap_succ k (by omega)]
    by_cases hop : l[k].Op = 26 ∨ l[k].Op = 27
    · rw [if_neg (by simp; omega)]
      rcases val k hk hop with ⟨-, h⟩ | ⟨h, -⟩
      · exact absurd hp h
      · rw [h]; rfl
    · rw [if_pos (by simp; omega)])) (fun k hk _ hp => runF_end (by
    dsimp only [flow_jumps.F]
    rw [if_pos (by omega), elt_lt hk]
    simp only [Option.bind_some]
    by_cases hop : l[k].Op = 26 ∨ l[k].Op = 27
    · rw [if_neg (by simp; omega)]
      rcases val k hk hop with ⟨h, -⟩ | ⟨-, h⟩
      · rw [h]; rfl
      · exact absurd h hp
    · refine absurd (fun x hx h => absurd h ?_) hp
      rw [List.getElem?_eq_getElem hk] at hx
      cases hx; exact hop))
  refine ⟨fun h => ?_, fun h => key.2 h⟩
  refine (key.1 h).trans (runF_end ?_)
  dsimp only [flow_jumps.F]
  rw [if_neg (by omega)]
def lastOk (l : List api_Instr) : Prop := ∀ x, l[l.length - 1]? = some x → x.Op = 31 ∨ x.Op = 32
def Known (l : List api_Instr) : Prop := 1 ≤ l.length ∧ l.length ≤ 200 ∧ ∀ x ∈ l, may x = true
def Fine (l : List api_Instr) : Prop := Run (KK l) l.length ∧ lastOk l ∧ Jm l fun x => Pr (KK l) l.length x.1 x.2
theorem OL_RL {K : Nat → Kn} {n : Nat} (h : Run K n) : (OL K n).length = (RL K n).length := by
  obtain ⟨h1, h2⟩ := run_pairs h
  have a : ((OL K n).map (·.1)).Nodup := by
    show List.Pairwise _ _
    rw [List.pairwise_map]; exact OL_distinct h1 h2
  have b := RL_nodup h1
  refine Nat.le_antisymm ?_ ?_
  · have := nodup_len _ ((RL K n).map (·.1)) a (fun x hx => by
      rw [List.mem_map] at hx ⊢
      obtain ⟨y, hy, rfl⟩ := hx
      exact ⟨y, (mem_RL y).2 ((mem_OL h2 y).1 hy), rfl⟩)
    simpa using this
  · have := nodup_len _ ((OL K n).map (·.1)) b (fun x hx => by
      rw [List.mem_map] at hx ⊢
      obtain ⟨y, hy, rfl⟩ := hx
      exact ⟨y, (mem_OL h2 y).2 ((mem_RL y).1 hy), rfl⟩)
    simpa using this
theorem prog_loops {l : List api_Instr} (hlen : l.length < 4611686018427387904) (hw : ∀ x ∈ l, wf_api_Instr x) :
    (¬ Known l → flow_Loops.f l = some ([], 40)) ∧ (Known l → Fine l → flow_Loops.f l = some ((RL (KK l) l.length).map (gF l), 0)) ∧ (Known l → ¬ Fine l → flow_Loops.f l = some ([], 90)) := by
  unfold flow_Loops.f
  refine ⟨fun hk => runF_end ?_, ?_⟩
  · dsimp only [flow_Loops.F]
    by_cases hn : l.length = 0 ∨ l.length > 200
    · rw [if_pos (by rw [Bool.or_eq_true, decide_eq_true_eq, decide_eq_true_eq]; omega)]; rfl
    · rw [if_neg (by rw [Bool.or_eq_true, decide_eq_true_eq, decide_eq_true_eq]; omega), contains_may hlen hw]
      have : (l.any fun x => !may x) = true := by
        refine Classical.byContradiction fun hc => hk ⟨by omega, by omega, fun x hx => ?_⟩
        have := List.any_eq_false.1 (Bool.eq_false_iff.2 hc) x hx
        simpa using this
      rw [this]; rfl
  suffices hs : Known l → (Fine l → runF (flow_Loops.F l) .start = some ((RL (KK l) l.length).map (gF l), 0)) ∧ (¬ Fine l → runF (flow_Loops.F l) .start = some ([], 90)) from ⟨fun a b => (hs a).1 b, fun a b => (hs a).2 b⟩
  rintro ⟨n1, n2, hm⟩
  have e0 : runF (flow_Loops.F l) .start = runF (flow_Loops.F l) (st l 0) := runF_step (by
    dsimp only [flow_Loops.F]
    rw [if_neg (by rw [Bool.or_eq_true, decide_eq_true_eq, decide_eq_true_eq]; omega), contains_may hlen hw]
    have : (l.any fun x => !may x) = false := by
      rw [List.any_eq_false]; intro x hx; simp [hm x hx]
    rw [this]; rfl)
  rw [e0]
  obtain ⟨h1, h2⟩ := loops_steps n2 hm
  by_cases hg : ∀ k, k < l.length → good (KK l) k
  case neg => exact ⟨fun h => absurd h.1.1 hg, fun _ => h2 hg⟩
  rw [h1 hg]
  have hlast : l.length - 1 < l.length := by omega
  have wl : IntKind.i64.wrap ((l.length : Int) - 1) = ((l.length - 1 : Nat) : Int) := wrap_pred _ (by omega) (by omega)
  have m4 := (opn_mem (KK l) l.length hg).2.2
  have e1 : flow_Loops.F l (st l l.length) = ((if ((opn (KK l) l.length).length : Int) > 0 then (some true) else some (!((decide (l[l.length - 1].Op = 31)) || (decide (l[l.length - 1].Op = 32))))).bind fun t92 => (if t92 = true then (some true) else ((flow_jumps.f l ((OL (KK l) l.length).map (gF l))).bind fun t95 => some (!t95))).bind fun t96 => if t96 = true then (flow_Loops.j1 l) else (some (.inr ((srt32 ((OL (KK l) l.length).map (gF l)).toArray).toList, 0)))) := by
    dsimp only [flow_Loops.F, st]
    rw [if_neg (by omega), wl, elt_lt hlast, if_pos (show ((OL (KK l) l.length).map (gF l)).length < 4611686018427387904 by have := OL_le (KK l) l.length; simp; omega)]
    simp only [Option.bind_some, flow_last.f]
  have lasteq : lastOk l ↔ (l[l.length - 1].Op = 31 ∨ l[l.length - 1].Op = 32) := by
    unfold lastOk
    constructor
    · intro h; exact h _ (List.getElem?_eq_getElem hlast)
    · intro h x hx; rw [List.getElem?_eq_getElem hlast] at hx; cases hx; exact h
  by_cases hS : opn (KK l) l.length = []
  case neg =>
    refine ⟨fun h => absurd h.1.2 hS, fun _ => runF_end ?_⟩
    rw [e1, if_pos (by cases ho : opn (KK l) l.length with | nil => exact absurd ho hS | cons => simp)]
    rfl
  have hrun : Run (KK l) l.length := ⟨hg, hS⟩
  obtain ⟨o1, o2⟩ := run_pairs hrun
  rw [hS] at e1
  rw [if_neg (by simp)] at e1
  simp only [Option.bind_some] at e1
  by_cases hL : lastOk l
  case neg =>
    refine ⟨fun h => absurd h.2.1 hL, fun _ => runF_end ?_⟩
    rw [e1, if_pos (by have := mt lasteq.2 hL; simp; omega)]
    rfl
  rw [if_neg (by have := lasteq.1 hL; simp; omega)] at e1
  obtain ⟨j1, j2⟩ := prog_jumps (R := fun x => Pr (KK l) l.length x.1 x.2) n2 (Nat.le_trans (OL_le _ _) n2) (mem_OL o2)
  by_cases hJ : Jm l fun x => Pr (KK l) l.length x.1 x.2
  · refine ⟨fun _ => runF_end ?_, fun h => absurd ⟨hrun, hL, hJ⟩ h⟩
    rw [e1, j1 hJ]
    simp only [Option.bind_some, Bool.not_true, Bool.false_eq_true, if_false]
    obtain ⟨sp, ss⟩ := srt32_ok ((OL (KK l) l.length).map (gF l)).toArray
    rw [sorted_RL (key := fun x : flow_Loop => x.From) (g := gF l) (fun _ => rfl) o1 o2 sp ss]
  · refine ⟨fun h => absurd h.2.2 hJ, fun _ => runF_end ?_⟩
    rw [e1, j2 hJ]
    rfl
end FlowPure
namespace FlowPure
/-! ### how often -/
def tm (l : List api_Instr) (R : List (Nat × Nat)) (a : Nat) : Int := R.foldl (fun n x => if x.1 < a ∧ a ≤ x.2 then IntKind.i64.wrap (n * turns l x.1) else n) 1
theorem tm_snoc (l : List api_Instr) (R : List (Nat × Nat)) (x : Nat × Nat) (a : Nat) : tm l (R ++ [x]) a = if x.1 < a ∧ a ≤ x.2 then IntKind.i64.wrap (tm l R a * turns l x.1) else tm l R a := by
  unfold tm; rw [List.foldl_append]; rfl
def tms (l : List api_Instr) : List Int := (List.range l.length).map fun a => tm l (RL (KK l) l.length) a
theorem map_range_set {g : Nat → Int} {n m : Nat} {v : Int} : ((List.range n).map g).set m v = (List.range n).map fun a => if a = m then v else g a := by
  apply List.ext_getElem?
  intro i
  rw [List.getElem?_set]
  by_cases h : m = i
  · subst h
    rw [if_pos rfl]
    by_cases hm : m < n
    · rw [if_pos (by simpa using hm)]; simp [hm]
    · rw [if_neg (by simpa using hm)]; simp [hm]
  · rw [if_neg h]
    by_cases hm : i < n
    · simp [hm, Ne.symm h]
    · simp [hm]
theorem repeat_one {n : Nat} (h1 : 1 ≤ n) (h2 : n ≤ 200) : slices_Repeat_int_int.f [1] n = some (List.replicate n 1) := by
  unfold slices_Repeat_int_int.f
  have wu : IntKind.u64.wrap (n : Int) = n := by
    simp only [IntKind.wrap, IntKind.bits, IntKind.signed]; simp; omega
  have w1 : IntKind.u64.wrap ((([1] : List Int).length : Nat) : Int) = 1 := by
    simp [IntKind.wrap, IntKind.bits, IntKind.signed]
  have hs : slices_Repeat_int_int.F [1] n .start = some (.inl (.l1 (List.replicate 1 1 ++ List.replicate (n - 1) 0) ((1 : Nat) : Int))) := by
    dsimp only [slices_Repeat_int_int.F]
    rw [if_neg (by omega)]
    unfold slices_Repeat_int_int.j1 math_bits_Mul.f
    rw [w1, wu, if_pos (by omega)]
    simp only [Option.bind_some]
    have e1 : (1 * (n : Int) / 18446744073709551616) = 0 := by omega
    have e2 : (1 * (n : Int) % 18446744073709551616) = n := by omega
    rw [e1, e2, if_neg (by rw [Bool.or_eq_true, decide_eq_true_eq, decide_eq_true_eq]; omega)]
    unfold slices_Repeat_int_int.j2
    dsimp only
    rw [wrap_id (by omega) (by omega), if_pos (by omega)]
    have e3 : ((n : Int)).toNat = n := rfl
    rw [e3]
    obtain ⟨m, rfl⟩ : ∃ m, n = m + 1 := ⟨n - 1, by omega⟩
    simp [List.replicate_succ]
  rw [runF_step hs]
  have key : ∀ d x, 1 ≤ x → x + d = n → runF (slices_Repeat_int_int.F [1] n) (.l1 (List.replicate x 1 ++ List.replicate (n - x) 0) (x : Int)) = some (List.replicate n 1) := by
    intro d
    induction d using Nat.strongRecOn with
    | ind d ih =>
      intro x hx hd
      by_cases hz : d = 0
      · subst hz
        obtain rfl : x = n := by omega
        refine runF_end ?_
        dsimp only [slices_Repeat_int_int.F]
        rw [if_neg (by simp)]
        simp
      · have hlen : (List.replicate x (1 : Int) ++ List.replicate (n - x) 0).length = n := by simp; omega
        rw [runF_step (t := .l1 (List.replicate (x + min x (n - x)) 1 ++ List.replicate (n - (x + min x (n - x))) 0) ((x + min x (n - x) : Nat) : Int)) ?_]
        · exact ih (n - (x + min x (n - x))) (by omega) _ (by omega) (by omega)
        · dsimp only [slices_Repeat_int_int.F]
          rw [hlen, if_pos (by omega), if_pos (by omega), if_pos (by omega)]
          have e3 : ((x : Int)).toNat = x := rfl
          rw [e3, wrap_id (by omega) (by omega)]
          have hc : min x (n - x) ≤ x := Nat.min_le_left _ _
          have hc2 : min x (n - x) ≤ n - x := Nat.min_le_right _ _
          generalize min x (n - x) = c at hc hc2 ⊢
          have t1 : (List.replicate x (1 : Int) ++ List.replicate (n - x) 0).take x = List.replicate x 1 := by
            rw [List.take_append_of_le_length (by simp)]; simp
          have t2 : (List.replicate x (1 : Int) ++ List.replicate (n - x) 0).take c = List.replicate c 1 := by
            rw [List.take_append_of_le_length (by simp; omega)]; simp; omega
          have t3 : (List.replicate x (1 : Int) ++ List.replicate (n - x) 0).drop (x + c) = List.replicate (n - (x + c)) 0 := by
            rw [List.drop_append]; simp; omega
          rw [t1, t2, t3, List.replicate_append_replicate]
          rfl
  exact key (n - 1) 1 (by omega) (by omega)
theorem prog_times {l : List api_Instr} (hlen : l.length < 4611686018427387904) (hw : ∀ x ∈ l, wf_api_Instr x) :
    (¬ Known l → flow_Times.f l = some ([], 40)) ∧ (Known l → Fine l → flow_Times.f l = some (tms l, 0)) ∧ (Known l → ¬ Fine l → flow_Times.f l = some ([], 90)) := by
  obtain ⟨a1, a2, a3⟩ := prog_loops hlen hw
  unfold flow_Times.f
  refine ⟨fun h => runF_end ?_, fun h hf => ?_, fun h hf => runF_end ?_⟩
  · dsimp only [flow_Times.F]; rw [a1 h]; rfl
  · obtain ⟨o1, o2⟩ := run_pairs hf.1
    have hR := RL_len o1
    obtain ⟨n1, n2, hm⟩ := h
    rw [runF_step (t := .l1 ((RL (KK l) l.length).map (gF l), 0) (List.replicate l.length 1) ((0 : Nat) : Int)) (by
      dsimp only [flow_Times.F]
      rw [a2 ⟨n1, n2, hm⟩ hf]
      simp only [Option.bind_some]
      rw [if_neg (by simp), repeat_one n1 n2]; rfl)]
    have key := runF_chk (F := flow_Times.F l) (n := (RL (KK l) l.length).length) (b := ([], 0)) (fun q => .l1 ((RL (KK l) l.length).map (gF l), 0) ((List.range l.length).map fun a => tm l ((RL (KK l) l.length).take q) a) (q : Int)) (fun _ => True) (fun q hq _ _ => by
      have hp := (mem_RL _).1 (List.getElem_mem hq)
      obtain ⟨t0, h0, hle, hu⟩ := o1 _ hp.1 hp.2.2.1
      have := hu _ hp
      have e : elt ((RL (KK l) l.length).map (gF l)) (q : Int) = some (gF l (RL (KK l) l.length)[q]) := by rw [elt_lt (by simpa using hq), List.getElem_map]
      generalize hx : (RL (KK l) l.length)[q] = x at hp h0 hle hu this e
      have htl : x.2 < l.length := hp.2.1
      rw [runF_step (t := .l2 ((RL (KK l) l.length).map (gF l), 0) q (gF l x) ((List.range l.length).map fun a => tm l ((RL (KK l) l.length).take q) a) ((x.1 + 1 : Nat) : Int)) (by
        dsimp only [flow_Times.F]
        rw [if_pos (by simp; omega), e]
        simp only [Option.bind_some]
        have : IntKind.i64.wrap ((gF l x).From + 1) = ((x.1 + 1 : Nat) : Int) := wrap_succ x.1 (by omega)
        rw [this])]
      have inner := runF_up (F := flow_Times.F l) (n := x.2 - x.1) (fun j => .l2 ((RL (KK l) l.length).map (gF l), 0) q (gF l x) ((List.range l.length).map fun a => if x.1 < a ∧ a < x.1 + 1 + j then IntKind.i64.wrap (tm l ((RL (KK l) l.length).take q) a * turns l x.1) else tm l ((RL (KK l) l.length).take q) a) ((x.1 + 1 + j : Nat) : Int)) (fun j hj => by
        have e2 : elt ((List.range l.length).map fun a => if x.1 < a ∧ a < x.1 + 1 + j then IntKind.i64.wrap (tm l ((RL (KK l) l.length).take q) a * turns l x.1) else tm l ((RL (KK l) l.length).take q) a) ((x.1 + 1 + j : Nat) : Int) = some (tm l ((RL (KK l) l.length).take q) (x.1 + 1 + j)) := by
          rw [elt_lt (by simp; omega)]
          simp
        dsimp only [flow_Times.F]
        rw [if_pos (by dsimp only [gF]; omega), e2]
        simp only [Option.bind_some]
        have e3 : ((x.1 + 1 + j : Nat) : Int).toNat = x.1 + 1 + j := rfl
        rw [wrap_succ _ (by omega), e3, map_range_set]
        refine congrArg some (congrArg Sum.inl ?_)
        have : ∀ (u v : List Int), u = v → (flow_Times.S.l2 ((RL (KK l) l.length).map (gF l), 0) (q : Int) (gF l x) u ((x.1 + 1 + j + 1 : Nat) : Int)) = .l2 ((RL (KK l) l.length).map (gF l), 0) (q : Int) (gF l x) v ((x.1 + 1 + (j + 1) : Nat) : Int) := by
          rintro u v rfl; rfl
        refine this _ _ (List.map_congr_left fun a ha => ?_)
        by_cases hz : a = x.1 + 1 + j
        · subst hz
          rw [if_pos rfl, if_pos (by omega)]; rfl
        · rw [if_neg hz]
          by_cases hz2 : x.1 < a ∧ a < x.1 + 1 + j
          · rw [if_pos hz2, if_pos (by omega)]
          · rw [if_neg hz2, if_neg (by omega)])
      have i0 : ((List.range l.length).map fun a => tm l ((RL (KK l) l.length).take q) a) = (List.range l.length).map fun a => if x.1 < a ∧ a < x.1 + 1 + 0 then IntKind.i64.wrap (tm l ((RL (KK l) l.length).take q) a * turns l x.1) else tm l ((RL (KK l) l.length).take q) a := by
        refine List.map_congr_left fun a _ => ?_
        rw [if_neg (by omega)]
      rw [i0]
      refine inner.trans (runF_step ?_)
      dsimp only [flow_Times.F]
      rw [if_neg (by dsimp only [gF]; omega), wrap_succ _ (by omega)]
      refine congrArg some (congrArg Sum.inl ?_)
      have : ∀ (u v : List Int), u = v → (flow_Times.S.l1 ((RL (KK l) l.length).map (gF l), 0) u ((q + 1 : Nat) : Int)) = .l1 ((RL (KK l) l.length).map (gF l), 0) v ((q + 1 : Nat) : Int) := by
        rintro u v rfl; rfl
      refine this _ _ (List.map_congr_left fun a ha => ?_)
      rw [take_succ _ _ hq, tm_snoc, hx]
      by_cases hz : x.1 < a ∧ a ≤ x.2
      · rw [if_pos hz, if_pos (by omega)]
      · rw [if_neg hz, if_neg (by omega)]) (fun q _ _ h => absurd trivial h)
    have e0 : List.replicate l.length (1 : Int) = (List.range l.length).map fun a => tm l ((RL (KK l) l.length).take 0) a := by
      apply List.ext_getElem?
      intro i
      by_cases hi : i < l.length
      · simp [hi, tm]
      · simp [hi]
    rw [e0]
    refine (key.1 fun _ _ => trivial).trans (runF_end ?_)
    dsimp only [flow_Times.F]
    rw [if_neg (by simp), List.take_length]; rfl
  · dsimp only [flow_Times.F]; rw [a3 h hf]; rfl
end FlowPure
namespace FlowPure
/-! ### ways -/
theorem ms2 (x y : Int) : ([x, y].mergeSort fun x y => decide (x ≤ y)) = if x ≤ y then [x, y] else [y, x] := by
  by_cases h : x ≤ y
  · rw [if_pos h]
    exact List.mergeSort_of_pairwise (by simp [h])
  · rw [if_neg h]
    have hp : [x, y].mergeSort (fun x y => decide (x ≤ y)) = [y, x].mergeSort (fun x y => decide (x ≤ y)) := by
      have p1 := (List.mergeSort_perm [x, y] fun x y => decide (x ≤ y)).trans ((List.Perm.swap y x []).trans (List.mergeSort_perm [y, x] fun x y => decide (x ≤ y)).symm)
      refine List.Perm.eq_of_pairwise (le := fun a b => a ≤ b) (fun a b _ _ h1 h2 => Int.le_antisymm h1 h2) ?_ ?_ p1
      · exact (List.pairwise_mergeSort (le := fun x y => decide (x ≤ y)) (fun a b c h1 h2 => by simp at *; omega) (fun a b => by simp; omega) _).imp fun h => by simpa using h
      · exact (List.pairwise_mergeSort (le := fun x y => decide (x ≤ y)) (fun a b c h1 h2 => by simp at *; omega) (fun a b => by simp; omega) _).imp fun h => by simpa using h
    rw [hp]
    exact List.mergeSort_of_pairwise (by simp; omega)
theorem ct2 (x y : Int) : Lib.compact [x, y] = if x = y then [x] else [x, y] := by
  by_cases h : x = y
  · subst h; simp [Lib.compact, Lib.compactUpTo, Lib.keeps, List.range_succ]
  · simp [Lib.compact, Lib.compactUpTo, Lib.keeps, List.range_succ, h, Ne.symm h]
theorem ct1 (x : Int) : Lib.compact [x] = [x] := by simp [Lib.compact, Lib.compactUpTo, Lib.keeps, List.range_succ]
theorem ct0 : Lib.compact ([] : List Int) = [] := by simp [Lib.compact, Lib.compactUpTo]
/-- The ways of a place. -/
def ways (l : List api_Instr) (a : Nat) : List Int := match l[a]? with
  | none => []
  | some x => if x.Op = 31 ∨ x.Op = 32 then [] else if x.Op = 26 then [x.A] else if x.Op = 27 then (if x.A = ((a + 1 : Nat) : Int) then [x.A] else [((a + 1 : Nat) : Int), x.A]) else if x.Op = 29 then [x.A + 1, ((a + 1 : Nat) : Int)] else [((a + 1 : Nat) : Int)]
theorem j2_ways (l : List api_Instr) (a : Int) (s : List Int) (h : s.length < 4611686018427387904) : flow_Ways.j2 l a s = some (Lib.compact (s.mergeSort fun x y => decide (x ≤ y)), 0) := by
  unfold flow_Ways.j2
  rw [if_pos h, if_pos (by rw [List.length_mergeSort]; exact h)]
theorem leads_eq (n : Fin 33) : op_Leads.f (n.1 : Int) = some (decide (n.1 = 26 ∨ n.1 = 27 ∨ n.1 = 29)) := by
  revert n; decide +kernel
theorem op_lt {i : api_Instr} (hw : wf_api_Instr i) (h : may i = true) : 0 ≤ i.Op ∧ i.Op < 33 := by
  obtain ⟨h0, h1⟩ := wf_op hw
  refine ⟨h0, ?_⟩
  rcases Int.lt_or_le i.Op 33 with z | z
  · exact z
  · unfold may op_Bounds.f op_Known.f at h
    rw [wrap_id (by omega) (by omega)] at h
    simp only [Option.bind_some] at h
    rw [if_pos (by simp; omega)] at h
    simp at h
    omega
theorem prog_ways {l : List api_Instr} (hlen : l.length < 4611686018427387904) (hw : ∀ x ∈ l, wf_api_Instr x) :
    (∀ a, ¬ Known l → flow_Ways.f l a = some ([], 40)) ∧ (∀ a, Known l → ¬ Fine l → flow_Ways.f l a = some ([], 90)) ∧ (∀ a : Int, Known l → Fine l → (a < 0 ∨ a ≥ l.length) → flow_Ways.f l a = some ([], 2)) ∧ (∀ a : Nat, Known l → Fine l → a < l.length → flow_Ways.f l a = some (ways l a, 0)) := by
  obtain ⟨a1, a2, a3⟩ := prog_loops hlen hw
  unfold flow_Ways.f flow_Check.f
  refine ⟨fun a h => ?_, fun a h hf => ?_, fun a h hf ha => ?_, fun a h hf ha => ?_⟩
  · rw [a1 h]; rfl
  · rw [a3 h hf]; rfl
  · rw [a2 h hf]
    simp only [Option.bind_some]
    rw [if_neg (by simp), if_pos (by rw [Bool.or_eq_true, decide_eq_true_eq, decide_eq_true_eq]; exact ha)]
  · rw [a2 h hf]
    simp only [Option.bind_some]
    rw [if_neg (by simp), if_neg (by rw [Bool.or_eq_true, decide_eq_true_eq, decide_eq_true_eq]; omega), elt_lt ha]
    simp only [Option.bind_some]
    have hm := h.2.2 _ (List.getElem_mem ha)
    have hop := op_lt (hw _ (List.getElem_mem ha)) hm
    have hJ := hf.2.2 a ha
    have hn := h.2.1
    unfold ways
    rw [List.getElem?_eq_getElem ha]
    dsimp only
    generalize hx : l[a] = x at hm hop
    have hgoes : op_Goes.f x.Op = some (decide (x.Op ≠ 26 ∧ x.Op ≠ 31 ∧ x.Op ≠ 32)) := by
      unfold op_Goes.f op_Known.f
      rw [wrap_id (by omega) (by omega)]
      simp only [Option.bind_some]
      congr 1
      rw [Bool.eq_iff_iff]
      simp only [Bool.and_eq_true, decide_eq_true_eq]
      omega
    have hleads : op_Leads.f x.Op = some (decide (x.Op = 26 ∨ x.Op = 27 ∨ x.Op = 29)) := by
      obtain ⟨n, hn⟩ := Int.eq_ofNat_of_zero_le hop.1
      have := leads_eq ⟨n, by omega⟩
      dsimp only at this
      rw [hn]
      have e : (n : Int) = (Int.ofNat n) := rfl
      rw [this]
      congr 1
      rw [Bool.eq_iff_iff, decide_eq_true_eq, decide_eq_true_eq]
      omega
    have wa : IntKind.i64.wrap ((a : Int) + 1) = ((a + 1 : Nat) : Int) := wrap_succ a (by omega)
    rw [hgoes]
    simp only [Option.bind_some]
    rw [wa, if_pos (show (([] : List Int).length + [((a + 1 : Nat) : Int)].length) * 8 ≤ 140737488355328 by simp)]
    unfold flow_Ways.j1
    rw [hleads]
    simp only [Option.bind_some, List.nil_append]
    by_cases h31 : x.Op = 31 ∨ x.Op = 32
    · rw [if_neg (by rw [decide_eq_true_eq]; omega), if_neg (by omega), if_neg (by rw [decide_eq_true_eq]; omega), if_pos h31, j2_ways _ _ _ (by simp)]
      simp [ct0]
    · rw [if_neg h31]
      by_cases h26 : x.Op = 26
      · have hp := may_place hm (.inl h26)
        rw [if_neg (by rw [decide_eq_true_eq]; omega), if_neg (by omega), if_pos (by rw [decide_eq_true_eq]; omega), if_pos h26, if_pos (by simp), j2_ways _ _ _ (by simp)]
        simp [ct1]
      · rw [if_pos (by rw [decide_eq_true_eq]; omega), if_neg h26]
        by_cases h29 : x.Op = 29
        · have hp := may_place hm (.inr (.inr h29))
          have hA : x.A < a := by
            have hk : KK l a = .again x.A.toNat := by rw [KK_at ha, hx, if_neg (by omega), if_pos h29]
            obtain ⟨T, hT⟩ := again_mem hf.1.1 ha hk
            have := ((opn_mem (KK l) a fun j hj => hf.1.1 j (by omega)).1 x.A.toNat).1 (by rw [hT]; simp)
            omega
          have wA : IntKind.i64.wrap (x.A + 1) = x.A + 1 := wrap_id (by omega) (by omega)
          rw [if_pos h29, if_pos (by simp), if_neg (by omega), if_pos h29, wA, j2_ways _ _ _ (by simp)]
          simp only [List.singleton_append]
          rw [ms2, if_neg (by omega), ct2, if_neg (by omega)]
        · rw [if_neg h29, if_neg h29]
          by_cases h27 : x.Op = 27
          · have hj := (hJ x (by rw [List.getElem?_eq_getElem ha, hx]) (.inr h27)).1
            rw [if_pos (by rw [decide_eq_true_eq]; omega), if_pos h27, if_pos (by simp), j2_ways _ _ _ (by simp)]
            simp only [List.singleton_append]
            rw [ms2, if_pos (by omega), ct2]
            by_cases e : x.A = ((a + 1 : Nat) : Int)
            · rw [if_pos e.symm, if_pos e, e]
            · rw [if_neg (Ne.symm e), if_neg e]
          · rw [if_neg (by rw [decide_eq_true_eq]; omega), if_neg h27, j2_ways _ _ _ (by simp)]
            simp [ct1]
end FlowPure
namespace FlowPure
/-! ### code at hand -/
def goodB (K : Nat → Kn) (i : Nat) : Bool := match K i with
  | .loop => decide ((opn K i).length < 4)
  | .again a => decide ((opn K i).head? = some a)
  | .other => true
theorem goodB_iff {K : Nat → Kn} {i : Nat} : goodB K i = true ↔ good K i := by
  unfold goodB good
  cases K i <;> simp
def fineB (l : List api_Instr) : Bool :=
  ((List.range l.length).all (goodB (KK l)) && (opn (KK l) l.length).isEmpty) && ((match l[l.length - 1]? with | some x => decide (x.Op = 31 ∨ x.Op = 32) | none => true) &&
    (List.range l.length).all fun k => match l[k]? with
      | some x => if x.Op = 26 ∨ x.Op = 27 then decide ((k : Int) < x.A) && decide (x.A < l.length) && (RL (KK l) l.length).all fun y => decide ((y.1 : Int) < x.A → x.A ≤ y.2 → y.1 < k ∧ k ≤ y.2) else true
      | none => true)
theorem fineB_iff {l : List api_Instr} : fineB l = true ↔ Fine l := by
  unfold fineB Fine Run
  rw [Bool.and_eq_true, Bool.and_eq_true, Bool.and_eq_true]
  refine and_congr (and_congr ?_ (by simp)) (and_congr ?_ ?_)
  · rw [List.all_eq_true]
    constructor
    · intro h i hi; exact goodB_iff.1 (h i (List.mem_range.2 hi))
    · intro h i hi; exact goodB_iff.2 (h i (List.mem_range.1 hi))
  · unfold lastOk
    cases h : l[l.length - 1]? with
    | none => simp
    | some x => simp
  · unfold Jm
    rw [List.all_eq_true]
    constructor
    · intro h k hk x hx hop
      have := h k (List.mem_range.2 hk)
      rw [hx] at this
      dsimp only at this
      rw [if_pos hop, Bool.and_eq_true, Bool.and_eq_true, decide_eq_true_eq, decide_eq_true_eq, List.all_eq_true] at this
      refine ⟨this.1.1, this.1.2, fun y hy a b => ?_⟩
      have := this.2 y ((mem_RL y).2 hy)
      rw [decide_eq_true_eq] at this
      exact this a b
    · intro h k hk
      have := h k (List.mem_range.1 hk)
      cases hx : l[k]? with
      | none => rfl
      | some x =>
        dsimp only
        by_cases hop : x.Op = 26 ∨ x.Op = 27
        · have := this x hx hop
          rw [if_pos hop, Bool.and_eq_true, Bool.and_eq_true, decide_eq_true_eq, decide_eq_true_eq, List.all_eq_true]
          refine ⟨⟨this.1, this.2.1⟩, fun y hy => ?_⟩
          rw [decide_eq_true_eq]
          exact this.2.2 y ((mem_RL y).1 hy)
        · rw [if_neg hop]
instance (x : api_Instr) : Decidable (wf_api_Instr x) := by unfold wf_api_Instr; infer_instance
def knownB (l : List api_Instr) : Bool := decide (1 ≤ l.length) && decide (l.length ≤ 200) && l.all fun x => may x && decide (wf_api_Instr x)
theorem knownB_ok {l : List api_Instr} (h : knownB l = true) : Known l ∧ (∀ x ∈ l, wf_api_Instr x) ∧ l.length < 4611686018427387904 := by
  unfold knownB at h
  rw [Bool.and_eq_true, Bool.and_eq_true, decide_eq_true_eq, decide_eq_true_eq, List.all_eq_true] at h
  refine ⟨⟨h.1.1, h.1.2, fun x hx => ?_⟩, fun x hx => ?_, by omega⟩
  · have := h.2 x hx; rw [Bool.and_eq_true] at this; exact this.1
  · have := h.2 x hx; rw [Bool.and_eq_true, decide_eq_true_eq] at this; exact this.2
theorem chk {l : List api_Instr} (hk : knownB l = true) : flow_Check.f l = some (if fineB l = true then 0 else 90) := by
  obtain ⟨k1, k2, k3⟩ := knownB_ok hk
  obtain ⟨-, a2, a3⟩ := prog_loops k3 k2
  unfold flow_Check.f
  by_cases h : fineB l = true
  · rw [if_pos h, a2 k1 (fineB_iff.1 h)]; rfl
  · rw [if_neg h, a3 k1 (mt fineB_iff.2 h)]; rfl
theorem row1 : capstanlaw09_row.f [28, 3, 0, 0, 29, 0, 31, 0] = some [⟨28, 3, 0⟩, ⟨0, 0, 0⟩, ⟨29, 0, 0⟩, ⟨31, 0, 0⟩] := by
  unfold capstanlaw09_row.f
  rw [runF_step (t := .l1 [] 0) rfl, runF_step (t := .l1 [⟨28, 3, 0⟩] 2) rfl, runF_step (t := .l1 [⟨28, 3, 0⟩, ⟨0, 0, 0⟩] 4) rfl, runF_step (t := .l1 [⟨28, 3, 0⟩, ⟨0, 0, 0⟩, ⟨29, 0, 0⟩] 6) rfl, runF_step (t := .l1 [⟨28, 3, 0⟩, ⟨0, 0, 0⟩, ⟨29, 0, 0⟩, ⟨31, 0, 0⟩] 8) rfl, runF_end rfl]
theorem row2 (a : Int) (h : 0 ≤ a ∧ a < 200) : capstanlaw09_row.f [26, a, 31, 0] = some [⟨26, a, 0⟩, ⟨31, 0, 0⟩] := by
  unfold capstanlaw09_row.f
  rw [runF_step (t := .l1 [] 0) rfl, runF_step (t := .l1 [⟨26, a, 0⟩] 2) rfl, runF_step (t := .l1 [⟨26, a, 0⟩, ⟨31, 0, 0⟩] 4) rfl, runF_end rfl]
theorem row3 : capstanlaw09_row.f [27, 2, 28, 3, 29, 1, 31, 0] = some [⟨27, 2, 0⟩, ⟨28, 3, 0⟩, ⟨29, 1, 0⟩, ⟨31, 0, 0⟩] := by
  unfold capstanlaw09_row.f
  rw [runF_step (t := .l1 [] 0) rfl, runF_step (t := .l1 [⟨27, 2, 0⟩] 2) rfl, runF_step (t := .l1 [⟨27, 2, 0⟩, ⟨28, 3, 0⟩] 4) rfl, runF_step (t := .l1 [⟨27, 2, 0⟩, ⟨28, 3, 0⟩, ⟨29, 1, 0⟩] 6) rfl, runF_step (t := .l1 [⟨27, 2, 0⟩, ⟨28, 3, 0⟩, ⟨29, 1, 0⟩, ⟨31, 0, 0⟩] 8) rfl, runF_end rfl]
theorem row4 : capstanlaw09_row.f [28, 3, 26, 3, 29, 0, 31, 0] = some [⟨28, 3, 0⟩, ⟨26, 3, 0⟩, ⟨29, 0, 0⟩, ⟨31, 0, 0⟩] := by
  unfold capstanlaw09_row.f
  rw [runF_step (t := .l1 [] 0) rfl, runF_step (t := .l1 [⟨28, 3, 0⟩] 2) rfl, runF_step (t := .l1 [⟨28, 3, 0⟩, ⟨26, 3, 0⟩] 4) rfl, runF_step (t := .l1 [⟨28, 3, 0⟩, ⟨26, 3, 0⟩, ⟨29, 0, 0⟩] 6) rfl, runF_step (t := .l1 [⟨28, 3, 0⟩, ⟨26, 3, 0⟩, ⟨29, 0, 0⟩, ⟨31, 0, 0⟩] 8) rfl, runF_end rfl]
theorem row5 : capstanlaw09_row.f [0, 0] = some [⟨0, 0, 0⟩] := by
  unfold capstanlaw09_row.f
  rw [runF_step (t := .l1 [] 0) rfl, runF_step (t := .l1 [⟨0, 0, 0⟩] 2) rfl, runF_end rfl]
theorem three : knownB [⟨28, 3, 0⟩, ⟨0, 0, 0⟩, ⟨29, 0, 0⟩, ⟨31, 0, 0⟩] = true ∧ fineB [⟨28, 3, 0⟩, ⟨0, 0, 0⟩, ⟨29, 0, 0⟩, ⟨31, 0, 0⟩] = true ∧ RL (KK [⟨28, 3, 0⟩, ⟨0, 0, 0⟩, ⟨29, 0, 0⟩, ⟨31, 0, 0⟩]) 4 = [(0, 2)] ∧ tms [⟨28, 3, 0⟩, ⟨0, 0, 0⟩, ⟨29, 0, 0⟩, ⟨31, 0, 0⟩] = [1, 3, 3, 1] ∧ ways [⟨28, 3, 0⟩, ⟨0, 0, 0⟩, ⟨29, 0, 0⟩, ⟨31, 0, 0⟩] 2 = [1, 3] := by decide +kernel
theorem chks : (knownB [⟨26, 1, 0⟩, ⟨31, 0, 0⟩] && fineB [⟨26, 1, 0⟩, ⟨31, 0, 0⟩]) = true ∧ (knownB [⟨26, 0, 0⟩, ⟨31, 0, 0⟩] && !fineB [⟨26, 0, 0⟩, ⟨31, 0, 0⟩]) = true ∧ (knownB [⟨26, 2, 0⟩, ⟨31, 0, 0⟩] && !fineB [⟨26, 2, 0⟩, ⟨31, 0, 0⟩]) = true ∧
    (knownB [⟨27, 2, 0⟩, ⟨28, 3, 0⟩, ⟨29, 1, 0⟩, ⟨31, 0, 0⟩] && !fineB [⟨27, 2, 0⟩, ⟨28, 3, 0⟩, ⟨29, 1, 0⟩, ⟨31, 0, 0⟩]) = true ∧ (knownB [⟨28, 3, 0⟩, ⟨26, 3, 0⟩, ⟨29, 0, 0⟩, ⟨31, 0, 0⟩] && fineB [⟨28, 3, 0⟩, ⟨26, 3, 0⟩, ⟨29, 0, 0⟩, ⟨31, 0, 0⟩]) = true ∧ (knownB [⟨0, 0, 0⟩] && !fineB [⟨0, 0, 0⟩]) = true := by decide +kernel
theorem chk0 {l : List api_Instr} (h : (knownB l && fineB l) = true) : flow_Check.f l = some 0 := by
  rw [Bool.and_eq_true] at h
  rw [chk h.1, if_pos h.2]
theorem chk90 {l : List api_Instr} (h : (knownB l && !fineB l) = true) : flow_Check.f l = some 90 := by
  rw [Bool.and_eq_true, Bool.not_eq_true'] at h
  rw [chk h.1, h.2]; rfl
theorem awake : capstanlaw09_awake.f = some true := by
  obtain ⟨t1, t2, t3, t4, t5⟩ := three
  obtain ⟨c1, c2, c3, c4, c5, c6⟩ := chks
  obtain ⟨k1, k2, k3⟩ := knownB_ok t1
  have hf := fineB_iff.1 t2
  unfold capstanlaw09_awake.f
  rw [row1]
  simp only [Option.bind_some]
  rw [(prog_loops k3 k2).2.1 k1 hf, (prog_times k3 k2).2.1 k1 hf]
  have hwy := (prog_ways k3 k2).2.2.2 2 k1 hf (by decide)
  have hwy : flow_Ways.f [⟨28, 3, 0⟩, ⟨0, 0, 0⟩, ⟨29, 0, 0⟩, ⟨31, 0, 0⟩] 2 = some (ways [⟨28, 3, 0⟩, ⟨0, 0, 0⟩, ⟨29, 0, 0⟩, ⟨31, 0, 0⟩] 2, 0) := hwy
  rw [hwy, t5, t4]
  have t3' : RL (KK [⟨28, 3, 0⟩, ⟨0, 0, 0⟩, ⟨29, 0, 0⟩, ⟨31, 0, 0⟩]) [(⟨28, 3, 0⟩ : api_Instr), ⟨0, 0, 0⟩, ⟨29, 0, 0⟩, ⟨31, 0, 0⟩].length = [(0, 2)] := t3
  rw [t3', row2 1 (by omega), row2 0 (by omega), row2 2 (by omega), row3, row4, row5]
  simp only [Option.bind_some]
  rw [chk0 c1, chk90 c2, chk90 c3, chk90 c4, chk0 c5, chk90 c6]
  rfl
end FlowPure
namespace FlowPure
/-- What is known of a place's ways. -/
def WF (l : List api_Instr) (a : Nat) (x : api_Instr) (W : List Int) : Prop :=
  (W.length = 0 ↔ (x.Op = 31 ∨ x.Op = 32)) ∧ W.length ≤ 2 ∧ ∀ i (hi : i < W.length), 0 ≤ W[i] ∧ W[i] < l.length ∧ (W[i] ≤ a → x.Op = 29 ∧ W[i] = x.A + 1) ∧ (∀ h : 0 < i, W[i - 1] < W[i]) ∧
      ∀ y : Nat × Nat, Pr (KK l) l.length y.1 y.2 → (y.1 : Int) < W[i] → W[i] ≤ y.2 → y.1 ≤ a ∧ a ≤ y.2
theorem ways_facts {l : List api_Instr} (hk : Known l) (hf : Fine l) {a : Nat} (ha : a < l.length) : WF l a l[a] (ways l a) := by
  obtain ⟨o1, o2⟩ := run_pairs hf.1
  obtain ⟨-, -, hN, -⟩ := (run_iff (R := RL (KK l) l.length) fun h => ⟨fun x => mem_RL x, RL_nodup h⟩).1 hf.1
  have hJ := hf.2.2 a ha
  have hm := hk.2.2 _ (List.getElem_mem ha)
  have hlast : ¬ (l[a].Op = 31 ∨ l[a].Op = 32) → a + 1 < l.length := by
    intro h
    rcases Nat.lt_or_ge (a + 1) l.length with z | z
    · exact z
    · have e : l.length - 1 = a := by omega
      have := hf.2.1 l[a] (by rw [e, List.getElem?_eq_getElem ha])
      exact absurd this h
  have hag : l[a].Op = 29 → 0 ≤ l[a].A ∧ l[a].A < a ∧ KK l a = .again l[a].A.toNat := by
    intro h29
    have hp := may_place hm (.inr (.inr h29))
    have hkk : KK l a = .again l[a].A.toNat := by rw [KK_at ha, if_neg (by omega), if_pos h29]
    obtain ⟨T, hT⟩ := again_mem hf.1.1 ha hkk
    have := ((opn_mem (KK l) a fun j hj => hf.1.1 j (by omega)).1 l[a].A.toNat).1 (by rw [hT]; simp)
    exact ⟨hp.1, by omega, hkk⟩
  have hnext : ∀ x : Nat × Nat, Pr (KK l) l.length x.1 x.2 → (x.1 : Int) < ((a + 1 : Nat) : Int) → ((a + 1 : Nat) : Int) ≤ x.2 → x.1 ≤ a ∧ a ≤ x.2 := fun x _ h1 h2 => by omega
  have hjmp : (l[a].Op = 26 ∨ l[a].Op = 27) → (a : Int) < l[a].A ∧ l[a].A < l.length ∧ ∀ x : Nat × Nat, Pr (KK l) l.length x.1 x.2 → (x.1 : Int) < l[a].A → l[a].A ≤ x.2 → x.1 ≤ a ∧ a ≤ x.2 := by
    intro h
    have := hJ _ (List.getElem?_eq_getElem ha) h
    exact ⟨this.1, this.2.1, fun x hx h1 h2 => by have := this.2.2 x hx h1 h2; omega⟩
  have hback : l[a].Op = 29 → ∀ x : Nat × Nat, Pr (KK l) l.length x.1 x.2 → (x.1 : Int) < l[a].A + 1 → l[a].A + 1 ≤ x.2 → x.1 ≤ a ∧ a ≤ x.2 := by
    intro h29 x hx h1 h2
    obtain ⟨q1, q2, q3⟩ := hag h29
    obtain ⟨b1, b2⟩ := o2 a _ ha q3
    have pa : Pr (KK l) l.length l[a].A.toNat a := ⟨b1, ha, b2, q3⟩
    refine ⟨by omega, ?_⟩
    by_cases e : x.1 = l[a].A.toNat
    · obtain ⟨t0, -, -, hu⟩ := o1 _ pa.1 b2
      have e1 := hu _ pa
      have e2 := hu x.2 (by rw [← e]; exact hx)
      omega
    · exact hN _ _ _ _ hx pa (by omega) (by omega)
  have hway : ways l a = if l[a].Op = 31 ∨ l[a].Op = 32 then [] else if l[a].Op = 26 then [l[a].A] else if l[a].Op = 27 then (if l[a].A = ((a + 1 : Nat) : Int) then [l[a].A] else [((a + 1 : Nat) : Int), l[a].A]) else if l[a].Op = 29 then [l[a].A + 1, ((a + 1 : Nat) : Int)] else [((a + 1 : Nat) : Int)] := by
    unfold ways
    rw [List.getElem?_eq_getElem ha]
  rw [hway]
  clear hway
  generalize l[a] = x at *
  by_cases h31 : x.Op = 31 ∨ x.Op = 32
  · rw [if_pos h31]
    exact ⟨by simpa using h31, by simp, fun i hi => by simp at hi⟩
  · have hl := hlast h31
    rw [if_neg h31]
    have one : ∀ w : Int, (0 ≤ w ∧ w < l.length ∧ (w ≤ a → x.Op = 29 ∧ w = x.A + 1) ∧ ∀ y : Nat × Nat, Pr (KK l) l.length y.1 y.2 → (y.1 : Int) < w → w ≤ y.2 → y.1 ≤ a ∧ a ≤ y.2) → WF l a x [w] := by
      intro w hw
      refine ⟨by simpa using h31, by simp, fun i hi => ?_⟩
      obtain rfl : i = 0 := by simpa using hi
      exact ⟨hw.1, hw.2.1, hw.2.2.1, fun h => absurd h (by omega), hw.2.2.2⟩
    have two : ∀ v w : Int, v < w → (0 ≤ v ∧ v < l.length ∧ (v ≤ a → x.Op = 29 ∧ v = x.A + 1) ∧ ∀ y : Nat × Nat, Pr (KK l) l.length y.1 y.2 → (y.1 : Int) < v → v ≤ y.2 → y.1 ≤ a ∧ a ≤ y.2) → (0 ≤ w ∧ w < l.length ∧ (w ≤ a → x.Op = 29 ∧ w = x.A + 1) ∧ ∀ y : Nat × Nat, Pr (KK l) l.length y.1 y.2 → (y.1 : Int) < w → w ≤ y.2 → y.1 ≤ a ∧ a ≤ y.2) → WF l a x [v, w] := by
      intro v w hlt hv hw
      refine ⟨by simpa using h31, by simp, fun i hi => ?_⟩
      rcases i with _ | _ | i
      · exact ⟨hv.1, hv.2.1, hv.2.2.1, fun h => absurd h (by omega), hv.2.2.2⟩
      · exact ⟨hw.1, hw.2.1, hw.2.2.1, fun _ => hlt, hw.2.2.2⟩
      · simp at hi; omega
    by_cases h26 : x.Op = 26
    · rw [if_pos h26]
      obtain ⟨j1, j2, j3⟩ := hjmp (.inl h26)
      exact one _ ⟨by omega, j2, fun h => by omega, j3⟩
    · rw [if_neg h26]
      by_cases h27 : x.Op = 27
      · rw [if_pos h27]
        obtain ⟨j1, j2, j3⟩ := hjmp (.inr h27)
        by_cases e : x.A = ((a + 1 : Nat) : Int)
        · rw [if_pos e]
          exact one _ ⟨by omega, j2, fun h => by omega, j3⟩
        · rw [if_neg e]
          exact two _ _ (by omega) ⟨by omega, by omega, fun h => by omega, hnext⟩ ⟨by omega, j2, fun h => by omega, j3⟩
      · rw [if_neg h27]
        by_cases h29 : x.Op = 29
        · rw [if_pos h29]
          obtain ⟨q1, q2, q3⟩ := hag h29
          exact two _ _ (by omega) ⟨by omega, by omega, fun _ => ⟨h29, rfl⟩, hback h29⟩ ⟨by omega, by omega, fun h => by omega, hnext⟩
        · rw [if_neg h29]
          exact one _ ⟨by omega, by omega, fun h => by omega, hnext⟩
theorem law_ahead {l : List api_Instr} (hl : l.length ≤ maxLen) (hw : ∀ x ∈ l, wf_api_Instr x) : capstanlaw09_FlowAhead.f l = some true := by
  unfold capstanlaw09_FlowAhead.f
  by_cases h3 : (l.length : Int) > 300
  · refine runF_end ?_
    dsimp only [capstanlaw09_FlowAhead.F]
    rw [awake]
    simp only [Option.bind_some]
    rw [if_neg (by simp), if_pos h3]
  have hlen : l.length < 4611686018427387904 := by omega
  obtain ⟨a1, a2, a3⟩ := prog_loops hlen hw
  obtain ⟨w1, w2, w3, w4⟩ := prog_ways hlen hw
  by_cases hk : Known l
  case neg =>
    refine runF_end ?_
    dsimp only [capstanlaw09_FlowAhead.F]
    rw [awake]
    simp only [Option.bind_some]
    rw [if_neg (by simp), if_neg h3, a1 hk, w1 0 hk]
    rfl
  by_cases hf : Fine l
  case neg =>
    refine runF_end ?_
    dsimp only [capstanlaw09_FlowAhead.F]
    rw [awake]
    simp only [Option.bind_some]
    rw [if_neg (by simp), if_neg h3, a3 hk hf, w2 0 hk hf]
    rfl
  obtain ⟨o1, o2⟩ := run_pairs hf.1
  have hR := RL_len o1
  have hn := hk.2.1
  rw [runF_step (t := .l1 ((RL (KK l) l.length).map (gF l), 0) ((0 : Nat) : Int)) (by
    dsimp only [capstanlaw09_FlowAhead.F]
    rw [awake]
    simp only [Option.bind_some]
    rw [if_neg (by simp), if_neg h3, a2 hk hf]
    rfl)]
  have places := runF_chk (F := capstanlaw09_FlowAhead.F l) (n := l.length) (b := false) (fun k => .l1 ((RL (KK l) l.length).map (gF l), 0) (k : Int)) (fun _ => True) (fun a ha _ _ => by
    obtain ⟨f1, f2, f3⟩ := ways_facts hk hf ha
    have hA : l[a].Op = 29 → IntKind.i64.wrap (l[a].A + 1) = l[a].A + 1 := by
      intro h29
      have hp := may_place (hk.2.2 _ (List.getElem_mem ha)) (.inr (.inr h29))
      exact wrap_id (by omega) (by omega)
    have hb : (if l[a].Op = 31 then (some true) else some (decide (l[a].Op = 32))) = some (decide (l[a].Op = 31 ∨ l[a].Op = 32)) := by
      by_cases h : l[a].Op = 31
      · rw [if_pos h]; simp [h]
      · rw [if_neg h]; simp [h]
    rw [runF_step (t := .l2 ((RL (KK l) l.length).map (gF l), 0) a (ways l a, 0) ((0 : Nat) : Int)) (by
      dsimp only [capstanlaw09_FlowAhead.F]
      rw [if_pos (by omega), w4 a hk hf ha, elt_lt ha]
      simp only [Option.bind_some]
      rw [hb]
      simp only [Option.bind_some]
      have : (decide (((ways l a).length : Int) = 0)) = decide (l[a].Op = 31 ∨ l[a].Op = 32) := by
        rw [Bool.eq_iff_iff, decide_eq_true_eq, decide_eq_true_eq]; omega
      rw [this, if_neg (by simp; omega)]
      rfl)]
    have each := runF_up (F := capstanlaw09_FlowAhead.F l) (n := 0) (fun _ => .l1 ((RL (KK l) l.length).map (gF l), 0) ((0 : Nat) : Int)) (fun k hk => by omega)
    have step : ∀ i, i < (ways l a).length → runF (capstanlaw09_FlowAhead.F l) (.l2 ((RL (KK l) l.length).map (gF l), 0) a (ways l a, 0) (i : Int)) = runF (capstanlaw09_FlowAhead.F l) (.l2 ((RL (KK l) l.length).map (gF l), 0) a (ways l a, 0) ((i + 1 : Nat) : Int)) := by
      intro i hi
      obtain ⟨g1, g2, g3, g4, g5⟩ := f3 i hi
      have ei : elt (ways l a) (i : Int) = some (ways l a)[i] := elt_lt hi
      have j2 : ∀ b, (b = false) → capstanlaw09_FlowAhead.j2 l ((RL (KK l) l.length).map (gF l), 0) a (ways l a, 0) i b = some (.inl (.l3 ((RL (KK l) l.length).map (gF l), 0) a (ways l a, 0) i ((0 : Nat) : Int))) := by
        rintro b rfl; rfl
      have tail : (if (i : Int) > 0 then ((elt (ways l a) (i : Int)).bind fun x1276 => (elt (ways l a) (IntKind.i64.wrap ((i : Int) - 1))).bind fun x1280 => capstanlaw09_FlowAhead.j2 l ((RL (KK l) l.length).map (gF l), 0) a (ways l a, 0) i (decide (x1276 ≤ x1280))) else (capstanlaw09_FlowAhead.j2 l ((RL (KK l) l.length).map (gF l), 0) a (ways l a, 0) i false)) = some (.inl (.l3 ((RL (KK l) l.length).map (gF l), 0) a (ways l a, 0) i ((0 : Nat) : Int))) := by
        by_cases h0 : 0 < i
        · have := g4 h0
          rw [if_pos (by omega), ei, wrap_pred i h0 (by omega), elt_lt (show i - 1 < (ways l a).length by omega)]
          simp only [Option.bind_some]
          exact j2 _ (by rw [decide_eq_false_iff_not]; omega)
        · rw [if_neg (by omega)]; exact j2 _ rfl
      have j1 : ∀ b, ((ways l a)[i] ≤ a → b = true) → capstanlaw09_FlowAhead.j1 l ((RL (KK l) l.length).map (gF l), 0) a (ways l a, 0) i b = some (.inl (.l3 ((RL (KK l) l.length).map (gF l), 0) a (ways l a, 0) i ((0 : Nat) : Int))) := by
        intro b hb
        unfold capstanlaw09_FlowAhead.j1
        have ei' : elt (((ways l a, 0) : List Int × Int)).1 (i : Int) = some (ways l a)[i] := ei
        rw [ei']
        simp only [Option.bind_some]
        rw [if_neg (by omega)]
        by_cases hle : (ways l a)[i] ≤ a
        · rw [if_pos hle, hb hle, if_neg (by simp), if_neg (by omega)]
          have := tail
          rw [ei] at this
          exact this
        · rw [if_neg hle, if_neg (by omega)]
          have := tail
          rw [ei] at this
          exact this
      rw [runF_step (t := .l3 ((RL (KK l) l.length).map (gF l), 0) a (ways l a, 0) i ((0 : Nat) : Int)) (by
        dsimp only [capstanlaw09_FlowAhead.F]
        rw [if_pos (by omega), elt_lt ha]
        simp only [Option.bind_some]
        by_cases h29 : l[a].Op = 29
        · rw [if_pos h29, ei]
          simp only [Option.bind_some]
          exact j1 _ (fun h => by rw [decide_eq_true_eq, hA h29]; exact (g3 h).2)
        · rw [if_neg h29]
          exact j1 _ (fun h => absurd (g3 h).1 h29))]
      have loops := runF_up (F := capstanlaw09_FlowAhead.F l) (n := (RL (KK l) l.length).length) (fun q => .l3 ((RL (KK l) l.length).map (gF l), 0) a (ways l a, 0) i (q : Int)) (fun q hq => by
        have e : elt ((RL (KK l) l.length).map (gF l)) (q : Int) = some (gF l (RL (KK l) l.length)[q]) := by rw [elt_lt (by simpa using hq), List.getElem_map]
        have px := (mem_RL _).1 (List.getElem_mem hq)
        generalize (RL (KK l) l.length)[q] = x at e px
        have g6 := g5 x px
        have j3 : ∀ b, (b = true → x.1 ≤ a ∧ a ≤ x.2) → capstanlaw09_FlowAhead.j3 l ((RL (KK l) l.length).map (gF l), 0) a (ways l a, 0) i q b = some (.inl (.l3 ((RL (KK l) l.length).map (gF l), 0) a (ways l a, 0) i ((q + 1 : Nat) : Int))) := by
          intro b hb
          unfold capstanlaw09_FlowAhead.j3
          rw [wrap_succ q (by omega)]
          have e' : elt ((((RL (KK l) l.length).map (gF l), 0) : List flow_Loop × Int)).1 (q : Int) = some (gF l x) := e
          cases b with
          | false => rw [if_neg (by simp)]; rfl
          | true =>
            have := hb rfl
            have n1 : ¬ (a : Int) < (gF l x).From := by dsimp only [gF]; omega
            have n2 : (decide ((a : Int) > (gF l x).To)) = false := by rw [decide_eq_false_iff_not]; dsimp only [gF]; omega
            rw [if_pos rfl, e']
            simp only [Option.bind_some]
            rw [if_neg n1, n2]
            rfl
        dsimp only [capstanlaw09_FlowAhead.F]
        rw [if_pos (by simp; omega), e, ei]
        simp only [Option.bind_some]
        by_cases h1 : (gF l x).From < (ways l a)[i]
        · rw [if_pos h1]
          refine j3 _ fun h => ?_
          rw [decide_eq_true_eq] at h
          dsimp only [gF] at h h1
          exact g6 h1 h
        · rw [if_neg h1]
          exact j3 _ fun h => by cases h)
      refine loops.trans (runF_step ?_)
      dsimp only [capstanlaw09_FlowAhead.F]
      rw [if_neg (by simp), wrap_succ _ (by omega)]
    have all : ∀ m, m ≤ (ways l a).length → runF (capstanlaw09_FlowAhead.F l) (.l2 ((RL (KK l) l.length).map (gF l), 0) a (ways l a, 0) ((0 : Nat) : Int)) = runF (capstanlaw09_FlowAhead.F l) (.l2 ((RL (KK l) l.length).map (gF l), 0) a (ways l a, 0) (m : Int)) := by
      intro m
      induction m with
      | zero => intro _; rfl
      | succ m ih => intro hm; rw [ih (by omega), step m (by omega)]
    rw [all _ (Nat.le_refl _)]
    refine runF_step ?_
    dsimp only [capstanlaw09_FlowAhead.F]
    rw [if_neg (by omega), wrap_succ _ (by omega)]) (fun q _ _ h => absurd trivial h)
  refine (places.1 fun _ _ => trivial).trans (runF_end ?_)
  dsimp only [capstanlaw09_FlowAhead.F]
  rw [if_neg (by omega), w3 l.length hk hf (.inr (by omega)), w3 (-1) hk hf (.inl (by omega))]
  rfl
end FlowPure
/-- Each way of a place is one of the code, and leads to one behind it, or, of an OpAgain, to the one behind its OpLoop. -/
theorem flowAhead_card : Rows.FlowAheadCardSaid := flowAhead.card fun x0 h => FlowPure.law_ahead h.1 h.2
#print axioms flowAhead_card
end Go.Proofs.YtbejlahmhloloaaDoor
