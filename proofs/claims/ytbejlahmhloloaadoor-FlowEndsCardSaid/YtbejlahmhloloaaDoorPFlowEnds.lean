/- Whichever way an OpZero goes each time, code that flows well comes to an OpRet or an OpTrap, and to each place at most so often as is told; where nothing leads elsewhere but its loops, just as often (the law FlowEnds): for every input, with no condition but what the card ties to the program (what op's table of bounds holds). -/
import Derived.Test.YtbejlahmhloloaaDoorRFlowEnds
set_option linter.unusedVariables false
set_option linter.unusedSimpArgs false
namespace Go.Proofs.YtbejlahmhloloaaDoor
open Go.Q
namespace FlowPure
inductive Kn | loop | again (a : Nat) | other
deriving DecidableEq
def opn (K : Nat → Kn) : Nat → List Nat
  | 0 => []
  | i + 1 => match K i with
    | .loop => i :: opn K i
    | .again _ => (opn K i).tail
    | .other => opn K i
def good (K : Nat → Kn) (i : Nat) : Prop := match K i with
  | .loop => (opn K i).length < 4
  | .again a => (opn K i).head? = some a
  | .other => True
theorem opn_mem (K : Nat → Kn) : ∀ (i : Nat), (∀ j, j < i → good K j) →
    (∀ f, f ∈ opn K i ↔ (K f = .loop ∧ f < i ∧ ∀ j, f < j → j < i → K j ≠ .again f)) ∧ (opn K i).Pairwise (· > ·) ∧ (opn K i).length ≤ 4
  | 0, _ => by simp [opn]
  | i + 1, hg => by
    obtain ⟨h1, h2, h3⟩ := opn_mem K i (fun j hj => hg j (by omega))
    have gi := hg i (by omega)
    unfold good at gi
    unfold opn
    cases hk : K i with
    | loop =>
      rw [hk] at gi
      simp only at gi ⊢
      refine ⟨fun f => ?_, ?_, by simp; omega⟩
      · rw [List.mem_cons, h1]
        constructor
        · rintro (rfl | ⟨a, b, c⟩)
          · exact ⟨hk, by omega, fun j h1 h2 => by omega⟩
          · refine ⟨a, by omega, fun j q1 q2 => ?_⟩
            by_cases e : j = i
            · subst e; rw [hk]; exact fun z => Kn.noConfusion z
            · exact c j q1 (by omega)
        · rintro ⟨a, b, c⟩
          by_cases e : f = i
          · exact .inl e
          · exact .inr ⟨a, by omega, fun j q1 q2 => c j q1 (by omega)⟩
      · rw [List.pairwise_cons]
        exact ⟨fun x hx => ((h1 x).1 hx).2.1, h2⟩
    | again a =>
      rw [hk] at gi
      simp only at gi ⊢
      cases ho : opn K i with
      | nil => rw [ho] at gi; cases gi
      | cons b T =>
        rw [ho] at gi h1 h2 h3
        simp at gi
        subst gi
        rw [List.pairwise_cons] at h2
        refine ⟨fun f => ?_, h2.2, by simp at h3; simp; omega⟩
        simp only [List.tail_cons]
        constructor
        · intro hf
          obtain ⟨p, q, r⟩ := (h1 f).1 (List.mem_cons_of_mem _ hf)
          refine ⟨p, by omega, fun j q1 q2 => ?_⟩
          by_cases e : j = i
          · subst e; rw [hk]; intro z; cases z
            have := h2.1 _ hf; omega
          · exact r j q1 (by omega)
        · rintro ⟨p, q, r⟩
          have hne : f ≠ i := by rintro rfl; rw [hk] at p; cases p
          have := (h1 f).2 ⟨p, by omega, fun j q1 q2 => r j q1 (by omega)⟩
          rcases List.mem_cons.1 this with e | e
          · subst e; exact absurd hk (r i (by omega) (by omega))
          · exact e
    | other =>
      simp only
      refine ⟨fun f => ?_, h2, h3⟩
      rw [h1]
      constructor
      · rintro ⟨a, b, c⟩
        refine ⟨a, by omega, fun j q1 q2 => ?_⟩
        by_cases e : j = i
        · subst e; rw [hk]; exact fun z => Kn.noConfusion z
        · exact c j q1 (by omega)
      · rintro ⟨a, b, c⟩
        have hne : f ≠ i := by rintro rfl; rw [hk] at a; cases a
        exact ⟨a, by omega, fun j q1 q2 => c j q1 (by omega)⟩
theorem nodup_len {α : Type} [DecidableEq α] : ∀ (l m : List α), l.Nodup → (∀ x ∈ l, x ∈ m) → l.length ≤ m.length
  | [], _, _, _ => by simp
  | x :: l, m, hn, hs => by
    rw [List.nodup_cons] at hn
    have hx := hs x (by simp)
    have := nodup_len l (m.erase x) hn.2 (fun y hy => (List.mem_erase_of_ne (by rintro rfl; exact hn.1 hy)).2 (hs y (by simp [hy])))
    rw [List.length_erase_of_mem hx] at this
    have : 0 < m.length := List.length_pos_of_mem hx
    simp; omega
def Pr (K : Nat → Kn) (n f t : Nat) : Prop := f < n ∧ t < n ∧ K f = .loop ∧ K t = .again f
def Ok1 (K : Nat → Kn) (n : Nat) : Prop := ∀ f, f < n → K f = .loop → ∃ t, Pr K n f t ∧ f ≤ t ∧ ∀ t', Pr K n f t' → t' = t
def Ok2 (K : Nat → Kn) (n : Nat) : Prop := ∀ t a, t < n → K t = .again a → a < n ∧ K a = .loop
def Nest (K : Nat → Kn) (n : Nat) : Prop := ∀ f t g u, Pr K n f t → Pr K n g u → f < g → g < t → u ≤ t
def Deep (n : Nat) (R : List (Nat × Nat)) : Prop := ∀ a, a < n → (R.filter fun x => decide (x.1 < a) && decide (a ≤ x.2)).length ≤ 4
def Run (K : Nat → Kn) (n : Nat) : Prop := (∀ i, i < n → good K i) ∧ opn K n = []

theorem again_mem {K : Nat → Kn} {n t f : Nat} (h : ∀ i, i < n → good K i) (ht : t < n) (hk : K t = .again f) : ∃ T, opn K t = f :: T := by
  have := h t ht
  unfold good at this
  rw [hk] at this
  simp only at this
  cases ho : opn K t with
  | nil => rw [ho] at this; cases this
  | cons b T => rw [ho] at this; simp at this; subst this; exact ⟨T, rfl⟩
theorem run_pairs {K : Nat → Kn} {n : Nat} (h : Run K n) : Ok1 K n ∧ Ok2 K n := by
  obtain ⟨hg, hn⟩ := h
  have mem := fun i (hi : i ≤ n) => opn_mem K i (fun j hj => hg j (by omega))
  have back : ∀ t a, t < n → K t = .again a → K a = .loop ∧ a < t ∧ ∀ j, a < j → j < t → K j ≠ .again a := by
    intro t a ht hk
    obtain ⟨T, hT⟩ := again_mem hg ht hk
    exact ((mem t (by omega)).1 a).1 (by rw [hT]; simp)
  refine ⟨fun f hf hk => ?_, fun t a ht hk => ?_⟩
  · have : ∃ t, f < t ∧ t < n ∧ K t = .again f := by
      refine Classical.byContradiction fun hc => ?_
      have : f ∈ opn K n := ((mem n (Nat.le_refl _)).1 f).2 ⟨hk, hf, fun j q1 q2 e => hc ⟨j, q1, q2, e⟩⟩
      rw [hn] at this; cases this
    obtain ⟨t, h1, h2, h3⟩ := this
    refine ⟨t, ⟨hf, h2, hk, h3⟩, by omega, fun t' ⟨_, p2, _, p4⟩ => ?_⟩
    obtain ⟨-, q2, q3⟩ := back t' f p2 p4
    obtain ⟨-, r2, r3⟩ := back t f h2 h3
    rcases Nat.lt_trichotomy t t' with z | z | z
    · exact absurd h3 (q3 t h1 z)
    · exact z.symm
    · exact absurd p4 (r3 t' q2 z)
  · obtain ⟨a1, a2, -⟩ := back t a ht hk
    exact ⟨by omega, a1⟩
theorem opn_iff {K : Nat → Kn} {n i : Nat} (hi : i ≤ n) (hg : ∀ j, j < i → good K j) (h1 : Ok1 K n) (f : Nat) : f ∈ opn K i ↔ ∃ t, Pr K n f t ∧ f < i ∧ i ≤ t := by
  rw [(opn_mem K i hg).1]
  constructor
  · rintro ⟨a, b, c⟩
    obtain ⟨t, h, hl, -⟩ := h1 f (by omega) a
    refine ⟨t, h, b, ?_⟩
    rcases Nat.lt_or_ge t i with z | z
    · have : f ≠ t := by rintro rfl; have := h.2.2; rw [this.1] at this; exact Kn.noConfusion this.2
      exact absurd h.2.2.2 (c t (by omega) z)
    · exact z
  · rintro ⟨t, h, b, c⟩
    refine ⟨h.2.2.1, b, fun j q1 q2 e => ?_⟩
    obtain ⟨t0, _, _, hu⟩ := h1 f h.1 h.2.2.1
    have e1 := hu t h
    have e2 := hu j ⟨h.1, by omega, h.2.2.1, e⟩
    omega
theorem run_iff {K : Nat → Kn} {n : Nat} {R : List (Nat × Nat)} (hR : Ok1 K n → (∀ x, x ∈ R ↔ Pr K n x.1 x.2) ∧ (R.map (·.1)).Nodup) : Run K n ↔ Ok1 K n ∧ Ok2 K n ∧ Nest K n ∧ Deep n R := by
  constructor
  · intro h
    obtain ⟨h1, h2⟩ := run_pairs h
    obtain ⟨hg, hn⟩ := h
    obtain ⟨hm, hnd⟩ := hR h1
    refine ⟨h1, h2, fun f t g u p q hfg hgt => ?_, fun a ha => ?_⟩
    · rcases Nat.lt_or_ge t u with z | z
      · have mg : g ∈ opn K t := (opn_iff (n := n) (by have := p.2.1; omega) (fun j hj => hg j (by have := p.2.1; omega)) h1 g).2 ⟨u, q, hgt, by omega⟩
        obtain ⟨T, hT⟩ := again_mem hg p.2.1 p.2.2.2
        have pw := (opn_mem K t (fun j hj => hg j (by have := p.2.1; omega))).2.1
        rw [hT] at mg pw
        rw [List.pairwise_cons] at pw
        rcases List.mem_cons.1 mg with e | e
        · omega
        · have := pw.1 _ e; omega
      · exact z
    · have l4 := (opn_mem K a (fun j hj => hg j (by omega))).2.2
      have : ((R.filter fun x => decide (x.1 < a) && decide (a ≤ x.2)).map (·.1)).length ≤ (opn K a).length := by
        refine nodup_len _ _ (List.Nodup.sublist (List.Sublist.map _ List.filter_sublist) hnd) (fun f hf => ?_)
        rw [List.mem_map] at hf
        obtain ⟨x, hx, rfl⟩ := hf
        rw [List.mem_filter] at hx
        simp only [Bool.and_eq_true, decide_eq_true_eq] at hx
        exact (opn_iff (n := n) (by omega) (fun j hj => hg j (by omega)) h1 _).2 ⟨x.2, (hm x).1 hx.1, hx.2.1, hx.2.2⟩
      rw [List.length_map] at this
      omega
  · rintro ⟨h1, h2, h3, h4⟩
    obtain ⟨hm, hnd⟩ := hR h1
    have hg : ∀ i, i ≤ n → ∀ j, j < i → good K j := by
      intro i
      induction i with
      | zero => intro _ j hj; omega
      | succ i ih =>
        intro hi j hj
        have ih := ih (by omega)
        by_cases e : j = i
        · subst e
          unfold good
          obtain ⟨m1, m2, m3⟩ := opn_mem K j ih
          cases hk : K j with
          | loop =>
            simp only
            obtain ⟨t, p, hl, -⟩ := h1 j (by omega) hk
            have hne : j ≠ t := by rintro rfl; rw [p.2.2.1] at hk; have := p.2.2.2; rw [p.2.2.1] at this; exact Kn.noConfusion this
            have d := h4 (j + 1) (by have := p.2.1; omega)
            have : (j :: opn K j).length ≤ ((R.filter fun x => decide (x.1 < j + 1) && decide (j + 1 ≤ x.2)).map (·.1)).length := by
              refine nodup_len _ _ ?_ (fun f hf => ?_)
              · rw [List.nodup_cons]
                exact ⟨fun hc => by have := ((m1 j).1 hc).2.1; omega, m2.imp (fun h => by omega)⟩
              · rw [List.mem_map]
                rcases List.mem_cons.1 hf with e | e
                · subst e
                  exact ⟨(f, t), List.mem_filter.2 ⟨(hm _).2 p, by simp; omega⟩, rfl⟩
                · obtain ⟨u, q, q1, q2⟩ := (opn_iff (n := n) (by omega) ih h1 f).1 e
                  have : u ≠ j := by rintro rfl; have := q.2.2.2; rw [hk] at this; exact Kn.noConfusion this
                  exact ⟨(f, u), List.mem_filter.2 ⟨(hm _).2 q, by simp; omega⟩, rfl⟩
            rw [List.length_map, List.length_cons] at this
            omega
          | again a =>
            simp only
            obtain ⟨ha, hl⟩ := h2 j a (by omega) hk
            obtain ⟨t, p, q, hu⟩ := h1 a ha hl
            have e := hu j ⟨ha, by omega, hl, hk⟩
            subst e
            have hne : a ≠ j := by rintro rfl; rw [hl] at hk; exact Kn.noConfusion hk
            have ma : a ∈ opn K j := (opn_iff (n := n) (by omega) ih h1 a).2 ⟨j, p, by omega, by omega⟩
            cases ho : opn K j with
            | nil => rw [ho] at ma; cases ma
            | cons b T =>
              rw [ho] at ma m2
              rcases List.mem_cons.1 ma with e | e
              · subst e; rfl
              · rw [List.pairwise_cons] at m2
                have hab := m2.1 _ e
                obtain ⟨u, r, r1, r2⟩ := (opn_iff (n := n) (by omega) ih h1 b).1 (by rw [ho]; simp)
                have := h3 a j b u p r hab r1
                have : u = j := by omega
                subst this
                have := r.2.2.2
                rw [hk] at this
                cases this
                omega
          | other => trivial
        · exact ih j (by omega)
    have hg := hg n (Nat.le_refl _)
    refine ⟨hg, ?_⟩
    rw [List.eq_nil_iff_forall_not_mem]
    intro f hf
    obtain ⟨t, p, -, q⟩ := (opn_iff (n := n) (Nat.le_refl _) hg h1 f).1 hf
    have := p.2.1
    omega

def RL (K : Nat → Kn) (n : Nat) : List (Nat × Nat) := (List.range n).flatMap fun f => if K f = .loop then ((List.range n).filter fun t => decide (K t = .again f)).map fun t => (f, t) else []
def OL (K : Nat → Kn) (n : Nat) : List (Nat × Nat) := (List.range n).filterMap fun t => match K t with | .again a => some (a, t) | _ => none
theorem mem_RL {K : Nat → Kn} {n : Nat} (x : Nat × Nat) : x ∈ RL K n ↔ Pr K n x.1 x.2 := by
  unfold RL Pr
  rw [List.mem_flatMap]
  constructor
  · rintro ⟨f, hf, hx⟩
    split at hx
    · rename_i hk
      rw [List.mem_map] at hx
      obtain ⟨t, ht, rfl⟩ := hx
      rw [List.mem_filter] at ht
      simp only [List.mem_range, decide_eq_true_eq] at ht hf
      exact ⟨hf, ht.1, hk, ht.2⟩
    · cases hx
  · rintro ⟨h1, h2, h3, h4⟩
    refine ⟨x.1, List.mem_range.2 h1, ?_⟩
    rw [if_pos h3, List.mem_map]
    exact ⟨x.2, List.mem_filter.2 ⟨List.mem_range.2 h2, by simpa using h4⟩, rfl⟩
theorem RL_sorted {K : Nat → Kn} {n : Nat} (h : Ok1 K n) : (RL K n).Pairwise fun x y => x.1 < y.1 := by
  unfold RL
  rw [List.pairwise_flatMap]
  refine ⟨fun f hf => ?_, ?_⟩
  · split
    · rename_i hk
      obtain ⟨t, -, -, hu⟩ := h f (List.mem_range.1 hf) hk
      rw [List.pairwise_map]
      refine List.Pairwise.imp_of_mem (R := fun a b => a ≠ b) (fun {a b} ha hb hne => absurd ?_ hne) (List.nodup_range.sublist List.filter_sublist)
      rw [List.mem_filter, List.mem_range, decide_eq_true_eq] at ha hb
      rw [hu a ⟨List.mem_range.1 hf, ha.1, hk, ha.2⟩, hu b ⟨List.mem_range.1 hf, hb.1, hk, hb.2⟩]
    · exact List.Pairwise.nil
  · refine List.pairwise_lt_range.imp fun {a b} hab x hx y hy => ?_
    have e : ∀ f, ∀ z ∈ (if K f = .loop then ((List.range n).filter fun t => decide (K t = .again f)).map fun t => (f, t) else []), z.1 = f := by
      intro f z hz
      split at hz
      · rw [List.mem_map] at hz; obtain ⟨_, _, rfl⟩ := hz; rfl
      · cases hz
    rw [e a x hx, e b y hy]; exact hab
theorem RL_nodup {K : Nat → Kn} {n : Nat} (h : Ok1 K n) : ((RL K n).map (·.1)).Nodup := by
  show List.Pairwise _ _
  rw [List.pairwise_map]
  exact (RL_sorted h).imp fun h => Nat.ne_of_lt h
theorem mem_OL {K : Nat → Kn} {n : Nat} (h : Ok2 K n) (x : Nat × Nat) : x ∈ OL K n ↔ Pr K n x.1 x.2 := by
  unfold OL Pr
  rw [List.mem_filterMap]
  constructor
  · rintro ⟨t, ht, hx⟩
    cases hk : K t with
    | again a =>
      rw [hk] at hx
      simp at hx
      subst hx
      obtain ⟨h1, h2⟩ := h t a (List.mem_range.1 ht) hk
      exact ⟨h1, List.mem_range.1 ht, h2, hk⟩
    | loop => rw [hk] at hx; cases hx
    | other => rw [hk] at hx; cases hx
  · rintro ⟨h1, h2, h3, h4⟩
    exact ⟨x.2, List.mem_range.2 h2, by rw [h4]⟩
theorem OL_distinct {K : Nat → Kn} {n : Nat} (h1 : Ok1 K n) (h2 : Ok2 K n) : (OL K n).Pairwise fun x y => x.1 ≠ y.1 := by
  unfold OL
  rw [List.pairwise_filterMap]
  refine List.Pairwise.imp_of_mem (R := fun a b => a ≠ b) (fun {a b} ha hb hne x hx y hy => ?_) List.nodup_range
  rw [List.mem_range] at ha hb
  have key : ∀ t x, t < n → (match K t with | .again a => some (a, t) | _ => none) = some x → Pr K n x.1 t := by
    intro t x ht hx
    have := (mem_OL h2 x).1 (List.mem_filterMap.2 ⟨t, List.mem_range.2 ht, hx⟩)
    have e : x.2 = t := by
      cases hk : K t with
      | again a => rw [hk] at hx; simp at hx; subst hx; rfl
      | loop => rw [hk] at hx; cases hx
      | other => rw [hk] at hx; cases hx
    rwa [e] at this
  intro e
  have p := key a x ha hx
  have q := key b y hb hy
  rw [← e] at q
  obtain ⟨t, -, -, hu⟩ := h1 _ p.1 p.2.2.1
  exact hne ((hu a p).trans (hu b q).symm)
theorem strict_eq {α : Type} {key : α → Int} : ∀ (l m : List α), l.Pairwise (fun x y => key x < key y) → m.Pairwise (fun x y => key x < key y) → (∀ x, x ∈ l ↔ x ∈ m) → l = m
  | [], [], _, _, _ => rfl
  | [], y :: m, _, _, h => absurd ((h y).2 (by simp)) (by simp)
  | x :: l, [], _, _, h => absurd ((h x).1 (by simp)) (by simp)
  | x :: l, y :: m, hl, hm, h => by
    rw [List.pairwise_cons] at hl hm
    have hxy : x = y := by
      rcases List.mem_cons.1 ((h x).1 (by simp)) with e | e
      · exact e
      · rcases List.mem_cons.1 ((h y).2 (by simp)) with e' | e'
        · exact e'.symm
        · have := hl.1 _ e'; have := hm.1 _ e; omega
    subst hxy
    rw [strict_eq l m hl.2 hm.2 fun z => ?_]
    constructor
    · intro hz
      rcases List.mem_cons.1 ((h z).1 (List.mem_cons_of_mem _ hz)) with e | e
      · subst e; have := hl.1 _ hz; omega
      · exact e
    · intro hz
      rcases List.mem_cons.1 ((h z).2 (List.mem_cons_of_mem _ hz)) with e | e
      · subst e; have := hm.1 _ hz; omega
      · exact e
/-- What is told of the loops, brought into order, is what the chapter lists. -/
theorem sorted_RL {α : Type} {key : α → Int} {g : Nat × Nat → α} (hkey : ∀ x, key (g x) = (x.1 : Int)) {K : Nat → Kn} {n : Nat} (h1 : Ok1 K n) (h2 : Ok2 K n) {s : List α} (hp : s.Perm ((OL K n).map g)) (hs : s.Pairwise fun x y => key x ≤ key y) : s = (RL K n).map g := by
  refine strict_eq (key := key) s _ ?_ ?_ fun x => ?_
  · have hd : s.Pairwise fun x y => key x ≠ key y := by
      refine (hp.pairwise_iff (fun {x y} h => Ne.symm h)).2 ?_
      rw [List.pairwise_map]
      refine (OL_distinct h1 h2).imp fun {a b} h => ?_
      rw [hkey, hkey]; omega
    exact (hs.and hd).imp fun ⟨a, b⟩ => by omega
  · rw [List.pairwise_map]
    refine (RL_sorted h1).imp fun {a b} h => ?_
    rw [hkey, hkey]; omega
  · rw [hp.mem_iff, List.mem_map, List.mem_map]
    constructor
    · rintro ⟨a, ha, rfl⟩; exact ⟨a, (mem_RL a).2 ((mem_OL h2 a).1 ha), rfl⟩
    · rintro ⟨a, ha, rfl⟩; exact ⟨a, (mem_OL h2 a).2 ((mem_RL a).1 ha), rfl⟩
def FL (K : Nat → Kn) (n f : Nat) : List Nat := (List.range n).filter fun t => decide (K t = .again f)
theorem mem_FL {K : Nat → Kn} {n f t : Nat} : t ∈ FL K n f ↔ t < n ∧ K t = .again f := by
  unfold FL; rw [List.mem_filter, List.mem_range, decide_eq_true_eq]
theorem ok1_iff {K : Nat → Kn} {n : Nat} : Ok1 K n ↔ ∀ f, f < n → K f = .loop → ∃ t, FL K n f = [t] ∧ f ≤ t := by
  constructor
  · intro h f hf hk
    obtain ⟨t, p, hl, hu⟩ := h f hf hk
    refine ⟨t, ?_, hl⟩
    have hn : (FL K n f).Nodup := List.nodup_range.sublist List.filter_sublist
    have ha : ∀ x ∈ FL K n f, x = t := fun x hx => hu x ⟨hf, (mem_FL.1 hx).1, hk, (mem_FL.1 hx).2⟩
    have hm : t ∈ FL K n f := mem_FL.2 ⟨p.2.1, p.2.2.2⟩
    cases hF : FL K n f with
    | nil => rw [hF] at hm; cases hm
    | cons a r =>
      rw [hF] at hn ha
      obtain rfl := ha a (by simp)
      cases r with
      | nil => rfl
      | cons b r =>
        obtain rfl := ha b (by simp)
        simp at hn
  · intro h f hf hk
    obtain ⟨t, e, hl⟩ := h f hf hk
    have hm := mem_FL.1 (show t ∈ FL K n f by rw [e]; simp)
    refine ⟨t, ⟨hf, hm.1, hk, hm.2⟩, hl, fun t' p => ?_⟩
    have := mem_FL.2 ⟨p.2.1, p.2.2.2⟩
    rw [e] at this
    simpa using this
end FlowPure
namespace FlowPure
/-- The library's sort, by From. -/
theorem srt32_ok (d : Array flow_Loop) : (srt32 d).toList.Perm d.toList ∧ (srt32 d).toList.Pairwise (fun x y => x.From ≤ y.From) := by
  obtain ⟨⟨h1, -, h2⟩, h3⟩ := srt32_sorts d
  refine ⟨?_, ?_⟩
  · have e1 : (srt32 d).extract 0 d.size = srt32 d := by rw [← h1]; simp
    have e2 : d.extract 0 d.size = d := by simp
    rw [e1, e2] at h2
    exact h2
  · rw [List.pairwise_iff_getElem]
    intro i j hi hj hij
    have hi' : i < (srt32 d).size := by simpa using hi
    have hj' : j < (srt32 d).size := by simpa using hj
    have := h3 i j (Nat.zero_le _) hij (by omega)
    rw [lt32, getElem!_pos (srt32 d) i hi', getElem!_pos (srt32 d) j hj'] at this
    have := of_decide_eq_false this
    simp only [Array.getElem_toList]
    omega
end FlowPure
namespace FlowPure
/-! ### loops -/
theorem runF_chk {S R : Type} {F : S → Option (S ⊕ R)} {n : Nat} {b : R} (s : Nat → S) (p : Nat → Prop) (hs : ∀ k, k < n → (∀ j, j < k → p j) → p k → runF F (s k) = runF F (s (k + 1))) (hb : ∀ k, k < n → (∀ j, j < k → p j) → ¬ p k → runF F (s k) = some b) :
    ((∀ k, k < n → p k) → runF F (s 0) = runF F (s n)) ∧ (¬ (∀ k, k < n → p k) → runF F (s 0) = some b) := by
  have key : ∀ m, m ≤ n → (∀ j, j < m → p j) → runF F (s 0) = runF F (s m) := by
    intro m
    induction m with
    | zero => intro _ _; rfl
    | succ m ih => intro hm hp; rw [ih (by omega) (fun j hj => hp j (by omega)), hs m (by omega) (fun j hj => hp j (by omega)) (hp m (by omega))]
  have key2 : ∀ m, m ≤ n → (∀ j, j < m → p j) ∨ runF F (s 0) = some b := by
    intro m
    induction m with
    | zero => intro _; left; intro j hj; omega
    | succ m ih =>
      intro hm
      rcases ih (by omega) with h | h
      · by_cases hp : p m
        · left; intro j hj
          by_cases e : j = m
          · subst e; exact hp
          · exact h j (by omega)
        · right; rw [key m (by omega) h, hb m (by omega) h hp]
      · right; exact h
  refine ⟨key n (Nat.le_refl _), fun h => ?_⟩
  rcases key2 n (Nat.le_refl _) with h' | h'
  · exact absurd h' h
  · exact h'
theorem runF_scan {S R : Type} {F : S → Option (S ⊕ R)} {n : Nat} {b : R} {a : Nat → R} (s : Nat → S) (p : Nat → Bool) (hs : ∀ k, k < n → F (s k) = some (if p k then .inr (a k) else .inl (s (k + 1)))) (hb : F (s n) = some (.inr b)) :
    ∃ r, runF F (s 0) = some r ∧ ((∃ k, k < n ∧ p k = true ∧ r = a k) ∨ ((∀ k, k < n → p k = false) ∧ r = b)) := by
  have key : ∀ m k, k + m = n → (∀ j, j < k → p j = false) → ∃ r, runF F (s k) = some r ∧ ((∃ k, k < n ∧ p k = true ∧ r = a k) ∨ ((∀ k, k < n → p k = false) ∧ r = b)) := by
    intro m
    induction m with
    | zero => intro k e h; obtain rfl : k = n := by omega
              exact ⟨b, runF_end hb, .inr ⟨h, rfl⟩⟩
    | succ m ih =>
      intro k e h
      have hk := hs k (by omega)
      cases hp : p k with
      | true => rw [hp] at hk; exact ⟨a k, runF_end hk, .inl ⟨k, by omega, hp, rfl⟩⟩
      | false =>
        rw [hp] at hk
        rw [runF_step hk]
        refine ih (k + 1) (by omega) fun j hj => ?_
        by_cases e : j = k
        · subst e; exact hp
        · exact h j (by omega)
  exact key n 0 (by omega) (fun j hj => by omega)
theorem wrap_pred (k : Nat) (h : 0 < k) (h2 : k < 4611686018427387904) : IntKind.i64.wrap ((k : Int) - 1) = ((k - 1 : Nat) : Int) := by
  rw [wrap_id (by omega) (by omega)]; omega
theorem elt_int {α : Type} {xs : List α} {i : Int} (h0 : 0 ≤ i) (h : i.toNat < xs.length) : elt xs i = some xs[i.toNat] := by
  unfold elt; rw [if_pos h0, List.getElem?_eq_getElem h]

/-! ### instructions -/
theorem wf_op {i : api_Instr} (h : wf_api_Instr i) : 0 ≤ i.Op ∧ i.Op < 256 := by
  have := h.1
  simp [Lit.wf, IntKind.min, IntKind.max, IntKind.signed, IntKind.bits] at this
  omega
theorem bounds_some (n : Fin 256) : (op_Bounds.f (n.1 : Int)).isSome = true := by
  revert n; decide +kernel
theorem bounds_op {x : Int} (h0 : 0 ≤ x) (h1 : x < 256) : ∃ b, op_Bounds.f x = some b := by
  obtain ⟨n, rfl⟩ := Int.eq_ofNat_of_zero_le h0
  exact Option.isSome_iff_exists.1 (bounds_some ⟨n, by omega⟩)
def may (i : api_Instr) : Bool := match op_Bounds.f i.Op with
  | some b => ((decide (i.A ≥ b.1)) && (decide (i.A ≤ b.2))) && (decide (i.B = 0))
  | none => false
theorem op_may {i : api_Instr} (h : wf_api_Instr i) : op_May.f i = some (may i) := by
  obtain ⟨h0, h1⟩ := wf_op h
  obtain ⟨b, hb⟩ := bounds_op h0 h1
  unfold op_May.f may
  rw [hb]; rfl
theorem may_place {i : api_Instr} (h : may i = true) (ho : i.Op = 26 ∨ i.Op = 27 ∨ i.Op = 29) : 0 ≤ i.A ∧ i.A ≤ 199 ∧ i.B = 0 := by
  unfold may at h
  have e : op_Bounds.f i.Op = some (0, 199) := by rcases ho with e | e | e <;> rw [e] <;> decide +kernel
  rw [e] at h
  simp at h; omega
theorem may_turns {i : api_Instr} (h : may i = true) (ho : i.Op = 28) : 1 ≤ i.A ∧ i.A ≤ 100 ∧ i.B = 0 := by
  unfold may at h
  have e : op_Bounds.f i.Op = some (1, 100) := by rw [ho]; decide +kernel
  rw [e] at h
  simp at h; omega
theorem contains_may {l : List api_Instr} (hl : l.length < 4611686018427387904) (hw : ∀ x ∈ l, wf_api_Instr x) : slices_ContainsFunc_api_Instr_api_Instr_s1.f l = some (l.any fun x => !may x) := by
  unfold slices_ContainsFunc_api_Instr_api_Instr_s1.f slices_IndexFunc_api_Instr_api_Instr_s1.f
  rw [runF_step (t := .l1 ((0 : Nat) : Int)) rfl]
  obtain ⟨r, hr, hc⟩ := runF_scan (F := slices_IndexFunc_api_Instr_api_Instr_s1.F l) (n := l.length) (b := -1) (a := fun k => (k : Int)) (fun k => .l1 (k : Int)) (fun k => if h : k < l.length then !may l[k] else false) (fun k hk => by
    dsimp only [slices_IndexFunc_api_Instr_api_Instr_s1.F]
    rw [if_pos (by omega), elt_lt hk]
    simp only [Option.bind_some]
    unfold flow_Loops_1.f
    rw [op_may (hw _ (List.getElem_mem hk))]
    simp only [Option.bind_some, dif_pos hk, wrap_succ k (by omega)]
    cases may l[k] <;> rfl) (by dsimp only [slices_IndexFunc_api_Instr_api_Instr_s1.F]; rw [if_neg (by omega)])
  rw [hr]
  simp only [Option.bind_some]
  congr 1
  rw [Bool.eq_iff_iff]
  simp only [decide_eq_true_eq, List.any_eq_true]
  rcases hc with ⟨k, hk, hp, rfl⟩ | ⟨hn, rfl⟩
  · rw [dif_pos hk] at hp
    exact ⟨fun _ => ⟨_, List.getElem_mem hk, hp⟩, fun _ => by omega⟩
  · refine ⟨fun h => by omega, fun ⟨x, hx, hp⟩ => ?_⟩
    obtain ⟨k, hk, rfl⟩ := List.mem_iff_getElem.1 hx
    have := hn k hk
    rw [dif_pos hk, hp] at this; cases this
end FlowPure
namespace FlowPure
/-! ### the code's loops -/
def KK (l : List api_Instr) (k : Nat) : Kn := match l[k]? with
  | some x => if x.Op = 28 then .loop else if x.Op = 29 then .again x.A.toNat else .other
  | none => .other
def turns (l : List api_Instr) (k : Nat) : Int := (l.getD k api_Instr.zero).A
def gF (l : List api_Instr) (x : Nat × Nat) : flow_Loop := ⟨x.1, x.2, turns l x.1⟩
def arr (K : Nat → Kn) : Nat → List Int
  | 0 => List.replicate 4 0
  | i + 1 => match K i with
    | .loop => (arr K i).set (opn K i).length i
    | _ => arr K i
theorem arr_succ (K : Nat → Kn) (i : Nat) : arr K (i + 1) = match K i with
    | .loop => (arr K i).set (opn K i).length i
    | _ => arr K i := rfl
theorem opn_succ (K : Nat → Kn) (i : Nat) : opn K (i + 1) = match K i with
    | .loop => i :: opn K i
    | .again _ => (opn K i).tail
    | .other => opn K i := rfl
theorem take_set {α : Type} {v : α} : ∀ (a : List α) (m : Nat), m < a.length → (a.set m v).take (m + 1) = a.take m ++ [v]
  | [], m, h => by simp at h
  | x :: a, 0, h => by simp
  | x :: a, m + 1, h => by
    have := take_set (v := v) a m (by simpa using h)
    simp only [List.set_cons_succ, List.take_succ_cons, this, List.cons_append]
theorem arr_len (K : Nat → Kn) : ∀ i, (arr K i).length = 4
  | 0 => rfl
  | i + 1 => by unfold arr; split <;> simp [arr_len K i]
theorem arr_take (K : Nat → Kn) : ∀ (i : Nat), (∀ j, j < i → good K j) → (arr K i).take (opn K i).length = (opn K i).reverse.map fun (x : Nat) => (x : Int)
  | 0, _ => rfl
  | i + 1, hg => by
    have ih := arr_take K i (fun j hj => hg j (by omega))
    have gi := hg i (by omega)
    unfold good at gi
    rw [arr_succ, opn_succ]
    cases hk : K i with
    | loop =>
      rw [hk] at gi
      simp only at gi ⊢
      rw [List.length_cons, take_set _ _ (by rw [arr_len]; omega), ih]
      simp
    | again a =>
      rw [hk] at gi
      simp only at gi ⊢
      cases ho : opn K i with
      | nil => rw [ho] at gi; cases gi
      | cons b T =>
        rw [ho] at ih
        simp only [List.tail_cons]
        simp only [List.length_cons, List.reverse_cons, List.map_append, List.map_cons, List.map_nil] at ih
        have : (arr K i).take T.length = ((arr K i).take (T.length + 1)).take T.length := by
          rw [List.take_take]; congr 1; omega
        rw [this, ih, List.take_append_of_le_length (by simp), List.take_of_length_le (by simp)]
    | other => exact ih
theorem OL_succ (K : Nat → Kn) (i : Nat) : OL K (i + 1) = OL K i ++ (match K i with | .again a => [(a, i)] | _ => []) := by
  unfold OL
  rw [List.range_succ, List.filterMap_append]
  congr 1
  cases h : K i <;> simp [h]
theorem OL_le (K : Nat → Kn) (i : Nat) : (OL K i).length ≤ i := by
  unfold OL
  exact Nat.le_trans (List.length_filterMap_le _ _) (by simp)
theorem KK_at {l : List api_Instr} {k : Nat} (h : k < l.length) : KK l k = if l[k].Op = 28 then .loop else if l[k].Op = 29 then .again l[k].A.toNat else .other := by
  unfold KK; rw [List.getElem?_eq_getElem h]
theorem KK_lt {l : List api_Instr} {k : Nat} (h : KK l k ≠ .other) : k < l.length := by
  rcases Nat.lt_or_ge k l.length with z | z
  · exact z
  · unfold KK at h; rw [List.getElem?_eq_none z] at h; exact absurd rfl h
theorem turns_at {l : List api_Instr} {k : Nat} (h : k < l.length) : turns l k = l[k].A := by
  unfold turns; rw [List.getD_eq_getElem?_getD, List.getElem?_eq_getElem h]; rfl
theorem again_iff {l : List api_Instr} {k f : Nat} (hk : k < l.length) (hm : ∀ x ∈ l, may x = true) : KK l k = .again f ↔ (l[k].Op = 29 ∧ l[k].A = f) := by
  rw [KK_at hk]
  constructor
  · intro h
    split at h
    · cases h
    · split at h
      · rename_i h28 h29
        have := may_place (hm _ (List.getElem_mem hk)) (.inr (.inr h29))
        cases h
        exact ⟨h29, by omega⟩
      · cases h
  · rintro ⟨h29, hA⟩
    rw [if_neg (by omega), if_pos h29, hA]; rfl
theorem loop_iff {l : List api_Instr} {k : Nat} (hk : k < l.length) : KK l k = .loop ↔ l[k].Op = 28 := by
  rw [KK_at hk]
  constructor
  · intro h
    split at h
    · assumption
    · split at h <;> cases h
  · intro h; rw [if_pos h]
def RLp (K : Nat → Kn) (n m : Nat) : List (Nat × Nat) := (List.range m).flatMap fun f => if K f = .loop then (FL K n f).map fun t => (f, t) else []
theorem RLp_all (K : Nat → Kn) (n : Nat) : RLp K n n = RL K n := rfl
theorem RLp_succ (K : Nat → Kn) (n m : Nat) : RLp K n (m + 1) = RLp K n m ++ (if K m = .loop then (FL K n m).map fun t => (m, t) else []) := by
  unfold RLp
  rw [List.range_succ, List.flatMap_append]
  simp
def p1 (K : Nat → Kn) (n k : Nat) : Prop := K k = .loop → ∃ t, FL K n k = [t] ∧ k ≤ t
def p2 (K : Nat → Kn) (n k : Nat) : Prop := ∀ a, K k = .again a → a < n ∧ K a = .loop
theorem RLp_le {K : Nat → Kn} {n : Nat} : ∀ (m : Nat), (∀ j, j < m → p1 K n j) → (RLp K n m).length ≤ m
  | 0, _ => by simp [RLp]
  | m + 1, h => by
    have ih := RLp_le m (fun j hj => h j (by omega))
    rw [RLp_succ, List.length_append]
    split
    · rename_i hk
      obtain ⟨t, ht, -⟩ := h m (by omega) hk
      rw [ht]; simp; omega
    · simp; omega
theorem RL_len {l : List api_Instr} (h1 : Ok1 (KK l) l.length) : (RL (KK l) l.length).length ≤ l.length := by
  rw [← RLp_all]; exact RLp_le _ (ok1_iff.1 h1)
def st (l : List api_Instr) (k : Nat) : flow_Loops.S := .l1 (arr (KK l) k) (opn (KK l) k).length ((OL (KK l) k).map (gF l)) k
theorem loops_steps {l : List api_Instr} (hl : l.length ≤ 200) (hm : ∀ x ∈ l, may x = true) :
    ((∀ k, k < l.length → good (KK l) k) → runF (flow_Loops.F l) (st l 0) = runF (flow_Loops.F l) (st l l.length)) ∧ (¬ (∀ k, k < l.length → good (KK l) k) → runF (flow_Loops.F l) (st l 0) = some ([], 90)) := by
  refine runF_chk (F := flow_Loops.F l) (st l) (good (KK l)) (fun k hk hg hp => runF_step ?_) (fun k hk hg hp => runF_end ?_)
  all_goals
    have hkk := KK_at hk
    have m4 := (opn_mem (KK l) k hg).2.2
    have hat := arr_take (KK l) k hg
    have hal := arr_len (KK l) k
    dsimp only [st, flow_Loops.F]
    rw [if_pos (by omega), elt_lt hk]
    simp only [Option.bind_some]
  · -- goes on
    by_cases h28 : l[k].Op = 28
    · rw [if_pos h28] at hkk
      unfold good at hp
      rw [hkk] at hp
      simp only at hp
      rw [if_pos h28]
      unfold flow_open_push_s2.f
      rw [if_neg (by omega), elt_lt (by omega)]
      simp only [Option.bind_some]
      rw [if_neg (by simp)]
      unfold flow_Loops.j2
      rw [wrap_succ _ (by omega), wrap_succ _ (by omega), OL_succ, hkk]
      simp only [arr, opn, hkk, List.length_cons, Int.toNat_natCast, List.append_nil]
    · rw [if_neg h28] at hkk
      rw [if_neg h28]
      by_cases h29 : l[k].Op = 29
      · rw [if_pos h29] at hkk
        rw [if_pos h29]
        have hA := may_place (hm _ (List.getElem_mem hk)) (.inr (.inr h29))
        unfold good at hp
        rw [hkk] at hp
        simp only at hp
        cases ho : opn (KK l) k with
        | nil => rw [ho] at hp; cases hp
        | cons b T =>
          rw [ho] at hp hat m4
          simp only [List.head?_cons, Option.some.injEq] at hp
          have hb : b < k := ((opn_mem (KK l) k hg).1 b).1 (by rw [ho]; simp) |>.2.1
          have hbl : b < l.length := by omega
          have hel : elt (arr (KK l) k) (IntKind.i64.wrap (((b :: T).length : Int) - 1)) = some (b : Int) := by
            simp only [List.length_cons] at hat m4 ⊢
            rw [wrap_pred _ (by omega) (by omega), elt_nat]
            have := congrArg (fun z => z[T.length]?) hat
            simp only [List.reverse_cons, List.map_append, List.map_cons, List.map_nil] at this
            rw [List.getElem?_take_of_lt (by omega), List.getElem?_append_right (by simp)] at this
            simpa using this
          unfold flow_open_pop_s2.f
          rw [if_neg (by simp; omega), hel]
          simp only [Option.bind_some]
          have hbA : l[k].A = (b : Int) := by omega
          rw [← hp] at hkk
          unfold flow_open_pop_s2.j1
          rw [if_neg (by simp [hbA])]
          simp only [Option.bind_some, Bool.not_true, Bool.false_eq_true, if_false]
          rw [hbA, elt_lt hbl]
          simp only [Option.bind_some]
          rw [if_pos (by have := OL_le (KK l) k; simp; omega)]
          unfold flow_Loops.j2
          rw [wrap_succ _ (by omega), OL_succ, hkk]
          simp only [List.length_cons] at m4 ⊢
          rw [wrap_pred _ (by omega) (by omega)]
          simp only [arr, opn, hkk, ho, List.tail_cons, List.map_append, List.map_cons, List.map_nil, gF, turns_at hbl, Nat.add_sub_cancel]
      · rw [if_neg h29] at hkk
        rw [if_neg h29]
        unfold flow_Loops.j2
        rw [wrap_succ _ (by omega), OL_succ, hkk]
        simp only [arr, opn, hkk, List.append_nil]
  · -- stops
    by_cases h28 : l[k].Op = 28
    · rw [if_pos h28] at hkk
      unfold good at hp
      rw [hkk] at hp
      simp only at hp
      rw [if_pos h28]
      unfold flow_open_push_s2.f
      rw [if_pos (by omega)]
      rfl
    · rw [if_neg h28] at hkk
      rw [if_neg h28]
      by_cases h29 : l[k].Op = 29
      · rw [if_pos h29] at hkk
        rw [if_pos h29]
        have hA := may_place (hm _ (List.getElem_mem hk)) (.inr (.inr h29))
        unfold good at hp
        rw [hkk] at hp
        simp only at hp
        unfold flow_open_pop_s2.f
        cases ho : opn (KK l) k with
        | nil => rw [if_pos (by simp)]; rfl
        | cons b T =>
          rw [ho] at hp hat m4
          simp only [List.head?_cons, Option.some.injEq] at hp
          have hel : elt (arr (KK l) k) (IntKind.i64.wrap (((b :: T).length : Int) - 1)) = some (b : Int) := by
            simp only [List.length_cons] at hat m4 ⊢
            rw [wrap_pred _ (by omega) (by omega), elt_nat]
            have := congrArg (fun z => z[T.length]?) hat
            simp only [List.reverse_cons, List.map_append, List.map_cons, List.map_nil] at this
            rw [List.getElem?_take_of_lt (by omega), List.getElem?_append_right (by simp)] at this
            simpa using this
          rw [if_neg (by simp; omega), hel]
          simp only [Option.bind_some]
          unfold flow_open_pop_s2.j1
          rw [if_pos (by simp; omega)]
          rfl
      · rw [if_neg h29] at hkk
        unfold good at hp
        rw [hkk] at hp
        exact absurd trivial hp
end FlowPure
namespace FlowPure
def hasB (x : flow_Loop) (a : Int) : Bool := (decide (a > x.From)) && (decide (a ≤ x.To))
theorem hasB_iff {x : flow_Loop} {a : Int} : hasB x a = true ↔ x.From < a ∧ a ≤ x.To := by
  unfold hasB; rw [Bool.and_eq_true, decide_eq_true_eq, decide_eq_true_eq]
theorem hasB_no {x : flow_Loop} {a : Int} : hasB x a = false ↔ ¬ (x.From < a ∧ a ≤ x.To) := by
  rw [← hasB_iff, Bool.not_eq_true]
theorem contains_into {s : List flow_Loop} {a b c d : Int} (hl : s.length < 4611686018427387904) : slices_ContainsFunc_flow_Loop_flow_Loop_s1.f s a b c d = some (s.any fun x => hasB x b && !hasB x d) := by
  unfold slices_ContainsFunc_flow_Loop_flow_Loop_s1.f slices_IndexFunc_flow_Loop_flow_Loop_s1.f
  rw [runF_step (t := .l1 ((0 : Nat) : Int)) rfl]
  obtain ⟨r, hr, hc⟩ := runF_scan (F := slices_IndexFunc_flow_Loop_flow_Loop_s1.F s a b c d) (n := s.length) (b := -1) (a := fun k => (k : Int)) (fun k => .l1 (k : Int)) (fun k => if h : k < s.length then hasB s[k] b && !hasB s[k] d else false) (fun k hk => by
    dsimp only [slices_IndexFunc_flow_Loop_flow_Loop_s1.F]
    rw [if_pos (by omega), elt_lt hk]
    simp only [Option.bind_some]
    have : flow_jumps_1_s1.f s[k] a b c d = some (hasB s[k] b && !hasB s[k] d) := by
      unfold flow_jumps_1_s1.f flow_Loop_has.f
      simp only [Option.bind_some]
      show ((if hasB s[k] b = true then some (!hasB s[k] d) else some false).bind fun t15 => some t15) = _
      cases hasB s[k] b <;> rfl
    rw [this]
    simp only [Option.bind_some, dif_pos hk, wrap_succ k (by omega)]
    cases hasB s[k] b && !hasB s[k] d <;> rfl) (by dsimp only [slices_IndexFunc_flow_Loop_flow_Loop_s1.F]; rw [if_neg (by omega)])
  rw [hr]
  simp only [Option.bind_some]
  congr 1
  rw [Bool.eq_iff_iff]
  simp only [decide_eq_true_eq]
  rw [List.any_eq_true]
  rcases hc with ⟨k, hk, hp, rfl⟩ | ⟨hn, rfl⟩
  · rw [dif_pos hk] at hp
    exact ⟨fun _ => ⟨_, List.getElem_mem hk, hp⟩, fun _ => by omega⟩
  · refine ⟨fun h => by omega, fun ⟨x, hx, hp⟩ => ?_⟩
    obtain ⟨k, hk, rfl⟩ := List.mem_iff_getElem.1 hx
    have := hn k hk
    rw [dif_pos hk] at this
    rw [this] at hp; cases hp
/-- A place's jump is well. -/
def Jk (l : List api_Instr) (R : Nat × Nat → Prop) (k : Nat) : Prop := ∀ x, l[k]? = some x → (x.Op = 26 ∨ x.Op = 27) → (k : Int) < x.A ∧ x.A < l.length ∧ ∀ y, R y → (y.1 : Int) < x.A → x.A ≤ y.2 → y.1 < k ∧ k ≤ y.2
def Jm (l : List api_Instr) (R : Nat × Nat → Prop) : Prop := ∀ k, k < l.length → Jk l R k
theorem prog_jumps {l : List api_Instr} {O : List (Nat × Nat)} {R : Nat × Nat → Prop} (hl : l.length ≤ 200) (ho : O.length ≤ 200) (hR : ∀ x, x ∈ O ↔ R x) :
    (Jm l R → flow_jumps.f l (O.map (gF l)) = some true) ∧ (¬ Jm l R → flow_jumps.f l (O.map (gF l)) = some false) := by
  unfold flow_jumps.f
  rw [runF_step (t := .l1 ((0 : Nat) : Int)) rfl]
  have val : ∀ k (hk : k < l.length), (l[k].Op = 26 ∨ l[k].Op = 27) → (((if ((decide (l[k].A ≤ (k : Int))) || (decide (l[k].A ≥ (l.length : Int)))) = true then (some true) else ((slices_ContainsFunc_flow_Loop_flow_Loop_s1.f (O.map (gF l)) l[k].Op l[k].A l[k].B k).bind fun t49 => some t49)) = some true ∧ ¬ Jk l R k) ∨ ((if ((decide (l[k].A ≤ (k : Int))) || (decide (l[k].A ≥ (l.length : Int)))) = true then (some true) else ((slices_ContainsFunc_flow_Loop_flow_Loop_s1.f (O.map (gF l)) l[k].Op l[k].A l[k].B k).bind fun t49 => some t49)) = some false ∧ Jk l R k)) := by
    intro k hk hop
    by_cases hA : l[k].A ≤ (k : Int) ∨ l[k].A ≥ (l.length : Int)
    · left
      rw [if_pos (by simpa using hA)]
      refine ⟨rfl, fun h => ?_⟩
      have := h l[k] (List.getElem?_eq_getElem hk) hop
      omega
    · rw [if_neg (by simpa using hA), contains_into (by simp; omega)]
      simp only [Option.bind_some]
      cases hb : (O.map (gF l)).any fun x => hasB x l[k].A && !hasB x (k : Int) with
      | true =>
        left
        refine ⟨rfl, fun h => ?_⟩
        rw [List.any_eq_true] at hb
        obtain ⟨z, hz, hb⟩ := hb
        rw [List.mem_map] at hz
        obtain ⟨y, hy, rfl⟩ := hz
        have := (h l[k] (List.getElem?_eq_getElem hk) hop).2.2 y ((hR y).1 hy)
        rw [Bool.and_eq_true, Bool.not_eq_true', hasB_iff, hasB_no] at hb
        dsimp only [gF] at hb
        omega
      | false =>
        right
        refine ⟨rfl, fun x hx _ => ?_⟩
        rw [List.getElem?_eq_getElem hk] at hx
        cases hx
        refine ⟨by omega, by omega, fun y hy h1 h2 => ?_⟩
        have := List.any_eq_false.1 hb _ (List.mem_map_of_mem (f := gF l) ((hR y).2 hy))
        rw [Bool.and_eq_true, Bool.not_eq_true', hasB_iff, hasB_no] at this
        dsimp only [gF] at this
        omega
  have key := runF_chk (F := flow_jumps.F l (O.map (gF l))) (n := l.length) (b := false) (fun k => .l1 (k : Int)) (Jk l R) (fun k hk _ hp => runF_step (by
    dsimp only [flow_jumps.F]
    rw [if_pos (by omega), elt_lt hk]
    simp only [Option.bind_some]
    unfold flow_jumps.j1
    rw [wrap_succ k (by omega)]
    by_cases hop : l[k].Op = 26 ∨ l[k].Op = 27
    · rw [if_neg (by simp; omega)]
      rcases val k hk hop with ⟨-, h⟩ | ⟨h, -⟩
      · exact absurd hp h
      · rw [h]; rfl
    · rw [if_pos (by simp; omega)])) (fun k hk _ hp => runF_end (by
    dsimp only [flow_jumps.F]
    rw [if_pos (by omega), elt_lt hk]
    simp only [Option.bind_some]
    by_cases hop : l[k].Op = 26 ∨ l[k].Op = 27
    · rw [if_neg (by simp; omega)]
      rcases val k hk hop with ⟨h, -⟩ | ⟨-, h⟩
      · rw [h]; rfl
      · exact absurd h hp
    · refine absurd (fun x hx h => absurd h ?_) hp
      rw [List.getElem?_eq_getElem hk] at hx
      cases hx; exact hop))
  refine ⟨fun h => ?_, fun h => key.2 h⟩
  refine (key.1 h).trans (runF_end ?_)
  dsimp only [flow_jumps.F]
  rw [if_neg (by omega)]
def lastOk (l : List api_Instr) : Prop := ∀ x, l[l.length - 1]? = some x → x.Op = 31 ∨ x.Op = 32
def Known (l : List api_Instr) : Prop := 1 ≤ l.length ∧ l.length ≤ 200 ∧ ∀ x ∈ l, may x = true
def Fine (l : List api_Instr) : Prop := Run (KK l) l.length ∧ lastOk l ∧ Jm l fun x => Pr (KK l) l.length x.1 x.2
theorem OL_RL {K : Nat → Kn} {n : Nat} (h : Run K n) : (OL K n).length = (RL K n).length := by
  obtain ⟨h1, h2⟩ := run_pairs h
  have a : ((OL K n).map (·.1)).Nodup := by
    show List.Pairwise _ _
    rw [List.pairwise_map]; exact OL_distinct h1 h2
  have b := RL_nodup h1
  refine Nat.le_antisymm ?_ ?_
  · have := nodup_len _ ((RL K n).map (·.1)) a (fun x hx => by
      rw [List.mem_map] at hx ⊢
      obtain ⟨y, hy, rfl⟩ := hx
      exact ⟨y, (mem_RL y).2 ((mem_OL h2 y).1 hy), rfl⟩)
    simpa using this
  · have := nodup_len _ ((OL K n).map (·.1)) b (fun x hx => by
      rw [List.mem_map] at hx ⊢
      obtain ⟨y, hy, rfl⟩ := hx
      exact ⟨y, (mem_OL h2 y).2 ((mem_RL y).1 hy), rfl⟩)
    simpa using this
theorem prog_loops {l : List api_Instr} (hlen : l.length < 4611686018427387904) (hw : ∀ x ∈ l, wf_api_Instr x) :
    (¬ Known l → flow_Loops.f l = some ([], 40)) ∧ (Known l → Fine l → flow_Loops.f l = some ((RL (KK l) l.length).map (gF l), 0)) ∧ (Known l → ¬ Fine l → flow_Loops.f l = some ([], 90)) := by
  unfold flow_Loops.f
  refine ⟨fun hk => runF_end ?_, ?_⟩
  · dsimp only [flow_Loops.F]
    by_cases hn : l.length = 0 ∨ l.length > 200
    · rw [if_pos (by rw [Bool.or_eq_true, decide_eq_true_eq, decide_eq_true_eq]; omega)]; rfl
    · rw [if_neg (by rw [Bool.or_eq_true, decide_eq_true_eq, decide_eq_true_eq]; omega), contains_may hlen hw]
      have : (l.any fun x => !may x) = true := by
        refine Classical.byContradiction fun hc => hk ⟨by omega, by omega, fun x hx => ?_⟩
        have := List.any_eq_false.1 (Bool.eq_false_iff.2 hc) x hx
        simpa using this
      rw [this]; rfl
  suffices hs : Known l → (Fine l → runF (flow_Loops.F l) .start = some ((RL (KK l) l.length).map (gF l), 0)) ∧ (¬ Fine l → runF (flow_Loops.F l) .start = some ([], 90)) from ⟨fun a b => (hs a).1 b, fun a b => (hs a).2 b⟩
  rintro ⟨n1, n2, hm⟩
  have e0 : runF (flow_Loops.F l) .start = runF (flow_Loops.F l) (st l 0) := runF_step (by
    dsimp only [flow_Loops.F]
    rw [if_neg (by rw [Bool.or_eq_true, decide_eq_true_eq, decide_eq_true_eq]; omega), contains_may hlen hw]
    have : (l.any fun x => !may x) = false := by
      rw [List.any_eq_false]; intro x hx; simp [hm x hx]
    rw [this]; rfl)
  rw [e0]
  obtain ⟨h1, h2⟩ := loops_steps n2 hm
  by_cases hg : ∀ k, k < l.length → good (KK l) k
  case neg => exact ⟨fun h => absurd h.1.1 hg, fun _ => h2 hg⟩
  rw [h1 hg]
  have hlast : l.length - 1 < l.length := by omega
  have wl : IntKind.i64.wrap ((l.length : Int) - 1) = ((l.length - 1 : Nat) : Int) := wrap_pred _ (by omega) (by omega)
  have m4 := (opn_mem (KK l) l.length hg).2.2
  have e1 : flow_Loops.F l (st l l.length) = ((if ((opn (KK l) l.length).length : Int) > 0 then (some true) else some (!((decide (l[l.length - 1].Op = 31)) || (decide (l[l.length - 1].Op = 32))))).bind fun t92 => (if t92 = true then (some true) else ((flow_jumps.f l ((OL (KK l) l.length).map (gF l))).bind fun t95 => some (!t95))).bind fun t96 => if t96 = true then (flow_Loops.j1 l) else (some (.inr ((srt32 ((OL (KK l) l.length).map (gF l)).toArray).toList, 0)))) := by
    dsimp only [flow_Loops.F, st]
    rw [if_neg (by omega), wl, elt_lt hlast, if_pos (show ((OL (KK l) l.length).map (gF l)).length < 4611686018427387904 by have := OL_le (KK l) l.length; simp; omega)]
    simp only [Option.bind_some, flow_last.f]
  have lasteq : lastOk l ↔ (l[l.length - 1].Op = 31 ∨ l[l.length - 1].Op = 32) := by
    unfold lastOk
    constructor
    · intro h; exact h _ (List.getElem?_eq_getElem hlast)
    · intro h x hx; rw [List.getElem?_eq_getElem hlast] at hx; cases hx; exact h
  by_cases hS : opn (KK l) l.length = []
  case neg =>
    refine ⟨fun h => absurd h.1.2 hS, fun _ => runF_end ?_⟩
    rw [e1, if_pos (by cases ho : opn (KK l) l.length with | nil => exact absurd ho hS | cons => simp)]
    rfl
  have hrun : Run (KK l) l.length := ⟨hg, hS⟩
  obtain ⟨o1, o2⟩ := run_pairs hrun
  rw [hS] at e1
  rw [if_neg (by simp)] at e1
  simp only [Option.bind_some] at e1
  by_cases hL : lastOk l
  case neg =>
    refine ⟨fun h => absurd h.2.1 hL, fun _ => runF_end ?_⟩
    rw [e1, if_pos (by have := mt lasteq.2 hL; simp; omega)]
    rfl
  rw [if_neg (by have := lasteq.1 hL; simp; omega)] at e1
  obtain ⟨j1, j2⟩ := prog_jumps (R := fun x => Pr (KK l) l.length x.1 x.2) n2 (Nat.le_trans (OL_le _ _) n2) (mem_OL o2)
  by_cases hJ : Jm l fun x => Pr (KK l) l.length x.1 x.2
  · refine ⟨fun _ => runF_end ?_, fun h => absurd ⟨hrun, hL, hJ⟩ h⟩
    rw [e1, j1 hJ]
    simp only [Option.bind_some, Bool.not_true, Bool.false_eq_true, if_false]
    obtain ⟨sp, ss⟩ := srt32_ok ((OL (KK l) l.length).map (gF l)).toArray
    rw [sorted_RL (key := fun x : flow_Loop => x.From) (g := gF l) (fun _ => rfl) o1 o2 sp ss]
  · refine ⟨fun h => absurd h.2.2 hJ, fun _ => runF_end ?_⟩
    rw [e1, j2 hJ]
    rfl
end FlowPure
namespace FlowPure
/-! ### how often -/
def tm (l : List api_Instr) (R : List (Nat × Nat)) (a : Nat) : Int := R.foldl (fun n x => if x.1 < a ∧ a ≤ x.2 then IntKind.i64.wrap (n * turns l x.1) else n) 1
theorem tm_snoc (l : List api_Instr) (R : List (Nat × Nat)) (x : Nat × Nat) (a : Nat) : tm l (R ++ [x]) a = if x.1 < a ∧ a ≤ x.2 then IntKind.i64.wrap (tm l R a * turns l x.1) else tm l R a := by
  unfold tm; rw [List.foldl_append]; rfl
def tms (l : List api_Instr) : List Int := (List.range l.length).map fun a => tm l (RL (KK l) l.length) a
theorem map_range_set {g : Nat → Int} {n m : Nat} {v : Int} : ((List.range n).map g).set m v = (List.range n).map fun a => if a = m then v else g a := by
  apply List.ext_getElem?
  intro i
  rw [List.getElem?_set]
  by_cases h : m = i
  · subst h
    rw [if_pos rfl]
    by_cases hm : m < n
    · rw [if_pos (by simpa using hm)]; simp [hm]
    · rw [if_neg (by simpa using hm)]; simp [hm]
  · rw [if_neg h]
    by_cases hm : i < n
    · simp [hm, Ne.symm h]
    · simp [hm]
theorem repeat_one {n : Nat} (h1 : 1 ≤ n) (h2 : n ≤ 200) : slices_Repeat_int_int.f [1] n = some (List.replicate n 1) := by
  unfold slices_Repeat_int_int.f
  have wu : IntKind.u64.wrap (n : Int) = n := by
    simp only [IntKind.wrap, IntKind.bits, IntKind.signed]; simp; omega
  have w1 : IntKind.u64.wrap ((([1] : List Int).length : Nat) : Int) = 1 := by
    simp [IntKind.wrap, IntKind.bits, IntKind.signed]
  have hs : slices_Repeat_int_int.F [1] n .start = some (.inl (.l1 (List.replicate 1 1 ++ List.replicate (n - 1) 0) ((1 : Nat) : Int))) := by
    dsimp only [slices_Repeat_int_int.F]
    rw [if_neg (by omega)]
    unfold slices_Repeat_int_int.j1 math_bits_Mul.f
    rw [w1, wu, if_pos (by omega)]
    simp only [Option.bind_some]
    have e1 : (1 * (n : Int) / 18446744073709551616) = 0 := by omega
    have e2 : (1 * (n : Int) % 18446744073709551616) = n := by omega
    rw [e1, e2, if_neg (by rw [Bool.or_eq_true, decide_eq_true_eq, decide_eq_true_eq]; omega)]
    unfold slices_Repeat_int_int.j2
    dsimp only
    rw [wrap_id (by omega) (by omega), if_pos (by omega)]
    have e3 : ((n : Int)).toNat = n := rfl
    rw [e3]
    obtain ⟨m, rfl⟩ : ∃ m, n = m + 1 := ⟨n - 1, by omega⟩
    simp [List.replicate_succ]
  rw [runF_step hs]
  have key : ∀ d x, 1 ≤ x → x + d = n → runF (slices_Repeat_int_int.F [1] n) (.l1 (List.replicate x 1 ++ List.replicate (n - x) 0) (x : Int)) = some (List.replicate n 1) := by
    intro d
    induction d using Nat.strongRecOn with
    | ind d ih =>
      intro x hx hd
      by_cases hz : d = 0
      · subst hz
        obtain rfl : x = n := by omega
        refine runF_end ?_
        dsimp only [slices_Repeat_int_int.F]
        rw [if_neg (by simp)]
        simp
      · have hlen : (List.replicate x (1 : Int) ++ List.replicate (n - x) 0).length = n := by simp; omega
        rw [runF_step (t := .l1 (List.replicate (x + min x (n - x)) 1 ++ List.replicate (n - (x + min x (n - x))) 0) ((x + min x (n - x) : Nat) : Int)) ?_]
        · exact ih (n - (x + min x (n - x))) (by omega) _ (by omega) (by omega)
        · dsimp only [slices_Repeat_int_int.F]
          rw [hlen, if_pos (by omega), if_pos (by omega), if_pos (by omega)]
          have e3 : ((x : Int)).toNat = x := rfl
          rw [e3, wrap_id (by omega) (by omega)]
          have hc : min x (n - x) ≤ x := Nat.min_le_left _ _
          have hc2 : min x (n - x) ≤ n - x := Nat.min_le_right _ _
          generalize min x (n - x) = c at hc hc2 ⊢
          have t1 : (List.replicate x (1 : Int) ++ List.replicate (n - x) 0).take x = List.replicate x 1 := by
            rw [List.take_append_of_le_length (by simp)]; simp
          have t2 : (List.replicate x (1 : Int) ++ List.replicate (n - x) 0).take c = List.replicate c 1 := by
            rw [List.take_append_of_le_length (by simp; omega)]; simp; omega
          have t3 : (List.replicate x (1 : Int) ++ List.replicate (n - x) 0).drop (x + c) = List.replicate (n - (x + c)) 0 := by
            rw [List.drop_append]; simp; omega
          rw [t1, t2, t3, List.replicate_append_replicate]
          rfl
  exact key (n - 1) 1 (by omega) (by omega)
theorem prog_times {l : List api_Instr} (hlen : l.length < 4611686018427387904) (hw : ∀ x ∈ l, wf_api_Instr x) :
    (¬ Known l → flow_Times.f l = some ([], 40)) ∧ (Known l → Fine l → flow_Times.f l = some (tms l, 0)) ∧ (Known l → ¬ Fine l → flow_Times.f l = some ([], 90)) := by
  obtain ⟨a1, a2, a3⟩ := prog_loops hlen hw
  unfold flow_Times.f
  refine ⟨fun h => runF_end ?_, fun h hf => ?_, fun h hf => runF_end ?_⟩
  · dsimp only [flow_Times.F]; rw [a1 h]; rfl
  · obtain ⟨o1, o2⟩ := run_pairs hf.1
    have hR := RL_len o1
    obtain ⟨n1, n2, hm⟩ := h
    rw [runF_step (t := .l1 ((RL (KK l) l.length).map (gF l), 0) (List.replicate l.length 1) ((0 : Nat) : Int)) (by
      dsimp only [flow_Times.F]
      rw [a2 ⟨n1, n2, hm⟩ hf]
      simp only [Option.bind_some]
      rw [if_neg (by simp), repeat_one n1 n2]; rfl)]
    have key := runF_chk (F := flow_Times.F l) (n := (RL (KK l) l.length).length) (b := ([], 0)) (fun q => .l1 ((RL (KK l) l.length).map (gF l), 0) ((List.range l.length).map fun a => tm l ((RL (KK l) l.length).take q) a) (q : Int)) (fun _ => True) (fun q hq _ _ => by
      have hp := (mem_RL _).1 (List.getElem_mem hq)
      obtain ⟨t0, h0, hle, hu⟩ := o1 _ hp.1 hp.2.2.1
      have := hu _ hp
      have e : elt ((RL (KK l) l.length).map (gF l)) (q : Int) = some (gF l (RL (KK l) l.length)[q]) := by rw [elt_lt (by simpa using hq), List.getElem_map]
      generalize hx : (RL (KK l) l.length)[q] = x at hp h0 hle hu this e
      have htl : x.2 < l.length := hp.2.1
      rw [runF_step (t := .l2 ((RL (KK l) l.length).map (gF l), 0) q (gF l x) ((List.range l.length).map fun a => tm l ((RL (KK l) l.length).take q) a) ((x.1 + 1 : Nat) : Int)) (by
        dsimp only [flow_Times.F]
        rw [if_pos (by simp; omega), e]
        simp only [Option.bind_some]
        have : IntKind.i64.wrap ((gF l x).From + 1) = ((x.1 + 1 : Nat) : Int) := wrap_succ x.1 (by omega)
        rw [this])]
      have inner := runF_up (F := flow_Times.F l) (n := x.2 - x.1) (fun j => .l2 ((RL (KK l) l.length).map (gF l), 0) q (gF l x) ((List.range l.length).map fun a => if x.1 < a ∧ a < x.1 + 1 + j then IntKind.i64.wrap (tm l ((RL (KK l) l.length).take q) a * turns l x.1) else tm l ((RL (KK l) l.length).take q) a) ((x.1 + 1 + j : Nat) : Int)) (fun j hj => by
        have e2 : elt ((List.range l.length).map fun a => if x.1 < a ∧ a < x.1 + 1 + j then IntKind.i64.wrap (tm l ((RL (KK l) l.length).take q) a * turns l x.1) else tm l ((RL (KK l) l.length).take q) a) ((x.1 + 1 + j : Nat) : Int) = some (tm l ((RL (KK l) l.length).take q) (x.1 + 1 + j)) := by
          rw [elt_lt (by simp; omega)]
          simp
        dsimp only [flow_Times.F]
        rw [if_pos (by dsimp only [gF]; omega), e2]
        simp only [Option.bind_some]
        have e3 : ((x.1 + 1 + j : Nat) : Int).toNat = x.1 + 1 + j := rfl
        rw [wrap_succ _ (by omega), e3, map_range_set]
        refine congrArg some (congrArg Sum.inl ?_)
        have : ∀ (u v : List Int), u = v → (flow_Times.S.l2 ((RL (KK l) l.length).map (gF l), 0) (q : Int) (gF l x) u ((x.1 + 1 + j + 1 : Nat) : Int)) = .l2 ((RL (KK l) l.length).map (gF l), 0) (q : Int) (gF l x) v ((x.1 + 1 + (j + 1) : Nat) : Int) := by
          rintro u v rfl; rfl
        refine this _ _ (List.map_congr_left fun a ha => ?_)
        by_cases hz : a = x.1 + 1 + j
        · subst hz
          rw [if_pos rfl, if_pos (by omega)]; rfl
        · rw [if_neg hz]
          by_cases hz2 : x.1 < a ∧ a < x.1 + 1 + j
          · rw [if_pos hz2, if_pos (by omega)]
          · rw [if_neg hz2, if_neg (by omega)])
      have i0 : ((List.range l.length).map fun a => tm l ((RL (KK l) l.length).take q) a) = (List.range l.length).map fun a => if x.1 < a ∧ a < x.1 + 1 + 0 then IntKind.i64.wrap (tm l ((RL (KK l) l.length).take q) a * turns l x.1) else tm l ((RL (KK l) l.length).take q) a := by
        refine List.map_congr_left fun a _ => ?_
        rw [if_neg (by omega)]
      rw [i0]
      refine inner.trans (runF_step ?_)
      dsimp only [flow_Times.F]
      rw [if_neg (by dsimp only [gF]; omega), wrap_succ _ (by omega)]
      refine congrArg some (congrArg Sum.inl ?_)
      have : ∀ (u v : List Int), u = v → (flow_Times.S.l1 ((RL (KK l) l.length).map (gF l), 0) u ((q + 1 : Nat) : Int)) = .l1 ((RL (KK l) l.length).map (gF l), 0) v ((q + 1 : Nat) : Int) := by
        rintro u v rfl; rfl
      refine this _ _ (List.map_congr_left fun a ha => ?_)
      rw [take_succ _ _ hq, tm_snoc, hx]
      by_cases hz : x.1 < a ∧ a ≤ x.2
      · rw [if_pos hz, if_pos (by omega)]
      · rw [if_neg hz, if_neg (by omega)]) (fun q _ _ h => absurd trivial h)
    have e0 : List.replicate l.length (1 : Int) = (List.range l.length).map fun a => tm l ((RL (KK l) l.length).take 0) a := by
      apply List.ext_getElem?
      intro i
      by_cases hi : i < l.length
      · simp [hi, tm]
      · simp [hi]
    rw [e0]
    refine (key.1 fun _ _ => trivial).trans (runF_end ?_)
    dsimp only [flow_Times.F]
    rw [if_neg (by simp), List.take_length]; rfl
  · dsimp only [flow_Times.F]; rw [a3 h hf]; rfl
end FlowPure
namespace FlowPure
/-! ### ways -/
theorem ms2 (x y : Int) : ([x, y].mergeSort fun x y => decide (x ≤ y)) = if x ≤ y then [x, y] else [y, x] := by
  by_cases h : x ≤ y
  · rw [if_pos h]
    exact List.mergeSort_of_pairwise (by simp [h])
  · rw [if_neg h]
    have hp : [x, y].mergeSort (fun x y => decide (x ≤ y)) = [y, x].mergeSort (fun x y => decide (x ≤ y)) := by
      have p1 := (List.mergeSort_perm [x, y] fun x y => decide (x ≤ y)).trans ((List.Perm.swap y x []).trans (List.mergeSort_perm [y, x] fun x y => decide (x ≤ y)).symm)
      refine List.Perm.eq_of_pairwise (le := fun a b => a ≤ b) (fun a b _ _ h1 h2 => Int.le_antisymm h1 h2) ?_ ?_ p1
      · exact (List.pairwise_mergeSort (le := fun x y => decide (x ≤ y)) (fun a b c h1 h2 => by simp at *; omega) (fun a b => by simp; omega) _).imp fun h => by simpa using h
      · exact (List.pairwise_mergeSort (le := fun x y => decide (x ≤ y)) (fun a b c h1 h2 => by simp at *; omega) (fun a b => by simp; omega) _).imp fun h => by simpa using h
    rw [hp]
    exact List.mergeSort_of_pairwise (by simp; omega)
theorem ct2 (x y : Int) : Lib.compact [x, y] = if x = y then [x] else [x, y] := by
  by_cases h : x = y
  · subst h; simp [Lib.compact, Lib.compactUpTo, Lib.keeps, List.range_succ]
  · simp [Lib.compact, Lib.compactUpTo, Lib.keeps, List.range_succ, h, Ne.symm h]
theorem ct1 (x : Int) : Lib.compact [x] = [x] := by simp [Lib.compact, Lib.compactUpTo, Lib.keeps, List.range_succ]
theorem ct0 : Lib.compact ([] : List Int) = [] := by simp [Lib.compact, Lib.compactUpTo]
/-- The ways of a place. -/
def ways (l : List api_Instr) (a : Nat) : List Int := match l[a]? with
  | none => []
  | some x => if x.Op = 31 ∨ x.Op = 32 then [] else if x.Op = 26 then [x.A] else if x.Op = 27 then (if x.A = ((a + 1 : Nat) : Int) then [x.A] else [((a + 1 : Nat) : Int), x.A]) else if x.Op = 29 then [x.A + 1, ((a + 1 : Nat) : Int)] else [((a + 1 : Nat) : Int)]
theorem j2_ways (l : List api_Instr) (a : Int) (s : List Int) (h : s.length < 4611686018427387904) : flow_Ways.j2 l a s = some (Lib.compact (s.mergeSort fun x y => decide (x ≤ y)), 0) := by
  unfold flow_Ways.j2
  rw [if_pos h, if_pos (by rw [List.length_mergeSort]; exact h)]
theorem leads_eq (n : Fin 33) : op_Leads.f (n.1 : Int) = some (decide (n.1 = 26 ∨ n.1 = 27 ∨ n.1 = 29)) := by
  revert n; decide +kernel
theorem op_lt {i : api_Instr} (hw : wf_api_Instr i) (h : may i = true) : 0 ≤ i.Op ∧ i.Op < 33 := by
  obtain ⟨h0, h1⟩ := wf_op hw
  refine ⟨h0, ?_⟩
  rcases Int.lt_or_le i.Op 33 with z | z
  · exact z
  · unfold may op_Bounds.f op_Known.f at h
    rw [wrap_id (by omega) (by omega)] at h
    simp only [Option.bind_some] at h
    rw [if_pos (by simp; omega)] at h
    simp at h
    omega
theorem prog_ways {l : List api_Instr} (hlen : l.length < 4611686018427387904) (hw : ∀ x ∈ l, wf_api_Instr x) :
    (∀ a, ¬ Known l → flow_Ways.f l a = some ([], 40)) ∧ (∀ a, Known l → ¬ Fine l → flow_Ways.f l a = some ([], 90)) ∧ (∀ a : Int, Known l → Fine l → (a < 0 ∨ a ≥ l.length) → flow_Ways.f l a = some ([], 2)) ∧ (∀ a : Nat, Known l → Fine l → a < l.length → flow_Ways.f l a = some (ways l a, 0)) := by
  obtain ⟨a1, a2, a3⟩ := prog_loops hlen hw
  unfold flow_Ways.f flow_Check.f
  refine ⟨fun a h => ?_, fun a h hf => ?_, fun a h hf ha => ?_, fun a h hf ha => ?_⟩
  · rw [a1 h]; rfl
  · rw [a3 h hf]; rfl
  · rw [a2 h hf]
    simp only [Option.bind_some]
    rw [if_neg (by simp), if_pos (by rw [Bool.or_eq_true, decide_eq_true_eq, decide_eq_true_eq]; exact ha)]
  · rw [a2 h hf]
    simp only [Option.bind_some]
    rw [if_neg (by simp), if_neg (by rw [Bool.or_eq_true, decide_eq_true_eq, decide_eq_true_eq]; omega), elt_lt ha]
    simp only [Option.bind_some]
    have hm := h.2.2 _ (List.getElem_mem ha)
    have hop := op_lt (hw _ (List.getElem_mem ha)) hm
    have hJ := hf.2.2 a ha
    have hn := h.2.1
    unfold ways
    rw [List.getElem?_eq_getElem ha]
    dsimp only
    generalize hx : l[a] = x at hm hop
    have hgoes : op_Goes.f x.Op = some (decide (x.Op ≠ 26 ∧ x.Op ≠ 31 ∧ x.Op ≠ 32)) := by
      unfold op_Goes.f op_Known.f
      rw [wrap_id (by omega) (by omega)]
      simp only [Option.bind_some]
      congr 1
      rw [Bool.eq_iff_iff]
      simp only [Bool.and_eq_true, decide_eq_true_eq]
      omega
    have hleads : op_Leads.f x.Op = some (decide (x.Op = 26 ∨ x.Op = 27 ∨ x.Op = 29)) := by
      obtain ⟨n, hn⟩ := Int.eq_ofNat_of_zero_le hop.1
      have := leads_eq ⟨n, by omega⟩
      dsimp only at this
      rw [hn]
      have e : (n : Int) = (Int.ofNat n) := rfl
      rw [this]
      congr 1
      rw [Bool.eq_iff_iff, decide_eq_true_eq, decide_eq_true_eq]
      omega
    have wa : IntKind.i64.wrap ((a : Int) + 1) = ((a + 1 : Nat) : Int) := wrap_succ a (by omega)
    rw [hgoes]
    simp only [Option.bind_some]
    rw [wa, if_pos (show (([] : List Int).length + [((a + 1 : Nat) : Int)].length) * 8 ≤ 140737488355328 by simp)]
    unfold flow_Ways.j1
    rw [hleads]
    simp only [Option.bind_some, List.nil_append]
    by_cases h31 : x.Op = 31 ∨ x.Op = 32
    · rw [if_neg (by rw [decide_eq_true_eq]; omega), if_neg (by omega), if_neg (by rw [decide_eq_true_eq]; omega), if_pos h31, j2_ways _ _ _ (by simp)]
      simp [ct0]
    · rw [if_neg h31]
      by_cases h26 : x.Op = 26
      · have hp := may_place hm (.inl h26)
        rw [if_neg (by rw [decide_eq_true_eq]; omega), if_neg (by omega), if_pos (by rw [decide_eq_true_eq]; omega), if_pos h26, if_pos (by simp), j2_ways _ _ _ (by simp)]
        simp [ct1]
      · rw [if_pos (by rw [decide_eq_true_eq]; omega), if_neg h26]
        by_cases h29 : x.Op = 29
        · have hp := may_place hm (.inr (.inr h29))
          have hA : x.A < a := by
            have hk : KK l a = .again x.A.toNat := by rw [KK_at ha, hx, if_neg (by omega), if_pos h29]
            obtain ⟨T, hT⟩ := again_mem hf.1.1 ha hk
            have := ((opn_mem (KK l) a fun j hj => hf.1.1 j (by omega)).1 x.A.toNat).1 (by rw [hT]; simp)
            omega
          have wA : IntKind.i64.wrap (x.A + 1) = x.A + 1 := wrap_id (by omega) (by omega)
          rw [if_pos h29, if_pos (by simp), if_neg (by omega), if_pos h29, wA, j2_ways _ _ _ (by simp)]
          simp only [List.singleton_append]
          rw [ms2, if_neg (by omega), ct2, if_neg (by omega)]
        · rw [if_neg h29, if_neg h29]
          by_cases h27 : x.Op = 27
          · have hj := (hJ x (by rw [List.getElem?_eq_getElem ha, hx]) (.inr h27)).1
            rw [if_pos (by rw [decide_eq_true_eq]; omega), if_pos h27, if_pos (by simp), j2_ways _ _ _ (by simp)]
            simp only [List.singleton_append]
            rw [ms2, if_pos (by omega), ct2]
            by_cases e : x.A = ((a + 1 : Nat) : Int)
            · rw [if_pos e.symm, if_pos e, e]
            · rw [if_neg (Ne.symm e), if_neg e]
          · rw [if_neg (by rw [decide_eq_true_eq]; omega), if_neg h27, j2_ways _ _ _ (by simp)]
            simp [ct1]
end FlowPure
namespace FlowPure
/-! ### code at hand -/
def goodB (K : Nat → Kn) (i : Nat) : Bool := match K i with
  | .loop => decide ((opn K i).length < 4)
  | .again a => decide ((opn K i).head? = some a)
  | .other => true
theorem goodB_iff {K : Nat → Kn} {i : Nat} : goodB K i = true ↔ good K i := by
  unfold goodB good
  cases K i <;> simp
def fineB (l : List api_Instr) : Bool :=
  ((List.range l.length).all (goodB (KK l)) && (opn (KK l) l.length).isEmpty) && ((match l[l.length - 1]? with | some x => decide (x.Op = 31 ∨ x.Op = 32) | none => true) &&
    (List.range l.length).all fun k => match l[k]? with
      | some x => if x.Op = 26 ∨ x.Op = 27 then decide ((k : Int) < x.A) && decide (x.A < l.length) && (RL (KK l) l.length).all fun y => decide ((y.1 : Int) < x.A → x.A ≤ y.2 → y.1 < k ∧ k ≤ y.2) else true
      | none => true)
theorem fineB_iff {l : List api_Instr} : fineB l = true ↔ Fine l := by
  unfold fineB Fine Run
  rw [Bool.and_eq_true, Bool.and_eq_true, Bool.and_eq_true]
  refine and_congr (and_congr ?_ (by simp)) (and_congr ?_ ?_)
  · rw [List.all_eq_true]
    constructor
    · intro h i hi; exact goodB_iff.1 (h i (List.mem_range.2 hi))
    · intro h i hi; exact goodB_iff.2 (h i (List.mem_range.1 hi))
  · unfold lastOk
    cases h : l[l.length - 1]? with
    | none => simp
    | some x => simp
  · unfold Jm
    rw [List.all_eq_true]
    constructor
    · intro h k hk x hx hop
      have := h k (List.mem_range.2 hk)
      rw [hx] at this
      dsimp only at this
      rw [if_pos hop, Bool.and_eq_true, Bool.and_eq_true, decide_eq_true_eq, decide_eq_true_eq, List.all_eq_true] at this
      refine ⟨this.1.1, this.1.2, fun y hy a b => ?_⟩
      have := this.2 y ((mem_RL y).2 hy)
      rw [decide_eq_true_eq] at this
      exact this a b
    · intro h k hk
      have := h k (List.mem_range.1 hk)
      cases hx : l[k]? with
      | none => rfl
      | some x =>
        dsimp only
        by_cases hop : x.Op = 26 ∨ x.Op = 27
        · have := this x hx hop
          rw [if_pos hop, Bool.and_eq_true, Bool.and_eq_true, decide_eq_true_eq, decide_eq_true_eq, List.all_eq_true]
          refine ⟨⟨this.1, this.2.1⟩, fun y hy => ?_⟩
          rw [decide_eq_true_eq]
          exact this.2.2 y ((mem_RL y).1 hy)
        · rw [if_neg hop]
instance (x : api_Instr) : Decidable (wf_api_Instr x) := by unfold wf_api_Instr; infer_instance
def knownB (l : List api_Instr) : Bool := decide (1 ≤ l.length) && decide (l.length ≤ 200) && l.all fun x => may x && decide (wf_api_Instr x)
theorem knownB_ok {l : List api_Instr} (h : knownB l = true) : Known l ∧ (∀ x ∈ l, wf_api_Instr x) ∧ l.length < 4611686018427387904 := by
  unfold knownB at h
  rw [Bool.and_eq_true, Bool.and_eq_true, decide_eq_true_eq, decide_eq_true_eq, List.all_eq_true] at h
  refine ⟨⟨h.1.1, h.1.2, fun x hx => ?_⟩, fun x hx => ?_, by omega⟩
  · have := h.2 x hx; rw [Bool.and_eq_true] at this; exact this.1
  · have := h.2 x hx; rw [Bool.and_eq_true, decide_eq_true_eq] at this; exact this.2
theorem chk {l : List api_Instr} (hk : knownB l = true) : flow_Check.f l = some (if fineB l = true then 0 else 90) := by
  obtain ⟨k1, k2, k3⟩ := knownB_ok hk
  obtain ⟨-, a2, a3⟩ := prog_loops k3 k2
  unfold flow_Check.f
  by_cases h : fineB l = true
  · rw [if_pos h, a2 k1 (fineB_iff.1 h)]; rfl
  · rw [if_neg h, a3 k1 (mt fineB_iff.2 h)]; rfl
theorem row1 : capstanlaw09_row.f [28, 3, 0, 0, 29, 0, 31, 0] = some [⟨28, 3, 0⟩, ⟨0, 0, 0⟩, ⟨29, 0, 0⟩, ⟨31, 0, 0⟩] := by
  unfold capstanlaw09_row.f
  rw [runF_step (t := .l1 [] 0) rfl, runF_step (t := .l1 [⟨28, 3, 0⟩] 2) rfl, runF_step (t := .l1 [⟨28, 3, 0⟩, ⟨0, 0, 0⟩] 4) rfl, runF_step (t := .l1 [⟨28, 3, 0⟩, ⟨0, 0, 0⟩, ⟨29, 0, 0⟩] 6) rfl, runF_step (t := .l1 [⟨28, 3, 0⟩, ⟨0, 0, 0⟩, ⟨29, 0, 0⟩, ⟨31, 0, 0⟩] 8) rfl, runF_end rfl]
theorem row2 (a : Int) (h : 0 ≤ a ∧ a < 200) : capstanlaw09_row.f [26, a, 31, 0] = some [⟨26, a, 0⟩, ⟨31, 0, 0⟩] := by
  unfold capstanlaw09_row.f
  rw [runF_step (t := .l1 [] 0) rfl, runF_step (t := .l1 [⟨26, a, 0⟩] 2) rfl, runF_step (t := .l1 [⟨26, a, 0⟩, ⟨31, 0, 0⟩] 4) rfl, runF_end rfl]
theorem row3 : capstanlaw09_row.f [27, 2, 28, 3, 29, 1, 31, 0] = some [⟨27, 2, 0⟩, ⟨28, 3, 0⟩, ⟨29, 1, 0⟩, ⟨31, 0, 0⟩] := by
  unfold capstanlaw09_row.f
  rw [runF_step (t := .l1 [] 0) rfl, runF_step (t := .l1 [⟨27, 2, 0⟩] 2) rfl, runF_step (t := .l1 [⟨27, 2, 0⟩, ⟨28, 3, 0⟩] 4) rfl, runF_step (t := .l1 [⟨27, 2, 0⟩, ⟨28, 3, 0⟩, ⟨29, 1, 0⟩] 6) rfl, runF_step (t := .l1 [⟨27, 2, 0⟩, ⟨28, 3, 0⟩, ⟨29, 1, 0⟩, ⟨31, 0, 0⟩] 8) rfl, runF_end rfl]
theorem row4 : capstanlaw09_row.f [28, 3, 26, 3, 29, 0, 31, 0] = some [⟨28, 3, 0⟩, ⟨26, 3, 0⟩, ⟨29, 0, 0⟩, ⟨31, 0, 0⟩] := by
  unfold capstanlaw09_row.f
  rw [runF_step (t := .l1 [] 0) rfl, runF_step (t := .l1 [⟨28, 3, 0⟩] 2) rfl, runF_step (t := .l1 [⟨28, 3, 0⟩, ⟨26, 3, 0⟩] 4) rfl, runF_step (t := .l1 [⟨28, 3, 0⟩, ⟨26, 3, 0⟩, ⟨29, 0, 0⟩] 6) rfl, runF_step (t := .l1 [⟨28, 3, 0⟩, ⟨26, 3, 0⟩, ⟨29, 0, 0⟩, ⟨31, 0, 0⟩] 8) rfl, runF_end rfl]
theorem row5 : capstanlaw09_row.f [0, 0] = some [⟨0, 0, 0⟩] := by
  unfold capstanlaw09_row.f
  rw [runF_step (t := .l1 [] 0) rfl, runF_step (t := .l1 [⟨0, 0, 0⟩] 2) rfl, runF_end rfl]
theorem three : knownB [⟨28, 3, 0⟩, ⟨0, 0, 0⟩, ⟨29, 0, 0⟩, ⟨31, 0, 0⟩] = true ∧ fineB [⟨28, 3, 0⟩, ⟨0, 0, 0⟩, ⟨29, 0, 0⟩, ⟨31, 0, 0⟩] = true ∧ RL (KK [⟨28, 3, 0⟩, ⟨0, 0, 0⟩, ⟨29, 0, 0⟩, ⟨31, 0, 0⟩]) 4 = [(0, 2)] ∧ tms [⟨28, 3, 0⟩, ⟨0, 0, 0⟩, ⟨29, 0, 0⟩, ⟨31, 0, 0⟩] = [1, 3, 3, 1] ∧ ways [⟨28, 3, 0⟩, ⟨0, 0, 0⟩, ⟨29, 0, 0⟩, ⟨31, 0, 0⟩] 2 = [1, 3] := by decide +kernel
theorem chks : (knownB [⟨26, 1, 0⟩, ⟨31, 0, 0⟩] && fineB [⟨26, 1, 0⟩, ⟨31, 0, 0⟩]) = true ∧ (knownB [⟨26, 0, 0⟩, ⟨31, 0, 0⟩] && !fineB [⟨26, 0, 0⟩, ⟨31, 0, 0⟩]) = true ∧ (knownB [⟨26, 2, 0⟩, ⟨31, 0, 0⟩] && !fineB [⟨26, 2, 0⟩, ⟨31, 0, 0⟩]) = true ∧
    (knownB [⟨27, 2, 0⟩, ⟨28, 3, 0⟩, ⟨29, 1, 0⟩, ⟨31, 0, 0⟩] && !fineB [⟨27, 2, 0⟩, ⟨28, 3, 0⟩, ⟨29, 1, 0⟩, ⟨31, 0, 0⟩]) = true ∧ (knownB [⟨28, 3, 0⟩, ⟨26, 3, 0⟩, ⟨29, 0, 0⟩, ⟨31, 0, 0⟩] && fineB [⟨28, 3, 0⟩, ⟨26, 3, 0⟩, ⟨29, 0, 0⟩, ⟨31, 0, 0⟩]) = true ∧ (knownB [⟨0, 0, 0⟩] && !fineB [⟨0, 0, 0⟩]) = true := by decide +kernel
theorem chk0 {l : List api_Instr} (h : (knownB l && fineB l) = true) : flow_Check.f l = some 0 := by
  rw [Bool.and_eq_true] at h
  rw [chk h.1, if_pos h.2]
theorem chk90 {l : List api_Instr} (h : (knownB l && !fineB l) = true) : flow_Check.f l = some 90 := by
  rw [Bool.and_eq_true, Bool.not_eq_true'] at h
  rw [chk h.1, h.2]; rfl
theorem awake : capstanlaw09_awake.f = some true := by
  obtain ⟨t1, t2, t3, t4, t5⟩ := three
  obtain ⟨c1, c2, c3, c4, c5, c6⟩ := chks
  obtain ⟨k1, k2, k3⟩ := knownB_ok t1
  have hf := fineB_iff.1 t2
  unfold capstanlaw09_awake.f
  rw [row1]
  simp only [Option.bind_some]
  rw [(prog_loops k3 k2).2.1 k1 hf, (prog_times k3 k2).2.1 k1 hf]
  have hwy := (prog_ways k3 k2).2.2.2 2 k1 hf (by decide)
  have hwy : flow_Ways.f [⟨28, 3, 0⟩, ⟨0, 0, 0⟩, ⟨29, 0, 0⟩, ⟨31, 0, 0⟩] 2 = some (ways [⟨28, 3, 0⟩, ⟨0, 0, 0⟩, ⟨29, 0, 0⟩, ⟨31, 0, 0⟩] 2, 0) := hwy
  rw [hwy, t5, t4]
  have t3' : RL (KK [⟨28, 3, 0⟩, ⟨0, 0, 0⟩, ⟨29, 0, 0⟩, ⟨31, 0, 0⟩]) [(⟨28, 3, 0⟩ : api_Instr), ⟨0, 0, 0⟩, ⟨29, 0, 0⟩, ⟨31, 0, 0⟩].length = [(0, 2)] := t3
  rw [t3', row2 1 (by omega), row2 0 (by omega), row2 2 (by omega), row3, row4, row5]
  simp only [Option.bind_some]
  rw [chk0 c1, chk90 c2, chk90 c3, chk90 c4, chk0 c5, chk90 c6]
  rfl
end FlowPure
namespace FlowPure
/-! ### how often a place is still come to -/
def fullT (T : Nat → Int) : List (Nat × Nat) → Int
  | [] => 1
  | x :: s => T x.1 * fullT T s
/-- How often p is still come to, behind this visit at a. -/
def remT (T F : Nat → Int) (p a : Nat) : List (Nat × Nat) → Int
  | [] => if a < p then 1 else 0
  | x :: s => if a ≤ x.1 then T x.1 * fullT T s else if x.2 < a then 0 else (F x.1 - 1) * fullT T s + remT T F p a s
def at1 (a p : Nat) : Int := if a = p then 1 else 0
structure Lps (R : List (Nat × Nat)) (T : Nat → Int) : Prop where
  lt : ∀ x ∈ R, x.1 < x.2
  nest : ∀ x ∈ R, ∀ y ∈ R, x.1 < y.1 → y.1 < x.2 → y.2 < x.2
  one : ∀ x ∈ R, ∀ y ∈ R, (x.1 = y.1 ∨ x.2 = y.2) → x = y
  part : ∀ x ∈ R, ∀ y ∈ R, x.1 ≠ y.2
  pos : ∀ x ∈ R, 1 ≤ T x.1
/-- Loops around p, the outer ones first. -/
structure Around (R : List (Nat × Nat)) (p : Nat) (s : List (Nat × Nat)) : Prop where
  mem : ∀ x ∈ s, x ∈ R
  on : ∀ x ∈ s, x.1 < p ∧ p ≤ x.2
  up : s.Pairwise fun x y => x.1 < y.1
theorem Around.tail {R : List (Nat × Nat)} {p : Nat} {x : Nat × Nat} {s : List (Nat × Nat)} (h : Around R p (x :: s)) : Around R p s :=
  ⟨fun y hy => h.mem y (by simp [hy]), fun y hy => h.on y (by simp [hy]), (List.pairwise_cons.1 h.up).2⟩
/-- How far the loops around a place have come. -/
def Live (R : List (Nat × Nat)) (T F : Nat → Int) (a : Nat) : Prop := ∀ x ∈ R, x.1 < a → a ≤ x.2 → 1 ≤ F x.1 ∧ F x.1 ≤ T x.1
theorem full_pos {R : List (Nat × Nat)} {T : Nat → Int} (L : Lps R T) : ∀ s : List (Nat × Nat), (∀ x ∈ s, x ∈ R) → 1 ≤ fullT T s
  | [], _ => by simp [fullT]
  | x :: s, h => by
    have a := L.pos x (h x (by simp))
    have b := full_pos L s (fun y hy => h y (by simp [hy]))
    have : (1 : Int) * 1 ≤ T x.1 * fullT T s := Int.mul_le_mul a b (by omega) (by omega)
    simp only [fullT]; omega
section
variable {R : List (Nat × Nat)} {T F G : Nat → Int} {p a b : Nat}
theorem rem_nonneg (L : Lps R T) (hF : Live R T F a) : ∀ s, Around R p s → 0 ≤ remT T F p a s
  | [], _ => by unfold remT; split <;> omega
  | x :: s, h => by
    have f := full_pos L s h.tail.mem
    have g := L.pos x (h.mem x (by simp))
    have r := rem_nonneg L hF s h.tail
    unfold remT
    split
    · have : (0 : Int) ≤ T x.1 * fullT T s := Int.mul_nonneg (by omega) (by omega)
      omega
    · split
      · omega
      · have := hF x (h.mem x (by simp)) (by omega) (by omega)
        have : (0 : Int) ≤ (F x.1 - 1) * fullT T s := Int.mul_nonneg (by omega) (by omega)
        omega
theorem rem_le (L : Lps R T) (hF : Live R T F a) : ∀ s, Around R p s → remT T F p a s + at1 a p ≤ fullT T s
  | [], _ => by unfold remT at1 fullT; split <;> split <;> omega
  | x :: s, h => by
    have f := full_pos L s h.tail.mem
    have g := L.pos x (h.mem x (by simp))
    have on := h.on x (by simp)
    have r := rem_le L hF s h.tail
    have fx := full_pos L (x :: s) h.mem
    unfold remT
    split
    · have : at1 a p = 0 := by unfold at1; rw [if_neg (by omega)]
      simp only [fullT]; omega
    · split
      · have : at1 a p = 0 := by unfold at1; rw [if_neg (by omega)]
        omega
      · have := hF x (h.mem x (by simp)) (by omega) (by omega)
        have e : (F x.1 - 1) * fullT T s + fullT T s = F x.1 * fullT T s := by rw [Int.sub_mul, Int.one_mul]; omega
        have : F x.1 * fullT T s ≤ T x.1 * fullT T s := Int.mul_le_mul_of_nonneg_right this.2 (by omega)
        simp only [fullT]; omega
/-- A jump ahead. -/
theorem rem_jump (L : Lps R T) (hF : Live R T F a) (hab : a < b) (hin : ∀ x ∈ R, x.1 < b → b ≤ x.2 → x.1 < a ∧ a ≤ x.2) : ∀ s, Around R p s → remT T F p b s + at1 b p ≤ remT T F p a s
  | [], _ => by
    unfold remT at1
    by_cases h1 : b < p
    · rw [if_pos h1, if_neg (by omega), if_pos (by omega)]; omega
    · rw [if_neg h1]
      by_cases h2 : b = p
      · rw [if_pos h2, if_pos (by omega)]; omega
      · rw [if_neg h2]; split <;> omega
  | x :: s, h => by
    have f := full_pos L s h.tail.mem
    have g := L.pos x (h.mem x (by simp))
    have on := h.on x (by simp)
    have r := rem_jump L hF hab hin s h.tail
    have nn := rem_nonneg L hF (x :: s) h
    have z : x.2 < b → remT T F p b (x :: s) + at1 b p = 0 := by
      intro hb
      have : at1 b p = 0 := by unfold at1; rw [if_neg (by omega)]
      have := L.lt x (h.mem x (by simp))
      unfold remT
      rw [if_neg (by omega), if_pos hb]; omega
    by_cases h1 : x.2 < b
    · rw [z h1]; exact nn
    · by_cases h2 : b ≤ x.1
      · have : at1 b p = 0 := by unfold at1; rw [if_neg (by omega)]
        unfold remT
        rw [if_pos h2, if_pos (by omega)]; omega
      · have := hin x (h.mem x (by simp)) (by omega) (by omega)
        unfold remT
        rw [if_neg h2, if_neg h1, if_neg (by omega), if_neg (by omega)]
        omega
/-- Just behind an OpLoop all is still ahead. -/
theorem rem_enter (L : Lps R T) {c : Nat} : ∀ s, Around R p s → (∀ y ∈ s, c < y.1) → c < p → remT T G p (c + 1) s + at1 (c + 1) p = fullT T s
  | [], _, _, hp => by
    unfold remT at1 fullT
    by_cases h : c + 1 < p
    · rw [if_pos h, if_neg (by omega)]; rfl
    · rw [if_neg h, if_pos (by omega)]; rfl
  | y :: s, h, hc, _ => by
    have := hc y (by simp)
    have on := h.on y (by simp)
    have e : at1 (c + 1) p = 0 := by unfold at1; rw [if_neg (by omega)]
    unfold remT
    rw [if_pos (by omega), e]; simp only [fullT]; omega
/-- At a loop's end nothing is ahead within this turn. -/
theorem rem_end (L : Lps R T) {x : Nat × Nat} (hx : x ∈ R) : ∀ s, Around R p s → (∀ y ∈ s, x.1 < y.1) → p ≤ x.2 → remT T F p x.2 s = 0
  | [], _, _, hp => by unfold remT; rw [if_neg (by omega)]
  | y :: s, h, hc, hp => by
    have hy := h.mem y (by simp)
    have on := h.on y (by simp)
    have := hc y (by simp)
    have n := L.nest x hx y hy this (by omega)
    have l := L.lt y hy
    unfold remT
    rw [if_neg (by omega), if_pos n]
/-- On to the next place. -/
theorem rem_next (L : Lps R T) (hG : ∀ x ∈ R, x.1 = a → G a = T a) (hS : ∀ x ∈ R, x.1 < a → a < x.2 → G x.1 = F x.1) (hE : ∀ x ∈ R, x.2 = a → F x.1 = 1) : ∀ s, Around R p s → remT T G p (a + 1) s + at1 (a + 1) p = remT T F p a s
  | [], _ => by
    unfold remT at1
    by_cases h1 : a + 1 < p
    · rw [if_pos h1, if_neg (by omega), if_pos (by omega)]; rfl
    · rw [if_neg h1]
      by_cases h2 : a + 1 = p
      · rw [if_pos h2, if_pos (by omega)]; rfl
      · rw [if_neg h2, if_neg (by omega)]; rfl
  | x :: s, h => by
    have on := h.on x (by simp)
    have hx := h.mem x (by simp)
    have up := (List.pairwise_cons.1 h.up).1
    have l := L.lt x hx
    by_cases h1 : a + 1 ≤ x.1
    · have e : at1 (a + 1) p = 0 := by unfold at1; rw [if_neg (by omega)]
      unfold remT
      rw [if_pos h1, if_pos (by omega), e]; omega
    · by_cases h2 : a = x.1
      · have := rem_enter (G := G) L s h.tail (c := a) (fun y hy => by have := up y hy; omega) (by omega)
        have g := hG x hx h2.symm
        unfold remT
        rw [if_neg (by omega), if_neg (by omega), if_pos (by omega), ← h2, g, Int.sub_mul, Int.one_mul]
        omega
      · by_cases h3 : x.2 < a
        · have e : at1 (a + 1) p = 0 := by unfold at1; rw [if_neg (by omega)]
          unfold remT
          rw [if_neg (by omega), if_pos (by omega), if_neg (by omega), if_pos h3, e]; rfl
        · by_cases h4 : x.2 = a
          · have e : at1 (a + 1) p = 0 := by unfold at1; rw [if_neg (by omega)]
            have re := rem_end (F := F) L hx s h.tail up on.2
            have f1 := hE x hx h4
            rw [h4] at re
            unfold remT
            rw [if_neg (by omega), if_pos (by omega), if_neg (by omega), if_neg h3, e, re, f1]; simp
          · have r := rem_next L hG hS hE s h.tail
            have g := hS x hx (by omega) (by omega)
            unfold remT
            rw [if_neg (by omega), if_neg (by omega), if_neg (by omega), if_neg h3, g]
            omega
/-- Back to a loop's first place. -/
theorem rem_back (L : Lps R T) {x : Nat × Nat} (hx : x ∈ R) (hG : G x.1 = F x.1 - 1) (hS : ∀ y ∈ R, y ≠ x → G y.1 = F y.1) : ∀ s, Around R p s → (x.1 < p → p ≤ x.2 → x ∈ s) → remT T G p (x.1 + 1) s + at1 (x.1 + 1) p = remT T F p x.2 s
  | [], _, hm => by
    have l := L.lt x hx
    have hn : ¬ (x.1 < p ∧ p ≤ x.2) := fun h => by have := hm h.1 h.2; cases this
    unfold remT at1
    by_cases h1 : x.2 < p
    · rw [if_pos h1]
      by_cases h2 : x.1 + 1 < p
      · rw [if_pos h2, if_neg (by omega)]; rfl
      · rw [if_neg h2, if_pos (by omega)]; rfl
    · rw [if_neg h1, if_neg (by omega), if_neg (by omega)]; rfl
  | y :: s, h, hm => by
    have on := h.on y (by simp)
    have hy := h.mem y (by simp)
    have up := (List.pairwise_cons.1 h.up).1
    have l := L.lt x hx
    have ly := L.lt y hy
    by_cases hxy : y = x
    · subst hxy
      have en := rem_enter (G := G) L s h.tail (c := y.1) up on.1
      have re := rem_end (F := F) L hy s h.tail up on.2
      unfold remT
      rw [if_neg (by omega), if_neg (by omega), if_neg (by omega), if_neg (by omega), hG, re, Int.sub_mul, Int.one_mul]
      omega
    · have hm' : x.1 < p → p ≤ x.2 → x ∈ s := fun h1 h2 => by
        rcases List.mem_cons.1 (hm h1 h2) with e | e
        · exact absurd e.symm hxy
        · exact e
      have n1 : y.1 ≠ x.1 := fun e => hxy (L.one y hy x hx (.inl e))
      have n2 : y.2 ≠ x.2 := fun e => hxy (L.one y hy x hx (.inr e))
      have n3 := L.part y hy x hx
      have n4 := L.part x hx y hy
      by_cases h1 : x.2 ≤ y.1
      · have e : at1 (x.1 + 1) p = 0 := by unfold at1; rw [if_neg (by omega)]
        unfold remT
        rw [if_pos (by omega), if_pos h1, e]; omega
      · by_cases h2 : y.2 < x.2
        · -- y is ahead of x, or within it
          have hz : y.2 < x.1 + 1 := by
            refine Classical.byContradiction fun hc => ?_
            by_cases h3 : y.1 < x.1
            · have := L.nest y hy x hx h3 (by omega); omega
            · have := up x (hm' (by omega) (by omega)); omega
          have e : at1 (x.1 + 1) p = 0 := by unfold at1; rw [if_neg (by omega)]
          unfold remT
          rw [if_neg (by omega), if_pos hz, if_neg h1, if_pos h2, e]; rfl
        · have h3 : y.1 < x.1 := by
            refine Classical.byContradiction fun hc => ?_
            have := L.nest x hx y hy (by omega) (by omega); omega
          have r := rem_back L hx hG hS s h.tail hm'
          have g := hS y hy hxy
          unfold remT
          rw [if_neg (by omega), if_neg (by omega), if_neg h1, if_neg h2, g]
          omega
/-- Where the end is come to once, nothing is left of what is ahead of it. -/
theorem rem_once (L : Lps R T) {F : Nat → Int} (hF : Live R T F a) (hp : p < a) (h1 : ∀ x ∈ R, x.1 < a → a ≤ x.2 → T x.1 = 1) : ∀ s, Around R p s → remT T F p a s = 0
  | [], _ => by unfold remT; rw [if_neg (by omega)]
  | x :: s, h => by
    have on := h.on x (by simp)
    have hx := h.mem x (by simp)
    have r := rem_once L hF hp h1 s h.tail
    unfold remT
    rw [if_neg (by omega)]
    split
    · rfl
    · have := hF x hx (by omega) (by omega)
      have := h1 x hx (by omega) (by omega)
      have e : F x.1 = 1 := by omega
      rw [e, r]; simp
end
end FlowPure
namespace FlowPure
theorem run_lps {l : List api_Instr} (hk : Known l) (hf : Fine l) : Lps (RL (KK l) l.length) (turns l) := by
  obtain ⟨o1, o2⟩ := run_pairs hf.1
  obtain ⟨-, -, hN, -⟩ := (run_iff (R := RL (KK l) l.length) fun h => ⟨fun x => mem_RL x, RL_nodup h⟩).1 hf.1
  have hu : ∀ x ∈ RL (KK l) l.length, ∀ y ∈ RL (KK l) l.length, (x.1 = y.1 ∨ x.2 = y.2) → x = y := by
    intro x hx y hy h
    have px := (mem_RL x).1 hx
    have py := (mem_RL y).1 hy
    have e1 : x.1 = y.1 := by
      rcases h with h | h
      · exact h
      · have := px.2.2.2; rw [h, py.2.2.2] at this; injection this with e; exact e.symm
    obtain ⟨t0, -, -, hu⟩ := o1 _ px.1 px.2.2.1
    have := hu _ px
    have := hu y.2 (by rw [e1]; exact py)
    exact Prod.ext e1 (by omega)
  have hp : ∀ x ∈ RL (KK l) l.length, ∀ y ∈ RL (KK l) l.length, x.1 ≠ y.2 := by
    intro x hx y hy h
    have px := (mem_RL x).1 hx
    have py := (mem_RL y).1 hy
    have := px.2.2.1; rw [h, py.2.2.2] at this; exact Kn.noConfusion this
  refine ⟨fun x hx => ?_, fun x hx y hy h1 h2 => ?_, hu, hp, fun x hx => ?_⟩
  · have px := (mem_RL x).1 hx
    obtain ⟨t0, -, hle, hu⟩ := o1 _ px.1 px.2.2.1
    have := hu _ px
    have := hp x hx x hx
    omega
  · have px := (mem_RL x).1 hx
    have py := (mem_RL y).1 hy
    have := hN _ _ _ _ px py h1 h2
    have : y.2 ≠ x.2 := fun e => by have := hu y hy x hx (.inr e); subst this; omega
    omega
  · have px := (mem_RL x).1 hx
    rw [turns_at px.1]
    exact (may_turns (hk.2.2 _ (List.getElem_mem px.1)) ((loop_iff px.1).1 px.2.2.1)).1
def ar (l : List api_Instr) (p : Nat) : List (Nat × Nat) := (RL (KK l) l.length).filter fun x => decide (x.1 < p ∧ p ≤ x.2)
theorem around {l : List api_Instr} (hf : Fine l) (p : Nat) : Around (RL (KK l) l.length) p (ar l p) :=
  ⟨fun x hx => (List.mem_filter.1 hx).1, fun x hx => by simpa using (List.mem_filter.1 hx).2, (RL_sorted (run_pairs hf.1).1).sublist List.filter_sublist⟩
theorem mem_ar {l : List api_Instr} {p : Nat} {x : Nat × Nat} (hx : x ∈ RL (KK l) l.length) (h1 : x.1 < p) (h2 : p ≤ x.2) : x ∈ ar l p := List.mem_filter.2 ⟨hx, by simp; exact ⟨h1, h2⟩⟩
theorem pow_one (n : Nat) : (1 : Int) ≤ 100 ^ n := by
  induction n with
  | zero => simp
  | succ n ih => rw [Int.pow_succ]; omega
theorem fold_full {T : Nat → Int} : ∀ (s : List (Nat × Nat)) (acc B : Int), 1 ≤ acc → acc ≤ B → B * 100 ^ s.length ≤ 100000000 → (∀ x ∈ s, 1 ≤ T x.1 ∧ T x.1 ≤ 100) → s.foldl (fun n x => IntKind.i64.wrap (n * T x.1)) acc = acc * fullT T s ∧ acc * fullT T s ≤ 100000000
  | [], acc, B, h1, h2, h3, _ => by simp [fullT] at *; omega
  | x :: s, acc, B, h1, h2, h3, h4 => by
    have t := h4 x (by simp)
    have a1 : acc * T x.1 ≤ B * 100 := Int.mul_le_mul h2 t.2 (by omega) (by omega)
    have a2 : (1 : Int) * 1 ≤ acc * T x.1 := Int.mul_le_mul h1 t.1 (by omega) (by omega)
    have pw := pow_one s.length
    have e : B * 100 * 100 ^ s.length = B * 100 ^ (x :: s).length := by rw [List.length_cons, Int.pow_succ, Int.mul_assoc, Int.mul_comm 100]
    have a3 : B * 100 * 1 ≤ B * 100 * 100 ^ s.length := Int.mul_le_mul_of_nonneg_left pw (by omega)
    have ih := fold_full s (acc * T x.1) (B * 100) (by omega) a1 (by rw [e]; exact h3) (fun y hy => h4 y (by simp [hy]))
    rw [List.foldl_cons, wrap_id (by omega) (by omega)]
    simp only [fullT]
    rw [← Int.mul_assoc]
    exact ih
theorem tm_full {l : List api_Instr} (hk : Known l) (hf : Fine l) {p : Nat} (hp : p < l.length) : tm l (RL (KK l) l.length) p = fullT (turns l) (ar l p) ∧ fullT (turns l) (ar l p) ≤ 100000000 := by
  obtain ⟨-, -, -, hD⟩ := (run_iff (R := RL (KK l) l.length) fun h => ⟨fun x => mem_RL x, RL_nodup h⟩).1 hf.1
  have L := run_lps hk hf
  have e : tm l (RL (KK l) l.length) p = (ar l p).foldl (fun n x => IntKind.i64.wrap (n * turns l x.1)) 1 := by
    unfold tm ar
    rw [List.foldl_filter]
    simp only [decide_eq_true_eq]
  have h4 : (ar l p).length ≤ 4 := by
    have := hD p hp
    unfold ar
    simpa only [Bool.decide_and] using this
  have h5 : (100 : Int) ^ (ar l p).length ≤ 100 ^ 4 := by
    have : (100 : Nat) ^ (ar l p).length ≤ 100 ^ 4 := Nat.pow_le_pow_right (by omega) h4
    exact_mod_cast this
  have h6 : (100 : Int) ^ 4 = 100000000 := by decide
  have := fold_full (T := turns l) (ar l p) 1 1 (by omega) (by omega) (by omega) (fun x hx => by
    have hx' := (around hf p).mem x hx
    have px := (mem_RL x).1 hx'
    rw [turns_at px.1]
    have := may_turns (hk.2.2 _ (List.getElem_mem px.1)) ((loop_iff px.1).1 px.2.2.1)
    omega)
  rw [Int.one_mul] at this
  rw [e]; exact this
def sumTo (f : Nat → Int) : Nat → Int
  | 0 => 0
  | n + 1 => sumTo f n + f n
theorem sumTo_le {f g : Nat → Int} : ∀ n, (∀ p, p < n → f p ≤ g p) → sumTo f n ≤ sumTo g n
  | 0, _ => by simp [sumTo]
  | n + 1, h => by
    have := sumTo_le n (fun p hp => h p (by omega))
    have := h n (by omega)
    simp only [sumTo]; omega
theorem sumTo_at1 {f : Nat → Int} {a : Nat} : ∀ n, sumTo (fun p => f p + at1 a p) n = sumTo f n + (if a < n then 1 else 0)
  | 0 => by simp [sumTo]
  | n + 1 => by
    have ih := sumTo_at1 (f := f) (a := a) n
    simp only [sumTo, ih]
    unfold at1
    by_cases h1 : a = n
    · subst h1; rw [if_neg (by omega), if_pos rfl, if_pos (by omega)]; omega
    · rw [if_neg h1]
      by_cases h2 : a < n
      · rw [if_pos h2, if_pos (by omega)]; omega
      · rw [if_neg h2, if_neg (by omega)]; omega
theorem sumTo_congr {f g : Nat → Int} (n : Nat) (h : ∀ p, p < n → f p = g p) : sumTo f n = sumTo g n :=
  Int.le_antisymm (sumTo_le n fun p hp => by rw [h p hp]; exact Int.le_refl _) (sumTo_le n fun p hp => by rw [h p hp]; exact Int.le_refl _)
theorem flows_ok {l : List api_Instr} (hlen : l.length ≤ 300) (hw : ∀ x ∈ l, wf_api_Instr x) :
    capstanlaw09_flows.f l = some ([], false) ∨ (Known l ∧ Fine l ∧ capstanlaw09_flows.f l = some (tms l, true) ∧ sumTo (fun p => fullT (turns l) (ar l p)) l.length ≤ 20000) := by
  obtain ⟨c1, c2, c3⟩ := prog_times (show l.length < 4611686018427387904 by omega) hw
  unfold capstanlaw09_flows.f
  by_cases hk : Known l
  case neg =>
    left; refine runF_end ?_
    dsimp only [capstanlaw09_flows.F]
    rw [if_neg (by omega), c1 hk]; rfl
  by_cases hf : Fine l
  case neg =>
    left; refine runF_end ?_
    dsimp only [capstanlaw09_flows.F]
    rw [if_neg (by omega), c3 hk hf]; rfl
  have hts : (tms l).length = l.length := by unfold tms; simp
  have et : ∀ k, k < l.length → elt (tms l) (k : Int) = some (fullT (turns l) (ar l k)) := by
    intro k hk'
    unfold tms; rw [elt_lt (by simpa using hk')]; simp only [List.getElem_map, List.getElem_range]
    rw [(tm_full hk hf hk').1]
  rw [runF_step (t := .l1 (tms l, 0) (sumTo (fun p => fullT (turns l) (ar l p)) 0) ((0 : Nat) : Int)) (by
    dsimp only [capstanlaw09_flows.F]
    rw [if_neg (by omega), c2 hk hf]; rfl)]
  have L := run_lps hk hf
  have wr : ∀ k, k < l.length → (∀ j, j < k → sumTo (fun p => fullT (turns l) (ar l p)) (j + 1) ≤ 20000) → IntKind.i64.wrap (sumTo (fun p => fullT (turns l) (ar l p)) k + fullT (turns l) (ar l k)) = sumTo (fun p => fullT (turns l) (ar l p)) (k + 1) := by
    intro k hk' hj
    have h1 := (tm_full hk hf hk').2
    have h2 := full_pos L (ar l k) (around hf k).mem
    have h3 : sumTo (fun p => fullT (turns l) (ar l p)) k ≤ 20000 := by
      cases k with
      | zero => simp [sumTo]
      | succ k => exact hj k (by omega)
    have h4 : sumTo (fun _ => 0) k ≤ sumTo (fun p => fullT (turns l) (ar l p)) k := sumTo_le k fun p hp => by
      have := full_pos L (ar l p) (around hf p).mem; omega
    have h5 : ∀ m, sumTo (fun _ => 0) m = 0 := by intro m; induction m with | zero => rfl | succ m ih => simp [sumTo, ih]
    rw [h5] at h4
    rw [wrap_id (by omega) (by omega)]; rfl
  have key := runF_chk (F := capstanlaw09_flows.F l) (n := l.length) (b := ([], false)) (fun k => .l1 (tms l, 0) (sumTo (fun p => fullT (turns l) (ar l p)) k) (k : Int)) (fun k => sumTo (fun p => fullT (turns l) (ar l p)) (k + 1) ≤ 20000) (fun k hk' hj hp => runF_step (by
    dsimp only [capstanlaw09_flows.F]
    rw [if_pos (by omega), et k hk']
    simp only [Option.bind_some]
    rw [wr k hk' hj, if_neg (by omega), wrap_succ _ (by omega)])) (fun k hk' hj hp => runF_end (by
    dsimp only [capstanlaw09_flows.F]
    rw [if_pos (by omega), et k hk']
    simp only [Option.bind_some]
    rw [wr k hk' hj, if_pos (by omega)]))
  by_cases hall : ∀ k, k < l.length → sumTo (fun p => fullT (turns l) (ar l p)) (k + 1) ≤ 20000
  · right
    refine ⟨hk, hf, (key.1 hall).trans (runF_end ?_), ?_⟩
    · dsimp only [capstanlaw09_flows.F]
      rw [if_neg (by omega), hts]; simp
    · have := hall (l.length - 1) (by have := hk.1; omega)
      rwa [Nat.sub_add_cancel hk.1] at this
  · left; exact key.2 hall
def lf (s : List Int) (i : Nat) : Int := s.getD i 0
theorem lf_elt {s : List Int} {i : Nat} (h : i < s.length) : elt s (i : Int) = some (lf s i) := by
  rw [elt_lt h]; unfold lf; rw [List.getD_eq_getElem?_getD, List.getElem?_eq_getElem h]; rfl
theorem lf_set {s : List Int} {i j : Nat} {v : Int} (h : i < s.length) : lf (s.set i v) j = if j = i then v else lf s j := by
  unfold lf
  rw [List.getD_eq_getElem?_getD, List.getD_eq_getElem?_getD, List.getElem?_set]
  by_cases e : i = j
  · subst e; rw [if_pos rfl, if_pos h, if_pos rfl]; rfl
  · rw [if_neg e, if_neg (Ne.symm e)]
structure Inv (l : List api_Instr) (left came : List Int) (a : Nat) (straight : Bool) (steps : Nat) : Prop where
  al : a < l.length
  ll : left.length = 300
  cl : came.length = 300
  live : Live (RL (KK l) l.length) (turns l) (lf left) a
  pos : ∀ p, p < l.length → 0 ≤ lf came p
  cnt : ∀ p, p < l.length → lf came p + (at1 a p + remT (turns l) (lf left) p a (ar l p)) ≤ fullT (turns l) (ar l p)
  same : straight = true → ∀ p, p < l.length → lf came p + (at1 a p + remT (turns l) (lf left) p a (ar l p)) = fullT (turns l) (ar l p)
  sum : sumTo (lf came) l.length = steps
theorem at1_nonneg (a p : Nat) : 0 ≤ at1 a p := by unfold at1; split <;> omega
theorem Inv.next {l : List api_Instr} (hn : l.length ≤ 200) {left came left2 : List Int} {a b : Nat} {s s2 : Bool} {steps : Nat} (h : Inv l left came a s steps) (hb : b < l.length) (h2 : left2.length = 300) (hl : Live (RL (KK l) l.length) (turns l) (lf left2) b)
    (hle : ∀ p, p < l.length → remT (turns l) (lf left2) p b (ar l p) + at1 b p ≤ remT (turns l) (lf left) p a (ar l p)) (hs : s2 = true → s = true ∧ ∀ p, p < l.length → remT (turns l) (lf left2) p b (ar l p) + at1 b p = remT (turns l) (lf left) p a (ar l p)) :
    Inv l left2 (came.set a (lf came a + 1)) b s2 (steps + 1) := by
  have ha : a < came.length := by rw [h.cl]; have := h.al; omega
  have hc : ∀ p, lf (came.set a (lf came a + 1)) p = lf came p + at1 a p := by
    intro p
    rw [lf_set ha]
    unfold at1
    by_cases e : p = a
    · subst e; rw [if_pos rfl, if_pos rfl]
    · rw [if_neg e, if_neg (Ne.symm e)]; omega
  refine ⟨hb, h2, by rw [List.length_set, h.cl], hl, fun p hp => ?_, fun p hp => ?_, fun e p hp => ?_, ?_⟩
  · rw [hc]; have := h.pos p hp; have := at1_nonneg a p; omega
  · rw [hc]; have := h.cnt p hp; have := hle p hp; omega
  · rw [hc]; have := h.same (hs e).1 p hp; have := (hs e).2 p hp; omega
  · rw [sumTo_congr _ fun p _ => hc p, sumTo_at1, if_pos h.al, h.sum]; omega
theorem exact_ok {l : List api_Instr} {N came : List Int} {a : Nat} (hN : a < N.length) (hc : a < came.length) (hs : a < 4611686018427387904) (h : ∀ p, p < a → lf came p = lf N p ∨ lf N a ≠ 1) : capstanlaw09_exact_s1.f l N came a = some true := by
  unfold capstanlaw09_exact_s1.f
  rw [runF_step (t := .l1 ((0 : Nat) : Int)) rfl]
  refine (runF_up (F := capstanlaw09_exact_s1.F l N came a) (n := a) (fun k => .l1 (k : Int)) (fun k hk => ?_)).trans (runF_end ?_)
  · dsimp only [capstanlaw09_exact_s1.F]
    rw [if_pos (by omega), lf_elt (show k < N.length by omega), lf_elt (show k < came.length by omega), lf_elt hN]
    simp only [Option.bind_some]
    have go : capstanlaw09_exact_s1.j1 l N came a k false = some (.inl (.l1 ((k + 1 : Nat) : Int))) := by
      unfold capstanlaw09_exact_s1.j1
      rw [if_neg (by simp), wrap_succ _ (by omega)]
    by_cases e : lf came k ≠ lf N k
    · rw [if_pos e]
      have : (decide (lf N a = 1)) = false := by
        rw [decide_eq_false_iff_not]
        rcases h k hk with h | h
        · exact absurd h e
        · exact h
      rw [this]; exact go
    · rw [if_neg e]; exact go
  · dsimp only [capstanlaw09_exact_s1.F]
    rw [if_neg (by omega)]
theorem full_one {R : List (Nat × Nat)} {T : Nat → Int} (L : Lps R T) : ∀ s : List (Nat × Nat), (∀ x ∈ s, x ∈ R) → fullT T s = 1 → ∀ x ∈ s, T x.1 = 1
  | [], _, _ => fun x hx => by cases hx
  | y :: s, h, e => by
    have a := L.pos y (h y (by simp))
    have b := full_pos L s (fun z hz => h z (by simp [hz]))
    simp only [fullT] at e
    have c : T y.1 * 1 ≤ T y.1 * fullT T s := Int.mul_le_mul_of_nonneg_left b (by omega)
    have d : 1 * fullT T s ≤ T y.1 * fullT T s := Int.mul_le_mul_of_nonneg_right a (by omega)
    intro x hx
    rcases List.mem_cons.1 hx with e' | e'
    · subst e'; omega
    · exact full_one L s (fun z hz => h z (by simp [hz])) (by omega) x e'
theorem ends_run {l : List api_Instr} (ways : List Bool) (hwl : ways.length ≤ maxLen) (hk : Known l) (hf : Fine l) (hsum : sumTo (fun p => fullT (turns l) (ar l p)) l.length ≤ 20000) :
    ∀ (d steps : Nat) (left came : List Int) (a asked : Nat) (s : Bool), steps + d = 20000 → asked ≤ steps → Inv l left came a s steps →
      runF (capstanlaw09_FlowEnds.F l ways) (.l1 (tms l, true) left came a asked s steps) = some true := by
  have hn := hk.2.1
  have L := run_lps hk hf
  obtain ⟨o1, o2⟩ := run_pairs hf.1
  have hts : (tms l).length = l.length := by unfold tms; simp
  have htl : ∀ p, p < l.length → lf (tms l) p = fullT (turns l) (ar l p) := by
    intro p hp
    have : elt (tms l) (p : Int) = some (lf (tms l) p) := lf_elt (by omega)
    unfold tms at this; rw [elt_lt (by simpa using hp)] at this; simp only [List.getElem_map, List.getElem_range, Option.some.injEq] at this
    rw [← (tm_full hk hf hp).1, this]; rfl
  intro d
  induction d with
  | zero =>
    intro steps left came a asked s hd _ h
    exfalso
    have := sumTo_le l.length fun p hp => show lf came p + at1 a p ≤ fullT (turns l) (ar l p) by
      have := h.cnt p hp; have := rem_nonneg L h.live _ (around hf p); omega
    rw [sumTo_at1, if_pos h.al, h.sum] at this
    omega
  | succ d ih =>
    intro steps left came a asked s hd has h
    have ha := h.al
    have hcl : a < came.length := by rw [h.cl]; omega
    have hll := h.ll
    have hc0 := h.pos a ha
    have hca : lf came a + 1 ≤ fullT (turns l) (ar l a) := by
      have := h.cnt a ha; have := rem_nonneg L h.live _ (around hf a)
      have : at1 a a = 1 := by unfold at1; rw [if_pos rfl]
      omega
    have hfu := (tm_full hk hf ha).2
    have wc : IntKind.i64.wrap (lf came a + 1) = lf came a + 1 := wrap_id (by omega) (by omega)
    have e1 := lf_elt hcl
    have e2 : elt (tms l) (a : Int) = some (fullT (turns l) (ar l a)) := by rw [lf_elt (by omega), htl a ha]
    have e3 : elt (came.set a (lf came a + 1)) (a : Int) = some (lf came a + 1) := by
      rw [lf_elt (by simpa using hcl), lf_set hcl, if_pos rfl]
    have hm := hk.2.2 _ (List.getElem_mem ha)
    have hJ := hf.2.2 a ha
    have hlast : ¬ (l[a].Op = 31 ∨ l[a].Op = 32) → a + 1 < l.length := by
      intro h
      rcases Nat.lt_or_ge (a + 1) l.length with z | z
      · exact z
      · have e : l.length - 1 = a := by omega
        have := hf.2.1 l[a] (by rw [e, List.getElem?_eq_getElem ha])
        exact absurd this h
    have hloop : ∀ x ∈ RL (KK l) l.length, x.1 = a → l[a].Op = 28 := by
      intro x hx e
      have px := (mem_RL x).1 hx
      exact (loop_iff ha).1 (e ▸ px.2.2.1)
    have hagain : ∀ x ∈ RL (KK l) l.length, x.2 = a → l[a].Op = 29 ∧ l[a].A = (x.1 : Int) := by
      intro x hx e
      have px := (mem_RL x).1 hx
      exact (again_iff ha hk.2.2).1 (e ▸ px.2.2.2)
    -- the round
    have pre : ∀ r, (if ((decide (l[a].Op = 31)) || (decide (l[a].Op = 32))) = true then ((if (!s) = true then (some true) else ((capstanlaw09_exact_s1.f l (tms l) (came.set a (lf came a + 1)) a).bind fun t166 => some t166)).bind fun t167 => some (Sum.inr t167)) else (if ((decide (l[a].Op = 29)) && ((decide (l[a].A < 0)) || (decide (l[a].A ≥ (l.length : Int))))) = true then (some (.inr false)) else (if l[a].Op = 28 then ((elt left (a : Int)).bind fun x172 => capstanlaw09_FlowEnds.j1 l ways (tms l, true) came a steps (lf came a) (left.set a l[a].A) asked s ((a + 1 : Nat) : Int)) else (if l[a].Op = 29 then ((elt left l[a].A).bind fun x173 => (elt left l[a].A).bind fun x174 => (elt (left.set l[a].A.toNat (IntKind.i64.wrap (x173 - 1))) l[a].A).bind fun x175 => if x175 > 0 then (capstanlaw09_FlowEnds.j1 l ways (tms l, true) came a steps (lf came a) (left.set l[a].A.toNat (IntKind.i64.wrap (x173 - 1))) asked s (IntKind.i64.wrap (l[a].A + 1))) else (capstanlaw09_FlowEnds.j1 l ways (tms l, true) came a steps (lf came a) (left.set l[a].A.toNat (IntKind.i64.wrap (x173 - 1))) asked s ((a + 1 : Nat) : Int))) else (if l[a].Op = 26 then (capstanlaw09_FlowEnds.j1 l ways (tms l, true) came a steps (lf came a) left asked false l[a].A) else (if l[a].Op = 27 then ((if (asked : Int) < (ways.length : Int) then ((elt ways (asked : Int)).bind fun x180 => some x180) else (some false)).bind fun t181 => if t181 = true then (capstanlaw09_FlowEnds.j2 l ways (tms l, true) left came a asked steps (lf came a) l[a].A) else (capstanlaw09_FlowEnds.j2 l ways (tms l, true) left came a asked steps (lf came a) ((a + 1 : Nat) : Int))) else (capstanlaw09_FlowEnds.j1 l ways (tms l, true) came a steps (lf came a) left asked s ((a + 1 : Nat) : Int)))))))) = r → capstanlaw09_FlowEnds.F l ways (.l1 (tms l, true) left came a asked s steps) = r := by
      intro r hr
      dsimp only [capstanlaw09_FlowEnds.F]
      rw [if_pos (by omega), if_neg (by rw [Bool.or_eq_true, decide_eq_true_eq, decide_eq_true_eq]; omega), e1, e2]
      simp only [Option.bind_some]
      have e4 : ((a : Int)).toNat = a := rfl
      rw [e4, wc, e3, elt_lt ha]
      simp only [Option.bind_some]
      rw [if_neg (by omega), wrap_succ a (by omega)]
      exact hr
    have jj : ∀ left2 asked2 s2 (b : Nat), capstanlaw09_FlowEnds.j1 l ways (tms l, true) came a steps (lf came a) left2 asked2 s2 (b : Int) = some (.inl (.l1 (tms l, true) left2 (came.set a (lf came a + 1)) b asked2 s2 ((steps + 1 : Nat) : Int))) := by
      intro left2 asked2 s2 b
      unfold capstanlaw09_FlowEnds.j1
      have e4 : ((a : Int)).toNat = a := rfl
      rw [e4, wc, wrap_succ steps (by omega)]
    by_cases h31 : l[a].Op = 31 ∨ l[a].Op = 32
    · refine runF_end (pre _ ?_)
      rw [if_pos (by rw [Bool.or_eq_true, decide_eq_true_eq, decide_eq_true_eq]; exact h31)]
      cases s with
      | false => rfl
      | true =>
        rw [if_neg (by simp), exact_ok (by omega) (by simpa using hcl) (by omega) fun p hp => ?_]
        · rfl
        · rw [lf_set hcl, if_neg (by omega), htl p (by omega), htl a ha]
          by_cases hone : fullT (turns l) (ar l a) = 1
          · left
            have := h.same rfl p (by omega)
            have z : at1 a p = 0 := by unfold at1; rw [if_neg (by omega)]
            have r := rem_once L h.live hp (fun x hx x1 x2 => full_one L _ (around hf a).mem hone x (mem_ar hx x1 x2)) _ (around hf p)
            omega
          · right; exact hone
    · have hnx := hlast h31
      have bad31 : ¬ (((decide (l[a].Op = 31)) || (decide (l[a].Op = 32))) = true) := by rw [Bool.or_eq_true, decide_eq_true_eq, decide_eq_true_eq]; exact h31
      have hback : l[a].Op = 29 → 0 ≤ l[a].A ∧ l[a].A < a ∧ (l[a].A.toNat, a) ∈ RL (KK l) l.length := by
        intro h29
        have hp := may_place hm (.inr (.inr h29))
        have hkk : KK l a = .again l[a].A.toNat := (again_iff ha hk.2.2).2 ⟨h29, by omega⟩
        obtain ⟨b1, b2⟩ := o2 a _ ha hkk
        have hx := (mem_RL (l[a].A.toNat, a)).2 ⟨b1, ha, b2, hkk⟩
        have := L.lt _ hx
        dsimp only at this
        exact ⟨hp.1, by omega, hx⟩
      have bad29 : ¬ (((decide (l[a].Op = 29)) && ((decide (l[a].A < 0)) || (decide (l[a].A ≥ (l.length : Int))))) = true) := by
        rw [Bool.and_eq_true, Bool.or_eq_true, decide_eq_true_eq, decide_eq_true_eq, decide_eq_true_eq]
        rintro ⟨h29, hh⟩
        have := hback h29
        omega
      -- on to the next place, nothing else
      have plain : l[a].Op ≠ 28 → l[a].Op ≠ 29 → ∀ s2, (s2 = true → s = true) → Inv l left (came.set a (lf came a + 1)) (a + 1) s2 (steps + 1) := by
        intro h28 h29 s2 hs2
        have eq := fun p (hp : p < l.length) => rem_next (p := p) (G := lf left) (F := lf left) (a := a) L (fun x hx e => absurd (hloop x hx e) h28) (fun x hx _ _ => rfl) (fun x hx e => absurd (hagain x hx e).1 h29) _ (around hf p)
        refine h.next hn hnx hll (fun x hx x1 x2 => ?_) (fun p hp => by rw [eq p hp]; exact Int.le_refl _) (fun e => ⟨hs2 e, eq⟩)
        have : x.1 ≠ a := fun e => h28 (hloop x hx e)
        exact h.live x hx (by omega) (by omega)
      -- a jump
      have jump : (l[a].Op = 26 ∨ l[a].Op = 27) → ∃ b : Nat, l[a].A = (b : Int) ∧ Inv l left (came.set a (lf came a + 1)) b false (steps + 1) := by
        intro hop
        obtain ⟨j1, j2, j3⟩ := hJ _ (List.getElem?_eq_getElem ha) hop
        have hin : ∀ x ∈ RL (KK l) l.length, x.1 < l[a].A.toNat → l[a].A.toNat ≤ x.2 → x.1 < a ∧ a ≤ x.2 := by
          intro x hx x1 x2
          have := j3 x ((mem_RL x).1 hx) (by omega) (by omega)
          omega
        refine ⟨l[a].A.toNat, by omega, h.next hn (by omega) hll (fun x hx x1 x2 => ?_) (fun p hp => rem_jump L h.live (by omega) hin _ (around hf p)) (fun e => by cases e)⟩
        have := hin x hx x1 x2
        exact h.live x hx this.1 this.2
      by_cases h28 : l[a].Op = 28
      · have hA := may_turns hm h28
        have hTa : turns l a = l[a].A := turns_at ha
        have hal : a < left.length := by omega
        refine (runF_step (pre _ ?_)).trans (ih (steps + 1) (left.set a l[a].A) _ (a + 1) asked s (by omega) (by omega) (h.next hn hnx (by simpa using hll) (fun x hx x1 x2 => ?_) (fun p hp => ?_) (fun e => ⟨e, fun p hp => ?_⟩)))
        · rw [if_neg bad31, if_neg bad29, if_pos h28, lf_elt hal]
          simp only [Option.bind_some]
          exact jj _ _ _ _
        · rw [lf_set hal]
          by_cases e : x.1 = a
          · rw [if_pos e, e, hTa]; omega
          · rw [if_neg e]; exact h.live x hx (by omega) (by omega)
        all_goals
          have eq := rem_next (p := p) (G := lf (left.set a l[a].A)) (F := lf left) (a := a) L (fun x hx e => by rw [lf_set hal, if_pos rfl, hTa]) (fun x hx x1 x2 => by rw [lf_set hal, if_neg (by omega)]) (fun x hx e => by have := (hagain x hx e).1; omega) _ (around hf p)
          rw [eq]
        exact Int.le_refl _
      · by_cases h29 : l[a].Op = 29
        · obtain ⟨b1, b2, b3⟩ := hback h29
          have hb : l[a].A.toNat < left.length := by omega
          have hbA : ((l[a].A.toNat : Nat) : Int) = l[a].A := by omega
          have lv := h.live _ b3 (by dsimp only; omega) (Nat.le_refl _)
          dsimp only at lv
          have tb : turns l l[a].A.toNat ≤ 100 := by
            have px := (mem_RL _).1 b3
            rw [turns_at px.1]
            exact (may_turns (hk.2.2 _ (List.getElem_mem px.1)) ((loop_iff px.1).1 px.2.2.1)).2.1
          have ev : elt left l[a].A = some (lf left l[a].A.toNat) := by rw [← hbA, lf_elt hb]; rfl
          have wv : IntKind.i64.wrap (lf left l[a].A.toNat - 1) = lf left l[a].A.toNat - 1 := wrap_id (by omega) (by omega)
          have ew : elt (left.set l[a].A.toNat (lf left l[a].A.toNat - 1)) l[a].A = some (lf left l[a].A.toNat - 1) := by
            rw [← hbA, lf_elt (by simpa using hb)]
            have : ((l[a].A.toNat : Nat) : Int).toNat = l[a].A.toNat := rfl
            rw [this, lf_set hb, if_pos rfl]
          by_cases hpos : lf left l[a].A.toNat - 1 > 0
          · refine (runF_step (pre _ ?_)).trans (ih (steps + 1) (left.set l[a].A.toNat (lf left l[a].A.toNat - 1)) _ (l[a].A.toNat + 1) asked s (by omega) (by omega) (h.next hn (by omega) (by simpa using hll) (fun x hx x1 x2 => ?_) (fun p hp => ?_) (fun e => ⟨e, fun p hp => ?_⟩)))
            · have e5 : IntKind.i64.wrap (l[a].A + 1) = ((l[a].A.toNat + 1 : Nat) : Int) := by rw [wrap_id (by omega) (by omega)]; omega
              rw [if_neg bad31, if_neg bad29, if_neg h28, if_pos h29, ev]
              simp only [Option.bind_some]
              rw [wv, ew]
              simp only [Option.bind_some]
              rw [if_pos hpos, e5]
              exact jj _ _ _ _
            · rw [lf_set hb]
              by_cases e : x.1 = l[a].A.toNat
              · rw [if_pos e, e]; omega
              · rw [if_neg e]
                have := L.nest x hx _ b3 (by dsimp only; omega) (by dsimp only; omega)
                dsimp only at this
                exact h.live x hx (by omega) (by omega)
            all_goals
              have eq := rem_back (p := p) (G := lf (left.set l[a].A.toNat (lf left l[a].A.toNat - 1))) (F := lf left) L b3 (by rw [lf_set hb, if_pos rfl]) (fun y hy hne => by rw [lf_set hb, if_neg (fun e => hne (L.one y hy _ b3 (.inl e)))]) _ (around hf p) (fun x1 x2 => mem_ar b3 x1 x2)
              dsimp only at eq
              rw [eq]
            exact Int.le_refl _
          · have hone : lf left l[a].A.toNat = 1 := by omega
            have hx1 : ∀ x ∈ RL (KK l) l.length, x.1 = l[a].A.toNat → x.2 = a := fun x hx e => by
              have := L.one x hx _ b3 (.inl e); rw [this]
            refine (runF_step (pre _ ?_)).trans (ih (steps + 1) (left.set l[a].A.toNat (lf left l[a].A.toNat - 1)) _ (a + 1) asked s (by omega) (by omega) (h.next hn hnx (by simpa using hll) (fun x hx x1 x2 => ?_) (fun p hp => ?_) (fun e => ⟨e, fun p hp => ?_⟩)))
            · rw [if_neg bad31, if_neg bad29, if_neg h28, if_pos h29, ev]
              simp only [Option.bind_some]
              rw [wv, ew]
              simp only [Option.bind_some]
              rw [if_neg hpos]
              exact jj _ _ _ _
            · have n1 : x.1 ≠ a := fun e => h28 (hloop x hx e)
              rw [lf_set hb, if_neg (fun e => by have := hx1 x hx e; omega)]
              exact h.live x hx (by omega) (by omega)
            all_goals
              have eq := rem_next (p := p) (G := lf (left.set l[a].A.toNat (lf left l[a].A.toNat - 1))) (F := lf left) (a := a) L (fun x hx e => absurd (hloop x hx e) h28) (fun x hx x1 x2 => by rw [lf_set hb, if_neg (fun e => by have := hx1 x hx e; omega)]) (fun x hx e => by
                have := (hagain x hx e).2
                have e6 : x.1 = l[a].A.toNat := by omega
                rw [e6]; exact hone) _ (around hf p)
              rw [eq]
            exact Int.le_refl _
        · by_cases h26 : l[a].Op = 26
          · obtain ⟨b, eb, hb⟩ := jump (.inl h26)
            refine (runF_step (pre _ ?_)).trans (ih (steps + 1) left _ b asked false (by omega) (by omega) hb)
            rw [if_neg bad31, if_neg bad29, if_neg h28, if_neg h29, if_pos h26, eb]
            exact jj _ _ _ _
          · by_cases h27 : l[a].Op = 27
            · obtain ⟨b, eb, hb⟩ := jump (.inr h27)
              have hq : ∃ q : Bool, (if (asked : Int) < (ways.length : Int) then ((elt ways (asked : Int)).bind fun x180 => some x180) else (some false)) = some q := by
                by_cases z : asked < ways.length
                · rw [if_pos (by omega), elt_lt z]; exact ⟨_, rfl⟩
                · rw [if_neg (by omega)]; exact ⟨_, rfl⟩
              obtain ⟨q, hq⟩ := hq
              have wa : IntKind.i64.wrap ((asked : Int) + 1) = ((asked + 1 : Nat) : Int) := wrap_succ asked (by omega)
              cases q with
              | true =>
                refine (runF_step (pre _ ?_)).trans (ih (steps + 1) left _ b (asked + 1) false (by omega) (by omega) hb)
                rw [if_neg bad31, if_neg bad29, if_neg h28, if_neg h29, if_neg h26, if_pos h27, hq]
                simp only [Option.bind_some]
                rw [if_pos trivial, eb]
                unfold capstanlaw09_FlowEnds.j2
                rw [wa]
                exact jj _ _ _ _
              | false =>
                refine (runF_step (pre _ ?_)).trans (ih (steps + 1) left _ (a + 1) (asked + 1) false (by omega) (by omega) (plain h28 h29 false (fun e => by cases e)))
                rw [if_neg bad31, if_neg bad29, if_neg h28, if_neg h29, if_neg h26, if_pos h27, hq]
                simp only [Option.bind_some]
                rw [if_neg (by simp)]
                unfold capstanlaw09_FlowEnds.j2
                rw [wa]
                exact jj _ _ _ _
            · refine (runF_step (pre _ ?_)).trans (ih (steps + 1) left _ (a + 1) asked s (by omega) (by omega) (plain h28 h29 s (fun e => e)))
              rw [if_neg bad31, if_neg bad29, if_neg h28, if_neg h29, if_neg h26, if_neg h27]
              exact jj _ _ _ _
theorem law_ends {l : List api_Instr} (hl : l.length ≤ maxLen) (hw : ∀ x ∈ l, wf_api_Instr x) {ways : List Bool} (hwl : ways.length ≤ maxLen) : capstanlaw09_FlowEnds.f l ways = some true := by
  unfold capstanlaw09_FlowEnds.f
  have none_ : capstanlaw09_flows.f l = some ([], false) → runF (capstanlaw09_FlowEnds.F l ways) .start = some true := by
    intro h
    refine runF_end ?_
    dsimp only [capstanlaw09_FlowEnds.F]
    rw [awake]
    simp only [Option.bind_some]
    rw [if_neg (by simp), h]; rfl
  by_cases h3 : (l.length : Int) > 300
  · refine none_ (runF_end ?_)
    dsimp only [capstanlaw09_flows.F]
    rw [if_pos h3]
  rcases flows_ok (by omega) hw with h | ⟨hk, hf, h, hsum⟩
  · exact none_ h
  · rw [runF_step (t := .l1 (tms l, true) (List.replicate 300 0) (List.replicate 300 0) ((0 : Nat) : Int) ((0 : Nat) : Int) true ((0 : Nat) : Int)) (by
      dsimp only [capstanlaw09_FlowEnds.F]
      rw [awake]
      simp only [Option.bind_some]
      rw [if_neg (by simp), h]; rfl)]
    have L := run_lps hk hf
    have z : ∀ p, lf (List.replicate 300 0) p = 0 := by
      intro p
      unfold lf
      rw [List.getD_eq_getElem?_getD, List.getElem?_replicate]
      split <;> rfl
    have start : ∀ p, p < l.length → lf (List.replicate 300 0) p + (at1 0 p + remT (turns l) (lf (List.replicate 300 0)) p 0 (ar l p)) = fullT (turns l) (ar l p) := by
      intro p hp
      rw [z]
      have on := (around hf p).on
      cases hs : ar l p with
      | nil =>
        unfold remT at1 fullT
        by_cases e : 0 < p
        · rw [if_pos e, if_neg (by omega)]; rfl
        · rw [if_neg e, if_pos (by omega)]; rfl
      | cons x s =>
        have := on x (by rw [hs]; simp)
        unfold remT at1
        rw [if_pos (Nat.zero_le _), if_neg (by omega)]
        simp only [fullT]; omega
    refine ends_run ways hwl hk hf hsum 20000 0 _ _ 0 0 true rfl (Nat.le_refl _) ⟨by have := hk.1; omega, List.length_replicate, List.length_replicate, fun x hx x1 x2 => by omega, fun p hp => by rw [z]; exact Int.le_refl _, fun p hp => by rw [start p hp]; exact Int.le_refl _, fun _ => start, ?_⟩
    have : ∀ m, sumTo (lf (List.replicate 300 0)) m = 0 := by
      intro m
      induction m with
      | zero => rfl
      | succ m ih => simp only [sumTo, ih, z]; rfl
    rw [this]; rfl
end FlowPure
/-- Whichever way an OpZero goes each time, code that flows well comes to an OpRet or an OpTrap, and to each place at most so often as is told. -/
theorem flowEnds_card : Rows.FlowEndsCardSaid := flowEnds.card fun x0 x1 h h1 => FlowPure.law_ends h.1 h.2 h1.1
#print axioms flowEnds_card
end Go.Proofs.YtbejlahmhloloaaDoor
