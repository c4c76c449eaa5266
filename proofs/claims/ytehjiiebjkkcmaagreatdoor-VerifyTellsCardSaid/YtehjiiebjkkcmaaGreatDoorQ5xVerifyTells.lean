/- Words of this seat: arguments as a law's statement reads them, and a law's end. -/
import Derived.Test.YtehjiiebjkkcmaaGreatDoorQ4xVerifyTells
import Derived.ProofKit
import Derived.Carry
set_option linter.unusedVariables false
set_option linter.unusedSimpArgs false
namespace Go.Q
def Opens (P : Program) (t : TypeId) {α : Type} (k : Kd α) (wf : α → Prop) : Prop :=
 ∀ {H : Type} (enc : TypeId × Value → H) (W : World) (fuel : Nat) (cs : List Value) (d : DataW H) (ps : List MemPlace), DataW.trod enc P W 0 (fun _ => true) true fuel t cs = some (d, ps) → ∃ x, k.rd (hp W) cs x ∧ wf x
section
variable {P : Program} {t e : TypeId} {α β : Type} {k : Kd α} {wf : α → Prop}
theorem Opens.int {ik : IntKind} (hu : P.underlying t = some (.int ik)) : Opens P t (kInt ik) (fun x => (Lit.int ik x).wf = true) := by
 intro H enc W fuel cs d ps h
 cases fuel with
 | zero => simp [DataW.trod] at h
 | succ n =>
  unfold DataW.trod at h
  rw [hu] at h
  split at h <;> first | (simp at *; done) | skip
  rename_i k0 k' n' heq
  simp at heq; subst heq
  split at h
  ·rename_i hk; obtain ⟨rfl, hw⟩ := hk; exact ⟨n', rfl, hw⟩
  ·cases h
theorem Opens.bool (hu : P.underlying t = some .bool) : Opens P t kBool (fun _ => True) := by
 intro H enc W fuel cs d ps h
 cases fuel with
 | zero => simp [DataW.trod] at h
 | succ n =>
  unfold DataW.trod at h
  rw [hu] at h
  split at h <;> first | (simp at *; done) | skip
  exact ⟨_, rfl, trivial⟩
theorem Z1b {γ δ : Type} {f : γ → Option δ} : ∀ {l : List γ} {r : List δ}, l.mapM f = some r → r.length = l.length ∧ ∀ (i : Nat) x, l[i]? = some x → ∃ y, f x = some y
 | [], r, h => by simp at h; subst h; exact ⟨rfl, fun i x hx => by simp at hx⟩
 | z :: l, r, h => by
  simp only [List.mapM_cons, Option.bind_eq_bind, Option.pure_def] at h
  cases hz : f z with
  | none => simp [hz] at h
  | some y =>
   cases hr : l.mapM f with
   | none => simp [hz, hr] at h
   | some ys =>
    simp [hz, hr] at h
    subst h
    obtain ⟨h1, h2⟩ := Z1b hr
    refine ⟨by simp [h1], fun i x hx => ?_⟩
    cases i with
    | zero => simp at hx; subst hx; exact ⟨y, hz⟩
    | succ i => exact h2 i x (by simpa using hx)
theorem Z6I {W : World} {a : Addr} : ∀ {n : Nat} {cs : List Value}, W.cells? 0 a n = some cs → cs.length = n ∧ ∀ j u, cs[j]? = some u → W.cell? (a.add j) = some u := by
 intro n cs h
 unfold World.cells? at h
 rw [if_pos (Nat.zero_le _)] at h
 have key : ∀ (l : List Nat) (cs : List Value), l.mapM (fun i => W.cell? (a.add i)) = some cs → cs.length = l.length ∧ ∀ (j : Nat) u, cs[j]? = some u → ∃ i, l[j]? = some i ∧ W.cell? (a.add i) = some u := by
  intro l
  induction l with
  | nil => intro cs h; simp at h; subst h; exact ⟨rfl, fun j u hj => by simp at hj⟩
  | cons z l ih =>
   intro cs h
   simp only [List.mapM_cons, Option.bind_eq_bind, Option.pure_def] at h
   cases hz : W.cell? (a.add z) with
   | none => simp [hz] at h
   | some y =>
    cases hr : l.mapM (fun i => W.cell? (a.add i)) with
    | none => simp [hz, hr] at h
    | some ys =>
     simp [hz, hr] at h
     subst h
     obtain ⟨h1, h2⟩ := ih ys hr
     refine ⟨by simp [h1], fun j u hj => ?_⟩
     cases j with
     | zero => simp at hj; subst hj; exact ⟨z, rfl, hz⟩
     | succ j => simpa using h2 j u (by simpa using hj)
 obtain ⟨h1, h2⟩ := key _ _ h
 refine ⟨by simpa using h1, fun j u hj => ?_⟩
 obtain ⟨i, hi, hc⟩ := h2 j u hj
 have : i = j := by
  rw [List.getElem?_range] at hi
  ·simpa using hi.symm
  ·rcases Nat.lt_or_ge j n with h | h
   ·exact h
   ·rw [List.getElem?_eq_none (by simpa using h)] at hi; cases hi
 subst this
 exact hc
theorem Z4b {W : World} {b o : Nat} {cs : List Value} (hne : cs ≠ []) (h : ∀ j u, cs[j]? = some u → W.cell? ((⟨b, o, none⟩ : Addr).add j) = some u) : At (hp W) b o cs := by
 cases cs with
 | nil => exact absurd rfl hne
 | cons c0 r =>
  have add : ∀ j, (⟨b, o, none⟩ : Addr).add j = ⟨b, o + j, none⟩ := fun j => by unfold Addr.add; split <;> simp_all
  have h0 := h 0 c0 rfl
  rw [add] at h0
  unfold World.cell? at h0
  split at h0
  ·rename_i c T fr hb
   refine ⟨c, T, fr, hb, fun j u hj => ?_⟩
   have := h j u hj
   rw [add] at this
   have hb' : W.heap[b]? = some (.cells c T fr) := hb
   simpa [World.cell?, hb'] using this
  ·cases h0
theorem cell_spot {W : World} {a : Addr} {u : Value} (h : W.cell? a = some u) : a.spot = none := by
 unfold World.cell? at h
 split at h
 ·split at h
  ·cases h
  ·rename_i hs; simpa using hs
 ·cases h
theorem Opens.slice (hu : P.underlying t = some (.slice e)) (he : Opens P e k wf) (hs : P.cellsOf e = k.sz) (hk : 0 < k.sz) : Opens P t (kSl k) (fun xs => xs.length ≤ maxLen ∧ ∀ x ∈ xs, wf x) := by
 intro H enc W fuel cs d ps h
 cases fuel with
 | zero => simp [DataW.trod] at h
 | succ n =>
  unfold DataW.trod at h
  rw [hu] at h
  split at h <;> first | (simp at *; done) | skip
  ·exact ⟨[], ⟨_, rfl, none, 0, rfl, by simp, fun _ => ⟨rfl, rfl⟩, fun a ha => by cases ha⟩, by simp [maxLen], fun x hx => by cases hx⟩
  ·rename_i e' a len cap heq
   simp at heq; subst heq
   dsimp only at h
   split at h
   ·rename_i hb
    cases hm : (List.range len).mapM (fun i => (W.cells? 0 (a.add (i * P.cellsOf e)) (P.cellsOf e)).bind (DataW.trod enc P W 0 (fun _ => true) true n e)) with
    | none => rw [hm] at h; simp at h
    | some es =>
     obtain ⟨-, hg⟩ := Z1b hm
     have key : ∀ i, i < len → ∃ x, wf x ∧ ∃ cs, k.rd (hp W) cs x ∧ cs.length = k.sz ∧ ∀ j u, cs[j]? = some u → W.cell? ((a.add (i * k.sz)).add j) = some u := fun i hi => by
      obtain ⟨y, hy⟩ := hg i i (by rw [List.getElem?_range hi])
      cases hc : W.cells? 0 (a.add (i * P.cellsOf e)) (P.cellsOf e) with
      | none => rw [hc] at hy; simp at hy
      | some cs =>
       rw [hc] at hy
       simp at hy
       obtain ⟨x, hx, hw⟩ := he enc W n cs y.1 y.2 (by simpa using hy)
       obtain ⟨h1, h2⟩ := Z6I hc
       exact ⟨x, hw, cs, hx, by rw [h1, hs], by rw [hs] at h2; exact h2⟩
     have ch : ∃ xs : List α, xs.length = len ∧ ∀ i x, xs[i]? = some x → wf x ∧ ∃ cs, k.rd (hp W) cs x ∧ cs.length = k.sz ∧ ∀ j u, cs[j]? = some u → W.cell? ((a.add (i * k.sz)).add j) = some u := by
      clear h hm hg hb
      induction len with
      | zero => exact ⟨[], rfl, fun i x hx => by simp at hx⟩
      | succ m ih =>
       obtain ⟨xs, h1, h2⟩ := ih (fun i hi => key i (by omega))
       obtain ⟨x, hx⟩ := key m (by omega)
       refine ⟨xs ++ [x], by simp [h1], fun i y hy => ?_⟩
       rcases Nat.lt_or_ge i xs.length with hl | hl
       ·rw [List.getElem?_append_left hl] at hy; exact h2 i y hy
       ·rw [List.getElem?_append_right hl] at hy
        have : i - xs.length = 0 := by
         rcases Nat.eq_zero_or_pos (i - xs.length) with z | z
         ·exact z
         ·rw [List.getElem?_eq_none (by simp; omega)] at hy; cases hy
        have e1 : i = m := by omega
        subst e1
        rw [this] at hy; simp at hy; subst hy; exact hx
     obtain ⟨xs, rfl, hxs⟩ := ch
     refine ⟨xs, ⟨_, rfl, some a, cap, rfl, hb.2.1, (fun e => by cases e), fun a' ha i x hx => ?_⟩, Nat.le_trans hb.2.1 hb.2.2, fun x hx => ?_⟩
     ·obtain rfl : a = a' := by simpa using ha
      have spot : a.spot = none := by
       have h0 : 0 < xs.length := by
        rcases Nat.eq_zero_or_pos xs.length with z | z
        ·rw [List.getElem?_eq_none (by omega)] at hx; cases hx
        ·exact z
       obtain ⟨-, cs, hr, hl, hc⟩ := hxs 0 xs[0] (by simp)
       have : 0 < cs.length := by omega
       have := cell_spot (hc 0 cs[0] (by simp))
       simpa [Addr.add] using this
      obtain ⟨-, cs, hr, hl, hc⟩ := hxs i x hx
      refine ⟨spot, cs, hr, Z4b (fun e => by subst e; simp at hl; omega) fun j u hj => ?_⟩
      have := hc j u hj
      obtain ⟨ab, ao, as⟩ := a
      simp at spot; subst spot
      have hadd : (⟨ab, ao, none⟩ : Addr).add (i * k.sz) = ⟨ab, ao + i * k.sz, none⟩ := by unfold Addr.add; split <;> simp_all
      rwa [hadd] at this
     ·obtain ⟨i, hi⟩ := List.getElem?_of_mem hx
      exact (hxs i x hi).1
   ·cases h
theorem trod_struct {fs : Array Field} {H : Type} {enc : TypeId × Value → H} {W : World} {n : Nat} {cs : List Value} {d : DataW H} {ps : List MemPlace} (hu : P.underlying t = some (.struct fs)) (h : DataW.trod enc P W 0 (fun _ => true) true (n + 1) t cs = some (d, ps)) :
    cs.length = P.cellsOf t ∧ ∀ (i : Nat) f, fs[i]? = some f → ∃ d p, DataW.trod enc P W 0 (fun _ => true) true n f.type ((cs.drop f.offset).take (P.cellsOf f.type)) = some (d, p) := by
 unfold DataW.trod at h
 rw [hu] at h
 simp only at h
 split at h
 ·rename_i hl
  refine ⟨hl, fun i f hf => ?_⟩
  cases hm : (fs.toList.mapM fun f => DataW.trod enc P W 0 (fun _ => true) true n f.type ((cs.drop f.offset).take (P.cellsOf f.type))) with
  | none => rw [hm] at h; simp at h
  | some es =>
   obtain ⟨y, hy⟩ := (Z1b hm).2 i f (by simpa using hf)
   exact ⟨y.1, y.2, by simpa using hy⟩
 ·cases h
theorem okWide_struct {fs : Array Field} {W : World} {r : Reach} {b0 : Nat} {v : Value} (hu : P.underlying t = some (.struct fs)) (h : Value.okWide P W r b0 t v) : ∃ cs, v = .agg cs := by
 unfold Value.okWide at h
 rw [hu] at h
 obtain ⟨cs, rfl, -⟩ := h
 exact ⟨cs, rfl⟩
end
theorem Since.below {w w' : World} {hV : Hp} {F : Hp → Hp → Prop} (h : Since w em hV F w') : Go.RowKit.Below w.heap.size w w' := by
 obtain ⟨m, f, -⟩ := h
 refine ⟨m.os, m.tape, m.output, m.size, fun k hk => ?_⟩
 have : w.heap[k]? = some w.heap[k] := by simp [hk]
 rw [this]
 exact f k _ this rfl
theorem Since.known {w w' : World} {hA hV : Hp} {q : Prop} (h : Since w hA hV (HO.pure q).p w') : q := by
 obtain ⟨-, -, hN, hO, -, -, -, -, -, h⟩ := h
 exact h
theorem len3 {l : List Value} (h : l.length = 3) : ∃ c0 c1 c2, l = [c0, c1, c2] := by
 rcases l with _ | ⟨c0, _ | ⟨c1, _ | ⟨c2, _ | ⟨_, _⟩⟩⟩⟩
 all_goals first | (simp at h; done) | skip
 exact ⟨_, _, _, rfl⟩
theorem len4 {l : List Value} (h : l.length = 4) : ∃ c0 c1 c2 c3, l = [c0, c1, c2, c3] := by
 rcases l with _ | ⟨c0, _ | ⟨c1, _ | ⟨c2, _ | ⟨c3, _ | ⟨_, _⟩⟩⟩⟩⟩
 all_goals first | (simp at h; done) | skip
 exact ⟨_, _, _, _, rfl⟩
theorem len8 {l : List Value} (h : l.length = 8) : ∃ c0 c1 c2 c3 c4 c5 c6 c7, l = [c0, c1, c2, c3, c4, c5, c6, c7] := by
 rcases l with _ | ⟨c0, _ | ⟨c1, _ | ⟨c2, _ | ⟨c3, _ | ⟨c4, _ | ⟨c5, _ | ⟨c6, _ | ⟨c7, _ | ⟨_, _⟩⟩⟩⟩⟩⟩⟩⟩⟩
 all_goals first | (simp at h; done) | skip
 exact ⟨_, _, _, _, _, _, _, _, rfl⟩
end Go.Q
