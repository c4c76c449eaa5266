/- Words of this seat: drawn regions where several operations may come next. -/
import Derived.Test.YtehjiiebjkkcmaaGreatDoorQ17xVerifyTells
set_option linter.unusedVariables false
set_option linter.unusedSimpArgs false
namespace Go.Q
section
variable {P : Program} {n : Fr} {ρ : Option Nat} {σ σ' : List (Nat × Value)} {A A' : World → Prop} {L : List Oper} {Q : Cont} {S : World → Prop} {T : Nat → Bool} {fuel : Nat} {listed : Array Bool}
theorem DT.weak (s : SubE σ' σ) (hA : ∀ w, A w → A' w) (h : DT P n ρ σ' A' L Q T S fuel listed) : DT P n ρ σ A L Q T S fuel listed := fun a w ha hw => h a w (ha.sub s) (hA w hw)
theorem DT.list {l2 : Array Bool} (e : listed = l2) (h : DT P n ρ σ A L Q T S fuel l2) : DT P n ρ σ A L Q T S fuel listed := by rw [e]; exact h
theorem DT.cut {ι : Type} (σ' : ι → List (Nat × Value)) (A' : ι → World → Prop) (fuel' : Nat) (listed' : Array Bool) (later : ∀ z, DT P n ρ (σ' z) (A' z) L Q T S fuel' listed')
    (now : (∀ z, DT P n ρ (σ' z) (A' z) L Q T S fuel' listed') → DT P n ρ σ A L Q T S fuel listed) : DT P n ρ σ A L Q T S fuel listed := now later
def Ways (P : Program) (n : Fr) (ρ : Option Nat) (σ : List (Nat × Value)) (A : World → Prop) (L : List Oper) (Q : Cont) (T : Nat → Bool) (S : World → Prop) (fuel : Nat) (listed : Array Bool) : List Nat → Prop
 | [] => True
 | i :: r => (∃ oi, nth L i = some oi ∧ T i = true ∧ SP P n ρ σ A L [oi] (atT P ρ L Q T S fuel (listed.setIfInBounds i true))) ∧ Ways P n ρ σ A L Q T S fuel listed r
theorem Ways.get : ∀ {rs : List Nat} {i : Nat}, Ways P n ρ σ A L Q T S fuel listed rs → i ∈ rs → ∃ oi, nth L i = some oi ∧ T i = true ∧ SP P n ρ σ A L [oi] (atT P ρ L Q T S fuel (listed.setIfInBounds i true))
 | [], _, _, h => by cases h
 | _ :: r, i, h, hi => by
  rcases List.mem_cons.1 hi with rfl | hi
  ·exact h.1
  ·exact Ways.get h.2 hi
theorem DT.any (i0 : Nat) (rs : List Nat) (hr : (Region.ready .any L.toArray listed == i0 :: rs) = true) (h : Ways P n ρ σ A L Q T S fuel listed (i0 :: rs)) : DT P n ρ σ A L Q T S (fuel + 1) listed := fun a w ha hw => by
 have hr' : Region.ready .any L.toArray listed = i0 :: rs := by simpa using hr
 refine ⟨fun h0 => absurd (hr' ▸ h0) (by simp), fun j hj => ?_⟩
 rw [hr'] at hj
 obtain ⟨oi, hi, hT, hk⟩ := h.get hj
 have key := hk a w ha hw
 have hi' : L.toArray[j]? = some oi := by rw [J7] at hi; simpa using hi
 rw [hT]
 unfold wpListIn at key
 unfold wpOpIn
 rw [hi']
 dsimp only at key ⊢
 split at key
 ·rename_i hw'
  rw [if_pos hw']
  have := Oper.wpIn_mono (K' := fun a' w' => (true = true → S w') ∧ wpT P ρ L.toArray Q T S fuel (listed.setIfInBounds j true) a' w') (fun a' w' h => by
      have h' : S w' ∧ wpT P ρ L.toArray Q T S fuel (listed.setIfInBounds j true) a' w' := h
      exact ⟨fun _ => h'.1, h'.2⟩) key
  exact this
 ·rename_i hw'
  rw [if_neg hw']
  have k2 : S w ∧ wpT P ρ L.toArray Q T S fuel (listed.setIfInBounds j true) (a.put oi.dst undef) w := key.2
  exact ⟨fun _ _ => trivial, fun _ => k2.1, k2.2⟩
end
end Go.Q
