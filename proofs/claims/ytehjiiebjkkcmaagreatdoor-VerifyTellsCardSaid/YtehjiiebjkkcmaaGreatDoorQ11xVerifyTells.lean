/- Words of this seat: literals of structs, by their parts' cells; arrays. -/
import Derived.Test.YtehjiiebjkkcmaaGreatDoorQ10xVerifyTells
set_option linter.unusedVariables false
set_option linter.unusedSimpArgs false
namespace Go.Q
def nthP : List (Nat × Nat) → Nat → Option (Nat × Nat)
 | [], _ => none
 | v :: _, 0 => some v
 | _ :: r, n + 1 => nthP r n
theorem Z26 : ∀ (l : List (Nat × Nat)) (i : Nat), nthP l i = l[i]?
 | [], _ => by simp [nthP]
 | _ :: _, 0 => by simp [nthP]
 | _ :: r, n + 1 => by simp [nthP, Z26 r n]
def fillC (pl : List (Nat × Nat)) : List Value → List (Nat × List Value) → Option (List Value)
 | cells, [] => some cells
 | cells, (i, c) :: rest => match nthP pl i with
  | none => none
  | some (off, size) => bif Nat.beq c.length size && Nat.ble (off + size) cells.length then fillC pl (put cells off c) rest else none
def CA : List (Nat × Value) → List (Nat × List Value) → Prop
 | [], [] => True
 | (i, v) :: r, (j, c) :: s => i = j ∧ v.cells = c.toArray ∧ CA r s
 | _, _ => False
theorem Z6L (off : Nat) (c cells : List Value) (h : off + c.length ≤ cells.length) : (c.toArray.zipIdx.foldl (fun cs (x : Value × Nat) => cs.setIfInBounds (off + x.2) x.1) cells.toArray) = (put cells off c).toArray := by
 have e : c.toArray.zipIdx.foldl (fun cs (x : Value × Nat) => cs.setIfInBounds (off + x.2) x.1) cells.toArray = (c.zipIdx 0).foldl (fun cs (x : Value × Nat) => cs.setIfInBounds (off + x.2) x.1) cells.toArray := by
  simp
 rw [e]
 obtain ⟨h1, h2⟩ := Go.Great.foldl_set off c 0 cells.toArray
 apply Array.ext_getElem?
 intro k
 rw [h2 k]
 have := TF (cs := cells) (vs := c) (o := off) (i := k) h
 simp only [List.getElem?_toArray]
 rw [this]
 simp only [Nat.add_zero, List.size_toArray]
 by_cases hk : off ≤ k ∧ k < off + c.length
 ·rw [if_pos ⟨hk.1, hk.2, by omega⟩, if_pos hk]
 ·rw [if_neg (by omega), if_neg hk]
theorem Z27 {place : Nat → Option (Nat × Nat)} {pl : List (Nat × Nat)} (hp : ∀ i x, nthP pl i = some x → place i = some x) : ∀ {us : List (Nat × Value)} {ucs : List (Nat × List Value)} {cells cs : List Value}, CA us ucs → fillC pl cells ucs = some cs → Instr.fill place cells.toArray us = some cs.toArray
 | [], [], cells, cs, _, h => by
  simp only [fillC, Option.some.injEq] at h; subst h; rfl
 | (i, v) :: r, (j, c) :: s, cells, cs, ⟨e, hc, ca⟩, h => by
  subst e
  unfold fillC at h
  split at h
  ·cases h
  ·rename_i off size hn
   cases hb : (Nat.beq c.length size && Nat.ble (off + size) cells.length) with
   | false => rw [hb] at h; cases h
   | true =>
    rw [hb] at h
    simp only [cond_true] at h
    simp only [Bool.and_eq_true] at hb
    have h1 := Nat.eq_of_beq_eq_true hb.1
    have h2 := Nat.le_of_ble_eq_true hb.2
    unfold Instr.fill
    rw [hp i _ hn]
    simp only [hc]
    rw [if_neg (by simp; omega)]
    have := Z6L off c cells (by omega)
    have e2 : (c.toArray.zipIdx.foldl (fun cs (x : Value × Nat) => match x with | (c, j) => cs.setIfInBounds (off + j) c) cells.toArray) = (put cells off c).toArray := this
    exact e2 ▸ Z27 hp ca h
 | [], _ :: _, _, _, h, _ => h.elim
 | _ :: _, [], _, _, h, _ => h.elim
def shapeOf (P : Program) (t : TypeId) : Option (List Value × List (Nat × Nat)) :=
 match P.info? t, P.underlying t with
 | some it, some (.struct fields) => match it.zero, fields.toList.mapM (fun f => (P.info? f.type).map fun i => (f.offset, i.size)) with
  | some z, some places => some (z.cells.toList, places)
  | _, _ => none
 | some it, some (.array len e) => match it.zero, P.info? e with
  | some z, some ie => some (z.cells.toList, (List.range len).map fun i => (i * ie.size, ie.size))
  | _, _ => none
 | _, _ => none
theorem Z6M {P : Program} {t : TypeId} {z : List Value} {pl : List (Nat × Nat)} (h : shapeOf P t = some (z, pl)) {us : List (Nat × Value)} {ucs : List (Nat × List Value)} {cs : List Value} (ca : CA us ucs) (hf : fillC pl z ucs = some cs) : P.built t us = some cs.toArray := by
 unfold shapeOf at h
 unfold Program.built
 cases hi : P.info? t with
 | none => rw [hi] at h; cases h
 | some it =>
  cases hu : P.underlying t with
  | none => rw [hi, hu] at h; cases h
  | some d =>
   rw [hi, hu] at h
   cases d <;> try (cases h; done)
   ·rename_i len e
    dsimp only at h ⊢
    cases hz : it.zero with
    | none => rw [hz] at h; cases h
    | some zz =>
     cases he : P.info? e with
     | none => rw [hz, he] at h; cases h
     | some ie =>
      rw [hz, he] at h
      simp only [Option.some.injEq, Prod.mk.injEq] at h
      obtain ⟨rfl, rfl⟩ := h
      have := Z27 (place := fun i => some (i * ie.size, ie.size)) (fun i x hx => by
       rw [Z26, List.getElem?_map] at hx
       obtain ⟨q, hq, rfl⟩ := Option.map_eq_some_iff.1 hx
       have : q = i := by rw [List.getElem?_range] at hq; exact (Option.some.inj hq).symm; exact Wd hq |> fun h => by simpa using h
       rw [this]) ca hf
      simpa using this
   ·rename_i fields
    dsimp only at h ⊢
    cases hz : it.zero with
    | none => rw [hz] at h; cases h
    | some zz =>
     cases he : fields.toList.mapM (fun f => (P.info? f.type).map fun i => (f.offset, i.size)) with
     | none => rw [hz, he] at h; cases h
     | some places =>
      rw [hz, he] at h
      simp only [Option.some.injEq, Prod.mk.injEq] at h
      obtain ⟨rfl, rfl⟩ := h
      have := Z27 (place := fun i => places.toArray[i]?) (pl := places) (fun i x hx => by rw [Z26] at hx; simpa using hx) ca hf
      simpa using this
theorem Val.buildC {P : Program} {n : Fr} {σ : List (Nat × Value)} {A : World → Prop} {dd : Option Nat} {t tr : TypeId} {pos : String} {af : Array Edge} {g : Option (Nat × Bool)} {parts : Array (Nat × Operand)} {us : List (Nat × Value)} {ucs : List (Nat × List Value)} {z cs : List Value} {pl : List (Nat × Nat)} (hs : shapeOf P t = some (z, pl)) (hp : parts.toList.map (fun q => q.1) = us.map (·.1)) (he : evs σ (parts.toList.map (·.2)) = some (us.map (·.2))) (ca : CA us ucs) (hf : fillC pl z ucs = some cs) : Val P n σ A ⟨dd, .build t parts, tr, pos, af, g⟩ (.agg cs.toArray) := by
 intro a w ha hw
 have hm : (parts.map fun q => (q.1, a.eval q.2)).toList = us := by
  rw [Array.toList_map]
  have h2 := ha.evals he
  clear he hf ca
  generalize parts.toList = pl at hp h2
  induction pl generalizing us with
  | nil => cases us with
   | nil => rfl
   | cons _ _ => simp at hp
  | cons q r ih => cases us with
   | nil => simp at hp
   | cons u r' =>
    simp at hp h2
    obtain ⟨u1, u2⟩ := u
    simp at hp h2
    simp [hp.1, h2.1]
    exact ih (by simpa using hp.2) (by simpa using h2.2)
 have := run_build (P := P) w t (parts.map fun q => (q.1, a.eval q.2)) cs.toArray (by rw [hm]; exact Z6M hs ca hf)
 simp [execOp, this]
end Go.Q
