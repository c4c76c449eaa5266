/- Words of this seat: of plain functions that go step by step. -/
import Derived.Test.YtehjiiebjkkcmaaGreatDoorQ11xVerifyTells
set_option linter.unusedVariables false
set_option linter.unusedSimpArgs false
namespace Go.Q
theorem Xr {x : Int} (h1 : -9223372036854775808 ≤ x) (h2 : x < 9223372036854775808) : IntKind.i64.wrap x = x := by
 simp only [IntKind.wrap, IntKind.bits, IntKind.signed]
 first | omega | (split <;> omega) | (simp; omega)
theorem Zl (k : Nat) (h : k < 4611686018427387904) : IntKind.i64.wrap ((k : Int) + 1) = ((k + 1 : Nat) : Int) := by
 rw [Xr (by omega) (by omega)]; omega
theorem Ju {α : Type} (xs : List α) (k : Nat) : elt xs (k : Int) = xs[k]? := by
 unfold elt; rw [if_pos (by omega)]; simp
theorem Zp {α : Type} {xs : List α} {k : Nat} (h : k < xs.length) : elt xs (k : Int) = some xs[k] := by
 rw [Ju, List.getElem?_eq_getElem h]
theorem Zc {S R : Type} {F : S → Option (S ⊕ R)} {s t : S} (h : F s = some (.inl t)) : runF F s = runF F t := by rw [Z0F, h]
theorem Zf {S R : Type} {F : S → Option (S ⊕ R)} {s : S} {r : R} (h : F s = some (.inr r)) : runF F s = some r := by rw [Z0F, h]
theorem Vs {S R : Type} {F : S → Option (S ⊕ R)} {n : Nat} (s : Nat → S) (h : ∀ k, k < n → F (s k) = some (.inl (s (k + 1)))) : runF F (s 0) = runF F (s n) := by
 have key : ∀ k, k ≤ n → runF F (s 0) = runF F (s k) := by
  intro k
  induction k with
  | zero => intro _; rfl
  | succ k ih => intro hk; rw [ih (by omega), Zc (h k (by omega))]
 exact key n (Nat.le_refl _)
theorem Z1x {α β : Type} {l : List α} {x y : Option β} (h : l = [] → x = y) : nilOr l x y = y := by
 cases l with
 | nil => rw [h rfl]; exact Z5z _
 | cons a l => rfl
theorem take_succ {α : Type} (l : List α) (k : Nat) (h : k < l.length) : l.take (k + 1) = l.take k ++ [l[k]] := by
 rw [List.take_add_one, List.getElem?_eq_getElem h]; rfl
end Go.Q
