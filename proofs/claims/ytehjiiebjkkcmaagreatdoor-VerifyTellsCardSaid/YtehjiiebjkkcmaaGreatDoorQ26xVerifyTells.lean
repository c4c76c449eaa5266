/- Words of this seat: rows of numbers that the library sorts, or compacts. -/
import Derived.Test.YtehjiiebjkkcmaaGreatDoorQ25xVerifyTells
import Derived.Lib.SlicesCompact
set_option linter.unusedVariables false
set_option linter.unusedSimpArgs false
namespace Go.Q
open Go.Sort Go.Proofs
theorem Z06 {α : Type} [Inhabited α] {f : α → Value} (d : Array α) (j : Nat) (h : j < d.size) : (flatK (fun x => [f x]) 1 d)[j]! = f d[j]! := by
 rw [get_flatK _ _ _ _ (by omega), Nat.div_one, Nat.mod_one]; rfl
theorem holdsOne {α : Type} [Inhabited α] {f : α → Value} {w : World} {b o : Nat} {d : Array α} : HoldsK (fun x => [f x]) 1 w b o d ↔ Holds f w b o d.toList.toArray := by
 unfold HoldsK Holds
 rw [size_flatK, Nat.mul_one, Array.toArray_toList]
 constructor
 ·intro h j hj; have := h j hj; rw [Z06 d j hj] at this; exact this
 ·intro h j hj; have := h j hj; rw [Z06 d j hj]; exact this
theorem putOne {α : Type} [Inhabited α] {f : α → Value} {w : World} {b o : Nat} {d : Array α} : putRowK (fun x => [f x]) 1 w b o d = putRow f w b o d := by
 unfold putRowK putRow
 congr 1
 funext c
 unfold putCells
 rw [size_flatK, Nat.mul_one]
 apply Array.ext_getElem?
 intro i
 simp only [Array.getElem?_mapIdx]
 congr 1
 funext x
 split
 ·rename_i h; rw [Z06 d _ (by omega)]; rfl
 ·rfl
theorem Z28 {α : Type} [Inhabited α] {f : α → Value} {w : World} {b o n : Nat} {d : Array α} {os : Array Obj} : sortWorldK (fun x => [f x]) 1 w b o n d os = grow (putRow f (Sort.ahead w n) b o d) os := by
 unfold sortWorldK; rw [putOne]
theorem Z2D (w : World) : grow w #[] = w := by simp [grow]
theorem Z1z {α : Type} [DecidableEq α] [Inhabited α] (l : List α) : (Lib.compact l).length ≤ l.length := by
 unfold Lib.compact Lib.compactUpTo
 rw [List.length_map]
 exact Nat.le_trans (List.length_filter_le _ _) (by simp)
def Z29 (v : Value) (m : Nat) : Value := match v with
 | .slice (some a) _ cap => .slice (some a) m cap
 | v => v
theorem slO.shrink {α : Type} {k : Kd α} {T : TypeId} {v : Value} {L L' : List α} {a b : Hp} (hp : L'.length ≤ L.length) (he : ∃ z, L = L' ++ z) (h : (slO k T v L).p a b) : (slO k T (Z29 v L'.length) L').p a b := by
 obtain ⟨cells, f, hl, ⟨rfl, hn⟩ | ⟨g, cap, cur, rfl, hg, l, hm, hs, ht⟩⟩ := h
 ·obtain rfl := List.eq_nil_of_length_eq_zero hn
  obtain rfl := List.eq_nil_of_length_eq_zero (Nat.le_zero.1 hp)
  exact ⟨cells, f, hl, .inl ⟨rfl, rfl⟩⟩
 ·obtain ⟨z, rfl⟩ := he
  have split : ∀ (xs : List α) (cells : List Value), Flat k a cells (xs ++ z) → Flat k a (cells.take (xs.length * k.sz)) xs := by
   intro xs
   induction xs with
   | nil => intro cells _; simp [Flat]
   | cons x xs ih =>
    rintro cells ⟨cs, rest, rfl, r, f⟩
    refine ⟨cs, rest.take (xs.length * k.sz), ?_, r, ih _ f⟩
    rw [List.length_cons, Nat.add_mul, Nat.one_mul, Nat.add_comm, ← k.len _ _ _ r, List.take_length_add_append]
  refine ⟨_, split L' cells f, ?_, .inr ⟨g, cap, cur, rfl, hg, by omega, hm, hs, ?_⟩⟩
  ·rw [List.length_take, hl]
   refine Nat.min_eq_left (Nat.mul_le_mul_right _ hp)
  ·rw [← ht, List.take_take, Nat.min_eq_left (Nat.mul_le_mul_right _ hp)]
theorem slO.Z7E {P : Program} {f : FuncId} {args : Array Value} {h1 hV : Hp} {w : World} {α : Type} {k : Kd α} {T : TypeId} {v : Value} {L L' : List α} (hp : L'.length ≤ L.length) (he : ∃ z, L = L' ++ z)
    (h : Trip P f args h1 hV w (fun r => HO.pand (r = Z29 v L'.length) (HO.seps [slO k T v L]))) : Trip P f args h1 hV w (fun r => HO.ex fun u : Value => HO.pand (r = u) (HO.seps [slO k T u L'])) := by
 refine h.mono fun e w' ⟨r, q1, m, fr, hN, hO, n1, n2, d, t1, t2, q⟩ => ⟨r, q1, m, fr, hN, hO, n1, n2, d, t1, t2, ?_⟩
 obtain ⟨er, g1, g2, d1, u1, u2, s1, s2⟩ := q
 exact ⟨_, er, g1, g2, d1, u1, u2, slO.shrink hp he s1, s2⟩
end Go.Q
