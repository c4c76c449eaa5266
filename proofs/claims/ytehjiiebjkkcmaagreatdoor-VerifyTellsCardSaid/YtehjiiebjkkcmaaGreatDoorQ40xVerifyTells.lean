/- Words of this seat: rows of numbers of one's own that begin behind the first cell of their block. -/
import Derived.Test.YtehjiiebjkkcmaaGreatDoorQ39xVerifyTells
set_option linter.unusedVariables false
set_option linter.unusedSimpArgs false
namespace Go.Q
open Go.Sort Go.Proofs
def slV (T : TypeId) (v : Value) (xs : List Int) : HO := ⟨fun _ h => (v = .slice none 0 0 ∧ xs = []) ∨ ∃ g o cap cur, v = .slice (some ⟨g, o, none⟩) xs.length cap ∧ h g = some (.cells cur T (0, 0)) ∧ xs.length ≤ cap ∧ cap ≤ maxLen ∧ o + cap ≤ cur.size ∧ ∀ (i : Nat) x, xs[i]? = some x → cur[o + i]? = some (.int .i64 x),
 fun _ _ _ _ _ sb h => h.imp id fun ⟨g, o, cap, cur, e, hg, z⟩ => ⟨g, o, cap, cur, e, sb _ _ hg, z⟩⟩
section
variable {P : Program} {n : Fr} {ρ : Option Nat} {σ : List (Nat × Value)} {A : World → Prop} {w0 : World} {hA hV : Hp} {ps : List HP} {os : List HO} {L l : List Oper} {Q : Cont} {d : Nat} {dd : Option Nat} {t e T tr : TypeId} {x y : Operand} {pos : String} {af : Array Edge} {g : Option (Nat × Bool)} {v u p : Value} {xs ys : List Int} {x0 j z : Int} {ik : IntKind}
end
theorem slV.holds {T : TypeId} {g o cap : Nat} {cur : Array Value} {w : World} {l : List Int} (hg : w.heap[g]? = some (.cells cur T (0, 0))) (q : ∀ (i : Nat) x, l[i]? = some x → cur[o + i]? = some (.int .i64 x)) : Holds (Value.int .i64) w g o l.toArray := by
 intro j hj
 have hj' : j < l.length := by simpa using hj
 refine ⟨?_, ?_⟩
 ·simp only [World.cell?]
  rw [hg]
  have := q j l[j] (List.getElem?_eq_getElem hj')
  simp [this, getElem!_pos, hj']
 ·simp only [World.frozen?]
  rw [hg]
  simp
theorem Since.imp {w w' : World} {h1 hP : Hp} {F G : Hp → Hp → Prop} (h : Since w h1 hP F w') (f : ∀ a b, F a b → G a b) : Since w h1 hP G w' := by
 obtain ⟨m, fr, hN, hO, n1, n2, d, t1, t2, q⟩ := h
 exact ⟨m, fr, hN, hO, n1, n2, d, t1, t2, f _ _ q⟩
end Go.Q
