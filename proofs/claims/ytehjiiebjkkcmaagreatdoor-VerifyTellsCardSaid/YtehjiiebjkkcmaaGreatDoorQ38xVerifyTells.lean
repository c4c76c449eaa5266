/- Words of this seat: pointers to elements of rows of one's own that are asked whether they are nil; how long a row is that is read out of such an element. -/
import Derived.Test.YtehjiiebjkkcmaaGreatDoorQ37xVerifyTells
set_option linter.unusedVariables false
set_option linter.unusedSimpArgs false
namespace Go.Q
section
variable {P : Program} {n : Fr} {ρ : Option Nat} {σ : List (Nat × Value)} {A : World → Prop} {w0 w : World} {hA hV : Hp} {ps : List HP} {os : List HO} {d : Nat} {dd : Option Nat} {t e T T' tr : TypeId} {x y : Operand} {pos : String} {af : Array Edge} {g : Option (Nat × Bool)} {v u p : Value} {α β : Type} {k : Ko α} {kd : Kd β} {xs : List α} {x0 : α} {get : α → List β} {set : α → List β → α} {off m len : Nat} {j : Int}
theorem slDc.flat {s : Value} {a h H : Hp} (r : (slDc k T v xs j off s).p a h) (sa : Sub a H) (sh : Sub h H) : (slO k.kd T v xs).p H H := slD.flat r.1 sa sh
end
theorem Flat.take {α : Type} {k : Kd α} {a : Hp} : ∀ {xs : List α} {cells : List Value} (n : Nat), Flat k a cells xs → Flat k a (cells.take (n * k.sz)) (xs.take n)
 | [], _, n, f => by rw [show _ = [] from f, List.take_nil, List.take_nil]; rfl
 | x :: xs, _, 0, _ => by rw [Nat.zero_mul, List.take_zero, List.take_zero]; rfl
 | x :: xs, _, n + 1, ⟨cs, rest, e, r, f⟩ => ⟨cs, rest.take (n * k.sz), by
     have := k.len _ _ _ r
     rw [e, show (n + 1) * k.sz = cs.length + n * k.sz by rw [Nat.add_mul, this]; omega, List.take_length_add_append], r, Flat.take n f⟩
theorem zipO.pre {α : Type} {k : Ko α} {a : Hp} : ∀ {cs : List (List Value)} {xs : List α} {h : Hp} (n : Nat), (zipO k cs xs).p a h → (zipO k (cs.take n) (xs.take n)).p a h
 | _, _, _, 0, _ => by rw [List.take_zero, List.take_zero]; trivial
 | [], [], _, n + 1, _ => trivial
 | _ :: _, _ :: _, _, n + 1, ⟨h1, h2, d, s1, s2, p, q⟩ => ⟨h1, h2, d, s1, s2, p, zipO.pre n q⟩
 | [], _ :: _, _, _ + 1, h => h.elim
 | _ :: _, [], _, _ + 1, h => h.elim
section
variable {P : Program} {n : Fr} {ρ : Option Nat} {σ : List (Nat × Value)} {w0 w : World} {hA hV : Hp} {ps : List HP} {os : List HO} {L l : List Oper} {Q : Cont} {d : Nat} {t e tr : TypeId} {x y : Operand} {pos : String} {af : Array Edge} {g : Option (Nat × Bool)} {α : Type} {v : Value} {xs : List α} {ik : IntKind} {z : Int}
end
end Go.Q
