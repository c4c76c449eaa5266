/- Words of this seat: literals of slices. -/
import Derived.Test.YtehjiiebjkkcmaaGreatDoorQ31xVerifyTells
set_option linter.unusedVariables false
set_option linter.unusedSimpArgs false
namespace Go.Q
def Ones : List Value → Prop
 | [] => True
 | v :: r => v.cells = #[v] ∧ Ones r
theorem Ones.flat : ∀ {vs : List Value}, Ones vs → flatc vs = vs
 | [], _ => rfl
 | v :: r, ⟨h, k⟩ => by simp [flatc, h, k.flat]
theorem Ones.szs : ∀ {vs : List Value}, Ones vs → szs 1 vs = true
 | [], _ => rfl
 | v :: r, ⟨h, k⟩ => by simp [Go.Q.szs, h, k.szs]
theorem slR.cells1 {α : Type} {k : Kd α} {h : Hp} {v : Value} {xs : List α} (q : slR k h v xs) : v.cells = #[v] := by
 obtain ⟨_, _, rfl, -⟩ := q; rfl
theorem Z5A {α : Type} {xs : List α} {i : Nat} {x0 : α} (z : α) (h : xs[i]? = some x0) : (xs.set i z)[i]? = some z := List.getElem?_set_self (Wd h)
section
variable {P : Program} {n : Fr} {ρ : Option Nat} {σ : List (Nat × Value)} {A : World → Prop} {L l : List Oper} {Q : Cont} {d : Nat} {dd : Option Nat} {t tr : TypeId} {x y : Operand} {pos : String} {af : Array Edge} {g : Option (Nat × Bool)} {w0 : World} {hA hV : Hp} {ps : List HP} {os : List HO} {α : Type} {k : Kd α} {b N m : Nat} {e T : TypeId} {pre post : List Value} {xs : List α}
theorem SP.litS {len : Nat} {parts : Array (Nat × Operand)} {vs : List Value} {cs : List Value} {bytes : Nat} (hu : P.underlying t = some (.slice e)) (hin : (P.info? e).map (fun i => ((i.zero.map fun z => z.cells.toList), i.size, i.bytes)) = some (some cs, k.sz, bytes)) (h1 : k.sz = 1)
    (hp : parts.toList.map (fun q => q.1) = keys 0 vs) (he : evs σ (parts.toList.map (·.2)) = some vs) (hsmall : Nat.ble (len * k.sz) 1000 = true) (hpos : Nat.blt 0 (len * k.sz) = true) (hlv : vs.length = len)
    (ho : ∀ a, All ps a → Ones vs)
    (hxs : ∀ a, All ps a → Flat k a vs xs) (hl : xs.length = len) (hg : gd L σ g = some true) (hn : Nat.blt d n.n = true)
    (h : ∀ v, SP P n ρ ((d, v) :: σ) (St w0 hA hV ps (slO k e v xs :: os)) L l Q) : SP P n ρ σ (St w0 hA hV ps os) L (⟨some d, .buildSlice t len parts, tr, pos, af, g⟩ :: l) Q := fun a w ha hw => by
 obtain ⟨_, _, _, _, _, _, _, _, _, p, _⟩ := id hw
 have o := ho _ p
 exact SP.lit (k := k) (xs := xs) (vs := vs) (cells := vs) hu hin hp he hsmall hpos (by rw [h1]; rfl) hlv (by rw [h1]; exact o.szs) o.flat hxs hl hg hn h a w ha hw
end
section
variable {P : Program} {n : Fr} {ρ : Option Nat} {σ : List (Nat × Value)} {w0 w : World} {hA hV : Hp} {ps : List HP} {os : List HO} {L l : List Oper} {Q : Cont} {d : Nat} {dd : Option Nat} {t e T T' tr : TypeId} {x y : Operand} {pos : String} {af : Array Edge} {g : Option (Nat × Bool)} {v u p s : Value} {α β : Type} {k : Ko α} {kd : Kd β} {xs : List α} {x0 z0 : α} {j : Int} {i m off : Nat} {get : α → List β} {set : α → List β → α}
def slDc {α : Type} (k : Ko α) (T : TypeId) (v : Value) (xs : List α) (j : Int) (off : Nat) (s : Value) : HO :=
 ⟨fun a h => (slD k T v xs).p a h ∧ ∃ b cap cur, v = .slice (some ⟨b, 0, none⟩) xs.length cap ∧ h b = some (.cells cur T (0, 0)) ∧ cur[j.toNat * k.kd.sz + off]? = some s,
  fun _ _ _ _ sa sb ⟨q, b, cap, cur, e, hb, hc⟩ => ⟨(slD k T v xs).mono _ _ _ _ sa sb q, b, cap, cur, e, sb _ _ hb, hc⟩⟩
end
end Go.Q
