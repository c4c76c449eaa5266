/- Words of this seat: a range over a function, whose rounds are steps Y of what J tells. -/
import Derived.Test.YtehjiiebjkkcmaaGreatDoorQ16xVerifyTells
set_option linter.unusedVariables false
set_option linter.unusedSimpArgs false
namespace Go.Q
def argE {α : Type} (k : Kd α) (agg : Bool) (x : α) (v : Value) (h : Hp) : Prop := ∃ cs, k.rd h cs x ∧ (bif agg then v = .agg cs.toArray else [v] = cs)
def E1 {α : Type} (k : Kd α) (agg : Bool) (x : α) (vals : List Value) : HP := ⟨fun h => ∃ v, vals = [v] ∧ argE k agg x v h, fun _ _ s ⟨v, e, cs, r, q⟩ => ⟨v, e, cs, k.mono _ _ _ _ s r, q⟩⟩
def E2 {α β : Type} (k : Kd α) (agg : Bool) (k' : Kd β) (agg' : Bool) (x : α × β) (vals : List Value) : HP :=
 ⟨fun h => ∃ v v', vals = [v, v'] ∧ argE k agg x.1 v h ∧ argE k' agg' x.2 v' h, fun _ _ s ⟨v, v', e, ⟨cs, r, q⟩, cs', r', q'⟩ => ⟨v, v', e, ⟨cs, k.mono _ _ _ _ s r, q⟩, cs', k'.mono _ _ _ _ s r', q'⟩⟩
section
variable {w0 w : World} {hA hV : Hp} {ps : List HP} {os : List HO}
theorem St.shut {ι : Type} {f : ι → HO} (z : ι) (h : St w0 hA hV ps (f z :: os) w) : St w0 hA hV ps (HO.ex f :: os) w := St.imp (fun _ q => q) (fun a b _ s => by
 obtain ⟨h1, h2, e, t1, t2, r, q⟩ := s
 exact ⟨h1, h2, e, t1, t2, ⟨z, r⟩, q⟩) h
def RR (w : World) (hA hV : Hp) (b : Bool) (lo j : HO) : Ending → World → Prop := fun e w' => ∃ v, e = .returned v ∧ Since w hA hV (HO.pand (v = .bool b) (HO.and lo j)).p w'
variable {P : Program} {n : Fr} {ρ : Option Nat} {σ σ1 : List (Nat × Value)} {Q : Cont}
end
theorem E1.len {α : Type} {k : Kd α} {agg : Bool} {m : Nat} (hm : m = 1) : ∀ x vals h, (E1 k agg x vals).p h → vals.length = m := fun x vals h ⟨v, e, _⟩ => by subst e; exact hm.symm
theorem E2.len {α β : Type} {k : Kd α} {agg : Bool} {k' : Kd β} {agg' : Bool} {m : Nat} (hm : m = 2) : ∀ x vals h, (E2 k agg k' agg' x vals).p h → vals.length = m := fun x vals h ⟨v, v', e, _⟩ => by subst e; exact hm.symm
theorem QE.ex {n : Fr} {σ : List (Nat × Value)} {A : World → Prop} {Q : Cont} {ι : Type} {I : ι → World → Prop} {e : Exit} (hx : ∀ w, A w → ∃ x, I x w) (h : ∀ x, QE n σ (I x) Q e) : QE n σ A Q e := fun a w ha hw => by
 obtain ⟨x, k⟩ := hx w hw; exact h x a w ha k
section
variable {P : Program} {n : Fr} {ρ : Option Nat} {σ : List (Nat × Value)} {w0 : World} {hA hV : Hp} {ps : List HP} {os : List HO} {Q : Cont} {c : Code}
theorem CP.Ky (see : Sees w0 hA hV) (i : Nat) {b : Nat} {cs : List Value} {T : TypeId} (hi : os[i]? = some (boxO b cs T)) (h : CP P n ρ σ (St w0 hA hV (boxP b cs T :: ps) (os.eraseIdx i)) c Q) : CP P n ρ σ (St w0 hA hV ps os) c Q :=
 CP.imp (fun w hw => hw.freeze i hi see.dj see.sub) h
theorem CP.W9 {α : Type} {k : Kd α} {v : Value} {xs : List α} {T : TypeId} (see : Sees w0 hA hV) (i : Nat) (hi : os[i]? = some (slO k T v xs)) (h : CP P n ρ σ (St w0 hA hV (slP k v xs :: ps) (os.eraseIdx i)) c Q) : CP P n ρ σ (St w0 hA hV ps os) c Q :=
 CP.imp (fun w hw => St.W9 hw i hi see) h
end
section
variable {P : Program} {n : Fr} {ρ : Option Nat} {σ : List (Nat × Value)} {w0 : World} {hA hV : Hp} {ps : List HP} {os : List HO}
theorem QE.over {fn : Func} {rs : List ResultVar} {vs : List Value} {R : Ending → World → Prop} {A : World → Prop} (hr : fn.results = rs.toArray) (hds : n.ds = []) (hv : RVs P n σ A rs vs) (h : ∀ w, A w → R (.returned (single vs)) w) : QE n σ A (bodyPost P fn R) .normal :=
 QE.rets (P := P) hr hds hv h
end
theorem rangeO.forget {β : Type} {r b : Nat} {ik : IntKind} {kv : β → Value} {m left : List (Int × β)} {cur : Option (Int × β)} : ∀ a h, (rangeO r b ik kv m left cur).p a h → (rangeO r b ik kv m left none).p a h :=
 fun _ _ ⟨es, clock, since, seen, c0, h1, h2, h3, h4, h5, h6, h7, h8, h9, _⟩ => ⟨es, clock, since, seen, c0, h1, h2, h3, h4, h5, h6, h7, h8, h9, fun p e => by cases e⟩
end Go.Q
