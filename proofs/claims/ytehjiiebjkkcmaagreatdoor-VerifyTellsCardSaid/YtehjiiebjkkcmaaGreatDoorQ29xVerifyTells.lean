/- Words of this seat: parts of rows that nobody changes. -/
import Derived.Test.YtehjiiebjkkcmaaGreatDoorQ28xVerifyTells
set_option linter.unusedVariables false
set_option linter.unusedSimpArgs false
namespace Go.Q
theorem slR.from {α : Type} {k : Kd α} {h : Hp} {A : Option Addr} {len cap : Nat} {xs : List α} (hr : slR k h (.slice A len cap) xs) (lo : Nat) (hlo : lo ≤ xs.length) :
    slR k h (.slice (if cap = lo then A else A.map (·.add (lo * k.sz))) (len - lo) (cap - lo)) (xs.drop lo) := by
 obtain ⟨A', cap', e, hle, hn, f⟩ := hr
 simp only [Value.slice.injEq] at e
 obtain ⟨rfl, rfl, rfl⟩ := e
 refine ⟨_, _, by rw [List.length_drop], by rw [List.length_drop]; omega, fun e => ?_, fun a ha i x hx => ?_⟩
 ·split at e
  ·obtain ⟨z, z2⟩ := hn e
   subst z; subst z2; simp
  ·cases A with
   | none => obtain ⟨z, z2⟩ := hn rfl; subst z; subst z2; simp
   | some a => cases e
 ·rw [List.getElem?_drop] at hx
  split at ha
  ·rename_i hc
   have := Wd hx; omega
  ·cases A with
   | none => cases ha
   | some a0 =>
    simp only [Option.map_some, Option.some.injEq] at ha
    subst ha
    obtain ⟨hs, cs, r, q⟩ := f a0 rfl _ _ hx
    obtain ⟨ab, ao, asp⟩ := a0
    simp only at hs; subst hs
    have hadd : (⟨ab, ao, none⟩ : Addr).add (lo * k.sz) = ⟨ab, ao + lo * k.sz, none⟩ := by unfold Addr.add; split <;> simp_all
    rw [hadd]
    refine ⟨rfl, cs, r, ?_⟩
    have : ao + lo * k.sz + i * k.sz = ao + (lo + i) * k.sz := by rw [Nat.add_mul]; omega
    rw [show (⟨ab, ao + lo * k.sz, none⟩ : Addr).off = ao + lo * k.sz from rfl, this]
    exact q
theorem slR.upto {α : Type} {k : Kd α} {h : Hp} {A : Option Addr} {len cap : Nat} {xs : List α} (hr : slR k h (.slice A len cap) xs) (c : Nat) (hc : c ≤ xs.length) : slR k h (.slice A c cap) (xs.take c) := by
 obtain ⟨A', cap', e, hle, hn, f⟩ := hr
 simp only [Value.slice.injEq] at e
 obtain ⟨rfl, rfl, rfl⟩ := e
 have hl : (xs.take c).length = c := by simp; omega
 refine ⟨_, _, by rw [hl], by rw [hl]; omega, fun e => ?_, fun a ha i x hx => ?_⟩
 ·obtain ⟨z, z2⟩ := hn e; subst z; simp [z2]
 ·have := Wd hx
  rw [List.getElem?_take_of_lt (by omega)] at hx
  exact f a ha i x hx
section
variable {P : Program} {n : Fr} {ρ : Option Nat} {σ : List (Nat × Value)} {w0 w : World} {hA hV : Hp} {ps : List HP} {os : List HO} {L l : List Oper} {Q : Cont} {d : Nat} {t tr e : TypeId} {x y : Operand} {pos : String} {af : Array Edge} {g : Option (Nat × Bool)} {α : Type} {k : Kd α} {xs : List α} {v : Value} {ik : IntKind} {z : Int}
theorem SP.Z1A (see : Sees w0 hA hV) (i : Nat) (hi : ps[i]? = some (slP k v xs)) (hu : P.underlying t = some (.slice e)) (hs : (P.info? e).map (·.size) = some k.sz) (hx : ev σ x = some v) (hy : ev σ y = some (.int ik z)) (h0 : 0 ≤ z ∧ z ≤ xs.length) (hg : gd L σ g = some true) (hn : Nat.blt d n.n = true)
    (h : ∀ s, SP P n ρ ((d, s) :: σ) (St w0 hA hV (slP k s (xs.drop z.toNat) :: ps) os) L l Q) : SP P n ρ σ (St w0 hA hV ps os) L (⟨some d, .slice t x (some y) none none, tr, pos, af, g⟩ :: l) Q := by
 refine SP.op (fun s : Value => s) (fun s => St w0 hA hV (slP k s (xs.drop z.toNat) :: ps) os) hg rfl hn (fun a w ha hw => ?_) h
 obtain ⟨A, cap, e1, hle, -⟩ := St.pers i hi see.sub see.dj hw
 subst e1
 cases hq : P.info? e with
 | none => simp [hq] at hs
 | some j =>
  have hj : j.size = k.sz := by simpa [hq] using hs
  have hb := run_sliceBound (P := P) (w := w) ik z xs.length .sliceB h0.1 h0.2
  refine ⟨.slice (if cap = z.toNat then A else A.map (·.add (z.toNat * k.sz))) (xs.length - z.toNat) (cap - z.toNat), w, by simp [execOp, ha.eval hx, ha.eval hy, Instr.sliceAt, Instr.slice, run_underlying hu, Instr.sliceBounds, hb, sizeOf, typeInfo, hq, hj], hw.know fun hh ap => ?_⟩
  exact slR.from (ap _ (List.mem_of_getElem? hi)) _ (by omega)
theorem SP.Z1e (see : Sees w0 hA hV) (i : Nat) (hi : ps[i]? = some (slP k v xs)) (hu : P.underlying t = some (.slice e)) (hs : (P.info? e).map (·.size) = some k.sz) (hx : ev σ x = some v) (hy : ev σ y = some (.int ik z)) (h0 : 0 ≤ z ∧ z ≤ xs.length) (hg : gd L σ g = some true) (hn : Nat.blt d n.n = true)
    (h : ∀ s, SP P n ρ ((d, s) :: σ) (St w0 hA hV (slP k s (xs.take z.toNat) :: ps) os) L l Q) : SP P n ρ σ (St w0 hA hV ps os) L (⟨some d, .slice t x none (some y) none, tr, pos, af, g⟩ :: l) Q := by
 refine SP.op (fun s : Value => s) (fun s => St w0 hA hV (slP k s (xs.take z.toNat) :: ps) os) hg rfl hn (fun a w ha hw => ?_) h
 obtain ⟨A, cap, e1, hle, -⟩ := St.pers i hi see.sub see.dj hw
 subst e1
 cases hq : P.info? e with
 | none => simp [hq] at hs
 | some j =>
  have hj : j.size = k.sz := by simpa [hq] using hs
  have hb := run_sliceBound (P := P) (w := w) ik z cap .sliceAcap h0.1 (by omega)
  refine ⟨.slice A z.toNat cap, w, by
   have z0 : ∀ c : Addr, c.add 0 = c := fun c => by simp [Addr.add]
   simp [execOp, ha.eval hx, ha.eval hy, Instr.sliceAt, Instr.slice, run_underlying hu, Instr.sliceBounds, hb, sizeOf, typeInfo, hq, hj, z0], hw.know fun hh ap => ?_⟩
  exact slR.upto (ap _ (List.mem_of_getElem? hi)) _ (by omega)
end
end Go.Q
