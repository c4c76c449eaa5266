/- Words of this seat: tables of the program. -/
import Derived.Test.YtehjiiebjkkcmaaGreatDoorQ20xVerifyTells
set_option linter.unusedVariables false
set_option linter.unusedSimpArgs false
namespace Go.Q
def arrP {α : Type} (k : Kd α) (b : Nat) (xs : List α) : HP :=
 ⟨fun h => ∃ c T fr, h b = some (.cells c T fr) ∧ ∀ (j : Nat) (x : α), xs[j]? = some x → ∃ cs, k.rd h cs x ∧ ∀ (i : Nat) (u : Value), cs[i]? = some u → c[j * k.sz + i]? = some u,
  fun _ _ s ⟨c, T, fr, e, q⟩ => ⟨c, T, fr, s _ _ e, fun j x hx => let ⟨cs, r, z⟩ := q j x hx; ⟨cs, k.mono _ _ _ _ s r, z⟩⟩⟩
section
variable {P : Program} {n : Fr} {ρ : Option Nat} {σ : List (Nat × Value)} {w0 : World} {hA hV : Hp} {ps : List HP} {os : List HO} {L l : List Oper} {Q : Cont} {d : Nat} {t e tr : TypeId} {x y : Operand} {pos : String} {af : Array Edge} {g : Option (Nat × Bool)} {α : Type} {k : Kd α} {N b : Nat} {xs : List α} {j : Int} {ik : IntKind} {x0 : α}
theorem SP.indexG (see : Sees w0 hA hV) (i : Nat) (hi : ps[i]? = some (arrP k b xs)) (hu : P.underlying t = some (.array N e)) (hN : xs.length = N) (hs : (P.info? e).map (·.size) = some k.sz) (h0 : 0 ≤ j) (hj : xs[j.toNat]? = some x0) (hg : gd L σ g = some true) (hn : Nat.blt d n.n = true)
    (hx : ev σ x = some (.pointer (some ⟨b, 0, none⟩))) (hy : ev σ y = some (.int ik j)) (h : ∀ p, SP P n ρ ((d, p) :: σ) (St w0 hA hV (elP k p x0 :: ps) os) L l Q) :
    SP P n ρ σ (St w0 hA hV ps os) L (⟨some d, .indexAddr t x y, tr, pos, af, g⟩ :: l) Q := by
 refine SP.imp (A' := St w0 hA hV (elP k (.pointer (some ⟨b, j.toNat * k.sz, none⟩)) x0 :: ps) os) (fun w hw => hw.know fun hh ap => ?_) (SP.val (v := .pointer (some ⟨b, j.toNat * k.sz, none⟩)) (fun a w ha hw => ?_) hg rfl hn (h _))
 ·obtain ⟨c, T, fr, e1, q⟩ := ap _ (List.mem_of_getElem? hi)
  obtain ⟨cs, r, z⟩ := q _ _ hj
  exact ⟨b, _, cs, rfl, r, c, T, fr, e1, z⟩
 ·have hlt : j.toNat < xs.length := Wd hj
  have hb : 0 ≤ j ∧ j < (N : Int) := ⟨h0, by omega⟩
  have hadd : (⟨b, 0, none⟩ : Addr).add (j.toNat * k.sz) = ⟨b, j.toNat * k.sz, none⟩ := by unfold Addr.add; split <;> simp_all
  have hsz : (sizeOf e).run P w = .ok k.sz w := by
   cases hq : P.info? e with
   | none => simp [hq] at hs
   | some ii => simp [hq] at hs; simp [sizeOf, typeInfo, hq, hs]
  simp [execOp, ha.eval hx, ha.eval hy, Instr.indexAt, run_underlying hu, Instr.sureAddr, asIntOf, hb, hsz, hadd]
theorem Z4u {v : Value} : ∀ (l : List Value) (k : Nat), k < l.length → put l k [v] = l.set k v
 | [], _, h => by simp at h
 | _ :: r, 0, _ => by
  have : ∀ cs : List Value, put cs 0 [] = cs := fun cs => by cases cs <;> rfl
  show v :: put r 0 [] = _
  rw [this]; rfl
 | c :: r, k + 1, h => by
  show c :: put r k [v] = _
  rw [Z4u r k (by simpa using h)]; rfl
theorem Z0I {vs : List Value} {k : Nat} {post : List Value} : ∀ (l : List Value), put (l ++ post) (l.length + k) vs = l ++ put post k vs
 | [] => by simp
 | c :: r => by
  rw [show (c :: r).length + k = (r.length + k) + 1 by simp; omega]
  show c :: put (r ++ post) (r.length + k) vs = _
  rw [Z0I r]; rfl
theorem SP.Z02 (i : Nat) {f : α → Value} {pre post : List Value} {T : TypeId} {off k : Nat} {u : Value} (hi : os[i]? = some (arrO b pre f N xs post T)) (hs : (P.info? t).map (·.size) = some 1) (hg : gd L σ g = some true)
    (hx : ev σ x = some (.pointer (some ⟨b, off, none⟩))) (hm : pre.length + N + k = off) (hk : Nat.blt k post.length = true) (hy : ev σ y = some u) (hv : u.cells = [u].toArray) (h1 : one [u] = true)
    (h : SP P n ρ σ (St w0 hA hV ps (os.set i (arrO b pre f N xs (post.set k u) T))) L l Q) : SP P n ρ σ (St w0 hA hV ps os) L (⟨none, .store t x y, tr, pos, af, g⟩ :: l) Q := by
 have hk' : k < post.length := by simpa using hk
 have hput : ∀ (z : xs.length = N), put (pre ++ (xs.map f ++ post)) off [u] = pre ++ (xs.map f ++ post.set k u) := fun z => by
  rw [← hm, Nat.add_assoc, Z0I pre, show N + k = (xs.map f).length + k by simp [z], Z0I (xs.map f), Z4u post k hk']
 refine SP.act hg rfl (fun a w ha hw => ⟨w.setRow b (pre ++ (xs.map f ++ post.set k u)).toArray, ?_, ?_⟩) h
 ·obtain ⟨hl, hc⟩ := hw.Jv i hi
  have := Uc (P := P) (t := t) (v := u) (vs := [u]) (off := off) hc hs hv h1 (by simp; omega)
  rw [hput hl] at this
  simp [execOp, ha.eval hx, ha.eval hy, Instr.storeAt, Instr.sureAddr, this]
 ·refine hw.change i hi (Met.setRow _ _ _) fun hP hO hs hx => ⟨bk b (.cells (pre ++ (xs.map f ++ post.set k u)).toArray T (0, 0)), ⟨hx.1, by simp [boxO, bk]⟩, fun b' o e => ?_, fun b' hb' => ?_, fun b' o e1 e2 => ?_⟩
  ·unfold bk at e
   split at e
   ·rename_i hb; subst hb; simp at e; subst e
    exact setRow_heap w b' _ _ T (0, 0) (hs _ _ hx.2)
   ·cases e
  ·unfold bk at hb'
   split at hb'
   ·rename_i hb; subst hb; rw [show hO b' = _ from hx.2]; simp
   ·simp at hb'
  ·show (w.setRow b _).heap[b']? = _
   rw [setRow_other]; exact e1
   intro e; subst e
   rw [show hO _ = _ from hx.2] at e2; cases e2
theorem Val.indexC {A : World → Prop} {dd : Option Nat} {off off2 m : Nat} (hu : P.underlying t = some (.array N e)) (hs : (P.info? e).map (·.size) = some m) (hj : 0 ≤ j ∧ j < (N : Int)) (ho : off + j.toNat * m = off2) (hx : ev σ x = some (.pointer (some ⟨b, off, none⟩))) (hy : ev σ y = some (.int ik j)) :
    Val P n σ A ⟨dd, .indexAddr t x y, tr, pos, af, g⟩ (.pointer (some ⟨b, off2, none⟩)) := fun a w ha _ => by
 have hadd : (⟨b, off, none⟩ : Addr).add (j.toNat * m) = ⟨b, off + j.toNat * m, none⟩ := by unfold Addr.add; split <;> simp_all
 have hsz : (sizeOf e).run P w = .ok m w := by
  cases hq : P.info? e with
  | none => simp [hq] at hs
  | some ii => simp [hq] at hs; simp [sizeOf, typeInfo, hq, hs]
 simp [execOp, ha.eval hx, ha.eval hy, Instr.indexAt, run_underlying hu, Instr.sureAddr, asIntOf, hj, hsz, hadd, ho]
end
end Go.Q
