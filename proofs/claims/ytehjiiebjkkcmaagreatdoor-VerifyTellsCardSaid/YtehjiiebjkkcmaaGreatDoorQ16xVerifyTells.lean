/- Words of this seat: variables that are arrays, or have an array among their parts. -/
import Derived.Test.YtehjiiebjkkcmaaGreatDoorQ15xVerifyTells
set_option linter.unusedVariables false
set_option linter.unusedSimpArgs false
namespace Go.Q
def arrO {α : Type} (b : Nat) (pre : List Value) (f : α → Value) (N : Nat) (xs : List α) (post : List Value) (T : TypeId) : HO := HO.pand (xs.length = N) (boxO b (pre ++ (xs.map f ++ post)) T)
section
variable {P : Program} {n : Fr} {ρ : Option Nat} {σ : List (Nat × Value)} {w0 w : World} {hA hV : Hp} {ps : List HP} {os : List HO} {L l : List Oper} {Q : Cont} {d : Nat} {dd : Option Nat} {t tr e T : TypeId} {x y : Operand} {pos : String} {af : Array Edge} {g : Option (Nat × Bool)} {α : Type} {f : α → Value} {N b m : Nat} {xs : List α} {pre post : List Value} {j : Int} {ik : IntKind} {x0 : α} {u : Value}
theorem St.arr (i : Nat) {cs : List Value} (hi : os[i]? = some (boxO b cs T)) (xs : List α) (pre post : List Value) (hc : cs = pre ++ (xs.map f ++ post)) (hN : xs.length = N) (h : St w0 hA hV ps os w) : St w0 hA hV ps (os.set i (arrO b pre f N xs post T)) w :=
 h.weakO i hi fun a c hp => ⟨hN, by rw [← hc]; exact hp⟩
theorem St.Jv (i : Nat) (hi : os[i]? = some (arrO b pre f N xs post T)) (h : St w0 hA hV ps os w) : xs.length = N ∧ w.heap[b]? = some (.cells (pre ++ (xs.map f ++ post)).toArray T (0, 0)) := by
 obtain ⟨m, fr, hN, hO, n1, n2, d, s1, s2, p, q⟩ := h
 obtain ⟨h1, h2, e, t1, t2, r, s⟩ := Sep.take i os hi q
 exact ⟨r.1, s2 _ _ (t1 _ _ r.2)⟩
theorem Val.Z3h (i : Nat) (hi : os[i]? = some (arrO b pre f N xs post T)) (hu : P.underlying t = some (.array N e)) (hs : (P.info? e).map (·.size) = some 1) (h0 : 0 ≤ j) (hj : xs[j.toNat]? = some x0)
    (hx : ev σ x = some (.pointer (some ⟨b, m, none⟩))) (hm : pre.length = m) (hy : ev σ y = some (.int ik j)) :
    Val P n σ (St w0 hA hV ps os) ⟨dd, .indexAddr t x y, tr, pos, af, g⟩ (.pointer (some ⟨b, m + j.toNat, none⟩)) := fun a w ha hw => by
 obtain ⟨hl, -⟩ := hw.Jv i hi
 have hlt : j.toNat < xs.length := by
  rcases Nat.lt_or_ge j.toNat xs.length with h | h
  ·exact h
  ·rw [List.getElem?_eq_none h] at hj; cases hj
 have hb : 0 ≤ j ∧ j < (N : Int) := ⟨h0, by omega⟩
 have hadd : (⟨b, m, none⟩ : Addr).add j.toNat = ⟨b, m + j.toNat, none⟩ := by unfold Addr.add; split <;> simp_all
 have hsz : (sizeOf e).run P w = .ok 1 w := by
  cases hq : P.info? e with
  | none => simp [hq] at hs
  | some ii => simp [hq] at hs; simp [sizeOf, typeInfo, hq, hs]
 simp [execOp, ha.eval hx, ha.eval hy, Instr.indexAt, run_underlying hu, Instr.sureAddr, asIntOf, hb, hsz, hadd]
theorem Z7B (hl : xs[j.toNat]? = some x0) : (pre ++ (xs.map f ++ post))[pre.length + j.toNat]? = some (f x0) := by
 have hlt : j.toNat < xs.length := by
  rcases Nat.lt_or_ge j.toNat xs.length with h | h
  ·exact h
  ·rw [List.getElem?_eq_none h] at hl; cases hl
 rw [List.getElem?_append_right (by omega), Nat.add_sub_cancel_left, List.getElem?_append_left (by simpa using hlt)]
 simp [hl]
theorem Val.Z7C (i : Nat) (hi : os[i]? = some (arrO b pre f N xs post T)) {dsc : TypeDesc} (hu : P.underlying t = some dsc) (hd : (match dsc with | .struct _ | .array _ _ => true | _ => false) = false) (hj : xs[j.toNat]? = some x0)
    (hx : ev σ x = some (.pointer (some ⟨b, m + j.toNat, none⟩))) (hm : pre.length = m) : Val P n σ (St w0 hA hV ps os) ⟨dd, .load t x, tr, pos, af, g⟩ (f x0) := fun a w ha hw => by
 obtain ⟨hl, hc⟩ := hw.Jv i hi
 have hcell : w.cell? ⟨b, m + j.toNat, none⟩ = some (f x0) := by
  have := Z7B (f := f) (pre := pre) (post := post) hj
  rw [hm] at this
  simp only [World.cell?, hc, Option.bind_some, List.getElem?_toArray]
  exact this
 simp [execOp, ha.eval hx, Instr.loadAt, Instr.sureAddr, XC hu hd hcell]
theorem Z3i {u' : α} : ∀ (xs : List α) (k : Nat), k < xs.length → put (xs.map f ++ post) k [f u'] = (xs.set k u').map f ++ post
 | [], k, h => by simp at h
 | x :: r, 0, _ => by
  show f u' :: put (r.map f ++ post) 0 [] = _
  have : ∀ cs : List Value, put cs 0 [] = cs := fun cs => by cases cs <;> rfl
  rw [this]; simp
 | x :: r, k + 1, h => by
  show f x :: put (r.map f ++ post) k [f u'] = _
  rw [Z3i r k (by simpa using h)]; simp
theorem Z4t {u' : α} {k : Nat} (hk : k < xs.length) : ∀ (pre : List Value), put (pre ++ (xs.map f ++ post)) (pre.length + k) [f u'] = pre ++ ((xs.set k u').map f ++ post)
 | [] => by simpa using Z3i xs k hk
 | c :: r => by
  have := Z4t (u' := u') hk r
  rw [show (c :: r).length + k = (r.length + k) + 1 by simp; omega]
  show c :: put (r ++ (xs.map f ++ post)) (r.length + k) [f u'] = _
  rw [this]; rfl
theorem SP.Z6Q (i : Nat) (hi : os[i]? = some (arrO b pre f N xs post T)) (hs : (P.info? t).map (·.size) = some 1) (hg : gd L σ g = some true) (hj : xs[j.toNat]? = some x0) {z0 : α}
    (hx : ev σ x = some (.pointer (some ⟨b, m + j.toNat, none⟩))) (hm : pre.length = m) (hy : ev σ y = some (f z0)) (hv : ∀ z, (f z).cells = [f z].toArray) (h1 : ∀ z, one [f z] = true)
    (h : SP P n ρ σ (St w0 hA hV ps (os.set i (arrO b pre f N (xs.set j.toNat z0) post T))) L l Q) : SP P n ρ σ (St w0 hA hV ps os) L (⟨none, .store t x y, tr, pos, af, g⟩ :: l) Q := by
 have hlt : j.toNat < xs.length := by
  rcases Nat.lt_or_ge j.toNat xs.length with h | h
  ·exact h
  ·rw [List.getElem?_eq_none h] at hj; cases hj
 refine SP.act hg rfl (fun a w ha hw => ⟨w.setRow b (put (pre ++ (xs.map f ++ post)) (m + j.toNat) [f z0]).toArray, ?_, ?_⟩) h
 ·have := Uc (P := P) (t := t) (v := f z0) (vs := [f z0]) (off := m + j.toNat) (hw.Jv i hi).2 hs (hv z0) (h1 z0) (by simp; omega)
  simp [execOp, ha.eval hx, ha.eval hy, Instr.storeAt, Instr.sureAddr, this]
 ·refine hw.change i hi (Met.setRow _ _ _) fun hP hO hs hx => ⟨bk b (.cells (put (pre ++ (xs.map f ++ post)) (m + j.toNat) [f z0]).toArray T (0, 0)), ⟨by simpa using hx.1, ?_⟩, fun b' o e => ?_, fun b' hb' => ?_, fun b' o e1 e2 => ?_⟩
  ·rw [← hm, Z4t hlt]; simp [boxO, bk]
  ·unfold bk at e
   split at e
   ·rename_i hb; subst hb; simp at e; subst e
    exact setRow_heap w b' _ _ T (0, 0) (hs _ _ hx.2)
   ·cases e
  ·unfold bk at hb'
   split at hb'
   ·rename_i hb; subst hb; rw [show hO b' = _ from hx.2]; simp
   ·simp at hb'
  ·show (w.setRow b _).heap[b']? = _
   rw [setRow_other]; exact e1
   intro e; subst e
   rw [show hO _ = _ from hx.2] at e2; cases e2
theorem Val.Ul (i : Nat) (hi : os[i]? = some (arrO b pre f N xs post T)) {dsc : TypeDesc} (hu : P.underlying t = some dsc) (hd : (match dsc with | .struct _ | .array _ _ => true | _ => false) = false) {off k : Nat}
    (hx : ev σ x = some (.pointer (some ⟨b, off, none⟩))) (hm : pre.length + N + k = off) (hk : post[k]? = some u) : Val P n σ (St w0 hA hV ps os) ⟨dd, .load t x, tr, pos, af, g⟩ u := fun a w ha hw => by
 obtain ⟨hl, hc⟩ := hw.Jv i hi
 have hcell : w.cell? ⟨b, off, none⟩ = some u := by
  have e1 : (pre ++ (xs.map f ++ post))[off]? = some u := by
   rw [← hm, List.getElem?_append_right (by omega), List.getElem?_append_right (by simp; omega)]
   simp only [List.length_map, hl]
   rw [show pre.length + N + k - pre.length - N = k by omega, hk]
  simp only [World.cell?, hc, List.getElem?_toArray]
  exact e1
 simp [execOp, ha.eval hx, Instr.loadAt, Instr.sureAddr, XC hu hd hcell]
end
end Go.Q
