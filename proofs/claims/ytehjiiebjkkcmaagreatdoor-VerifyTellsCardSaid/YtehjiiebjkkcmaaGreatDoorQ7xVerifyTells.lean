/- Words of this seat: elements of rows of one's own, slicing, making; results of several parts. -/
import Derived.Test.YtehjiiebjkkcmaaGreatDoorQ6xVerifyTells
set_option linter.unusedVariables false
set_option linter.unusedSimpArgs false
namespace Go.Q
def PtC (v : Value) (m : Nat) (p : Value) : Prop := ∃ b len cap, v = .slice (some ⟨b, 0, none⟩) len cap ∧ p = .pointer (some ⟨b, m, none⟩)
section
variable {P : Program} {n : Fr} {ρ : Option Nat} {σ : List (Nat × Value)} {w0 : World} {hA hV : Hp} {ps : List HP} {os : List HO} {L l : List Oper} {Q : Cont} {d : Nat} {dd : Option Nat} {t e T tr : TypeId} {x y : Operand} {pos : String} {af : Array Edge} {g : Option (Nat × Bool)} {v u p : Value} {α : Type} {k : Kd α} {xs : List α} {x0 z0 : α} {j : Int} {m off : Nat}
theorem Wd {β : Type} {l : List β} {i : Nat} {z : β} (h : l[i]? = some z) : i < l.length := by
 rcases Nat.lt_or_ge i l.length with g | g
 ·exact g
 ·rw [List.getElem?_eq_none g] at h; cases h
theorem PtC.field {s f : Nat} {fs : Array Field} {fd : Field} (hp : PtC v m p) (hu : P.underlying t = some (.struct fs)) (hf : fs[f]? = some fd) (hs : (P.info? fd.type).map (·.size) = some (s + 1)) (hx : ev σ x = some p) :
    ∃ p', PtC v (m + fd.offset) p' ∧ ∀ A : World → Prop, Val P n σ A ⟨dd, .fieldAddr t x f, tr, pos, af, g⟩ p' := by
 obtain ⟨b, len, cap, rfl, rfl⟩ := hp
 refine ⟨.pointer (some ⟨b, m + fd.offset, none⟩), ⟨b, len, cap, rfl, rfl⟩, fun A a w ha _ => ?_⟩
 have hadd : (⟨b, m, none⟩ : Addr).add fd.offset = ⟨b, m + fd.offset, none⟩ := by unfold Addr.add; split <;> simp_all
 simp [execOp, ha.eval hx, UN hu hf hs, hadd]
theorem SP.fieldO {s f : Nat} {fs : Array Field} {fd : Field} (hp : PtC v m p) (hu : P.underlying t = some (.struct fs)) (hf : fs[f]? = some fd) (hs : (P.info? fd.type).map (·.size) = some (s + 1)) (hg : gd L σ g = some true) (hn : Nat.blt d n.n = true) (hx : ev σ x = some p)
    (h : ∀ p', PtC v (m + fd.offset) p' → SP P n ρ ((d, p') :: σ) (St w0 hA hV ps os) L l Q) : SP P n ρ σ (St w0 hA hV ps os) L (⟨some d, .fieldAddr t x f, tr, pos, af, g⟩ :: l) Q := by
 obtain ⟨p', hp', hv⟩ := hp.field hu hf hs hx (n := n) (dd := some d) (tr := tr) (pos := pos) (af := af) (g := g)
 exact SP.val (hv _) hg rfl hn (h p' hp')
theorem slO.elem {a h : Hp} (hr : (slO k e v xs).p a h) {i : Nat} (hx0 : xs[i]? = some x0) : ∃ b cap cur cs, v = .slice (some ⟨b, 0, none⟩) xs.length cap ∧ h b = some (.cells cur e (0, 0)) ∧ k.rd a cs x0 ∧ ∀ j u, cs[j]? = some u → cur[i * k.sz + j]? = some u := by
 obtain ⟨cells, f, hl, ⟨rfl, hn⟩ | ⟨gg, cap, cur, rfl, hg, hle, hm, hs, ht⟩⟩ := hr
 ·have := Wd hx0; omega
 ·obtain ⟨cs, r, q⟩ := f.get hx0
  refine ⟨gg, cap, cur, cs, rfl, hg, r, fun j u hj => ?_⟩
  have h1 := q j u hj
  rw [← ht] at h1
  have h2 : i * k.sz + j < xs.length * k.sz := by
   have := Wd h1; rw [List.length_take] at this; omega
  rw [List.getElem?_take_of_lt h2] at h1
  simpa using h1
theorem Val.loadOA (see : Sees w0 hA hV) (i : Nat) (hi : os[i]? = some (slO k e v xs)) (hx0 : xs[j.toNat]? = some x0) (hp : PtC v (j.toNat * k.sz) p) {C : List Value} (hk : ∀ a cs, k.rd a cs x0 → cs = C) {dsc : TypeDesc} (hu : P.underlying t = some dsc) (hd : (match dsc with | .struct _ | .array _ _ => true | _ => false) = true) (hs : (P.info? t).map (·.size) = some C.length) (hx : ev σ x = some p) :
    Val P n σ (St w0 hA hV ps os) ⟨dd, .load t x, tr, pos, af, g⟩ (.agg C.toArray) := fun a w ha hw => by
 obtain ⟨b, cap, cur, cs, e1, hb, r, q⟩ := slO.elem (St.own i hi see.sub see.dj hw) hx0
 obtain ⟨b', len', cap', e2, rfl⟩ := hp
 rw [e1] at e2
 simp at e2
 obtain ⟨rfl, -⟩ := e2
 obtain rfl := hk _ _ r
 have hb' : w.heap[b]? = some (.cells cur e (0, 0)) := hb
 have := VJ (P := P) (w := w) (a := ⟨b, j.toNat * k.sz, none⟩) (cs := cs) hu hd hs (fun i u hj => by
  have hadd : (⟨b, j.toNat * k.sz, none⟩ : Addr).add i = ⟨b, j.toNat * k.sz + i, none⟩ := by unfold Addr.add; split <;> simp_all
  rw [hadd]
  simp [World.cell?, hb', q i u hj])
 simp [execOp, ha.eval hx, Instr.loadAt, Instr.sureAddr, this]
theorem TF {cs vs : List Value} {o i : Nat} (h : o + vs.length ≤ cs.length) : (put cs o vs)[i]? = if o ≤ i ∧ i < o + vs.length then vs[i - o]? else cs[i]? := by
 rw [put_eq _ _ _ h]
 by_cases h1 : i < o
 ·rw [List.append_assoc, List.getElem?_append_left (by rw [List.length_take]; omega), List.getElem?_take, if_pos h1, if_neg (by omega)]
 ·by_cases h2 : i < o + vs.length
  ·rw [List.append_assoc, List.getElem?_append_right (by rw [List.length_take]; omega), List.getElem?_append_left (by rw [List.length_take]; omega), if_pos ⟨by omega, h2⟩, List.length_take]
   congr 1
   omega
  ·rw [List.getElem?_append_right (by rw [List.length_append, List.length_take]; omega), List.getElem?_drop, if_neg (by omega), List.length_append, List.length_take]
   congr 1
   omega
theorem Z0G {cs vs : List Value} {o : Nat} (h : o + vs.length ≤ cs.length) : (put cs o vs).length = cs.length := by
 rw [put_eq _ _ _ h]; simp; omega
theorem Z6J {cs vs : List Value} {o m : Nat} (h : o + vs.length ≤ m) (hm : m ≤ cs.length) : (put cs o vs).take m = put (cs.take m) o vs := by
 apply List.ext_getElem?
 intro i
 rw [List.getElem?_take, TF (by omega), TF (by rw [List.length_take]; omega), List.getElem?_take]
 by_cases h1 : i < m
 ·simp [h1]
 ·rw [if_neg h1, if_neg (by omega), if_neg h1]
theorem SP.storeO (see : Sees w0 hA hV) (i : Nat) (hi : os[i]? = some (slO k e v xs)) (hx0 : xs[j.toNat]? = some x0) (hp : PtC v (j.toNat * k.sz + off) p) {vs : List Value} (hv : u.cells = vs.toArray) (h1 : one vs = true) (hs : (P.info? t).map (·.size) = some vs.length) (hoff : Nat.ble (off + vs.length) k.sz = true)
    (hrd : ∀ a cs, All ps a → k.rd a cs x0 → k.rd a (put cs off vs) z0) (hg : gd L σ g = some true) (hx : ev σ x = some p) (hy : ev σ y = some u)
    (h : SP P n ρ σ (St w0 hA hV ps (os.set i (slO k e v (xs.set j.toNat z0)))) L l Q) : SP P n ρ σ (St w0 hA hV ps os) L (⟨none, .store t x y, tr, pos, af, g⟩ :: l) Q := by
 refine SP.act hg rfl (fun a w ha hw => ?_) h
 obtain ⟨hP, hh, hr, sP, sh, ap, back⟩ := hw.at i hi see
 obtain ⟨cells, f, hl, ⟨rfl, hn⟩ | ⟨gg, cap, cur, rfl, hgg, hle, hm, hsz, ht⟩⟩ := hr
 ·have := Wd hx0; omega
 obtain ⟨b', len', cap', e2, rfl⟩ := hp
 simp at e2
 obtain ⟨rfl, -⟩ := e2
 have hlt := Wd hx0
 have hof : off + vs.length ≤ k.sz := by simpa using hoff
 have hbound : j.toNat * k.sz + k.sz ≤ xs.length * k.sz := by rw [← Nat.succ_mul]; exact Nat.mul_le_mul_right _ hlt
 have hcap : xs.length * k.sz ≤ cap * k.sz := Nat.mul_le_mul_right _ hle
 have hcl : cur.toList.length = cap * k.sz := by simpa using hsz
 have hst := Uc (P := P) (t := t) (v := u) (w := w) (b := gg) (off := j.toNat * k.sz + off) (cs := cur.toList) (vs := vs) (T := e) (by have z : w.heap[gg]? = some (.cells cur e (0, 0)) := sh _ _ hgg; simpa using z) hs hv h1 (by omega)
 refine ⟨w.setRow gg (put cur.toList (j.toNat * k.sz + off) vs).toArray, by simp [execOp, ha.eval hx, ha.eval hy, Instr.storeAt, Instr.sureAddr, hst], back _ _ (bk gg (.cells (put cur.toList (j.toNat * k.sz + off) vs).toArray e (0, 0))) (Met.setRow _ _ _) (fun b hb hn => setRow_other _ _ _ _ fun e => by subst e; rw [hgg] at hn; cases hn) ?_ ?_ ?_⟩
 ·-- the element's cells
  obtain ⟨cs, r, q⟩ := f.get hx0
  have hcs := k.len _ _ _ r
  have hy' := hrd _ _ ap r
  have hput : put cells (j.toNat * k.sz + off) vs = put cells (j.toNat * k.sz) (put cs off vs) := by
   have hlc : cells.length = xs.length * k.sz := hl
   have hpl : (put cs off vs).length = k.sz := by rw [Z0G (by omega), hcs]
   apply List.ext_getElem?
   intro i
   rw [TF (by omega), TF (by omega), hpl]
   by_cases h1 : j.toNat * k.sz ≤ i ∧ i < j.toNat * k.sz + k.sz
   ·rw [if_pos h1, TF (by omega)]
    by_cases h2 : j.toNat * k.sz + off ≤ i ∧ i < j.toNat * k.sz + off + vs.length
    ·rw [if_pos h2, if_pos (by omega)]
     congr 1
     omega
    ·rw [if_neg h2, if_neg (by omega)]
     have h4 : i - j.toNat * k.sz < cs.length := by omega
     have := q (i - j.toNat * k.sz) cs[i - j.toNat * k.sz] (by simp [h4])
     rw [show j.toNat * k.sz + (i - j.toNat * k.sz) = i from by omega] at this
     rw [this]; simp [h4]
   ·rw [if_neg h1, if_neg (by omega)]
  refine ⟨put cells (j.toNat * k.sz + off) vs, by rw [hput]; exact f.set hy' hlt, ?_⟩
  have hlc : cells.length = xs.length * k.sz := hl
  refine ⟨?_, .inr ⟨gg, cap, _, by simp, by simp [bk]; rfl, by simpa using hle, hm, ?_, ?_⟩⟩
  ·rw [Z0G (by omega)]; simpa using hlc
  ·simp [Z0G (cs := cur.toList) (vs := vs) (o := j.toNat * k.sz + off) (by omega), hsz]
  ·simp only [List.length_set]
   rw [Z6J (by omega) (by omega), ht]
 ·intro b o eb
  unfold bk at eb
  split at eb
  ·rename_i hb; subst hb; simp at eb; subst eb; exact setRow_heap w b _ _ e (0, 0) (sh _ _ hgg)
  ·cases eb
 ·intro b hb
  unfold bk at hb
  split at hb
  ·rename_i hb2; subst hb2; exact .inl (by rw [hgg]; simp)
  ·exact absurd rfl hb
end
theorem slR.shape {α : Type} {k : Kd α} {h : Hp} {v : Value} {xs : List α} (r : slR k h v xs) : v.oneCell' = true := by obtain ⟨_, _, rfl, -⟩ := r; rfl
theorem slO.shape {α : Type} {k : Kd α} {T : TypeId} {a h : Hp} {v : Value} {xs : List α} (r : (slO k T v xs).p a h) : v.oneCell' = true := by
 obtain ⟨_, _, _, ⟨rfl, -⟩ | ⟨_, _, _, rfl, -⟩⟩ := r <;> rfl
theorem St.W9 {α : Type} {k : Kd α} {T : TypeId} {v : Value} {xs : List α} {w0 w : World} {hA hV : Hp} {ps : List HP} {os : List HO} (h : St w0 hA hV ps os w) (i : Nat) (hi : os[i]? = some (slO k T v xs)) (see : Sees w0 hA hV) : St w0 hA hV (slP k v xs :: ps) (os.eraseIdx i) w := by
 have := h.freeze i hi see.dj see.sub
 refine St.imp (fun hh al x hx => ?_) (fun _ _ _ s => s) this
 rcases List.mem_cons.1 hx with rfl | hx
 ·exact slO.read (al.get 0 rfl) (Sub.refl _) (Sub.refl _)
 ·exact al x (List.mem_cons_of_mem _ hx)
section
variable {P : Program} {n : Fr} {ρ : Option Nat} {σ : List (Nat × Value)} {w0 : World} {hA hV : Hp} {ps : List HP} {os : List HO} {L l : List Oper} {Q : Cont} {d : Nat} {tr : TypeId} {x : Operand} {pos : String} {af : Array Edge} {g : Option (Nat × Bool)} {as : Array Operand} {ats : Array TypeId} {f : FuncId} {vals caps : List Value}
theorem SP.callKO (see : Sees w0 hA hV) (K : Value → HO) (hfn : ((P.funcs[f]?).map fun fn => fn.body.isSome && !(fn.name == "runtime.NumGoroutine")) = some true) (hg : gd L σ g = some true) (hn : Nat.blt d n.n = true) (hx : ev σ x = some (.func (.func f) #[] caps.toArray)) (has : evs σ as.toList = some vals)
    (hc : ∀ w, St w0 hA hV ps os w → Trip P f (vals ++ caps).toArray em (hp w) w K) (hK : ∀ v a a' b, (K v).p a b → (K v).p a' b)
    (h : ∀ v, SP P n ρ ((d, v) :: σ) (St w0 hA hV ps (K v :: os)) L l Q) : SP P n ρ σ (St w0 hA hV ps os) L (⟨some d, .call ⟨.value x, as, ats⟩, tr, pos, af, g⟩ :: l) Q :=
 SP.callK see K hfn hg hn hx has (fun w hP hs sub ap => (hc w hs).mono fun e w' ⟨v, he, m, f, hN, hO, z1, z2, z3, z4, z5, z6⟩ => ⟨v, he, m, f, hN, hO, z1, z2, z3, z4, z5, hK _ _ _ _ z6⟩) h
theorem SP.callVO (see : Sees w0 hA hV) (r : Value) (hfn : ((P.funcs[f]?).map fun fn => fn.body.isSome && !(fn.name == "runtime.NumGoroutine")) = some true) (hg : gd L σ g = some true) (hn : Nat.blt d n.n = true) (hx : ev σ x = some (.func (.func f) #[] caps.toArray)) (has : evs σ as.toList = some vals)
    (hc : ∀ w, St w0 hA hV ps os w → Trip P f (vals ++ caps).toArray em (hp w) w fun v => HO.pure (v = r))
    (h : SP P n ρ ((d, r) :: σ) (St w0 hA hV ps os) L l Q) : SP P n ρ σ (St w0 hA hV ps os) L (⟨some d, .call ⟨.value x, as, ats⟩, tr, pos, af, g⟩ :: l) Q :=
 SP.callKO see _ hfn hg hn hx has hc (fun _ _ _ _ h => h) fun v a w ha hw => by
  obtain ⟨e, hw2⟩ := hw.pure
  subst e
  exact h a w ha hw2
end
section
variable {P : Program} {d : Nat} {xs ys : Array Value} {f : Field} {fs : List Field} {a b : Value} {r s : Bool} {w : World}
theorem Z1c (hn : (f.name == "_") = false) (ha : (part f.type xs f.offset).run P w = .ok a w) (hb : (part f.type ys f.offset).run P w = .ok b w) (he : (Op.equalIn d f.type a b).run P w = .ok r w) : (Op.eqFields d xs ys [f]).run P w = .ok r w := by
 have hn' : f.name ≠ "_" := by simpa using hn
 simp only [Op.eqFields, if_pos hn', Sem.run_bind, ha, hb, he, Result.andThen_ok]
 cases r <;> simp
theorem Kw (hn : (f.name == "_") = false) (ha : (part f.type xs f.offset).run P w = .ok a w) (hb : (part f.type ys f.offset).run P w = .ok b w) (he : (Op.equalIn d f.type a b).run P w = .ok r w) (hr : (Op.eqFields d xs ys fs).run P w = .ok s w) : (Op.eqFields d xs ys (f :: fs)).run P w = .ok (r && s) w := by
 have hn' : f.name ≠ "_" := by simpa using hn
 rw [Op.eqFields]
 simp only [if_pos hn', Sem.run_bind, ha, hb, he, Result.andThen_ok]
 cases r
 ·simp
 ·simpa using hr
theorem Z3b {t : TypeId} {fs : Array Field} (hu : P.underlying t = some (.struct fs)) (hp : P.stoodInHeld t = false) (h : (Op.eqFields d xs ys fs.toList).run P w = .ok r w) : (Op.equalIn (d + 1) t (.agg xs) (.agg ys)).run P w = .ok r w := by
 have hf : P.fieldsOf t = fs := by simp [Program.fieldsOf, hu]
 rw [run_equalIn_struct (P := P) w d t xs ys (by rw [hf]; exact hu) hp, hf]
 exact h
def isA (d : TypeDesc) : Bool := match d with | .struct _ | .array _ _ => true | _ => false
theorem Z4m {t : TypeId} {dsc : TypeDesc} (hu : P.underlying t = some dsc) : (isAgg t).run P w = .ok (isA dsc) w := by
 unfold isAgg
 rw [Sem.run_bind, run_underlying hu w]
 cases dsc <;> simp [isA]
theorem Wl {t : TypeId} {cs : Array Value} {off : Nat} {dsc : TypeDesc} (hu : P.underlying t = some dsc) (hd : isA dsc = false) (hc : cs[off]? = some a) : (part t cs off).run P w = .ok a w := by
 simp [part, Z4m hu, hd, hc]
theorem Z5y {t : TypeId} {cs c : Array Value} {off n : Nat} {dsc : TypeDesc} (hu : P.underlying t = some dsc) (hd : isA dsc = true) (hs : (P.info? t).map (·.size) = some n) (hc : cs.extract off (off + n) = c) : (part t cs off).run P w = .ok (.agg c) w := by
 cases hq : P.info? t with
 | none => simp [hq] at hs
 | some i =>
  simp [hq] at hs
  simp [part, Z4m hu, hd, sizeOf, typeInfo, hq, hs, hc]
end
section
variable {P : Program} {n : Fr} {ρ : Option Nat} {σ : List (Nat × Value)} {A : World → Prop} {dd : Option Nat} {t ty tr : TypeId} {x y : Operand} {pos : String} {af : Array Edge} {g : Option (Nat × Bool)} {xs ys : Array Value} {b : Bool}
theorem Val.eqlA (hm : P.eqGuardType P.depth t = false) (he : ∀ w, (Op.equalIn 10000 t (.agg xs) (.agg ys)).run P w = .ok b w) (hx : ev σ x = some (.agg xs)) (hy : ev σ y = some (.agg ys)) : Val P n σ A ⟨dd, .binOp .eql t x y ty, tr, pos, af, g⟩ (.bool b) := fun a w ha _ => by
 simp [execOp, ha.eval hx, ha.eval hy, run_eqGuard_agg w _ t x y xs ys hm, run_eql_struct, he]
theorem Val.neqA (hm : P.eqGuardType P.depth t = false) (he : ∀ w, (Op.equalIn 10000 t (.agg xs) (.agg ys)).run P w = .ok b w) (hx : ev σ x = some (.agg xs)) (hy : ev σ y = some (.agg ys)) : Val P n σ A ⟨dd, .binOp .neq t x y ty, tr, pos, af, g⟩ (.bool (!b)) := fun a w ha _ => by
 simp [execOp, ha.eval hx, ha.eval hy, run_eqGuard_agg w _ t x y xs ys hm, run_neq_struct, he]
end
end Go.Q
