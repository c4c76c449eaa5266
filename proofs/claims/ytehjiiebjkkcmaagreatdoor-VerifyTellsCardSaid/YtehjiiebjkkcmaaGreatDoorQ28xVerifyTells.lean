/- Words of this seat: arrays of elements of several cells among a variable's cells. -/
import Derived.Test.YtehjiiebjkkcmaaGreatDoorQ27xVerifyTells
set_option linter.unusedVariables false
set_option linter.unusedSimpArgs false
namespace Go.Q
def arrK {α : Type} (k : Kd α) (b : Nat) (pre : List Value) (N : Nat) (xs : List α) (post : List Value) (T : TypeId) : HO :=
 ⟨fun a h => ∃ cells, Flat k a cells xs ∧ xs.length = N ∧ (boxO b (pre ++ (cells ++ post)) T).p a h, fun a a' b b' sa sb ⟨cells, f, e, r⟩ => ⟨cells, f.mono sa, e, (boxO _ _ _).mono _ _ _ _ sa sb r⟩⟩
theorem Flat.rep {α : Type} {k : Kd α} {a : Hp} {z : List Value} {x : α} (h : k.rd a z x) : ∀ N, Flat k a (List.replicate N z).flatten (List.replicate N x)
 | 0 => rfl
 | N + 1 => ⟨z, _, by rw [List.replicate_succ, List.flatten_cons], h, Flat.rep h N⟩
section
variable {P : Program} {n : Fr} {ρ : Option Nat} {σ : List (Nat × Value)} {w0 w : World} {hA hV : Hp} {ps : List HP} {os : List HO} {L l : List Oper} {Q : Cont} {d : Nat} {dd : Option Nat} {t tr e T : TypeId} {x y : Operand} {pos : String} {af : Array Edge} {g : Option (Nat × Bool)} {α β : Type} {k : Kd α} {N b m off : Nat} {xs : List α} {pre post : List Value} {j : Int} {ik : IntKind} {x0 z0 : α} {u : Value}
theorem St.arrK (i : Nat) {cs : List Value} (hi : os[i]? = some (boxO b cs T)) (xs : List α) (pre cells post : List Value) (hf : Flat k em cells xs) (hc : cs = pre ++ (cells ++ post)) (hN : xs.length = N) (h : St w0 hA hV ps os w) : St w0 hA hV ps (os.set i (arrK k b pre N xs post T)) w :=
 h.weakO i hi fun a c hp => ⟨cells, hf.mono (Sub.em _), hN, by rw [← hc]; exact hp⟩
theorem arrK.elem {a h : Hp} (hr : (Go.Q.arrK k b pre N xs post T).p a h) {i : Nat} (hx0 : xs[i]? = some x0) : xs.length = N ∧ ∃ all cs : List Value, h b = some (.cells all.toArray T (0, 0)) ∧ k.rd a cs x0 ∧ ∀ q u, cs[q]? = some u → all[pre.length + i * k.sz + q]? = some u := by
 obtain ⟨cells, f, hN, hb⟩ := hr
 obtain ⟨cs, r, q⟩ := f.get hx0
 refine ⟨hN, _, cs, hb, r, fun q' u hq => ?_⟩
 have h1 := q q' u hq
 have h2 := Wd h1
 rw [List.getElem?_append_right (by omega), show pre.length + i * k.sz + q' - pre.length = i * k.sz + q' by omega, List.getElem?_append_left h2]
 exact h1
theorem Val.indexK (see : Sees w0 hA hV) (i : Nat) (hi : os[i]? = some (arrK k b pre N xs post T)) (hu : P.underlying t = some (.array N e)) (hs : (P.info? e).map (·.size) = some k.sz) (h0 : 0 ≤ j) (hj : xs[j.toNat]? = some x0)
    (hx : ev σ x = some (.pointer (some ⟨b, m, none⟩))) (hy : ev σ y = some (.int ik j)) :
    Val P n σ (St w0 hA hV ps os) ⟨dd, .indexAddr t x y, tr, pos, af, g⟩ (.pointer (some ⟨b, m + j.toNat * k.sz, none⟩)) := fun a w ha hw => by
 obtain ⟨hl, -⟩ := arrK.elem (St.own i hi see.sub see.dj hw) hj
 have hlt := Wd hj
 have hb : 0 ≤ j ∧ j < (N : Int) := ⟨h0, by omega⟩
 have hadd : (⟨b, m, none⟩ : Addr).add (j.toNat * k.sz) = ⟨b, m + j.toNat * k.sz, none⟩ := by unfold Addr.add; split <;> simp_all
 have hsz : (sizeOf e).run P w = .ok k.sz w := by
  cases hq : P.info? e with
  | none => simp [hq] at hs
  | some ii => simp [hq] at hs; simp [sizeOf, typeInfo, hq, hs]
 simp [execOp, ha.eval hx, ha.eval hy, Instr.indexAt, run_underlying hu, Instr.sureAddr, asIntOf, hb, hsz, hadd]
theorem Val.fieldX {A : World → Prop} {s f o : Nat} {fs : Array Field} {fd : Field} (hu : P.underlying t = some (.struct fs)) (hf : fs[f]? = some fd) (hs : (P.info? fd.type).map (·.size) = some (s + 1)) (hx : ev σ x = some (.pointer (some ⟨b, o, none⟩))) :
    Val P n σ A ⟨dd, .fieldAddr t x f, tr, pos, af, g⟩ (.pointer (some ⟨b, o + fd.offset, none⟩)) := fun a w ha _ => by
 have hadd : (⟨b, o, none⟩ : Addr).add fd.offset = ⟨b, o + fd.offset, none⟩ := by unfold Addr.add; split <;> simp_all
 simp [execOp, ha.eval hx, UN hu hf hs, hadd]
theorem Val.loadK1 (see : Sees w0 hA hV) (i : Nat) (off : Nat) (hi : os[i]? = some (arrK k b pre N xs post T)) (hj : xs[j.toNat]? = some x0) (hk : ∀ a cs, k.rd a cs x0 → nv cs off = some u) {dsc : TypeDesc} (hu : P.underlying t = some dsc) (hd : (match dsc with | .struct _ | .array _ _ => true | _ => false) = false)
    (hx : ev σ x = some (.pointer (some ⟨b, pre.length + j.toNat * k.sz + off, none⟩))) : Val P n σ (St w0 hA hV ps os) ⟨dd, .load t x, tr, pos, af, g⟩ u := fun a w ha hw => by
 obtain ⟨hl, all, cs, hb, r, q⟩ := arrK.elem (St.own i hi see.sub see.dj hw) hj
 have h1 := hk _ _ r
 rw [JF] at h1
 have h2 := q _ _ h1
 have hcell : w.cell? ⟨b, pre.length + j.toNat * k.sz + off, none⟩ = some u := by
  have hb' : w.heap[b]? = some (.cells all.toArray T (0, 0)) := hb
  simp [World.cell?, hb', h2]
 simp [execOp, ha.eval hx, Instr.loadAt, Instr.sureAddr, XC hu hd hcell]
theorem SP.loadKS (see : Sees w0 hA hV) (i : Nat) (off : Nat) {k' : Kd β} {ys : List β} (hi : os[i]? = some (arrK k b pre N xs post T)) (hj : xs[j.toNat]? = some x0) (hk : ∀ a cs, k.rd a cs x0 → ∃ s, cs[off]? = some s ∧ slR k' a s ys) {e' : TypeId} (hu : P.underlying t = some (.slice e'))
    (hx : ev σ x = some (.pointer (some ⟨b, pre.length + j.toNat * k.sz + off, none⟩))) (hg : gd L σ g = some true) (hn : Nat.blt d n.n = true)
    (h : ∀ s, SP P n ρ ((d, s) :: σ) (St w0 hA hV (slP k' s ys :: ps) os) L l Q) : SP P n ρ σ (St w0 hA hV ps os) L (⟨some d, .load t x, tr, pos, af, g⟩ :: l) Q := by
 refine SP.op (fun s : Value => s) (fun s => St w0 hA hV (slP k' s ys :: ps) os) hg rfl hn (fun a w ha hw => ?_) h
 obtain ⟨m, fr, hN, hO, n1, n2, dj, s1, s2, p, q0⟩ := id hw
 obtain ⟨h1, h2, e1, t1, t2, r0, s0⟩ := Sep.take i os hi q0
 obtain ⟨hl, all, cs, hb, r, q⟩ := arrK.elem r0 hj
 obtain ⟨s, c1, c2⟩ := hk _ _ r
 have h3 := q _ _ c1
 have hb' : w.heap[b]? = some (.cells all.toArray T (0, 0)) := s2 _ _ (t1 _ _ hb)
 have hcell : w.cell? ⟨b, pre.length + j.toNat * k.sz + off, none⟩ = some s := by simp [World.cell?, hb', h3]
 refine ⟨s, w, by simp [execOp, ha.eval hx, Instr.loadAt, Instr.sureAddr, XC hu rfl hcell], m, fr, hN, hO, n1, n2, dj, s1, s2, fun y hy => ?_, q0⟩
 rcases List.mem_cons.1 hy with rfl | hy
 ·exact c2
 ·exact p y hy
theorem SP.loadKO {ι : Type} (see : Sees w0 hA hV) (i : Nat) (C : ι → List Value) (F : ι → List HP) (hi : os[i]? = some (arrK k b pre N xs post T)) (hj : xs[j.toNat]? = some x0) (hk : ∀ a cs, k.rd a cs x0 → ∃ z, cs = C z ∧ All (F z) a) {dsc : TypeDesc} (hu : P.underlying t = some dsc) (hd : (match dsc with | .struct _ | .array _ _ => true | _ => false) = true) (hs : (P.info? t).map (·.size) = some k.sz)
    (hx : ev σ x = some (.pointer (some ⟨b, pre.length + j.toNat * k.sz, none⟩))) (hg : gd L σ g = some true) (hn : Nat.blt d n.n = true)
    (h : ∀ z, SP P n ρ ((d, .agg (C z).toArray) :: σ) (St w0 hA hV (F z ++ ps) os) L l Q) : SP P n ρ σ (St w0 hA hV ps os) L (⟨some d, .load t x, tr, pos, af, g⟩ :: l) Q := by
 refine SP.op (fun z : ι => .agg (C z).toArray) (fun z => St w0 hA hV (F z ++ ps) os) hg rfl hn (fun a w ha hw => ?_) h
 obtain ⟨m, fr, hN, hO, n1, n2, dj, s1, s2, p, q0⟩ := id hw
 obtain ⟨h1, h2, e1, t1, t2, r0, s0⟩ := Sep.take i os hi q0
 obtain ⟨hl, all, cs, hb, r, q⟩ := arrK.elem r0 hj
 have hb' : w.heap[b]? = some (.cells all.toArray T (0, 0)) := s2 _ _ (t1 _ _ hb)
 have hlc := k.len _ _ _ r
 obtain ⟨z, rfl, fz⟩ := hk _ _ r
 have := VJ (P := P) (w := w) (a := ⟨b, pre.length + j.toNat * k.sz, none⟩) (cs := C z) hu hd (by rw [hlc]; exact hs) (fun q' u hq => by
  have hadd : (⟨b, pre.length + j.toNat * k.sz, none⟩ : Addr).add q' = ⟨b, pre.length + j.toNat * k.sz + q', none⟩ := by unfold Addr.add; split <;> simp_all
  rw [hadd]
  simp [World.cell?, hb', q _ _ hq])
 refine ⟨z, w, by simp [execOp, ha.eval hx, Instr.loadAt, Instr.sureAddr, this], m, fr, hN, hO, n1, n2, dj, s1, s2, fun y hy => ?_, q0⟩
 rcases List.mem_append.1 hy with hy | hy
 ·exact fz y hy
 ·exact p y hy
theorem arrK.ahead {a h : Hp} (hr : (Go.Q.arrK k b pre N xs post T).p a h) : ∃ all : List Value, h b = some (.cells all.toArray T (0, 0)) ∧ ∀ (q : Nat) (u : Value), pre[q]? = some u → all[q]? = some u := by
 obtain ⟨cells, f, hN, hb⟩ := hr
 refine ⟨_, hb, fun q u hq => ?_⟩
 rw [List.getElem?_append_left (Wd hq)]; exact hq
theorem Val.Uz (see : Sees w0 hA hV) (i : Nat) (hi : os[i]? = some (arrK k b pre N xs post T)) {dsc : TypeDesc} (hu : P.underlying t = some dsc) (hd : (match dsc with | .struct _ | .array _ _ => true | _ => false) = false)
    (hx : ev σ x = some (.pointer (some ⟨b, off, none⟩))) (hc : nv pre off = some u) : Val P n σ (St w0 hA hV ps os) ⟨dd, .load t x, tr, pos, af, g⟩ u := fun a w ha hw => by
 obtain ⟨all, hb, q⟩ := arrK.ahead (St.own i hi see.sub see.dj hw)
 rw [JF] at hc
 have hcell : w.cell? ⟨b, off, none⟩ = some u := by
  have hb' : w.heap[b]? = some (.cells all.toArray T (0, 0)) := hb
  simp [World.cell?, hb', q _ _ hc]
 simp [execOp, ha.eval hx, Instr.loadAt, Instr.sureAddr, XC hu hd hcell]
theorem Z7F {vs : List Value} {o : Nat} {post : List Value} : ∀ (pre cells : List Value), o + vs.length ≤ cells.length → put (pre ++ (cells ++ post)) (pre.length + o) vs = pre ++ (put cells o vs ++ post) := by
 intro pre cells h
 rw [Z0I pre, put_eq _ _ _ (by simp; omega), put_eq _ _ _ h]
 rw [List.take_append_of_le_length (by omega), List.drop_append_of_le_length (by omega)]
 simp
theorem SP.storeK (see : Sees w0 hA hV) (i : Nat) (off : Nat) (hi : os[i]? = some (arrK k b pre N xs post T)) (hj : xs[j.toNat]? = some x0) {vs : List Value} (hv : u.cells = vs.toArray) (h1 : one vs = true) (hs : (P.info? t).map (·.size) = some vs.length) (hoff : Nat.ble (off + vs.length) k.sz = true)
    (hrd : ∀ a cs, All ps a → k.rd a cs x0 → k.rd a (put cs off vs) z0) (hg : gd L σ g = some true) (hx : ev σ x = some (.pointer (some ⟨b, pre.length + j.toNat * k.sz + off, none⟩))) (hy : ev σ y = some u)
    (h : SP P n ρ σ (St w0 hA hV ps (os.set i (arrK k b pre N (xs.set j.toNat z0) post T))) L l Q) : SP P n ρ σ (St w0 hA hV ps os) L (⟨none, .store t x y, tr, pos, af, g⟩ :: l) Q := by
 refine SP.act hg rfl (fun a w ha hw => ?_) h
 obtain ⟨hP, hh, hr, sP, sh, ap, back⟩ := hw.at i hi see
 obtain ⟨cells, f, hN, hb⟩ := hr
 have hlt := Wd hj
 have hof : off + vs.length ≤ k.sz := by simpa using hoff
 have hbound : j.toNat * k.sz + k.sz ≤ xs.length * k.sz := by rw [← Nat.succ_mul]; exact Nat.mul_le_mul_right _ hlt
 have hlc := f.len
 have hb' : w.heap[b]? = some (.cells (pre ++ (cells ++ post)).toArray T (0, 0)) := sh _ _ hb
 have hst := Uc (P := P) (t := t) (v := u) (w := w) (b := b) (off := pre.length + j.toNat * k.sz + off) (cs := pre ++ (cells ++ post)) (vs := vs) (T := T) hb' hs hv h1 (by simp; omega)
 have hmid : put (pre ++ (cells ++ post)) (pre.length + j.toNat * k.sz + off) vs = pre ++ (put cells (j.toNat * k.sz + off) vs ++ post) := by
  rw [Nat.add_assoc]; exact Z7F pre cells (by omega)
 rw [hmid] at hst
 refine ⟨w.setRow b (pre ++ (put cells (j.toNat * k.sz + off) vs ++ post)).toArray, by simp [execOp, ha.eval hx, ha.eval hy, Instr.storeAt, Instr.sureAddr, hst], back _ _ (bk b (.cells (pre ++ (put cells (j.toNat * k.sz + off) vs ++ post)).toArray T (0, 0))) (Met.setRow _ _ _) (fun b2 hb2 hn => setRow_other _ _ _ _ fun e => by subst e; rw [show hh b2 = _ from hb] at hn; cases hn) ?_ ?_ ?_⟩
 ·obtain ⟨cs, r, q⟩ := f.get hj
  have hcs := k.len _ _ _ r
  have hy' := hrd _ _ ap r
  have hput : put cells (j.toNat * k.sz + off) vs = put cells (j.toNat * k.sz) (put cs off vs) := by
   have hpl : (put cs off vs).length = k.sz := by rw [Z0G (by omega), hcs]
   apply List.ext_getElem?
   intro i
   rw [TF (by omega), TF (by omega), hpl]
   by_cases h1 : j.toNat * k.sz ≤ i ∧ i < j.toNat * k.sz + k.sz
   ·rw [if_pos h1, TF (by omega)]
    by_cases h2 : j.toNat * k.sz + off ≤ i ∧ i < j.toNat * k.sz + off + vs.length
    ·rw [if_pos h2, if_pos (by omega)]
     congr 1
     omega
    ·rw [if_neg h2, if_neg (by omega)]
     have h4 : i - j.toNat * k.sz < cs.length := by omega
     have := q (i - j.toNat * k.sz) cs[i - j.toNat * k.sz] (by simp [h4])
     rw [show j.toNat * k.sz + (i - j.toNat * k.sz) = i from by omega] at this
     rw [this]; simp [h4]
   ·rw [if_neg h1, if_neg (by omega)]
  exact ⟨put cells (j.toNat * k.sz + off) vs, by rw [hput]; exact f.set hy' hlt, by simpa using hN, by simp [boxO, bk]⟩
 ·intro b2 o eb
  unfold bk at eb
  split at eb
  ·rename_i hbb; subst hbb; simp at eb; subst eb
   exact setRow_heap w b2 _ _ T (0, 0) (sh _ _ hb)
  ·cases eb
 ·intro b2 hb2
  unfold bk at hb2
  split at hb2
  ·rename_i hbb; subst hbb; left; rw [show hh b2 = _ from hb]; simp
  ·simp at hb2
theorem arrK.frozen {h : Hp} (hr : (arrK k b pre N xs post T).p h h) {c : Nat} (hc : c ≤ xs.length) {cap : Nat} (hcap : c ≤ cap) : slR k h (.slice (some ⟨b, pre.length, none⟩) c cap) (xs.take c) := by
 have hl : (xs.take c).length = c := by simp; omega
 refine ⟨some ⟨b, pre.length, none⟩, cap, by rw [hl], by rw [hl]; exact hcap, fun e => (by cases e), fun a ha i x hx => ?_⟩
 cases ha
 have hx' : xs[i]? = some x := by
  have := Wd hx
  rw [List.getElem?_take_of_lt (by omega)] at hx; exact hx
 obtain ⟨-, all, cs, hb, r, q⟩ := arrK.elem hr hx'
 exact ⟨rfl, cs, r, all.toArray, T, (0, 0), hb, fun q' u hq => by simpa using q q' u hq⟩
end
end Go.Q
