/- Words of this seat: maps of one's own, with ints for keys. -/
import Derived.Test.YtehjiiebjkkcmaaGreatDoorQ12xVerifyTells
import Derived.MapKept
set_option linter.unusedVariables false
set_option linter.unusedSimpArgs false
namespace Go.Q
open Go.MapKept
def mget {β : Type} : List (Int × β) → Int → Option β
 | [], _ => none
 | p :: r, k => if p.1 = k then some p.2 else mget r k
def mset {β : Type} : List (Int × β) → Int → β → List (Int × β)
 | [], k, v => [(k, v)]
 | p :: r, k, v => if p.1 = k then (k, v) :: r else p :: mset r k v
def mapO {β : Type} (b : Nat) (ik : IntKind) (kv : β → Value) (l : List (Int × β)) : HO :=
 ⟨fun _ h => ∃ es clock, h b = some (.map es clock) ∧ es.toList.map (fun e => (e.key, e.val)) = l.map (fun p => (Value.int ik p.1, kv p.2)) ∧ (∀ e ∈ es.toList, e.born < clock) ∧ (es.toList.map MapEntry.born).Nodup,
  fun _ _ _ _ _ hb ⟨es, clock, h, r⟩ => ⟨es, clock, hb _ _ h, r⟩⟩
theorem Ka {β : Type} {ik : IntKind} {kv : β → Value} {k : Int} : ∀ (es : List MapEntry) (l : List (Int × β)) (i : Nat), es.map (fun e => (e.key, e.val)) = l.map (fun p => (Value.int ik p.1, kv p.2)) →
    (mget l k = none ∧ Instr.findNow (.int ik) (.int ik k) es i = some none ∧ ∀ v, mset l k v = l ++ [(k, v)]) ∨
    ∃ j v, mget l k = some v ∧ Instr.findNow (.int ik) (.int ik k) es i = some (some (i + j, kv v)) ∧ (∃ e, es[j]? = some e ∧ e.key = .int ik k) ∧ ∀ v', mset l k v' = l.set j (k, v')
 | [], [], i, _ => .inl ⟨rfl, rfl, fun _ => rfl⟩
 | e :: es, p :: l, i, h => by
  simp only [List.map_cons, List.cons.injEq, Prod.mk.injEq] at h
  obtain ⟨⟨h1, h2⟩, h3⟩ := h
  by_cases hk : p.1 = k
  ·refine .inr ⟨0, p.2, by simp [mget, hk], ?_, ⟨e, rfl, by rw [h1, hk]⟩, fun v' => by simp [mset, hk]⟩
   simp [Instr.findNow, Instr.sameNow, h1, hk, h2]
  ·have hs : Instr.sameNow (.int ik) (.int ik k) e.key = some false := by simp [Instr.sameNow, h1, Ne.symm hk]
   rcases Ka (k := k) es l (i + 1) h3 with ⟨a, b, c⟩ | ⟨j, v, a, b, c, d⟩
   ·exact .inl ⟨by simp [mget, hk, a], by simp [Instr.findNow, hs, b], fun v => by simp [mset, hk, c]⟩
   ·exact .inr ⟨j + 1, v, by simp [mget, hk, a], by simp [Instr.findNow, hs, b]; omega, by simpa using c, fun v' => by simp [mset, hk, d]⟩
 | [], _ :: _, _, h => by simp at h
 | _ :: _, [], _, h => by simp at h
section
variable {P : Program} {n : Fr} {ρ : Option Nat} {σ : List (Nat × Value)} {w0 : World} {hA hV : Hp} {ps : List HP} {os : List HO} {L l : List Oper} {Q : Cont} {d : Nat} {dd : Option Nat} {t tr kt et : TypeId} {x y z : Operand} {pos : String} {af : Array Edge} {g : Option (Nat × Bool)} {β : Type} {kv : β → Value} {ik : IntKind} {m : List (Int × β)} {k : Int} {z0 : β}
theorem SP.makeMap (ik : IntKind) (kv : β → Value) (hg : gd L σ g = some true) (hn : Nat.blt d n.n = true)
    (h : ∀ b, SP P n ρ ((d, .map (some b)) :: σ) (St w0 hA hV ps (mapO b ik kv [] :: os)) L l Q) : SP P n ρ σ (St w0 hA hV ps os) L (⟨some d, .makeMap t none, tr, pos, af, g⟩ :: l) Q := by
 refine SP.op (fun b => .map (some b)) (fun b => St w0 hA hV ps (mapO b ik kv [] :: os)) hg rfl hn (fun a w ha hw => ⟨w.heap.size, _, ?_, hw.alloc (.map #[] 0) ?_⟩) h
 ·simp [execOp, Instr.makeMap]
 ·exact ⟨#[], 0, by simp [bk], by simp, by simp, by simp⟩
theorem Val.lookup (see : Sees w0 hA hV) (i : Nat) {b : Nat} (hi : os[i]? = some (mapO b ik kv m)) (hu : P.underlying t = some (.map kt et)) (hk : P.underlying kt = some (.int ik)) {cs : List Value} {s bb : Nat} (hz : (P.info? et).map (fun i => ((i.zero.map fun z => z.cells.toList), i.size, i.bytes)) = some (some cs, s, bb)) (hzz : (P.info? et).bind (·.zero) = some (kv z0))
    (hx : ev σ x = some (.map (some b))) (hy : ev σ y = some (.int ik k)) : Val P n σ (St w0 hA hV ps os) ⟨dd, .lookup t x y false, tr, pos, af, g⟩ (kv ((mget m k).getD z0)) := fun a w ha hw => by
 obtain ⟨es, clock, hb, hm, -, -⟩ := St.own i hi see.sub see.dj hw
 have hb' : w.heap[b]? = some (.map es clock) := hb
 have hkey : IsKey (.int ik) (.int ik k) := by simp [IsKey]
 have hck := run_checkKey (P := P) (w := w) hk hkey es.isEmpty 9999
 have hzv : (zeroValue et).run P w = .ok (kv z0) w := by
  cases hq : P.info? et with
  | none => simp [hq] at hzz
  | some ii => simp [hq] at hzz; simp [zeroValue, typeInfo, hq, hzz]
 have hl : (Instr.lookup t (.map (some b)) (.int ik k) false).run P w = .ok (kv ((mget m k).getD z0)) w := by
  rcases Ka (k := k) es.toList m 0 hm with ⟨h1, h2, -⟩ | ⟨j, v, h1, h2, -, -⟩
  ·have hf := run_findKey (P := P) (w := w) hk h2
   simp [Instr.lookup, run_underlying hu, MapKept.run_getObj_map (P := P) hb', hck, hf, hzv, h1]
  ·have hf := run_findKey (P := P) (w := w) hk h2
   simp [Instr.lookup, run_underlying hu, MapKept.run_getObj_map (P := P) hb', hck, hf, h1]
 simp [execOp, ha.eval hx, ha.eval hy, hl]
theorem SP.mapUpdate (see : Sees w0 hA hV) (i : Nat) {b : Nat} (hi : os[i]? = some (mapO b ik kv m)) (hu : P.underlying t = some (.map kt et)) (hk : P.underlying kt = some (.int ik)) {u : β}
    (hg : gd L σ g = some true) (hx : ev σ x = some (.map (some b))) (hy : ev σ y = some (.int ik k)) (hz : ev σ z = some (kv u))
    (h : SP P n ρ σ (St w0 hA hV ps (os.set i (mapO b ik kv (mset m k u)))) L l Q) : SP P n ρ σ (St w0 hA hV ps os) L (⟨none, .mapUpdate t x y z, tr, pos, af, g⟩ :: l) Q := by
 refine SP.act hg rfl (fun a w ha hw => ?_) h
 obtain ⟨hP, hh, ⟨es, clock, hb, hm, hc, hn⟩, sP, sh, ap, back⟩ := hw.at i hi see
 have hb' : w.heap[b]? = some (.map es clock) := sh _ _ hb
 have hkey : IsKey (.int ik) (.int ik k) := by simp [IsKey]
 have hck := run_checkKey (P := P) (w := w) hk hkey false 9999
 have done : ∀ (es' : Array MapEntry) (clock' : Nat), (Instr.mapUpdate t (.map (some b)) (.int ik k) (kv u)).run P w = .ok () { w with heap := w.heap.setIfInBounds b (.map es' clock') } →
     es'.toList.map (fun e => (e.key, e.val)) = (mset m k u).map (fun p => (Value.int ik p.1, kv p.2)) → (∀ e ∈ es'.toList, e.born < clock') → (es'.toList.map MapEntry.born).Nodup →
     ∃ w', (execOp a.eval ⟨none, .mapUpdate t x y z, tr, pos, af, g⟩).run P w = .ok .skip w' ∧ St w0 hA hV ps (os.set i (mapO b ik kv (mset m k u))) w' := by
  intro es' clock' hr h1 h2 h3
  obtain ⟨q1, q2⟩ := heap_set (o' := .map es' clock') hb'
  refine ⟨{ w with heap := w.heap.setIfInBounds b (.map es' clock') }, by simp [execOp, ha.eval hx, ha.eval hy, ha.eval hz, hr], back { w with heap := w.heap.setIfInBounds b (.map es' clock') } _ (bk b (.map es' clock')) ⟨rfl, rfl, rfl, by simp⟩ (fun c hc0 hcn => q2 c fun e => by subst e; rw [hb] at hcn; cases hcn) ⟨es', clock', by simp [bk], h1, h2, h3⟩ (fun c o e => ?_) (fun c hcn => ?_)⟩
  ·unfold bk at e
   split at e
   ·rename_i hcb; subst hcb; simp at e; subst e; exact q1
   ·cases e
  ·unfold bk at hcn
   split at hcn
   ·rename_i hcb; subst hcb; exact .inl (by rw [hb]; simp)
   ·exact absurd rfl hcn
 rcases Ka (k := k) es.toList m 0 hm with ⟨h1, h2, h3⟩ | ⟨j, v, h1, h2, ⟨e, he, hek⟩, h4⟩
 ·have hf := run_findKey (P := P) (w := w) hk h2
  refine done (es.push ⟨.int ik k, kv u, clock⟩) (clock + 1) ?_ ?_ ?_ ?_
  ·simp [Instr.mapUpdate, run_underlying hu, MapKept.run_getObj_map (P := P) hb', hck, hf, MapKept.run_setObj_map (P := P) _ hb']
  ·rw [h3]; simp [hm]
  ·intro e he
   simp at he
   rcases he with he | rfl
   ·have := hc e (by simpa using he); omega
   ·simp
  ·simp only [Array.toList_push, List.map_append, List.map_cons, List.map_nil]
   refine List.nodup_append.2 ⟨hn, by simp, fun a ha b hb => ?_⟩
   obtain ⟨e, he, rfl⟩ := List.mem_map.1 ha
   have := hc e he
   simp at hb
   omega
 ·have hf := run_findKey (P := P) (w := w) hk h2
  have he' : es[j]? = some e := by simpa using he
  refine done (es.modify j fun e => { e with key := .int ik k, val := kv u }) clock ?_ ?_ ?_ ?_
  ·simp [Instr.mapUpdate, run_underlying hu, MapKept.run_getObj_map (P := P) hb', hck, hf, MapKept.run_setObj_map (P := P) _ hb', he', hek, Instr.keyThatStays, Instr.sameBits]
  ·rw [h4, List.map_set, ← hm]
   apply List.ext_getElem?
   intro q
   simp only [List.getElem?_map, Array.getElem?_toList, Array.getElem?_modify, List.getElem?_set, List.length_map, Array.length_toList]
   have hj := Wd he
   simp only [Array.length_toList] at hj
   by_cases hq : j = q
   ·subst hq; simp [he', hj]
   ·simp [hq]
  ·intro e1 h5
   obtain ⟨q, h6⟩ := List.getElem?_of_mem h5
   rw [Array.getElem?_toList, Array.getElem?_modify] at h6
   split at h6
   ·obtain ⟨e2, h7, rfl⟩ := Option.map_eq_some_iff.1 h6
    exact hc e2 (List.mem_of_getElem? (by simpa using h7))
   ·exact hc e1 (List.mem_of_getElem? (by simpa using h6))
  ·have : (es.modify j fun e => { e with key := .int ik k, val := kv u }).toList.map MapEntry.born = es.toList.map MapEntry.born := by
    apply List.ext_getElem?
    intro q
    simp only [List.getElem?_map, Array.getElem?_toList, Array.getElem?_modify]
    split
    ·cases es[q]? <;> simp
    ·rfl
   rw [this]; exact hn
end
end Go.Q
