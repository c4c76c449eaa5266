/- Words of this seat: ranges over maps; steps of which several may come. -/
import Derived.Test.YtehjiiebjkkcmaaGreatDoorQ14xVerifyTells
import Derived.Laws.IdiomRangeMap
set_option linter.unusedVariables false
set_option linter.unusedSimpArgs false
namespace Go.Q
open Go.MapKept
def stepsD {S R : Type} (F : S → Option (List S ⊕ R)) : Nat → S → R → Prop
 | 0, _, _ => False
 | n + 1, s, r => match F s with
  | none => False
  | some (.inl l) => l ≠ [] ∧ ∀ t ∈ l, stepsD F n t r
  | some (.inr r') => r' = r
def nextD {S R : Type} (F : S → Option (List S ⊕ R)) (n : Nat) (r : R) : List S ⊕ R → Prop
 | .inl l => l ≠ [] ∧ ∀ t ∈ l, stepsD F n t r
 | .inr r' => r' = r
theorem Z2A {S R : Type} {F : S → Option (List S ⊕ R)} : ∀ (n m : Nat) (s : S) (r r' : R), stepsD F n s r → stepsD F m s r' → r = r'
 | 0, _, _, _, _, h, _ => h.elim
 | _ + 1, 0, _, _, _, _, h => h.elim
 | n + 1, m + 1, s, r, r', h, k => by
  simp only [stepsD] at h k
  cases hF : F s with
  | none => rw [hF] at h; exact h.elim
  | some o =>
   rw [hF] at h k
   cases o with
   | inl l =>
    obtain ⟨h1, h2⟩ := h
    obtain ⟨t, ht⟩ := List.exists_mem_of_ne_nil _ h1
    exact Z2A n m t r r' (h2 t ht) (k.2 t ht)
   | inr r2 => exact (show r2 = r from h).symm.trans k
open Classical in
noncomputable def runD {S R : Type} (F : S → Option (List S ⊕ R)) (s : S) : Option R :=
 if h : ∃ p : Nat × R, stepsD F p.1 s p.2 then some (Classical.choose h).2 else none
theorem Kz {S R : Type} {F : S → Option (List S ⊕ R)} {s : S} {r : R} : runD F s = some r ↔ ∃ n, stepsD F n s r := by
 unfold runD
 constructor
 ·intro h
  split at h
  ·rename_i hx
   simp at h; subst h
   exact ⟨_, Classical.choose_spec hx⟩
  ·simp at h
 ·rintro ⟨n, h⟩
  have hx : ∃ p : Nat × R, stepsD F p.1 s p.2 := ⟨(n, r), h⟩
  rw [dif_pos hx]
  exact congrArg some (Z2A _ _ _ _ _ (Classical.choose_spec hx) h)
theorem UQ {S R : Type} {F : S → Option (List S ⊕ R)} {n : Nat} {s : S} {r : R} (h : stepsD F n s r) : ∃ m o, m + 1 = n ∧ F s = some o ∧ nextD F m r o := by
 cases n with
 | zero => exact h.elim
 | succ n =>
  simp only [stepsD] at h
  cases hF : F s with
  | none => rw [hF] at h; exact h.elim
  | some o => exact ⟨n, o, rfl, rfl, by rw [hF] at h; cases o <;> exact h⟩
theorem Ue {S R : Type} {F : S → Option (List S ⊕ R)} {n : Nat} {t : S} {r : R} (h : nextD F n r (.inl [t])) : stepsD F n t r := h.2 t (by simp)
theorem Jr {S R : Type} {F : S → Option (List S ⊕ R)} : ∀ (n m : Nat) (s : S) (r : R), n ≤ m → stepsD F n s r → stepsD F m s r
 | 0, _, _, _, _, h => h.elim
 | n + 1, 0, _, _, h, _ => by omega
 | n + 1, m + 1, s, r, hm, h => by
  simp only [stepsD] at h ⊢
  cases hF : F s with
  | none => rw [hF] at h; exact h.elim
  | some o =>
   rw [hF] at h
   cases o with
   | inl l => exact ⟨h.1, fun t ht => Jr n m t r (by omega) (h.2 t ht)⟩
   | inr r' => exact h
theorem Uy {S R : Type} {F : S → Option (List S ⊕ R)} {s t : S} {r : R} (h : F s = some (.inl [t])) (k : runD F t = some r) : runD F s = some r := by
 obtain ⟨n, hn⟩ := Kz.1 k
 exact Kz.2 ⟨n + 1, by simp only [stepsD, h]; exact ⟨by simp, by simpa using hn⟩⟩
theorem Z1d {S R : Type} {F : S → Option (List S ⊕ R)} {s : S} {r : R} (h : F s = some (.inr r)) : runD F s = some r :=
 Kz.2 ⟨1, by simp [stepsD, h]⟩
theorem Z6N {S R : Type} {F : S → Option (List S ⊕ R)} {s : S} {l : List S} {r : R} (h : F s = some (.inl l)) (h0 : l ≠ []) (k : ∀ t ∈ l, runD F t = some r) : runD F s = some r := by
 have : ∃ n, ∀ t ∈ l, stepsD F n t r := by
  clear h h0
  induction l with
  | nil => exact ⟨0, by simp⟩
  | cons x l ih =>
   obtain ⟨n, hn⟩ := ih fun t ht => k t (List.mem_cons_of_mem _ ht)
   obtain ⟨m, hm⟩ := Kz.1 (k x (by simp))
   exact ⟨max n m, fun t ht => by
    rcases List.mem_cons.1 ht with rfl | ht
    ·exact Jr _ _ _ _ (Nat.le_max_right _ _) hm
    ·exact Jr _ _ _ _ (Nat.le_max_left _ _) (hn t ht)⟩
 obtain ⟨n, hn⟩ := this
 exact Kz.2 ⟨n + 1, by simp only [stepsD, h]; exact ⟨h0, hn⟩⟩
def rangeO {β : Type} (r b : Nat) (ik : IntKind) (kv : β → Value) (m left : List (Int × β)) (cur : Option (Int × β)) : HO :=
 ⟨fun _ h => ∃ es clock since seen c0, h b = some (.map es clock) ∧ h r = some (.mapIter (some b) since seen c0) ∧ es.toList.map (fun e => (e.key, e.val)) = m.map (fun p => (Value.int ik p.1, kv p.2)) ∧ (∀ e ∈ es.toList, e.born < clock) ∧ (es.toList.map MapEntry.born).Nodup ∧
     (∀ e ∈ es.toList, e.born < since) ∧ since ≤ c0 ∧ since ≤ clock ∧ (leftOf es seen).toList.map (fun e => (e.key, e.val)) = left.map (fun p => (Value.int ik p.1, kv p.2)) ∧
     ∀ p, cur = some p → c0 = clock ∧ ∃ e ∈ es.toList, seen.back? = some e.born ∧ e.key = .int ik p.1 ∧ e.val = kv p.2,
  fun _ _ _ _ _ hb ⟨es, clock, since, seen, c0, h1, h2, r⟩ => ⟨es, clock, since, seen, c0, hb _ _ h1, hb _ _ h2, r⟩⟩
theorem run_next_at {P : Program} (w : World) (ty : TypeId) (bm r since c0 : Nat) (seen : Array Nat) (es : Array MapEntry) (clock : Nat) (hb : w.heap[bm]? = some (.map es clock)) (hr : w.heap[r]? = some (.mapIter (some bm) since seen c0)) (hold : ∀ x ∈ es.toList, x.born < since) (hsc : since ≤ c0) :
    ((leftOf es seen).size = 0 ∧ (Instr.next (.pointer (some ⟨r, 0, none⟩)) false ty).run P w = .ok (.tuple #[.bool false]) w) ∨
    ∃ (j : Nat) (e : MapEntry) (k : Nat), (leftOf es seen)[j]? = some e ∧ (Instr.next (.pointer (some ⟨r, 0, none⟩)) false ty).run P w = .ok (.tuple #[.bool true, e.key, e.val]) ({ w with drawn := k }.putObj r (.mapIter (some bm) since (seen.push e.born) clock)) := by
 simp only [Instr.next, getObj, Sem.run_bind, Sem.run, hr, hb, Result.andThen, next_test_false seen es since c0 hold hsc, Bool.false_eq_true, if_false]
 unfold leftOf
 have hmem : ∀ x ∈ (Array.filter (fun e => !seen.contains e.born) es).toList, x.born < since := fun x hx => hold x (by simp at hx ⊢; exact hx.1)
 generalize Array.filter (fun e => !seen.contains e.born) es = L at hmem ⊢
 have e1 : L.filter (fun x => decide (x.born < since)) = L := Array.filter_eq_self.2 (fun x hx => by simpa using hmem x (by simpa using hx))
 have e2 : L.filter (fun x => decide (x.born ≥ since)) = #[] := by
  rw [Array.filter_eq_empty_iff]
  intro x hx
  have := hmem x (by simpa using hx)
  simp
  omega
 simp only [e1, e2, Array.append_empty]
 by_cases h0 : L.size = 0
 ·left
  have : L = #[] := Array.eq_empty_of_size_eq_zero h0
  subst this
  refine ⟨rfl, ?_⟩
  simp [choose, Sem.run, Question.forced]
 ·right
  have hne : L.isEmpty = false := by simp [Array.isEmpty, h0]
  simp only [hne, Bool.false_eq_true, if_false, Array.empty_append, Array.size_map]
  have hch : ∃ (j : Nat) (k : Nat), j < L.size ∧ (choose (Question.mapNext L.size)).run P w = .ok j { w with drawn := k } := by
   by_cases hf : L.size ≤ 1
   ·exact ⟨0, w.drawn, by omega, by simp [choose, Sem.run, Question.forced, hf]⟩
   ·exact ⟨_, _, Nat.mod_lt _ (by omega), by
     simp only [choose, Sem.run, Question.forced, decide_eq_true_eq, hf, if_false, Question.cut]
     rfl⟩
  obtain ⟨j, k, hj, hrun⟩ := hch
  refine ⟨j, L[j], k, by simp [hj], ?_⟩
  have hset : ∀ (o' : Obj), (setObj r o').run P { w with drawn := k } = .ok () ({ w with drawn := k }.putObj r o') := fun o' => by
   simp [setObj, Sem.run, hr, World.putObj]
  simp only [hrun, Array.getElem?_map, Array.getElem?_eq_getElem hj, Option.map_some, Sem.run_bind, hset, Result.andThen]
  rfl
theorem filter_push {seen : Array Nat} : ∀ {es : List MapEntry} {j : Nat} {e : MapEntry}, (es.map MapEntry.born).Nodup → (es.filter fun e => !seen.contains e.born)[j]? = some e →
    (es.filter fun x => !(seen.push e.born).contains x.born) = (es.filter fun e => !seen.contains e.born).eraseIdx j
 | [], j, e, _, h => by simp at h
 | x :: es, j, e, hn, h => by
  simp only [List.map_cons, List.nodup_cons] at hn
  simp only [List.filter_cons] at h ⊢
  by_cases hx : seen.contains x.born = true
  ·simp only [contains_push, hx, Bool.true_or, Bool.not_true, Bool.false_eq_true, if_false] at h ⊢
   have := filter_push hn.2 h
   simp only [contains_push] at this
   exact this
  ·have hx' := Bool.eq_false_iff.2 hx
   simp only [hx', Bool.not_false, if_true] at h ⊢
   cases j with
   | zero =>
    simp at h
    subst h
    simp only [contains_push, hx', Bool.false_or, beq_self_eq_true, Bool.not_true, Bool.false_eq_true, if_false, List.eraseIdx_cons_zero]
    refine List.filter_congr fun y hy => ?_
    have hyx : (y.born == x.born) = false := by
     cases hc : y.born == x.born with
     | false => rfl
     | true => exact absurd (by rw [← beq_iff_eq.1 hc]; exact List.mem_map.2 ⟨y, hy, rfl⟩) hn.1
    simp [hyx]
   | succ j =>
    simp only [List.getElem?_cons_succ] at h
    have hxe : (x.born == e.born) = false := by
     cases hc : x.born == e.born with
     | false => rfl
     | true =>
      have := List.mem_of_getElem? h
      exact absurd (by rw [beq_iff_eq.1 hc]; exact List.mem_map.2 ⟨e, (List.mem_filter.1 this).1, rfl⟩) hn.1
    simp only [contains_push, hx', hxe, Bool.or_false, Bool.not_false, if_true, List.eraseIdx_cons_succ]
    congr 1
    have := filter_push hn.2 h
    simp only [contains_push] at this
    exact this
theorem U7 {α β : Type} (f : α → β) : ∀ (l : List α) (j : Nat), (l.eraseIdx j).map f = (l.map f).eraseIdx j
 | [], _ => rfl
 | _ :: _, 0 => rfl
 | x :: l, j + 1 => by simp [U7 f l j]
section
variable {P : Program} {n : Fr} {ρ : Option Nat} {σ : List (Nat × Value)} {w0 : World} {hA hV : Hp} {ps : List HP} {os : List HO} {L l : List Oper} {Q : Cont} {d : Nat} {t tr kt et : TypeId} {x : Operand} {pos : String} {af : Array Edge} {g : Option (Nat × Bool)} {β : Type} {kv : β → Value} {ik : IntKind} {m left : List (Int × β)} {b r : Nat} {cur : Option (Int × β)}
theorem SP.range (see : Sees w0 hA hV) (hu : P.underlying t = some (.map kt et)) (hg : gd L σ g = some true) (hn : Nat.blt d n.n = true) (hx : ev σ x = some (.map (some b)))
    (h : ∀ r, SP P n ρ ((d, .pointer (some ⟨r, 0, none⟩)) :: σ) (St w0 hA hV ps (rangeO r b ik kv m m none :: os)) L l Q) : SP P n ρ σ (St w0 hA hV ps (mapO b ik kv m :: os)) L (⟨some d, .range t x, tr, pos, af, g⟩ :: l) Q := by
 refine SP.op (fun r => .pointer (some ⟨r, 0, none⟩)) (fun r => St w0 hA hV ps (rangeO r b ik kv m m none :: os)) hg rfl hn (fun a w ha hw => ?_) h
 obtain ⟨es, clock, hb, hm, hc, hnd⟩ := St.own 0 rfl see.sub see.dj hw
 refine ⟨w.heap.size, w.alloc (.mapIter (some b) clock #[] clock), ?_, ?_⟩
 ·simp [execOp, ha.eval hx, run_range_map w t kt et b es clock hu hb]
 have h1 := hw.alloc (x := ⟨fun _ h => h w.heap.size = some (.mapIter (some b) clock #[] clock), fun _ _ _ _ _ sb e => sb _ _ e⟩) (.mapIter (some b) clock #[] clock) (by simp [bk])
 have h0 := hw
 obtain ⟨m0, f, hN, hO, n1, n2, dj, s1, s2, p, k1, k2, dj2, t1, t2, q1, q2⟩ := h1
 obtain ⟨k3, k4, dj3, t3, t4, q3, q4⟩ := q2
 obtain ⟨es', clock', hb', hm', hc', hnd'⟩ := q3
 have hh : (w.alloc (.mapIter (some b) clock #[] clock)).heap[b]? = some (.map es' clock') := s2 _ _ (t2 _ _ (t3 _ _ hb'))
 have hbs : b < w.heap.size := U6 hb
 rw [heap_alloc_old w _ hbs] at hh
 have hb2 : w.heap[b]? = some (.map es clock) := hb
 rw [hb2] at hh
 obtain ⟨rfl, rfl⟩ : es = es' ∧ clock = clock' := by simpa using hh
 refine ⟨m0, f, hN, hO, n1, n2, dj, s1, s2, p, un k1 k3, k4, Dj.YC (dj2.sub (Sub.refl _) t4) dj3, Sub.XY t1 (t3.trans t2), t4.trans t2, ⟨es, clock, clock, #[], clock, Sub.Ye (dj2.sub (Sub.refl _) t3) _ _ hb', Sub.YC _ _ _ _ q1, hm, hc, hnd, hc, Nat.le_refl _, Nat.le_refl _, ?_, fun p e => by cases e⟩, q4⟩
 have : leftOf es #[] = es := by
  unfold leftOf
  rw [Array.filter_eq_self]
  intro a _
  simp
 rw [this]; exact hm
theorem SP.next (see : Sees w0 hA hV) (i : Nat) (hi : os[i]? = some (rangeO r b ik kv m left cur)) (hg : gd L σ g = some true) (hn : Nat.blt d n.n = true) (hx : ev σ x = some (.pointer (some ⟨r, 0, none⟩)))
    (hdone : left = [] → SP P n ρ ((d, .tuple #[.bool false]) :: σ) (St w0 hA hV ps os) L l Q)
    (hstep : ∀ j k v, left[j]? = some (k, v) → SP P n ρ ((d, .tuple #[.bool true, .int ik k, kv v]) :: σ) (St w0 hA hV ps (os.set i (rangeO r b ik kv m (left.eraseIdx j) (some (k, v))))) L l Q) :
    SP P n ρ σ (St w0 hA hV ps os) L (⟨some d, .next x false, tr, pos, af, g⟩ :: l) Q := fun a w ha hw => by
 obtain ⟨es, clock, since, seen, c0, hb, hr, hm, hc, hnd, hold, hsc, hsk, hl, hcur⟩ := St.own i hi see.sub see.dj hw
 unfold wpListIn
 rw [if_pos (ha.wanted hg)]
 refine ⟨fun _ _ => trivial, ?_⟩
 rcases run_next_at (P := P) w tr b r since c0 seen es clock hb hr hold hsc with ⟨h1, h2⟩ | ⟨j, e, k, h1, h2⟩
 ·have hle : left = [] := by
   have : (leftOf es seen).toList = [] := by rw [Array.eq_empty_of_size_eq_zero h1]
   rw [this] at hl
   simpa using hl.symm
  have he : (execOp a.eval ⟨some d, .next x false, tr, pos, af, g⟩).run P w = .ok (.value (.tuple #[.bool false])) w := by simp [execOp, ha.eval hx, h2]
  rw [UE he (fun d e => by cases e), Oper.uponIn_value]
  exact hdone hle _ _ (ha.put _ (by simpa using hn)) hw
 ·have h1' : (leftOf es seen).toList[j]? = some e := by simpa using h1
  obtain ⟨p, hlj, hpe⟩ : ∃ p, left[j]? = some p ∧ (e.key, e.val) = (Value.int ik p.1, kv p.2) := by
   have : ((leftOf es seen).toList.map (fun e => (e.key, e.val)))[j]? = some (e.key, e.val) := by simp [h1]
   rw [hl] at this
   simp only [List.getElem?_map, Option.map_eq_some_iff] at this
   obtain ⟨p, h3, h4⟩ := this
   exact ⟨p, h3, h4.symm⟩
  obtain ⟨pk, pv⟩ := p
  simp only [Prod.mk.injEq] at hpe
  have he : (execOp a.eval ⟨some d, .next x false, tr, pos, af, g⟩).run P w = .ok (.value (.tuple #[.bool true, .int ik pk, kv pv])) ({ w with drawn := k }.putObj r (.mapIter (some b) since (seen.push e.born) clock)) := by simp [execOp, ha.eval hx, h2, hpe.1, hpe.2]
  rw [UE he (fun d e => by cases e), Oper.uponIn_value]
  refine hstep j pk pv hlj _ _ (ha.put _ (by simpa using hn)) ?_
  refine (hw.drawn k).change i hi (Met.putObj _ _ _) fun hP hO hs hx => ?_
  obtain ⟨es', clock', since', seen', c0', hb', hr', hm', hc', hnd', hold', hsc', hsk', hl', hcur'⟩ := hx
  have e1 : w.heap[b]? = some (.map es' clock') := hs _ _ hb'
  have e2 : w.heap[r]? = some (.mapIter (some b) since' seen' c0') := hs _ _ hr'
  have e3 : w.heap[b]? = some (.map es clock) := hb
  have e4 : w.heap[r]? = some (.mapIter (some b) since seen c0) := hr
  rw [e3] at e1; rw [e4] at e2
  obtain ⟨rfl, rfl⟩ : es = es' ∧ clock = clock' := by simpa using e1
  obtain ⟨rfl, rfl, rfl⟩ : since = since' ∧ seen = seen' ∧ c0 = c0' := by simpa using e2
  have hbr : b ≠ r := fun e => by subst e; rw [hb'] at hr'; cases hr'
  have hne : ∀ c, c ≠ r → hp ({ w with drawn := k }.putObj r (.mapIter (some b) since (seen.push e.born) clock)) c = hp w c := fun c h => World.putObj_heap_other h
  have heq : hp ({ w with drawn := k }.putObj r (.mapIter (some b) since (seen.push e.born) clock)) r = some (.mapIter (some b) since (seen.push e.born) clock) := World.putObj_heap_same (U6 (w := w) (hs _ _ hr'))
  refine ⟨fun c => if c = r then some (.mapIter (some b) since (seen.push e.born) clock) else hO c, ⟨es, clock, since, seen.push e.born, clock, by simp [hbr, hb'], by simp, hm, hc, hnd, hold, hsk, hsk, ?_, fun p ep => ?_⟩, fun c o ec => ?_, fun c hcn hz => ?_, fun c o ec hz => ?_⟩
  ·have hfl : (leftOf es (seen.push e.born)).toList = (leftOf es seen).toList.eraseIdx j := by
    unfold leftOf at h1' ⊢
    rw [Array.toList_filter] at h1' ⊢
    rw [Array.toList_filter]
    exact filter_push hnd h1'
   rw [hfl, U7, hl, U7]
  ·obtain rfl : (pk, pv) = p := by simpa using ep
   exact ⟨rfl, e, (mem_left (es := es) (seen := seen) (e := e) (List.mem_of_getElem? h1')).1, by simp, hpe.1, hpe.2⟩
  ·by_cases h : c = r
   ·subst h; simp at ec; subst ec; exact heq
   ·simp [h] at ec; rw [hne c h]; exact hs _ _ ec
  ·by_cases h : c = r
   ·subst h; rw [hr'] at hz; cases hz
   ·simp [h] at hcn; exact hcn hz
  ·have h : c ≠ r := fun h => by subst h; rw [hr'] at hz; cases hz
   rw [hne c h]; exact ec
theorem Val.entry (see : Sees w0 hA hV) (i : Nat) {p : Int × β} {dd : Option Nat} (hi : os[i]? = some (rangeO r b ik kv m left (some p))) (hx : ev σ x = some (.pointer (some ⟨r, 0, none⟩))) :
    Val P n σ (St w0 hA hV ps os) ⟨dd, .entry x, tr, pos, af, g⟩ (.tuple #[.int ik p.1, kv p.2]) := fun a w ha hw => by
 obtain ⟨es, clock, since, seen, c0, hb, hr, hm, hc, hnd, hold, hsc, hsk, hl, hcur⟩ := St.own i hi see.sub see.dj hw
 obtain ⟨rfl, e, he, hbk, hk, hv⟩ := hcur p rfl
 have hb' : w.heap[b]? = some (.map es c0) := hb
 have hr' : w.heap[r]? = some (.mapIter (some b) since seen c0) := hr
 have hf : es.find? (·.born == e.born) = some e := by rw [← Array.find?_toList]; exact find_born e es.toList hnd he
 have : (Instr.entry (.pointer (some ⟨r, 0, none⟩))).run P w = .ok (.tuple #[.int ik p.1, kv p.2]) w := by
  simp only [Instr.entry, getObj, Sem.run_bind, Sem.run, hr', hb', Result.andThen, hbk, bne_self_eq_false, Bool.false_eq_true, if_false, hf, hk, hv]
  rfl
 simp [execOp, ha.eval hx, this]
def picks {α : Type} (l : List α) : List (α × List α) := (List.range l.length).filterMap fun j => l[j]?.map fun p => (p, l.eraseIdx j)
theorem Z2B {α : Type} {l : List α} {j : Nat} {p : α} (h : l[j]? = some p) : (p, l.eraseIdx j) ∈ picks l := by
 refine List.mem_filterMap.2 ⟨j, ?_, by simp [h]⟩
 rcases Nat.lt_or_ge j l.length with g | g
 ·exact List.mem_range.2 g
 ·rw [List.getElem?_eq_none g] at h; cases h
theorem Z6O {α : Type} {l : List α} {z : α × List α} (h : z ∈ picks l) : ∃ j, l[j]? = some z.1 ∧ z.2 = l.eraseIdx j := by
 obtain ⟨j, -, h2⟩ := List.mem_filterMap.1 h
 cases h3 : l[j]? with
 | none => simp [h3] at h2
 | some p => simp [h3] at h2; subst h2; exact ⟨j, h3, rfl⟩
theorem Z6P {α : Type} {l : List α} (h : l ≠ []) : picks l ≠ [] := by
 cases l with
 | nil => exact absurd rfl h
 | cons x l => exact List.ne_nil_of_mem (Z2B (l := x :: l) (j := 0) rfl)
end
end Go.Q
