/- Words of this seat: more of maps with ints for keys: how many entries, an entry taken out, entries read and changed under a walk, the keys sorted. -/
import Derived.Test.YtehjiiebjkkcmaaGreatDoorQ36xVerifyTells
import Derived.Lib.SlKeysI
import Derived.Maps.Own
import Derived.Maps.OwnSet
set_option linter.unusedVariables false
set_option linter.unusedSimpArgs false
namespace Go.Q
open Go.MapKept
def mdel {β : Type} : List (Int × β) → Int → List (Int × β)
 | [], _ => []
 | p :: r, k => if p.1 = k then r else p :: mdel r k
def mup {β : Type} (l : List (Int × β)) (k : Int) (u : β) : List (Int × β) := l.map fun p => if p.1 = k then (k, u) else p
theorem Z07 {β : Type} {ik : IntKind} {kv : β → Value} {k : Int} : ∀ (es : List MapEntry) (l : List (Int × β)) (i : Nat), es.map (fun e => (e.key, e.val)) = l.map (fun p => (Value.int ik p.1, kv p.2)) →
    (Instr.findNow (.int ik) (.int ik k) es i = some none ∧ mdel l k = l ∧ ∀ e ∈ es, e.key ≠ .int ik k) ∨ ∃ j v, Instr.findNow (.int ik) (.int ik k) es i = some (some (i + j, v)) ∧ mdel l k = l.eraseIdx j ∧ ∃ e, es[j]? = some e ∧ e.key = .int ik k
 | [], [], i, _ => .inl ⟨rfl, rfl, by simp⟩
 | e :: es, p :: l, i, h => by
  simp only [List.map_cons, List.cons.injEq, Prod.mk.injEq] at h
  obtain ⟨⟨h1, h2⟩, h3⟩ := h
  by_cases hk : p.1 = k
  ·exact .inr ⟨0, kv p.2, by simp [Instr.findNow, Instr.sameNow, h1, hk, h2], by simp [mdel, hk], e, rfl, by rw [h1, hk]⟩
  ·have hs : Instr.sameNow (.int ik) (.int ik k) e.key = some false := by simp [Instr.sameNow, h1, Ne.symm hk]
   rcases Z07 (k := k) es l (i + 1) h3 with ⟨b, c, c2⟩ | ⟨j, v, b, c, d⟩
   ·exact .inl ⟨by simp [Instr.findNow, hs, b], by simp [mdel, hk, c], fun x hx => by
     rcases List.mem_cons.1 hx with rfl | hx
     ·rw [h1]; simpa using hk
     ·exact c2 x hx⟩
   ·exact .inr ⟨j + 1, v, by simp [Instr.findNow, hs, b]; omega, by simp [mdel, hk, c], by simpa using d⟩
 | [], _ :: _, _, h => by simp at h
 | _ :: _, [], _, h => by simp at h
section
variable {P : Program} {n : Fr} {ρ : Option Nat} {σ : List (Nat × Value)} {w0 : World} {hA hV : Hp} {ps : List HP} {os : List HO} {L l : List Oper} {Q : Cont} {d : Nat} {dd : Option Nat} {t ty tr kt et : TypeId} {x y z : Operand} {pos : String} {af : Array Edge} {g : Option (Nat × Bool)} {β : Type} {kv : β → Value} {ik : IntKind} {m left : List (Int × β)} {k : Int} {z0 : β} {b r : Nat} {cur : Option (Int × β)}
theorem Val.lenM (see : Sees w0 hA hV) (i : Nat) (hi : os[i]? = some (mapO b ik kv m)) (hu : P.underlying t = some (.map kt et)) (hx : ev σ x = some (.map (some b))) : Val P n σ (St w0 hA hV ps os) ⟨dd, .call ⟨.builtin .len, #[x], #[t]⟩, tr, pos, af, g⟩ (.int .i64 (m.length : Int)) := fun a w ha hw => by
 obtain ⟨es, clock, hb, hm, -, -⟩ := St.own i hi see.sub see.dj hw
 have hb' : w.heap[b]? = some (.map es clock) := hb
 have hl : es.size = m.length := by have := congrArg List.length hm; simpa using this
 simp [execOp, resolve, invoke, builtin, ha.eval hx, Builtin.len_, run_underlying hu, goInt, MapKept.run_getObj_map (P := P) hb', hl]
theorem SP.actV {A A' : World → Prop} {o : Oper} (hg : gd L σ o.guard = some true) (hd : o.dst = none)
    (hv : ∀ a w, Env n σ a → A w → ∃ v w', (execOp a.eval o).run P w = .ok (.value v) w' ∧ A' w')
    (h : SP P n ρ σ A' L l Q) : SP P n ρ σ A L (o :: l) Q := fun a w ha hw => by
 obtain ⟨v, w', hr, hA⟩ := hv a w ha hw
 unfold wpListIn
 rw [if_pos (ha.wanted hg)]
 refine ⟨fun _ _ => trivial, ?_⟩
 rw [UE hr (fun d e => by cases e), Oper.uponIn_value, hd]
 exact h _ _ ha hA
theorem SP.delete (see : Sees w0 hA hV) (i : Nat) (hi : os[i]? = some (mapO b ik kv m)) (hu : P.underlying t = some (.map kt et)) (hk : P.underlying kt = some (.int ik))
    (hg : gd L σ g = some true) (hx : ev σ x = some (.map (some b))) (hy : ev σ y = some (.int ik k))
    (h : SP P n ρ σ (St w0 hA hV ps (os.set i (mapO b ik kv (mdel m k)))) L l Q) : SP P n ρ σ (St w0 hA hV ps os) L (⟨none, .call ⟨.builtin .delete, #[x, y], #[t, ty]⟩, tr, pos, af, g⟩ :: l) Q := by
 refine SP.actV hg rfl (fun a w ha hw => ?_) h
 obtain ⟨hP, hh, ⟨es, clock, hb, hm, hc, hn⟩, sP, sh, ap, back⟩ := hw.at i hi see
 have hb' : w.heap[b]? = some (.map es clock) := sh _ _ hb
 have hkey : IsKey (.int ik) (.int ik k) := by simp [IsKey]
 have hck := run_checkKey (P := P) (w := w) hk hkey es.isEmpty 9999
 have done : ∀ (es' : Array MapEntry), (Builtin.delete_ #[t, ty] tr #[.map (some b), .int ik k]).run P w = .ok (.tuple #[]) { w with heap := w.heap.setIfInBounds b (.map es' clock) } →
     es'.toList.map (fun e => (e.key, e.val)) = (mdel m k).map (fun p => (Value.int ik p.1, kv p.2)) → (∀ e ∈ es'.toList, e.born < clock) → (es'.toList.map MapEntry.born).Nodup →
     ∃ v w', (execOp a.eval ⟨none, .call ⟨.builtin .delete, #[x, y], #[t, ty]⟩, tr, pos, af, g⟩).run P w = .ok (.value v) w' ∧ St w0 hA hV ps (os.set i (mapO b ik kv (mdel m k))) w' := by
  intro es' hr h1 h2 h3
  obtain ⟨q1, q2⟩ := heap_set (o' := .map es' clock) hb'
  refine ⟨.tuple #[], { w with heap := w.heap.setIfInBounds b (.map es' clock) }, by simp [execOp, resolve, invoke, builtin, ha.eval hx, ha.eval hy, hr], back { w with heap := w.heap.setIfInBounds b (.map es' clock) } _ (bk b (.map es' clock)) ⟨rfl, rfl, rfl, by simp⟩ (fun c hc0 hcn => q2 c fun e => by subst e; rw [hb] at hcn; cases hcn) ⟨es', clock, by simp [bk], h1, h2, h3⟩ (fun c o e => ?_) (fun c hcn => ?_)⟩
  ·unfold bk at e
   split at e
   ·rename_i hcb; subst hcb; simp at e; subst e; exact q1
   ·cases e
  ·unfold bk at hcn
   split at hcn
   ·rename_i hcb; subst hcb; exact .inl (by rw [hb]; simp)
   ·exact absurd rfl hcn
 rcases Z07 (k := k) es.toList m 0 hm with ⟨h2, h3, -⟩ | ⟨j, v, h2, h4, e, he, hek⟩
 ·have hf := run_findKey (P := P) (w := w) hk h2
  exact done es (by simp [Builtin.delete_, run_underlying hu, MapKept.run_getObj_map (P := P) hb', hck, hf, MapKept.run_setObj_map (P := P) _ hb']) (by rw [h3]; exact hm) hc hn
 ·have hf := run_findKey (P := P) (w := w) hk h2
  have hj : j < es.size := by have := Wd he; simpa using this
  have hl : (es.eraseIdxIfInBounds j).toList = es.toList.eraseIdx j := by
   unfold Array.eraseIdxIfInBounds
   rw [dif_pos hj]; simp
  refine done (es.eraseIdxIfInBounds j) ?_ ?_ ?_ ?_
  ·simp [Builtin.delete_, run_underlying hu, MapKept.run_getObj_map (P := P) hb', hck, hf, MapKept.run_setObj_map (P := P) _ hb']
  ·rw [hl, h4, U7, hm, U7]
  ·intro e he; rw [hl] at he; exact hc e ((List.eraseIdx_sublist _ _).subset he)
  ·rw [hl]; exact hn.sublist ((List.eraseIdx_sublist _ _).map _)
theorem Val.Z7G (see : Sees w0 hA hV) (i : Nat) (hi : os[i]? = some (rangeO r b ik kv m left cur)) (hu : P.underlying t = some (.map kt et)) (hk : P.underlying kt = some (.int ik)) {cs : List Value} {s bb : Nat} (hz : (P.info? et).map (fun i => ((i.zero.map fun z => z.cells.toList), i.size, i.bytes)) = some (some cs, s, bb)) (hzz : (P.info? et).bind (·.zero) = some (kv z0))
    (hx : ev σ x = some (.map (some b))) (hy : ev σ y = some (.int ik k)) : Val P n σ (St w0 hA hV ps os) ⟨dd, .lookup t x y false, tr, pos, af, g⟩ (kv ((mget m k).getD z0)) := fun a w ha hw => by
 have hw' : St w0 hA hV ps (os.set i (mapO b ik kv m)) w := by
  refine St.weakO i hi (fun a h ⟨es, clock, since, seen, c0, h1, h2, h3, h4, h5, _⟩ => ⟨es, clock, h1, h3, h4, h5⟩) hw
 exact Val.lookup see i (Z4r _ hi) hu hk hz hzz hx hy a w ha hw'
theorem SP.Z55 (see : Sees w0 hA hV) (i : Nat) (hi : os[i]? = some (rangeO r b ik kv m left cur)) (hu : P.underlying t = some (.map kt et)) (hk : P.underlying kt = some (.int ik)) {u : β} (hnd : (m.map (·.1)).Nodup ∧ (mget m k).isSome = true)
    (hg : gd L σ g = some true) (hx : ev σ x = some (.map (some b))) (hy : ev σ y = some (.int ik k)) (hz : ev σ z = some (kv u))
    (h : SP P n ρ σ (St w0 hA hV ps (os.set i (rangeO r b ik kv (mup m k u) (mup left k u) none))) L l Q) : SP P n ρ σ (St w0 hA hV ps os) L (⟨none, .mapUpdate t x y z, tr, pos, af, g⟩ :: l) Q := by
 classical
 refine SP.act hg rfl (fun a w ha hw => ?_) h
 obtain ⟨hP, hh, ⟨es, clock, since, seen, c0, hb, hr, hm, hc, hn, hold, hsc, hsk, hl, -⟩, sP, sh, ap, back⟩ := hw.at i hi see
 have hb' : w.heap[b]? = some (.map es clock) := sh _ _ hb
 have hbr : b ≠ r := fun e => by subst e; rw [hb] at hr; cases hr
 have hkey : IsKey (.int ik) (.int ik k) := by simp [IsKey]
 have hck := run_checkKey (P := P) (w := w) hk hkey false 9999
 rcases Ka (k := k) es.toList m 0 hm with ⟨h1, -, -⟩ | ⟨j, v, h1, h2, ⟨e, he, hek⟩, -⟩
 ·rw [h1] at hnd; simp at hnd
 have hf := run_findKey (P := P) (w := w) hk h2
 have he' : es[j]? = some e := by simpa using he
 have hks : (es.toList.map (·.key)).Nodup := by
  have : es.toList.map (·.key) = (m.map (·.1)).map (Value.int ik) := by
   have := congrArg (List.map Prod.fst) hm
   simpa [Function.comp_def] using this
  rw [this]
  exact hnd.1.map _ (fun a b hab e => hab (by simpa using e))
 let f : MapEntry → MapEntry := fun e => if e.key = .int ik k then { e with key := .int ik k, val := kv u } else e
 have hes : (es.modify j fun e => { e with key := .int ik k, val := kv u }).toList = es.toList.map f := by
  apply List.ext_getElem?
  intro q
  simp only [Array.getElem?_toList, Array.getElem?_modify, List.getElem?_map]
  by_cases hq : j = q
  ·subst hq; simp [he', f, hek]
  ·rw [if_neg hq]
   cases hq2 : es[q]? with
   | none => rfl
   | some e2 =>
    have : e2.key ≠ .int ik k := fun h3 => by
     have hq3 : (es.toList.map (·.key))[q]? = some (.int ik k) := by simp [hq2, h3]
     have hj3 : (es.toList.map (·.key))[j]? = some (.int ik k) := by simp [he', hek]
     exact hq ((List.getElem?_inj (Wd hj3) hks).1 (hj3.trans hq3.symm))
    simp [f, this]
 have hfb : ∀ e, (f e).born = e.born := fun e => by simp only [f]; split <;> rfl
 have hfk : ∀ l : List MapEntry, ∀ m : List (Int × β), l.map (fun e => (e.key, e.val)) = m.map (fun p => (Value.int ik p.1, kv p.2)) → (l.map f).map (fun e => (e.key, e.val)) = (mup m k u).map (fun p => (Value.int ik p.1, kv p.2)) := by
  intro l
  induction l with
  | nil => intro m hm; cases m with
   | nil => rfl
   | cons _ _ => simp at hm
  | cons e l ih => intro m hm; cases m with
   | nil => simp at hm
   | cons p m =>
    simp only [List.map_cons, List.cons.injEq, Prod.mk.injEq] at hm
    simp only [List.map_cons, mup, List.cons.injEq]
    refine ⟨?_, by simpa [mup] using ih m hm.2⟩
    by_cases hp : p.1 = k
    ·simp [f, hm.1.1, hp]
    ·simp [f, hm.1.1, hm.1.2, hp]
 generalize hes' : (es.modify j fun e => { e with key := .int ik k, val := kv u }) = es' at hes
 have key : (rangeO r b ik kv (mup m k u) (mup left k u) none).p hP (fun c => if c = b then some (.map es' clock) else hh c) := by
  refine ⟨es', clock, since, seen, c0, by simp, ?_, ?_, ?_, ?_, ?_, hsc, hsk, ?_, fun p ep => by cases ep⟩
  ·show (if r = b then _ else hh r) = _
   rw [if_neg (Ne.symm hbr)]; exact hr
  ·rw [hes]; exact hfk _ _ hm
  ·intro e1 h5
   rw [hes] at h5
   obtain ⟨e2, h6, rfl⟩ := List.mem_map.1 h5
   rw [hfb]; exact hc _ h6
  ·rw [hes, List.map_map, show MapEntry.born ∘ f = MapEntry.born from funext hfb]; exact hn
  ·intro e1 h5
   rw [hes] at h5
   obtain ⟨e2, h6, rfl⟩ := List.mem_map.1 h5
   rw [hfb]; exact hold _ h6
  ·have : (leftOf es' seen).toList = (leftOf es seen).toList.map f := by
    unfold leftOf
    rw [Array.toList_filter, Array.toList_filter, hes, List.filter_map]
    congr 1
    exact List.filter_congr fun e _ => by simp [hfb]
   rw [this]; exact hfk _ _ hl
 obtain ⟨q1, q2⟩ := heap_set (o' := .map es' clock) hb'
 have hrun : (Instr.mapUpdate t (.map (some b)) (.int ik k) (kv u)).run P w = .ok () { w with heap := w.heap.setIfInBounds b (.map es' clock) } := by
  subst hes'
  simp [Instr.mapUpdate, run_underlying hu, MapKept.run_getObj_map (P := P) hb', hck, hf, MapKept.run_setObj_map (P := P) _ hb', he', hek, Instr.keyThatStays, Instr.sameBits]
 refine ⟨{ w with heap := w.heap.setIfInBounds b (.map es' clock) }, by simp [execOp, ha.eval hx, ha.eval hy, ha.eval hz, hrun], back _ _ _ ⟨rfl, rfl, rfl, by simp⟩ (fun c hc0 hcn => q2 c fun e => by subst e; rw [hb] at hcn; cases hcn) key (fun c o ec => ?_) (fun c hcn => ?_)⟩
 ·by_cases h : c = b
  ·subst h; simp at ec; subst ec; exact q1
  ·simp [h] at ec
   show (w.heap.setIfInBounds b _)[c]? = some o
   rw [q2 c h]; exact sh _ _ ec
 ·by_cases h : c = b
  ·subst h; exact .inl (by rw [hb]; simp)
  ·simp [h] at hcn; exact .inl hcn
end
theorem rangeO.toMap {β : Type} {r b : Nat} {ik : IntKind} {kv : β → Value} {m left : List (Int × β)} {cur : Option (Int × β)} : ∀ a h, (rangeO r b ik kv m left cur).p a h → (mapO b ik kv m).p a h :=
 fun _ _ ⟨es, clock, since, seen, c0, h1, h2, h3, h4, h5, _⟩ => ⟨es, clock, h1, h3, h4, h5⟩
def okKeys {β : Type} (m : List (Int × β)) : Bool := decide (m.map (·.1)).Nodup && m.all (fun p => decide (-9223372036854775808 ≤ p.1 ∧ p.1 ≤ 9223372036854775807)) && decide (m.length ≤ 1000000)
def VR {β : Type} (m : List (Int × β)) : List Int := (m.map (·.1)).mergeSort fun x y => decide (x ≤ y)
open Go.WideElems Go.Maps in
theorem ownsOf {P : Program} {kt b : Nat} {β : Type} {kv : β → Value} {m : List (Int × β)} {w : World} {a : Hp} (hk : P.underlying kt = some (.int .i64)) (h : (mapO b .i64 kv m).p a (hp w)) (ok : okKeys m = true) :
    ∃ D0 : DataW Unit, w.ownsMap P kt (fun _ => some (.nil, [])) b m.length D0 ∧ (intKeys D0).Perm (m.map (·.1)) ∧ Maps.size D0 = m.length := by
 obtain ⟨es, clock, hb, hm, hc, hn⟩ := h
 simp only [okKeys, Bool.and_eq_true, decide_eq_true_eq, List.all_eq_true] at ok
 obtain ⟨⟨hnd, hwf⟩, hlen⟩ := ok
 have hl : es.size = m.length := by have := congrArg List.length hm; simpa using this
 have hrd : ∀ (l : List MapEntry) (m : List (Int × β)), l.map (fun e => (e.key, e.val)) = m.map (fun p => (Value.int .i64 p.1, kv p.2)) → (∀ p ∈ m, -9223372036854775808 ≤ p.1 ∧ p.1 ≤ 9223372036854775807) →
     (∀ x ∈ l, ∃ y, rd (H := Unit) P kt (fun _ => some (.nil, [])) x = some y) ∧ l.map (rg (H := Unit) P kt (fun _ => some (.nil, []))) = m.map (fun p => (Lit.int .i64 p.1, DataW.nil)) := by
  intro l
  induction l with
  | nil => intro m hm _; cases m with
   | nil => exact ⟨by simp, rfl⟩
   | cons _ _ => simp at hm
  | cons e l ih => intro m hm hw; cases m with
   | nil => simp at hm
   | cons p m =>
    simp only [List.map_cons, List.cons.injEq, Prod.mk.injEq] at hm
    obtain ⟨i1, i2⟩ := ih m hm.2 fun q hq => hw q (List.mem_cons_of_mem _ hq)
    have hp := hw p (by simp)
    have hkey : keyOf P kt e.key = some (.int .i64 p.1) := by
     rw [hm.1.1]; have e1 : IntKind.i64.min = -9223372036854775808 := rfl; have e2 : IntKind.i64.max = 9223372036854775807 := rfl; simp [keyOf, hk, mapKey, Lit.wf, e1, e2]; omega
    have hr : rd (H := Unit) P kt (fun _ => some (.nil, [])) e = some (.int .i64 p.1, .nil) := by simp [rd, hkey]
    exact ⟨fun x hx => by
     rcases List.mem_cons.1 hx with rfl | hx
     ·exact ⟨_, hr⟩
     ·exact i1 x hx, by simp only [List.map_cons, i2, rg_of hr]⟩
 obtain ⟨r1, r2⟩ := hrd _ _ hm hwf
 refine ⟨_, ⟨es, clock, hb, ⟨by simp only [maxLen]; omega, ⟨hc, hn, ?_⟩, r1⟩, by omega, rfl⟩, ?_, ?_⟩
 ·have : es.toList.map (·.key) = (m.map (·.1)).map (Value.int .i64) := by
   have := congrArg (List.map Prod.fst) hm
   simpa [Function.comp_def] using this
  rw [this]
  exact hnd.map _ (fun a b hab e => hab (by simpa using e))
 ·have h1 := (WideShapes.sorted_perm (es.toList.map (rg (H := Unit) P kt (fun _ => some (.nil, []))))).map (fun p => intOf p.1)
  refine h1.trans ?_
  rw [r2, List.map_map]
  exact .of_eq (List.map_congr_left fun p _ => rfl)
 ·show List.length _ = _
  rw [(WideShapes.sorted_perm _).length_eq, List.length_map]; simpa using hl
theorem Z2E {ik : IntKind} {a : Hp} : ∀ (xs : List Int), Flat (kInt ik) a (xs.map fun x => Value.int ik x) xs
 | [] => rfl
 | x :: xs => ⟨[.int ik x], xs.map fun x => Value.int ik x, rfl, rfl, Z2E xs⟩
theorem Z56 {w w' : World} {hV : Hp} {v : Value} {α : Type} {k : Kd α} {T : TypeId} {xs : List α} {cells : List Value} (hr : w'.ownsRow w.heap.size T k.sz v xs.length cells) (hb : RowKit.Below w.heap.size w w') (hf : Flat k em cells xs) :
    ∃ u, Ending.returned v = .returned u ∧ Since w em hV ((fun r => HO.ex fun u : Value => HO.pand (r = u) (HO.seps [slO k T u xs])) u).p w' := by
 obtain ⟨hl, hr⟩ := hr
 have keep : ∀ b o, hp w b = some o → em b = none → hp w' b = some o := fun b o e _ => (hb.block b (U6 e)).trans e
 rcases hr with ⟨rfl, hn⟩ | ⟨g, cap, cur, rfl, hg, hgb, h1, h2, h3, h4⟩
 ·exact ⟨_, rfl, ⟨hb.os, hb.tape, hb.output, hb.size⟩, keep, em, em, fun _ _ _ => rfl, fun _ _ _ => rfl, Dj.Yw _, Sub.em _, Sub.em _, _, rfl, em, em, Dj.Yw _, Sub.em _, Sub.em _, ⟨cells, hf.mono (Sub.em _), hl, .inl ⟨rfl, hn⟩⟩, trivial⟩
 ·refine ⟨_, rfl, ⟨hb.os, hb.tape, hb.output, hb.size⟩, keep, em, bk g (.cells cur T (0, 0)), fun _ _ _ => rfl, fun b hb _ => ?_, Dj.Yw _, Sub.em _, fun b o e => ?_, _, rfl, bk g (.cells cur T (0, 0)), em, Dj.XR _, Sub.refl _, Sub.em _, ⟨cells, hf.mono (Sub.em _), hl, .inr ⟨g, cap, cur, rfl, by simp [bk], h1, h2, h3, h4⟩⟩, trivial⟩
  ·have : b ≠ g := by omega
   simp [bk, this]
  ·unfold bk at e
   split at e
   ·rename_i h; subst h; simp at e; subst e; exact hgb
   ·cases e
end Go.Q
