/- Words of this seat: what is handed over to be changed; regions whose order is drawn, phase by phase. -/
import Derived.Test.YtehjiiebjkkcmaaGreatDoorQ7xVerifyTells
import Derived.OrdersHeld
set_option linter.unusedVariables false
set_option linter.unusedSimpArgs false
namespace Go.Q
section
variable {w0 w w' : World} {hA hV : Hp} {ps : List HP} {os : List HO} {X K : HO}
theorem St.beginA (sA : Sub hA (hp w)) (h : All ps hV) (s : Sep hV os hA) : St w hA hV ps os w :=
 ⟨Met.refl w, fun _ _ e _ => e, em, hA, fun _ _ _ => rfl, fun _ _ h => h, Dj.Yw _, Sub.em _, sA, h.mono (Sub.YC _ _), Sep.mono _ (Sub.YC _ _) (Sub.refl _) s⟩
end
section
variable {P : Program} {n : Fr} {ρ : Option Nat} {σ : List (Nat × Value)} {w0 : World} {hA hV : Hp} {ps : List HP} {os : List HO} {L l : List Oper} {Q : Cont} {d : Nat} {tr : TypeId} {x : Operand} {pos : String} {af : Array Edge} {g : Option (Nat × Bool)} {as : Array Operand} {ats : Array TypeId} {f : FuncId} {vals caps : List Value} {X : HO}
theorem SP.callA (see : Sees w0 hA hV) (K : Value → HO) (hfn : ((P.funcs[f]?).map fun fn => fn.body.isSome && !(fn.name == "runtime.NumGoroutine")) = some true) (hg : gd L σ g = some true) (hn : Nat.blt d n.n = true) (hx : ev σ x = some (.func (.func f) #[] caps.toArray)) (has : evs σ as.toList = some vals)
    (hc : ∀ w hP h1, Sub hP (hp w) → Sub h1 (hp w) → Dj hP h1 → All ps hP → X.p hP h1 → Trip P f (vals ++ caps).toArray h1 hP w K)
    (h : ∀ v, SP P n ρ ((d, v) :: σ) (St w0 hA hV ps (K v :: os)) L l Q) : SP P n ρ σ (St w0 hA hV ps (X :: os)) L (⟨some d, .call ⟨.value x, as, ats⟩, tr, pos, af, g⟩ :: l) Q := fun a w ha hw => by
 unfold wpListIn
 rw [if_pos (ha.wanted hg)]
 have hm : as.map a.eval = vals.toArray := by rw [← Array.toArray_toList (xs := as.map a.eval), Array.toList_map, ha.evals has]
 have hr : (execOp a.eval ⟨some d, .call ⟨.value x, as, ats⟩, tr, pos, af, g⟩).run P w = .ok (.enter f (vals ++ caps).toArray) w := by
  simp [execOp, resolve, ha.eval hx, Deferred.ofValue, invoke, hm, Z1a hfn (b := default) (fv := undef)]
 refine ⟨fun _ _ => trivial, ?_⟩
 rw [UE hr (fun d e => by cases e), Oper.uponIn_enter]
 refine ⟨fun h => (by cases h), Z24 ?_⟩
 obtain ⟨m, fr, hN, hO, n1, n2, dj, s1, s2, p, h1, h2, d12, t1, t2, r, q⟩ := id hw
 have sub : Sub (un hV hN) (hp w) := Sub.XY (fun b o e => fr b o (see.sub b o e) (by
  rcases see.dj b with k | k
  ·rw [e] at k; cases k
  ·exact k)) s1
 -- the contract, at the very parts of the state
 have dV : Dj hV h1 := fun b => by
  cases e : hV b with
  | none => exact .inl rfl
  | some o =>
   refine .inr ?_
   cases e2 : h1 b with
   | none => rfl
   | some u => have := t1 _ _ e2; rw [n2 b (U6 (see.sub _ _ e)) ((see.dj b).resolve_left (by rw [e]; simp))] at this; cases this
 refine (hc w (un hV hN) h1 sub (t1.trans s2) (Dj.YC dV (dj.sub (Sub.refl _) t1)) p r).mono fun e w' he => ?_
 obtain ⟨v, rfl, hs⟩ := he
 refine h v _ _ (ha.put v (by simpa using hn)) ?_
 -- the same parts again
 obtain ⟨m', fr', hN', hO', n1', n2', dj', s1', s2', k⟩ := hs
 have old : ∀ b, b < w0.heap.size → hA b = none → h1 b = none := fun b hb ha => by
  cases e : h1 b with
  | none => rfl
  | some o => have := t1 _ _ e; rw [n2 b hb ha] at this; cases this
 have old2 : ∀ b, b < w0.heap.size → hA b = none → h2 b = none := fun b hb ha => by
  cases e : h2 b with
  | none => rfl
  | some o => have := t2 _ _ e; rw [n2 b hb ha] at this; cases this
 have dN : Dj hN h1 := dj.sub (Sub.refl _) t1
 have keep : ∀ z : Hp, Sub z (hp w) → Dj z h1 → Sub z (hp w') := fun z hz dz b o e => fr' b o (hz b o e) ((dz b).resolve_left (by rw [e]; simp))
 have djn : ∀ z y : Hp, Sub z (hp w) → Dj z h1 → (∀ b, b < w.heap.size → h1 b = none → y b = none) → Dj z y := fun z y hz dz hy b => by
  cases e : z b with
  | none => exact .inl rfl
  | some o => exact .inr (hy b (U6 (hz _ _ e)) ((dz b).resolve_left (by rw [e]; simp)))
 refine ⟨m.trans m', fun b o e1 e2 => fr' b o (fr b o e1 e2) (old b (U6 e1) e2), un hN hN', un hO' h2, fun b hb h3 => by simp [un, n1 b hb h3, n1' b (Nat.lt_of_lt_of_le hb m.size) (old b hb h3)], fun b hb h3 => by simp [un, n2' b (Nat.lt_of_lt_of_le hb m.size) (old b hb h3), old2 b hb h3], ?_, Sub.XY (keep _ s1 dN) s1', Sub.XY s2' (keep _ (t2.trans s2) d12.symm), ?_, ?_⟩
 ·exact Dj.YC (Dj.Ye (djn _ _ s1 dN n2') (dj.sub (Sub.refl _) t2)) (Dj.Ye dj' (djn _ _ (t2.trans s2) d12.symm n1').symm)
 ·rw [← Kv]; exact p.mono (Sub.YC _ _)
 ·have d2 : Dj hO' h2 := (djn _ _ (t2.trans s2) d12.symm n2').symm
  rw [← Kv]
  exact ⟨hO', h2, d2, Sub.YC _ _, Sub.Ye d2, k, Sep.mono os (Sub.YC _ _) (Sub.refl _) q⟩
end
section
variable {P : Program} {ρ : Option Nat} {ops : Array Oper} {Q : Cont} {S : World → Prop} {T : Nat → Bool}
def UO (ops : Array Oper) : Bool := ops.all fun o => match o.op with | .defer _ => false | _ => true
theorem Z3c (h : UO ops = true) {j : Nat} {o : Oper} (ho : ops[j]? = some o) (c : Call) : o.op ≠ .defer c := by
 intro heq
 have := Array.all_eq_true_iff_forall_mem.1 h o (Array.mem_of_getElem? ho)
 simp [heq] at this
theorem Z10 {i : Nat} {o : Oper} {v : Value} {a : Act} (hi : ops[i]? = some o) (hy : YieldsIf P ops S o v a)
    {K : Act → World → Prop} {w : World} (hS : S w) (h : K (a.put o.dst v) w) : wpOpIn (FF ρ) 0 P ops Q i K a w := by
 unfold wpOpIn
 simp only [hi]
 rcases hy with ⟨hw, hv⟩ | ⟨hw, rfl⟩
 ·simp only [hw, if_true]
  refine ⟨fun _ _ => trivial, ?_⟩
  rw [UE (hv w hS) (fun d e => by cases e), Oper.uponIn_value]
  exact h
 ·simp only [hw, Bool.false_eq_true, if_false]; exact ⟨fun _ _ => trivial, h⟩
theorem Z6K {j : Nat} {oi oj : Oper} {v : Value} (hd : ∀ c, oj.op ≠ .defer c) (hj : ops[j]? = some oj) (hap : oi.apart ops oj = true)
    (hsi : ∀ cs b, oi.op ≠ .select cs b) (hsj : ∀ cs b, oj.op ≠ .select cs b)
    (hQ : ∀ c a w, Q (.panic c) (a.put oi.dst v) w → Q (.panic c) a w) {K : Act → World → Prop} {a : Act} {w : World}
    (hy : YieldsIf P ops S oi v a) (h : wpOpIn (FF ρ) 0 P ops Q j K (a.put oi.dst v) w) :
    wpOpIn (FF ρ) 0 P ops Q j (fun a' w' => YieldsIf P ops S oi v a' ∧ K (a'.put oi.dst v) w') a w := by
 obtain ⟨h1, h2, h3⟩ := Oper.apart_spec hap
 have keep : ∀ (a : Act), YieldsIf P ops S oi v a → ∀ u, YieldsIf P ops S oi v (a.put oj.dst u) := fun a hy u =>
  hy.of_same (execOp_put oi hsi a oj.dst u h3) (wanted_put oi a oj.dst u h3)
 have keepD : ∀ d, YieldsIf P ops S oi v { a with defers := d :: a.defers } := fun d => hy.of_same rfl rfl
 unfold wpOpIn at *
 simp only [hj] at *
 rw [wanted_put oj a oi.dst v h1] at h
 split
 ·rename_i hw
  simp only [hw, if_true] at h
  unfold Oper.wpIn at *
  refine ⟨fun _ _ => trivial, ?_⟩
  have h := h.2
  rw [Oper.semAt_eq _ _ _ hd, execOp_put oj hsj a oi.dst v h1] at h
  rw [Oper.semAt_eq _ _ _ hd]
  generalize (execOp a.eval oj).run P w = r at *
  cases r with
  | ok x w' =>
   cases x <;> simp only [Oper.uponIn] at h ⊢
   case value u => exact ⟨keep a hy u, by rw [← Act.put_comm a v u h2]; exact h⟩
   case skip => exact ⟨keep a hy _, by rw [← Act.put_comm a v undef h2]; exact h⟩
   case defer d =>
    refine ⟨keep _ (keepD d) _, ?_⟩
    rw [← Act.put_comm _ v undef h2, ← Act.put_defers]
    exact h
   case enter f args =>
    refine ⟨h.1, CallsIn.mono h.2 fun e w'' he => ?_⟩
    cases e with
    | returned u => exact ⟨keep a hy u, by rw [← Act.put_comm a v u h2]; exact he⟩
    | panicked c => exact hQ _ _ _ he
    | outgrown => exact he
   case row row args => exact ⟨h.1, RowsIn.mono h.2 fun u w'' he => ⟨keep a hy u, by rw [← Act.put_comm a v u h2]; exact he⟩⟩
   case round l f tmps assign body =>
    refine ⟨h.1, RoundIn.mono h.2 fun e w'' he => ?_⟩
    cases e with
    | returned u => exact ⟨keep a hy u, by rw [← Act.put_comm a v u h2]; exact he⟩
    | panicked c => exact hQ _ _ _ he
    | outgrown => exact he
  | halt x w' =>
   cases x <;> simp only [Oper.uponIn] at h ⊢
   case panic u => exact hQ _ _ _ h
 ·rename_i hw
  simp only [hw] at h
  exact ⟨fun _ _ => trivial, keep a hy _, by rw [← Act.put_comm a v undef h2]; exact h.2⟩
def wpT (P : Program) (ρ : Option Nat) (ops : Array Oper) (Q : Cont) (T : Nat → Bool) (S : World → Prop) : Nat → Array Bool → Act → World → Prop
 | 0, listed, a, w => Region.ready .any ops listed = [] ∧ Q .normal a w
 | fuel + 1, listed, a, w => (Region.ready .any ops listed = [] → Q .normal a w) ∧
  ∀ i ∈ Region.ready .any ops listed, wpOpIn (FF ρ) 0 P ops Q i (fun a' w' => (T i = true → S w') ∧ (bif T i then wpT P ρ ops Q T S fuel (listed.setIfInBounds i true) a' w' else wpAnyIn (FF ρ) 0 P .any ops Q fuel (listed.setIfInBounds i true) a' w')) a w
theorem Z1v : ∀ (fuel : Nat) (listed : Array Bool) (a : Act) (w : World), wpT P ρ ops Q T S fuel listed a w → wpAnyIn (FF ρ) 0 P .any ops Q fuel listed a w
 | 0, _, _, _, h => h
 | fuel + 1, listed, _, _, h => ⟨h.1, fun i hi => wpOpIn_mono (fun a' w' h' => by
     cases hT : T i with
     | true => have := h'.2; rw [hT] at this; exact Z1v fuel _ a' w' this
     | false => have := h'.2; rw [hT] at this; exact this) (h.2 i hi)⟩
theorem Z50 : ∀ (fuel : Nat) (listed : Array Bool) (a : Act) (w : World), ((Region.ready .any ops listed).all fun i => !T i) = true → wpAnyIn (FF ρ) 0 P .any ops Q fuel listed a w → wpT P ρ ops Q T S fuel listed a w
 | 0, _, _, _, _, h => h
 | fuel + 1, listed, _, _, hT, h => ⟨h.1, fun i hi => wpOpIn_mono (fun a' w' h' => by
     have : T i = false := by have := List.all_eq_true.1 hT i hi; simpa using this
     rw [this]; exact ⟨fun e => (by cases e), h'⟩) (h.2 i hi)⟩
theorem Z00 {i : Nat} {oi : Oper} {v : Value} {D : Nat → Prop} (hnd : UO ops = true) (hi : ops[i]? = some oi) (hsel : ∀ (j : Nat) (o : Oper) cs b, ops[j]? = some o → o.op ≠ .select cs b) (hTi : T i = true)
    (hQ : ∀ c a w, Q (.panic c) (a.put oi.dst v) w → Q (.panic c) a w) (hD : ∀ j, D j → ∃ oj, ops[j]? = some oj ∧ ∃ e ∈ oj.after, Region.binds .any e = true ∧ (e.on = i ∨ D e.on)) :
    ∀ (fuel : Nat) (listed : Array Bool) (a : Act) (w : World),
     (∀ j, D j → listed.getD j true = false) →
     (∀ j oj, ops[j]? = some oj → j ≠ i → listed.getD j true = false → ¬ D j → oi.apart ops oj = true ∧ T j = true) →
     i ∈ Region.ready .any ops listed → YieldsIf P ops S oi v a → S w →
     wpT P ρ ops Q T S fuel (listed.setIfInBounds i true) (a.put oi.dst v) w → wpT P ρ ops Q T S (fuel + 1) listed a w
 | 0, listed, a, w, _, _, hr, hy, hS, H => ⟨fun h => (by rw [h] at hr; cases hr), fun j hj => by
     by_cases hji : j = i
     ·subst hji; rw [hTi]; exact Z10 hi hy hS ⟨fun _ => hS, H⟩
     ·have := ready_mono hj hji
      rw [H.1] at this; cases this⟩
 | fuel + 1, listed, a, w, hun0, hfree, hr, hy, hS, H => ⟨fun h => (by rw [h] at hr; cases hr), fun j hj => by
     by_cases hji : j = i
     ·subst hji; rw [hTi]; exact Z10 hi hy hS ⟨fun _ => hS, H⟩
     have h1 := H.2 j (ready_mono hj hji)
     obtain ⟨hjun, oj, hoj, hall⟩ := mem_ready.1 hj
     have hnot : ¬ D j := fun hDj => by
      obtain ⟨oj', hoj', e, he, hb, heq⟩ := hD j hDj
      obtain rfl : oj' = oj := Option.some.inj (hoj'.symm.trans hoj)
      have h1 := hall e he hb
      have h0 : listed.getD e.on true = false := by
       rcases heq with heq | heq
       ·rw [heq]; exact (mem_ready.1 hr).1
       ·exact hun0 _ heq
      rcases Nat.lt_or_ge e.on listed.size with h' | h'
      ·simp [h'] at h0 h1; rw [h0] at h1; cases h1
      ·simp [Array.getElem?_eq_none h'] at h1
     obtain ⟨hap, hTj⟩ := hfree j oj hoj hji hjun hnot
     rw [hTj] at h1 ⊢
     have h2 := Z6K (Z3c hnd hoj) hoj hap (fun cs b => hsel i oi cs b hi) (fun cs b => hsel j oj cs b hoj) hQ hy h1
     have keep : ∀ k, k ≠ j → (listed.setIfInBounds j true).getD k true = listed.getD k true := fun k hk => getD_set_ne true (Ne.symm hk)
     refine wpOpIn_mono (fun a' w' h3 => ⟨fun _ => h3.2.1 rfl, Z00 hnd hi hsel hTi hQ hD fuel (listed.setIfInBounds j true) a' w' (fun k hk => ?_) (fun k ok hk hki hun hno => ?_) (ready_mono hr (Ne.symm hji)) h3.1 (h3.2.1 rfl) ?_⟩) h2
     ·rw [keep k (fun e => hnot (e ▸ hk))]; exact hun0 k hk
     ·refine hfree k ok hk hki ?_ hno
      by_cases hjk : j = k
      ·subst hjk; exact hjun
      ·rw [getD_set_ne true hjk] at hun; exact hun
     ·rw [Array.setIfInBounds_comm _ _ hji]
      exact h3.2.2⟩
def Z0H (ops : Array Oper) (listed : Array Bool) (i : Nat) : List Nat :=
 (List.range ops.size).foldl (fun acc j => match ops[j]? with
  | some oj => bif !listed.getD j true && oj.after.any (fun e => Region.binds .any e && (e.on == i || acc.contains e.on)) then j :: acc else acc
  | none => acc) []
theorem K9 {listed : Array Bool} {i : Nat} : ∀ j ∈ Z0H ops listed i, listed.getD j true = false ∧ ∃ oj, ops[j]? = some oj ∧ ∃ e ∈ oj.after, Region.binds .any e = true ∧ (e.on = i ∨ e.on ∈ Z0H ops listed i) := by
 suffices H : ∀ (l acc : List Nat), (∀ j ∈ acc, listed.getD j true = false ∧ ∃ oj, ops[j]? = some oj ∧ ∃ e ∈ oj.after, Region.binds .any e = true ∧ (e.on = i ∨ e.on ∈ acc)) →
     ∀ j ∈ l.foldl (fun acc j => match ops[j]? with
      | some oj => bif !listed.getD j true && oj.after.any (fun e => Region.binds .any e && (e.on == i || acc.contains e.on)) then j :: acc else acc
      | none => acc) acc, listed.getD j true = false ∧ ∃ oj, ops[j]? = some oj ∧ ∃ e ∈ oj.after, Region.binds .any e = true ∧ (e.on = i ∨ e.on ∈ l.foldl (fun acc j => match ops[j]? with
      | some oj => bif !listed.getD j true && oj.after.any (fun e => Region.binds .any e && (e.on == i || acc.contains e.on)) then j :: acc else acc
      | none => acc) acc) by
  exact H _ _ (fun j hj => by cases hj)
 intro l
 induction l with
 | nil => exact fun acc h => h
 | cons k r ih =>
  intro acc h
  rw [List.foldl_cons]
  refine ih _ ?_
  cases hk : ops[k]? with
  | none => exact h
  | some ok =>
   dsimp only
   cases hc : !listed.getD k true && ok.after.any (fun e => Region.binds .any e && (e.on == i || acc.contains e.on)) with
   | false => exact h
   | true =>
    intro j hj
    have hc' := Bool.and_eq_true_iff.1 hc
    rcases List.mem_cons.1 hj with rfl | hj
    ·obtain ⟨e, he, hb⟩ := Array.any_eq_true'.1 hc'.2
     have hb' := Bool.and_eq_true_iff.1 hb
     refine ⟨by simpa using hc'.1, ok, hk, e, he, hb'.1, ?_⟩
     rcases Bool.or_eq_true_iff.1 hb'.2 with h1 | h1
     ·exact .inl (by simpa using h1)
     ·exact .inr (List.mem_cons_of_mem _ (by simpa using h1))
    ·obtain ⟨h1, oj, h2, e, he, hb, h3⟩ := h j hj
     exact ⟨h1, oj, h2, e, he, hb, h3.imp id (fun h => List.mem_cons_of_mem _ h)⟩
def freeT (T : Nat → Bool) (ops : Array Oper) (listed : Array Bool) (i : Nat) : Bool :=
 match ops[i]? with
 | none => false
 | some oi => T i && (List.range ops.size).all fun j => j == i || listed.getD j true || match ops[j]? with
     | some oj => (Z0H ops listed i).contains j || (oi.apart ops oj && T j)
     | none => true
theorem Z1w {i : Nat} {oi : Oper} {listed : Array Bool} (hi : ops[i]? = some oi) (h : freeT T ops listed i = true) : T i = true ∧ ∀ (j : Nat) (oj : Oper),
    ops[j]? = some oj → j ≠ i → listed.getD j true = false → ¬ j ∈ Z0H ops listed i → oi.apart ops oj = true ∧ T j = true := by
 simp only [freeT, hi, Bool.and_eq_true, List.all_eq_true, List.mem_range] at h
 refine ⟨h.1, fun j oj hj hne hun hno => ?_⟩
 have h1 := h.2 j (Array.getElem?_eq_some_iff.1 hj).1
 simp only [hj, Bool.or_eq_true, beq_iff_eq, hne, false_or, hun, Bool.false_eq_true, Bool.and_eq_true, List.contains_iff_mem] at h1
 rcases h1 with h1 | h1
 ·exact absurd h1 hno
 ·exact h1
end
section
variable {P : Program} {n : Fr} {ρ : Option Nat} {σ : List (Nat × Value)} {A A' : World → Prop} {L : List Oper} {Q : Cont} {S : World → Prop} {T : Nat → Bool} {fuel : Nat} {listed : Array Bool} {o oi : Oper} {d : Nat} {v : Value}
def DA (P : Program) (n : Fr) (ρ : Option Nat) (σ : List (Nat × Value)) (A : World → Prop) (L : List Oper) (Q : Cont) (fuel : Nat) (listed : Array Bool) : Prop :=
 ∀ a w, Env n σ a → A w → wpAnyIn (FF ρ) 0 P .any L.toArray Q fuel listed a w
def DT (P : Program) (n : Fr) (ρ : Option Nat) (σ : List (Nat × Value)) (A : World → Prop) (L : List Oper) (Q : Cont) (T : Nat → Bool) (S : World → Prop) (fuel : Nat) (listed : Array Bool) : Prop :=
 ∀ a w, Env n σ a → A w → wpT P ρ L.toArray Q T S fuel listed a w
theorem CP.drawA {id : Nat} (hm : P.follows .mixedOrders = true) (hA : ∀ w k, A w → A { w with drawn := k }) (h : DA P n ρ σ A L Q L.toArray.size (Array.replicate L.toArray.size false)) : CP P n ρ σ A (.region id L.toArray true) Q :=
 fun a w ha hw => wpIn_region_any hm (h a _ ha (hA _ _ hw))
theorem DA.done (hr : (Region.ready .any L.toArray listed).isEmpty = true) (h : QE n σ A Q .normal) : DA P n ρ σ A L Q fuel listed := fun a w ha hw =>
 wpAnyIn_done (by simpa using hr) (h a w ha hw) fuel
theorem DA.imp (hx : ∀ w, A w → A' w) (h : DA P n ρ σ A' L Q fuel listed) : DA P n ρ σ A L Q fuel listed := fun a w ha hw => h a w ha (hx w hw)
theorem DA.phase (T : Nat → Bool) (S : World → Prop) (h : DT P n ρ σ A L Q T S fuel listed) : DA P n ρ σ A L Q fuel listed := fun a w ha hw => Z1v _ _ _ _ (h a w ha hw)
theorem DT.next (hT : ((Region.ready .any L.toArray listed).all fun i => !T i) = true) (h : DA P n ρ σ A L Q fuel listed) : DT P n ρ σ A L Q T S fuel listed := fun a w ha hw => Z50 _ _ _ _ hT (h a w ha hw)
theorem DT.take (i : Nat) (hi : nth L i = some oi) (hd : oi.dst = some d) (hn : Nat.blt d n.n = true) (hg : gd L σ oi.guard = some true)
    (hf : (Region.noSelect L.toArray && UO L.toArray && freeT T L.toArray listed i && (Region.ready .any L.toArray listed).contains i) = true)
    (hQ : ∀ c a w, Q (.panic c) (a.put oi.dst v) w → Q (.panic c) a w) (hv : Val P n σ S oi v) (hS : ∀ w, A w → S w)
    (h : DT P n ρ ((d, v) :: σ) A L Q T S fuel (listed.setIfInBounds i true)) : DT P n ρ σ A L Q T S (fuel + 1) listed := fun a w ha hw => by
 simp only [Bool.and_eq_true] at hf
 have hi' : L.toArray[i]? = some oi := by rw [J7] at hi; simpa using hi
 obtain ⟨hT, hfr⟩ := Z1w hi' hf.1.2
 refine Z00 (v := v) hf.1.1.2 hi' (Region.noSelect_spec hf.1.1.1) hT hQ (fun j hj => (K9 j hj).2) fuel listed a w (fun j hj => (K9 j hj).1) hfr (by simpa using hf.2) (.inl ⟨ha.wanted hg, fun w hw => hv a w ha hw⟩) (hS w hw) ?_
 rw [hd]
 exact h _ _ (ha.put v (by simpa using hn)) hw
theorem DT.not (i : Nat) (hi : nth L i = some oi) (hd : oi.dst = some d) (hn : Nat.blt d n.n = true) (hg : gd L σ oi.guard = some false)
    (hf : (Region.noSelect L.toArray && UO L.toArray && freeT T L.toArray listed i && (Region.ready .any L.toArray listed).contains i) = true)
    (hQ : ∀ c a w, Q (.panic c) (a.put oi.dst undef) w → Q (.panic c) a w) (hS : ∀ w, A w → S w)
    (h : DT P n ρ ((d, undef) :: σ) A L Q T S fuel (listed.setIfInBounds i true)) : DT P n ρ σ A L Q T S (fuel + 1) listed := fun a w ha hw => by
 simp only [Bool.and_eq_true] at hf
 have hi' : L.toArray[i]? = some oi := by rw [J7] at hi; simpa using hi
 obtain ⟨hT, hfr⟩ := Z1w hi' hf.1.2
 refine Z00 (v := undef) hf.1.1.2 hi' (Region.noSelect_spec hf.1.1.1) hT hQ (fun j hj => (K9 j hj).2) fuel listed a w (fun j hj => (K9 j hj).1) hfr (by simpa using hf.2) (.inr ⟨ha.wanted hg, rfl⟩) (hS w hw) ?_
 rw [hd]
 exact h _ _ (ha.put _ (by simpa using hn)) hw
theorem DT.is {d : Nat} {c b : Bool} (hd : find d σ = some (.bool c)) (hc : c = b) (h : DT P n ρ ((d, .bool b) :: σ) A L Q T S fuel listed) : DT P n ρ σ A L Q T S fuel listed := fun a w ha hw =>
 h a w ⟨ha.1, ha.2.1, fun t v hv => by
  simp only [find] at hv
  by_cases e : d = t
  ·subst e; simp at hv; subst hv; exact ha.2.2 d _ (hc ▸ hd)
  ·rw [KZ e] at hv; exact ha.2.2 t v hv⟩ hw
theorem DA.is {d : Nat} {c b : Bool} (hd : find d σ = some (.bool c)) (hc : c = b) (h : DA P n ρ ((d, .bool b) :: σ) A L Q fuel listed) : DA P n ρ σ A L Q fuel listed := fun a w ha hw =>
 h a w ⟨ha.1, ha.2.1, fun t v hv => by
  simp only [find] at hv
  by_cases e : d = t
  ·subst e; simp at hv; subst hv; exact ha.2.2 d _ (hc ▸ hd)
  ·rw [KZ e] at hv; exact ha.2.2 t v hv⟩ hw
def atA (P : Program) (ρ : Option Nat) (L : List Oper) (Q : Cont) (fuel : Nat) (listed : Array Bool) : Cont := fun e a w => match e with
 | .normal => wpAnyIn (FF ρ) 0 P .any L.toArray Q fuel listed a w
 | e => Q e a w
def atT (P : Program) (ρ : Option Nat) (L : List Oper) (Q : Cont) (T : Nat → Bool) (S : World → Prop) (fuel : Nat) (listed : Array Bool) : Cont := fun e a w => match e with
 | .normal => S w ∧ wpT P ρ L.toArray Q T S fuel listed a w
 | e => Q e a w
theorem DA.one (i : Nat) (hi : nth L i = some oi) (hr : (Region.ready .any L.toArray listed == [i]) = true) (h : SP P n ρ σ A L [oi] (atA P ρ L Q fuel (listed.setIfInBounds i true))) : DA P n ρ σ A L Q (fuel + 1) listed := fun a w ha hw => by
 refine wpAnyIn_all (rs := [i]) (by simpa using hr) (by simp) fun j hj => ?_
 obtain rfl : j = i := by simpa using hj
 have key := h a w ha hw
 have hi' : L.toArray[j]? = some oi := by rw [J7] at hi; simpa using hi
 unfold wpListIn at key
 unfold wpOpIn
 rw [hi']
 exact key
theorem DT.one (i : Nat) (hi : nth L i = some oi) (hr : (Region.ready .any L.toArray listed == [i]) = true) (hT : T i = true) (h : SP P n ρ σ A L [oi] (atT P ρ L Q T S fuel (listed.setIfInBounds i true))) : DT P n ρ σ A L Q T S (fuel + 1) listed := fun a w ha hw => by
 have hr' : Region.ready .any L.toArray listed = [i] := by simpa using hr
 refine ⟨fun h0 => absurd (hr' ▸ h0) (by simp), fun j hj => ?_⟩
 rw [hr'] at hj
 obtain rfl : j = i := by simpa using hj
 have key := h a w ha hw
 have hi' : L.toArray[j]? = some oi := by rw [J7] at hi; simpa using hi
 rw [hT]
 unfold wpListIn at key
 unfold wpOpIn
 rw [hi']
 dsimp only at key ⊢
 split at key
 ·rename_i hw'
  rw [if_pos hw']
  have := Oper.wpIn_mono (K' := fun a' w' => (true = true → S w') ∧ wpT P ρ L.toArray Q T S fuel (listed.setIfInBounds j true) a' w') (fun a' w' h => by
      have h' : S w' ∧ wpT P ρ L.toArray Q T S fuel (listed.setIfInBounds j true) a' w' := h
      exact ⟨fun _ => h'.1, h'.2⟩) key
  exact this
 ·rename_i hw'
  rw [if_neg hw']
  have k2 : S w ∧ wpT P ρ L.toArray Q T S fuel (listed.setIfInBounds j true) (a.put oi.dst undef) w := key.2
  exact ⟨fun _ _ => trivial, fun _ => k2.1, k2.2⟩
theorem QE.atA (h : DA P n ρ σ A L Q fuel listed) : QE n σ A (atA P ρ L Q fuel listed) .normal := h
theorem QE.atT (hS : ∀ w, A w → S w) (h : DT P n ρ σ A L Q T S fuel listed) : QE n σ A (atT P ρ L Q T S fuel listed) .normal := fun a w ha hw => ⟨hS w hw, h a w ha hw⟩
end
end Go.Q
