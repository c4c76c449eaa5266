/- Words of this seat: ranges over functions: marks, the loop's record, rounds, calls of a yield. -/
import Derived.Test.YtehjiiebjkkcmaaGreatDoorQ13xVerifyTells
import Derived.RangeFuncLeaves
import Derived.RangeFuncRecord
set_option linter.unusedVariables false
set_option linter.unusedSimpArgs false
namespace Go.Q
theorem Z3f {w : World} {r : Nat} {u : Obj} (o : Obj) (h : hp w r = some u) : hp (w.putObj r o) r = some o := World.putObj_heap_same (U6 h)
theorem J8 {w : World} {r b : Nat} (o : Obj) (h : b ≠ r) : hp (w.putObj r o) b = hp w b := World.putObj_heap_other h
theorem Met.putObj (w : World) (r : Nat) (o : Obj) : Met w (w.putObj r o) := ⟨rfl, rfl, rfl, by simp⟩
theorem Z3g {α : Type} : ∀ (l : List α) (i : Nat) {x : α}, l[i]? = some x → l.set i x = l
 | [], _, _, h => by simp at h
 | y :: ys, 0, x, h => by simp at h; simp [h]
 | y :: ys, i + 1, x, h => by simp at h; simp [Z3g ys i h]
theorem Z4r {α : Type} {l : List α} {i : Nat} {x : α} (y : α) (h : l[i]? = some x) : (l.set i y)[i]? = some y := by
 have : i < l.length := by
  rcases Nat.lt_or_ge i l.length with g | g
  ·exact g
  ·rw [List.getElem?_eq_none g] at h; cases h
 simp [this]
def mark (r : Nat) : Deferred := { target := .collected r, args := #[] }
def Marks : List Deferred → Hp → Prop
 | [], _ => True
 | d :: ds, h => ∃ r h', d = mark r ∧ h r = some (.deferred (some [])) ∧ Sub h' h ∧ h' r = none ∧ Marks ds h'
theorem Marks.mono : ∀ (ds : List Deferred) {h h' : Hp}, Sub h h' → Marks ds h → Marks ds h'
 | [], _, _, _, _ => trivial
 | _ :: ds, _, _, s, ⟨r, k, e, q, sk, n, m⟩ => ⟨r, k, e, s _ _ q, sk.trans s, n, m⟩
def marksO (ds : List Deferred) : HO := ⟨fun _ h => Marks ds h, fun _ _ _ _ _ sb m => Marks.mono ds sb m⟩
section
variable {w0 w : World} {hA hV : Hp} {ps : List HP} {os : List HO}
theorem St.unmark (i : Nat) {d : Deferred} {ds : List Deferred} (hi : os[i]? = some (marksO (d :: ds))) (h : St w0 hA hV ps os w) :
    ∃ r, d = mark r ∧ w.heap[r]? = some (.deferred (some [])) ∧ St w0 hA hV ps (os.set i (marksO ds)) (w.putObj r (.deferred none)) := by
 have h0 := h
 obtain ⟨m, f, hN, hO, n1, n2, dd, s1, s2, p, q⟩ := h
 obtain ⟨h1, h2, e, t1, t2, rr, s⟩ := Sep.take i os hi q
 obtain ⟨r, h', ed, hr, -, -, -⟩ := rr
 refine ⟨r, ed, s2 _ _ (t1 _ _ hr), h0.change i hi (Met.putObj _ _ _) fun hP hO hs hx => ?_⟩
 obtain ⟨r', h'', ed', hr', sb, hn, mk⟩ := hx
 have er : r = r' := by
  rw [ed] at ed'
  simpa [mark] using ed'
 subst er
 refine ⟨h'', mk, fun b o eb => ?_, fun b hb hz => ?_, fun b o e1 e2 => ?_⟩
 ·rw [J8]
  ·exact hs _ _ (sb _ _ eb)
  ·intro e; subst e; rw [hn] at eb; cases eb
 ·cases e : h'' b with
  | none => exact hb e
  | some u => rw [sb _ _ e] at hz; cases hz
 ·rw [J8]
  ·exact e1
  ·intro e; subst e; rw [hr'] at e2; cases e2
theorem Z4s {P : Program} {F : Fence} {fn : Func} {tmps : Array Value} {R : Ending → World → Prop} (i : Nat) : ∀ (ds : List Deferred) (os : List HO) (w : World), os[i]? = some (marksO ds) → St w0 hA hV ps os w →
    (∀ w', St w0 hA hV ps (os.set i (marksO [])) w' → LeavesIn F 0 P fn tmps R [] .returning w') → LeavesInM F 0 P fn tmps R ds .returning w
 | [], os, w, hi, hw, k => k w (by rw [Z3g _ _ hi]; exact hw)
 | d :: ds, os, w, hi, hw, k => by
  obtain ⟨r, rfl, hr, h2⟩ := hw.unmark i hi
  exact ⟨(by intro e; cases e), .inl ⟨r, _, rfl, run_takeDeferred hr, Z4s i ds _ _ (Z4r _ hi) h2 (fun w' hw' => k w' (by simpa [List.set_set] using hw'))⟩⟩
variable {P : Program} {n : Fr} {ρ : Option Nat} {σ σ1 : List (Nat × Value)} {Q : Cont}
theorem QE.retsM {fn : Func} {rs : List ResultVar} {vs : List Value} {R : Ending → World → Prop} (i : Nat) (hi : os[i]? = some (marksO n.ds)) (hr : fn.results = rs.toArray) (hv : RVs P n σ (St w0 hA hV ps (os.set i (marksO []))) rs vs)
    (h : ∀ w, St w0 hA hV ps (os.set i (marksO [])) w → R (.returned (single vs)) w) : QE n σ (St w0 hA hV ps os) (bodyPostM (FF none) 0 P fn R) .ret := fun a w ha hw => by
 show LeavesInM (FF none) 0 P fn a.tmps R a.defers .returning w
 rw [ha.2.1]
 exact Z4s i n.ds os w hi hw fun w' hw' => ⟨single vs, RVs.told hr ha hw' hv, h w' hw'⟩
theorem Trip.ofM {f : FuncId} {fn : Func} {c : Code} {args : List Value} {K : Value → HO} (hf : P.funcs[f]? = some fn) (hb : fn.body = some c) (hn : fn.ntmps = n.n ∧ n.ds = []) (ha : Nat.ble args.length n.n = true)
    (h0 : St w0 hA hV ps os w0)
    (h : CP P n none (slots 0 args) (St w0 hA hV ps (marksO n.ds :: os)) c (bodyPostM (FF none) 0 P fn fun e w' => ∃ v, e = .returned v ∧ Since w0 hA hV (K v).p w')) : Trip P f args.toArray hA hV w0 K := by
 refine callsIn_wide.1 (callsIn_of_wp_marks (F := FF none) (n := 0) hf hb trivial (h _ _ (Env.enter hn ha) ?_))
 rw [hn.2]
 exact h0.addO (x := marksO []) fun _ => trivial
def loopO (l : Nat) (n : Nat) (σ : List (Nat × Value)) (pt : Array Tmp) (as body : Code) (st : LoopState) (pe : Option Code) : HO :=
 ⟨fun _ h => ∃ r : Loop, h l = some (.loop r) ∧ r.state = st ∧ r.pending = pe ∧ r.params = pt ∧ r.assign = as ∧ r.body = body ∧ Env ⟨n, []⟩ σ { tmps := r.tmps, defers := [] },
  fun _ _ _ _ _ sb ⟨r, e, x⟩ => ⟨r, sb _ _ e, x⟩⟩
theorem St.reloop (i : Nat) {l m : Nat} {τ : List (Nat × Value)} {pt : Array Tmp} {as body : Code} {st : LoopState} {pe : Option Code} (hi : os[i]? = some (loopO l m τ pt as body st pe)) (h : St w0 hA hV ps os w) :
    ∃ r : Loop, w.heap[l]? = some (.loop r) ∧ r.state = st ∧ r.pending = pe ∧ ∀ st' pe', St w0 hA hV ps (os.set i (loopO l m τ pt as body st' pe')) (w.putObj l (.loop { r with state := st', pending := pe' })) := by
 have h0 := h
 obtain ⟨m, f, hN, hO, n1, n2, dd, s1, s2, p, q⟩ := h
 obtain ⟨h1, h2, e, t1, t2, rr, s⟩ := Sep.take i os hi q
 obtain ⟨r, hr, e1, e2, e3⟩ := rr
 refine ⟨r, s2 _ _ (t1 _ _ hr), e1, e2, fun st' pe' => h0.change i hi (Met.putObj _ _ _) fun hP hO hs hx => ?_⟩
 obtain ⟨r', hr', -⟩ := hx
 refine ⟨bk l (.loop { r with state := st', pending := pe' }), ⟨{ r with state := st', pending := pe' }, by simp [bk], rfl, rfl, e3⟩, fun b o eb => ?_, fun b hb hz => ?_, fun b o e1 e2 => ?_⟩
 ·unfold bk at eb
  split at eb
  ·rename_i hb; subst hb; simp at eb; subst eb; exact Z3f _ (hs _ _ hr')
  ·cases eb
 ·unfold bk at hb
  split at hb
  ·rename_i e; subst e; rw [hr'] at hz; cases hz
  ·exact hb rfl
 ·rw [J8]
  ·exact e1
  ·intro e; subst e; rw [hr'] at e2; cases e2
def putAll : List (Nat × Value) → List (Nat × Value) → List (Nat × Value)
 | [], σ => σ
 | p :: r, σ => putAll r (p :: σ)
theorem Env.putAll {m : Nat} : ∀ (l : List (Nat × Value)) {σ : List (Nat × Value)} {tm : Array Value}, (l.all fun p => Nat.blt p.1 m) = true → Env ⟨m, []⟩ σ { tmps := tm, defers := [] } →
    Env ⟨m, []⟩ (Go.Q.putAll l σ) { tmps := l.foldl (fun tmps p => tmps.setIfInBounds p.1 p.2) tm, defers := [] }
 | [], _, _, _, h => h
 | (t, v) :: r, σ, tm, hl, h => by
  simp only [List.all_cons, Bool.and_eq_true] at hl
  have := h.put (d := t) v (by simpa using hl.1)
  exact Env.putAll r hl.2 this
theorem Round.of {l m : Nat} {pt : List Tmp} {as body : Code} {vals : List Value} {X : HO} {h1 hP : Hp} {R : Ending → World → Prop} (hs : putAll (pt.zip vals) σ = σ1) (hlen : vals.length = pt.length) (hlt : ((pt.zip vals).all fun p => Nat.blt p.1 m) = true)
    (hh : (HO.and (loopO l m σ pt.toArray as body .ready none) X).p hP h1) (sub : Sub h1 (hp w)) (ap : All ps hP)
    (h : CP P ⟨m, []⟩ (some l) σ1 (St w h1 hP ps [loopO l m σ pt.toArray as body .ready none, X]) as (Exit.then (fun a w2 => ∃ w3, (Instr.beginRound l).run P w2 = .ok () w3 ∧ body.wpIn (FF (some l)) 0 P (roundPost P l R) a w3) (fun _ _ _ => False))) :
    ∃ fn tmps as' body', (Instr.yield l vals.toArray).run P w = .ok (.round l fn tmps as' body') w ∧ RoundIn (FF none) 0 P l fn tmps as' body' w R := by
 obtain ⟨k1, k2, dj, t1, t2, p, q⟩ := hh
 obtain ⟨r, hr, e1, e2, e3, e4, e5, e6⟩ := id p
 have hst : St w h1 hP ps [loopO l m σ pt.toArray as body .ready none, X] w :=
  St.beginA sub ap ⟨k1, k2, dj, t1, t2, p, k2, em, Dj.XR _, Sub.refl _, Sub.em _, q, trivial⟩
 have hy := run_yield (P := P) (args := vals.toArray) (w := w) (sub _ _ (t1 _ _ hr)) (by rw [e3]; simpa using hlen)
 refine ⟨_, _, _, _, hy, ?_⟩
 have htm : ((r.params.zip vals.toArray).foldl (fun tmps (t, a) => tmps.setIfInBounds t a) r.tmps) = (pt.zip vals).foldl (fun tmps p => tmps.setIfInBounds p.1 p.2) r.tmps := by
  rw [e3]
  simp
 rw [e4, e5, htm]
 refine roundIn_of_wpIn (F := FF none) trivial (h _ _ ?_ hst)
 rw [← hs]
 exact Env.putAll _ hlt e6
def Yields (P : Program) {S X : Type} (l : Nat) (hV : Hp) (Y : S → X → Option (S × Bool)) (I : S → HO) (E : X → List Value → HP) : Prop :=
 ∀ s x t b vals, Y s x = some (t, b) → ∀ w hP h1, Sub hV hP → Sub hP (hp w) → Sub h1 (hp w) → Dj hP h1 → (E x vals).p hP → (I s).p hP h1 →
  ∃ fn tmps as body, (Instr.yield l vals.toArray).run P w = .ok (.round l fn tmps as body) w ∧ RoundIn (FF none) 0 P l fn tmps as body w (fun e w' => ∃ v, e = .returned v ∧ Since w h1 hP (HO.pand (v = .bool b) (I t)).p w')
theorem St.split {X : HO} (hw : St w0 hA hV ps (X :: os) w) (see : Sees w0 hA hV) :
    ∃ hP h1, Sub hV hP ∧ Sub hP (hp w) ∧ Sub h1 (hp w) ∧ Dj hP h1 ∧ All ps hP ∧ X.p hP h1 ∧ ∀ (K : HO) w', Since w h1 hP K.p w' → St w0 hA hV ps (K :: os) w' := by
 obtain ⟨m, fr, hN, hO, n1, n2, dj, s1, s2, p, h1, h2, d12, t1, t2, r, q⟩ := id hw
 have sub : Sub (un hV hN) (hp w) := Sub.XY (fun b o e => fr b o (see.sub b o e) (by
  rcases see.dj b with k | k
  ·rw [e] at k; cases k
  ·exact k)) s1
 have dV : Dj hV h1 := fun b => by
  cases e : hV b with
  | none => exact .inl rfl
  | some o =>
   refine .inr ?_
   cases e2 : h1 b with
   | none => rfl
   | some u => have := t1 _ _ e2; rw [n2 b (U6 (see.sub _ _ e)) ((see.dj b).resolve_left (by rw [e]; simp))] at this; cases this
 refine ⟨un hV hN, h1, Sub.YC _ _, sub, t1.trans s2, Dj.YC dV (dj.sub (Sub.refl _) t1), p, r, fun K w' hs => ?_⟩
 obtain ⟨m', fr', hN', hO', n1', n2', dj', s1', s2', k⟩ := hs
 have old : ∀ b, b < w0.heap.size → hA b = none → h1 b = none := fun b hb ha => by
  cases e : h1 b with
  | none => rfl
  | some o => have := t1 _ _ e; rw [n2 b hb ha] at this; cases this
 have old2 : ∀ b, b < w0.heap.size → hA b = none → h2 b = none := fun b hb ha => by
  cases e : h2 b with
  | none => rfl
  | some o => have := t2 _ _ e; rw [n2 b hb ha] at this; cases this
 have dN : Dj hN h1 := dj.sub (Sub.refl _) t1
 have keep : ∀ z : Hp, Sub z (hp w) → Dj z h1 → Sub z (hp w') := fun z hz dz b o e => fr' b o (hz b o e) ((dz b).resolve_left (by rw [e]; simp))
 have djn : ∀ z y : Hp, Sub z (hp w) → Dj z h1 → (∀ b, b < w.heap.size → h1 b = none → y b = none) → Dj z y := fun z y hz dz hy b => by
  cases e : z b with
  | none => exact .inl rfl
  | some o => exact .inr (hy b (U6 (hz _ _ e)) ((dz b).resolve_left (by rw [e]; simp)))
 refine ⟨m.trans m', fun b o e1 e2 => fr' b o (fr b o e1 e2) (old b (U6 e1) e2), un hN hN', un hO' h2, fun b hb h3 => by simp [un, n1 b hb h3, n1' b (Nat.lt_of_lt_of_le hb m.size) (old b hb h3)], fun b hb h3 => by simp [un, n2' b (Nat.lt_of_lt_of_le hb m.size) (old b hb h3), old2 b hb h3], ?_, Sub.XY (keep _ s1 dN) s1', Sub.XY s2' (keep _ (t2.trans s2) d12.symm), ?_, ?_⟩
 ·exact Dj.YC (Dj.Ye (djn _ _ s1 dN n2') (dj.sub (Sub.refl _) t2)) (Dj.Ye dj' (djn _ _ (t2.trans s2) d12.symm n1').symm)
 ·rw [← Kv]; exact p.mono (Sub.YC _ _)
 ·have d2 : Dj hO' h2 := (djn _ _ (t2.trans s2) d12.symm n2').symm
  rw [← Kv]
  exact ⟨hO', h2, d2, Sub.YC _ _, Sub.Ye d2, k, Sep.mono os (Sub.YC _ _) (Sub.refl _) q⟩
theorem SP.callY {S X : Type} {Y : S → X → Option (S × Bool)} {I : S → HO} {E : X → List Value → HP} {lp : Nat} {s t : S} {x : X} {b : Bool} {vals : List Value} {L l : List Oper} {d : Nat} {tr : TypeId} {fo : Operand} {pos : String} {af : Array Edge} {g : Option (Nat × Bool)} {as : Array Operand} {ats : Array TypeId}
    (see : Sees w0 hA hV) (hY : Yields P lp hV Y I E) (hy : Y s x = some (t, b)) (hg : gd L σ g = some true) (hn : Nat.blt d n.n = true) (hx : ev σ fo = some (.func (.yield lp) #[] #[])) (has : evs σ as.toList = some vals)
    (hE : ∀ hP, All ps hP → (E x vals).p hP) (h : SP P n ρ ((d, .bool b) :: σ) (St w0 hA hV ps (I t :: os)) L l Q) :
    SP P n ρ σ (St w0 hA hV ps (I s :: os)) L (⟨some d, .call ⟨.value fo, as, ats⟩, tr, pos, af, g⟩ :: l) Q := fun a w ha hw => by
 obtain ⟨hP, h1, sV, sP, s1, dj, ap, hi, back⟩ := hw.split see
 obtain ⟨fn, tmps, as', body', hyl, hR⟩ := hY s x t b vals hy w hP h1 sV sP s1 dj (hE _ ap) hi
 unfold wpListIn
 rw [if_pos (ha.wanted hg)]
 have hm : as.map a.eval = vals.toArray := by rw [← Array.toArray_toList (xs := as.map a.eval), Array.toList_map, ha.evals has]
 have hr : (execOp a.eval ⟨some d, .call ⟨.value fo, as, ats⟩, tr, pos, af, g⟩).run P w = .ok (.round lp fn tmps as' body') w := by
  simp [execOp, resolve, ha.eval hx, Deferred.ofValue, invoke, hm, hyl]
 refine ⟨fun _ _ => trivial, ?_⟩
 rw [UE hr (fun d e => by cases e), Oper.uponIn_round]
 refine ⟨fun h => (by cases h), RoundIn.mono hR fun e w' he => ?_⟩
 obtain ⟨v, rfl, hs⟩ := he
 have h2 := back _ _ hs
 obtain ⟨rfl, h3⟩ := St.pand h2
 exact h _ _ (ha.put (.bool b) (by simpa using hn)) h3
theorem Marks.cons {D : Nat} {ds : List Deferred} {h1 h2 : Hp} (q : h1 D = some (.deferred (some []))) (m : Marks ds h2) (dj : Dj h1 h2) : Marks (mark D :: ds) (un h1 h2) :=
 ⟨D, h2, rfl, by simp [un, q], Sub.Ye dj, (dj D).resolve_left (by rw [q]; simp), m⟩
def defO (D : Nat) : HO := ⟨fun _ h => h D = some (.deferred (some [])), fun _ _ _ _ _ sb e => sb _ _ e⟩
end
end Go.Q
