/- Words of this seat: what is read ahead of a phase; strings, nil slices, greatest and least; results in memory. -/
import Derived.Test.YtehjiiebjkkcmaaGreatDoorQ8xVerifyTells
import Derived.Laws.BytesArg
import Derived.Laws.Strings
import Derived.Laws.Concat
import Derived.Great.FillDense
set_option linter.unusedVariables false
set_option linter.unusedSimpArgs false
namespace Go.Q
section
variable {w0 w : World} {hA hV : Hp} {ps : List HP} {os : List HO} {α β : Type} {k : Kd α} {xs : List α} {v p : Value} {P : Program}
theorem St.elem (hw : St w0 hA hV ps os w) (see : Sees w0 hA hV) (i : Nat) (hi : ps[i]? = some (slP k v xs)) {j : Int} {x0 : α} (h0 : 0 ≤ j) (hj : xs[j.toNat]? = some x0) : ∃ p, IsEl v k.sz j p ∧ St w0 hA hV (elP k p x0 :: ps) os w := by
 have hlt : j < xs.length := by
  rcases Nat.lt_or_ge j.toNat xs.length with h | h
  ·omega
  ·rw [List.getElem?_eq_none h] at hj; cases hj
 obtain ⟨A, cap, rfl, l1, z, f⟩ := St.pers i hi see.sub see.dj hw
 cases A with
 | none => rw [(z rfl).1] at hj; simp at hj
 | some ad =>
  obtain ⟨hsp, -⟩ := f ad rfl _ _ hj
  obtain ⟨ab, ao, as⟩ := ad
  simp at hsp; subst hsp
  refine ⟨.pointer (some ⟨ab, ao + j.toNat * k.sz, none⟩), ⟨ab, ao, _, _, rfl, h0, hlt, rfl⟩, hw.know fun hh ap => ?_⟩
  obtain ⟨A', cap', e', -, -, f'⟩ := ap _ (List.mem_of_getElem? hi)
  simp at e'
  obtain ⟨rfl, -⟩ := e'
  obtain ⟨-, cs, r, q⟩ := f' _ rfl _ _ hj
  exact ⟨ab, _, cs, rfl, r, q⟩
theorem St.openE {ι : Type} (hw : St w0 hA hV ps os w) (see : Sees w0 hA hV) (i : Nat) {x0 : α} (hi : ps[i]? = some (elP k p x0)) (C : ι → List Value) (F : ι → List HP) (hk : ∀ h cs, k.rd h cs x0 → ∃ z, cs = C z ∧ All (F z) h) : ∃ z, True ∧ St w0 hA hV (atP p (C z) :: F z ++ ps) os w := by
 obtain ⟨m, fr, hN, hO, n1, n2, dj, s1, s2, ap, s⟩ := hw
 obtain ⟨b, o, cs, rfl, r, q⟩ := ap _ (List.mem_of_getElem? hi)
 obtain ⟨z, rfl, f⟩ := hk _ _ r
 refine ⟨z, trivial, m, fr, hN, hO, n1, n2, dj, s1, s2, fun y hy => ?_, s⟩
 simp only [List.cons_append, List.mem_cons, List.mem_append] at hy
 rcases hy with rfl | hy | hy
 ·exact ⟨b, o, rfl, q⟩
 ·exact f y hy
 ·exact ap y hy
def IsFd (v : Value) (off : Nat) (p : Value) : Prop := ∃ b o, v = .pointer (some ⟨b, o, none⟩) ∧ p = .pointer (some ⟨b, o + off, none⟩)
theorem St.fieldE (hw : St w0 hA hV ps os w) (see : Sees w0 hA hV) (i : Nat) {x0 : α} (hi : ps[i]? = some (elP k v x0)) {kf : Kd β} {f : α → β} {off : Nat} (hpart : Part k off kf f) : ∃ p, IsFd v off p ∧ St w0 hA hV (elP kf p (f x0) :: ps) os w := by
 obtain ⟨b, o, cs, rfl, r, q⟩ := St.pers i hi see.sub see.dj hw
 refine ⟨_, ⟨b, o, rfl, rfl⟩, hw.know fun hh ap => ?_⟩
 obtain ⟨b', o', cs', e', r', q'⟩ := ap _ (List.mem_of_getElem? hi)
 simp at e'
 obtain ⟨rfl, rfl⟩ := e'
 obtain ⟨c2, r2, h2⟩ := hpart _ _ _ r'
 obtain ⟨c, T, fr, hb, hq⟩ := q'
 exact ⟨b, o + off, c2, rfl, r2, c, T, fr, hb, fun j u hj => by rw [Nat.add_assoc]; exact hq _ _ (h2 j u hj)⟩
end
section
variable {P : Program} {n : Fr} {ρ : Option Nat} {σ : List (Nat × Value)} {A A' : World → Prop} {L l : List Oper} {Q : Cont} {c : Code} {fuel : Nat} {listed : Array Bool} {T : Nat → Bool} {S : World → Prop} {dd : Option Nat} {t ty tr : TypeId} {x y : Operand} {pos : String} {af : Array Edge} {g : Option (Nat × Bool)} {v u p : Value}
theorem DA.ghost {ι : Type} {q : ι → Prop} {I : ι → World → Prop} (hx : ∀ w, A w → ∃ z, q z ∧ I z w) (h : ∀ z, q z → DA P n ρ σ (I z) L Q fuel listed) : DA P n ρ σ A L Q fuel listed := fun a w ha hw => by
 obtain ⟨z, hq, k⟩ := hx w hw; exact h z hq a w ha k
theorem Val.fieldE {s fi off : Nat} {fs : Array Field} {fd : Field} (hp : IsFd v off p) (hu : P.underlying t = some (.struct fs)) (hf : fs[fi]? = some fd) (ho : fd.offset = off) (hs : (P.info? fd.type).map (·.size) = some (s + 1)) (hx : ev σ x = some v) :
    Val P n σ A ⟨dd, .fieldAddr t x fi, tr, pos, af, g⟩ p := fun a w ha _ => by
 obtain ⟨b, o, rfl, rfl⟩ := hp
 subst ho
 have hadd : (⟨b, o, none⟩ : Addr).add fd.offset = ⟨b, o + fd.offset, none⟩ := by unfold Addr.add; split <;> simp_all
 simp [execOp, ha.eval hx, UN hu hf hs, hadd]
variable {r s : ByteArray}
theorem Val.eqlS (hx : ev σ x = some (.string r)) (hy : ev σ y = some (.string s)) : Val P n σ A ⟨dd, .binOp .eql t x y ty, tr, pos, af, g⟩ (.bool (r.toList == s.toList)) := fun e w ha _ => by simp [execOp, ha.eval hx, ha.eval hy, eqGuard_at_string, binOp_string_eql]
def nilB : Value → Bool
 | .slice none _ _ => true
 | _ => false
theorem Val.eqlN {e : TypeId} {a : Option Addr} {m c : Nat} (hu : P.underlying t = some (.slice e)) (hx : ev σ x = some (.slice a m c)) (hy : ev σ y = some (.slice none 0 0)) : Val P n σ A ⟨dd, .binOp .eql t x y ty, tr, pos, af, g⟩ (.bool (nilB (.slice a m c))) := fun e w ha _ => by
 have h1 : ∀ d, (Op.equalIn (d + 1) t (.slice a m c) (.slice none 0 0)).run P w = .ok a.isNone w := fun d => by cases a <;> simp [Op.equalIn, run_underlying hu]
 have h2 : (Op.equal t (.slice a m c) (.slice none 0 0)).run P w = .ok a.isNone w := h1 9999
 have h3 : (binOp .eql t (.slice a m c) (.slice none 0 0)).run P w = .ok (.bool a.isNone) w := by simp [binOp, h2]
 have h4 : (binOp .eql t (.slice a m c) (.slice none 0 0)).run P w = .ok (.bool (nilB (.slice a m c))) w := by rw [h3]; cases a <;> rfl
 simp [execOp, ha.eval hx, ha.eval hy, eqGuard_at_slice, h4]
theorem Val.eqlNP {w0 : World} {hA hV : Hp} {ps : List HP} {os : List HO} {α : Type} {k : Kd α} {xs : List α} {e : TypeId} (see : Sees w0 hA hV) (i : Nat) (hi : ps[i]? = some (slP k v xs)) (hu : P.underlying t = some (.slice e)) (hx : ev σ x = some v) (hy : ev σ y = some (.slice none 0 0)) :
    Val P n σ (St w0 hA hV ps os) ⟨dd, .binOp .eql t x y ty, tr, pos, af, g⟩ (.bool (nilB v)) := fun a w ha hw => by
 obtain ⟨ad, cap, rfl, l1, z, f⟩ := St.pers i hi see.sub see.dj hw
 exact Val.eqlN (A := St w0 hA hV ps os) hu hx hy a w ha hw
theorem slR.isNil {α : Type} {k : Kd α} {h : Hp} {xs : List α} (r : slR k h v xs) (e : nilB v = true) : xs = [] := by
 obtain ⟨ad, cap, rfl, l1, z, f⟩ := r
 cases ad with
 | none => exact (z rfl).1
 | some a => cases e
noncomputable def both {α : Type} (x y : Option α) : Option α := open Classical in if x = y then x else none
theorem Z2z {α : Type} {x y : Option α} {r : α} (h : both x y = some r) : x = some r ∧ y = some r := by
 unfold both at h
 split at h
 ·rename_i e; exact ⟨h, e ▸ h⟩
 ·cases h
theorem Z5z {α : Type} (x : Option α) : both x x = x := by simp [both]
noncomputable def nilOr {α β : Type} (l : List α) (x y : Option β) : Option β := match l with
 | [] => both x y
 | _ => y
theorem Z4n {α β : Type} {l : List α} {x y : Option β} {r : β} (h : nilOr l x y = some r) (e : l = []) : x = some r := by subst e; exact (Z2z h).1
theorem Z4o {α β : Type} {l : List α} {x y : Option β} {r : β} (h : nilOr l x y = some r) : y = some r := by
 cases l with
 | nil => exact (Z2z h).2
 | cons a l => exact h
variable {k1 k2 : IntKind} {a b : Int}
theorem Val.max2 {ts : Array TypeId} (hx : ev σ x = some (.int k1 a)) (hy : ev σ y = some (.int k2 b)) : Val P n σ A ⟨dd, .call ⟨.builtin .max, #[x, y], ts⟩, tr, pos, af, g⟩ (.int k1 (if b > a then b else a)) := fun e w ha _ => by
 simp [execOp, resolve, invoke, builtin, ha.eval hx, ha.eval hy, run_max_int2]
end
section
variable {P : Program} {n : Fr} {ρ : Option Nat} {σ : List (Nat × Value)} {w0 : World} {hA hV : Hp} {ps : List HP} {os : List HO}
def rvRun (tmps : Array Value) : ResultVar → Sem Value
 | .tmp t => pure (tmps.getD t undef)
 | .cell a t => do loadVar t (← asAddr (tmps.getD a undef))
def RVs (P : Program) (n : Fr) (σ : List (Nat × Value)) (A : World → Prop) : List ResultVar → List Value → Prop
 | [], [] => True
 | r :: rs, v :: vs => (∀ a w, Env n σ a → A w → (rvRun a.tmps r).run P w = .ok v w) ∧ RVs P n σ A rs vs
 | _, _ => False
theorem RVs.run {A : World → Prop} {a : Act} {w : World} (ha : Env n σ a) (hw : A w) : ∀ {rs : List ResultVar} {vs : List Value}, RVs P n σ A rs vs → (rs.mapM (rvRun a.tmps)).run P w = .ok vs w
 | [], [], _ => by simp
 | [], _ :: _, h => h.elim
 | _ :: _, [], h => h.elim
 | r :: rs, v :: vs, ⟨h1, h2⟩ => by
  rw [List.mapM_cons]
  simp [h1 a w ha hw, RVs.run ha hw h2]
def single : List Value → Value
 | [v] => v
 | vs => .tuple vs.toArray
theorem RVs.told {fn : Func} {rs : List ResultVar} {vs : List Value} {A : World → Prop} {a : Act} {w : World} (hr : fn.results = rs.toArray) (ha : Env n σ a) (hw : A w) (hv : RVs P n σ A rs vs) : (results fn a.tmps).run P w = .ok (single vs) w := by
 have := RVs.run (P := P) ha hw hv
 have h2 : (rs.toArray.mapM (rvRun a.tmps)).run P w = .ok vs.toArray w := by
  rw [List.mapM_toArray, Sem.run_map, this]
  simp
 have h3 : results fn a.tmps = (do let vs ← rs.toArray.mapM (rvRun a.tmps); pure (if h : vs.size = 1 then vs[0] else .tuple vs)) := by
  unfold results
  rw [hr]
  congr 1
 rw [h3, Sem.run_bind, h2]
 match vs with
 | [] => simp [single]
 | [v] => simp [single]
 | _ :: _ :: _ => simp [single]
theorem QE.rets {fn : Func} {rs : List ResultVar} {vs : List Value} {R : Ending → World → Prop} {A : World → Prop} (hr : fn.results = rs.toArray) (hds : n.ds = []) (hv : RVs P n σ A rs vs) (h : ∀ w, A w → R (.returned (single vs)) w) : QE n σ A (bodyPost P fn R) .ret := fun a w ha hw =>
 ⟨ha.2.1.trans hds, single vs, RVs.told hr ha hw hv, h w hw⟩
theorem RVs.tmp {A : World → Prop} {t : Nat} {v : Value} (h : find t σ = some v) : ∀ a w, Env n σ a → A w → (rvRun a.tmps (.tmp t)).run P w = .ok v w := fun a w ha _ => by
 have := ha.2.2 t v h
 simp [rvRun, this]
theorem RVs.cellA {t b : Nat} {ty T : TypeId} {cs : List Value} (i : Nat) (h : find t σ = some (.pointer (some ⟨b, 0, none⟩))) (hi : os[i]? = some (boxO b cs T)) {dsc : TypeDesc} (hu : P.underlying ty = some dsc) (hd : (match dsc with | .struct _ | .array _ _ => true | _ => false) = true) (hs : (P.info? ty).map (·.size) = some cs.length) :
    ∀ a w, Env n σ a → St w0 hA hV ps os w → (rvRun a.tmps (.cell t ty)).run P w = .ok (.agg cs.toArray) w := fun a w ha hw => by
 have h1 := ha.2.2 t _ h
 have h2 := hw.cell i hi
 have := VJ (P := P) (w := w) (a := ⟨b, 0, none⟩) (cs := cs) hu hd hs (fun j u hj => by
  have hadd : (⟨b, 0, none⟩ : Addr).add j = ⟨b, j, none⟩ := by unfold Addr.add; split <;> simp_all
  rw [hadd]
  simp [World.cell?, h2, hj])
 simp [rvRun, h1, asAddr, this]
theorem RVs.cell1 {t b : Nat} {ty T : TypeId} {v : Value} (i : Nat) (h : find t σ = some (.pointer (some ⟨b, 0, none⟩))) (hi : os[i]? = some (boxO b [v] T)) {dsc : TypeDesc} (hu : P.underlying ty = some dsc) (hd : (match dsc with | .struct _ | .array _ _ => true | _ => false) = false) :
    ∀ a w, Env n σ a → St w0 hA hV ps os w → (rvRun a.tmps (.cell t ty)).run P w = .ok v w := fun a w ha hw => by
 have h1 := ha.2.2 t _ h
 have h2 := hw.cell i hi
 have hc : w.cell? ⟨b, 0, none⟩ = some v := by simp [World.cell?, h2]
 simp [rvRun, h1, asAddr, XC hu hd hc]
end
section
variable {P : Program} {n : Fr} {ρ : Option Nat} {σ : List (Nat × Value)} {w0 : World} {hA hV : Hp} {ps : List HP} {os : List HO} {L l : List Oper} {Q : Cont} {d : Nat} {t tr e : TypeId} {pos : String} {af : Array Edge} {g : Option (Nat × Bool)} {α : Type} {k : Kd α} {xs : List α}
def keys : Nat → List Value → List Nat
 | _, [] => []
 | i, _ :: r => i :: keys (i + 1) r
def szs (m : Nat) : List Value → Bool
 | [] => true
 | v :: r => Nat.beq v.cells.size m && szs m r
def flatc : List Value → List Value
 | [] => []
 | v :: r => v.cells.toList ++ flatc r
theorem keys_eq : ∀ (i : Nat) (vs : List Value), ((vs.zipIdx i).map fun x => (x.2, x.1)).map (·.1) = keys i vs
 | _, [] => rfl
 | i, v :: r => by simpa [keys] using keys_eq (i + 1) r
theorem Z4p : ∀ (i : Nat) (vs : List Value), ((vs.zipIdx i).map fun x => (x.2, x.1)).map (·.2) = vs
 | _, [] => rfl
 | i, v :: r => by simpa using Z4p (i + 1) r
theorem Z4q {m : Nat} : ∀ {vs : List Value}, szs m vs = true → ∀ v ∈ vs, v.cells.size = m
 | [], _, _, h => by cases h
 | u :: r, h, v, hv => by
  simp only [szs, Bool.and_eq_true] at h
  rcases List.mem_cons.1 hv with rfl | hv
  ·exact Nat.eq_of_beq_eq_true h.1
  ·exact Z4q h.2 v hv
theorem Z3d : ∀ (vs : List Value), vs.flatMap (fun v => v.cells.toList) = flatc vs
 | [] => rfl
 | v :: r => by rw [List.flatMap_cons, Z3d r]; rfl
theorem SP.lit {len : Nat} {parts : Array (Nat × Operand)} {vs : List Value} {cs cells : List Value} {bytes : Nat} (hu : P.underlying t = some (.slice e)) (hin : (P.info? e).map (fun i => ((i.zero.map fun z => z.cells.toList), i.size, i.bytes)) = some (some cs, k.sz, bytes))
    (hp : parts.toList.map (fun q => q.1) = keys 0 vs) (he : evs σ (parts.toList.map (·.2)) = some vs) (hsmall : Nat.ble (len * k.sz) 1000 = true) (hpos : Nat.blt 0 (len * k.sz) = true) (hpk : Nat.blt 0 k.sz = true) (hlv : vs.length = len)
    (hz : szs k.sz vs = true) (hf : flatc vs = cells)
    (hxs : ∀ a, All ps a → Flat k a cells xs) (hl : xs.length = len) (hg : gd L σ g = some true) (hn : Nat.blt d n.n = true)
    (h : ∀ v, SP P n ρ ((d, v) :: σ) (St w0 hA hV ps (slO k e v xs :: os)) L l Q) : SP P n ρ σ (St w0 hA hV ps os) L (⟨some d, .buildSlice t len parts, tr, pos, af, g⟩ :: l) Q := by
 have hk : 0 < k.sz := by simpa using hpk
 have hm := Z4q hz
 have hfl : cells.length = vs.length * k.sz := by
  rw [← hf]
  clear hf he hp hlv hz
  induction vs with
  | nil => simp [flatc]
  | cons v r ih =>
   have h1 := hm v List.mem_cons_self
   have h2 := ih fun u hu => hm u (List.mem_cons_of_mem _ hu)
   simp only [flatc, List.length_append, h2, List.length_cons, Nat.add_mul, Nat.one_mul]
   rw [Array.length_toList, h1]; omega
 refine SP.buildSlice (k := k) (xs := xs) (us := (vs.zipIdx 0).map fun x => (x.2, x.1)) (cells := cells) hu hin (by rw [keys_eq]; exact hp) (by rw [Z4p]; exact he) hsmall hpos ?_ hxs (by rw [hfl, hlv, hl]) hl hg hn h
 rw [Go.Great.fill_whole hk vs _ hm (by simp [hlv]), Z3d, hf]
theorem SP.lit0 {cs : List Value} {bytes : Nat} (hu : P.underlying t = some (.slice e)) (hin : (P.info? e).map (fun i => ((i.zero.map fun z => z.cells.toList), i.size, i.bytes)) = some (some cs, k.sz, bytes)) (hg : gd L σ g = some true) (hn : Nat.blt d n.n = true)
    (h : ∀ v, SP P n ρ ((d, v) :: σ) (St w0 hA hV ps (slO k e v ([] : List α) :: os)) L l Q) : SP P n ρ σ (St w0 hA hV ps os) L (⟨some d, .buildSlice t 0 #[], tr, pos, af, g⟩ :: l) Q := by
 refine SP.op (fun v : Value => v) (fun v => St w0 hA hV ps (slO k e v ([] : List α) :: os)) hg rfl hn (fun a w ha hw => ?_) h
 obtain ⟨i, z, i1, i2, i3, i4, i5⟩ := J2 hin
 have hr : (Instr.buildSlice t 0 #[]).run P w = .ok (.slice (some ⟨w.heap.size, 0, none⟩) 0 0) (w.alloc (.cells #[] e)) := by
  have h0 : Array.range 0 = #[] := rfl
  simp [Instr.buildSlice, run_underlying hu, sizeOf, typeInfo, i1, newRow, Instr.fill, h0]
 refine ⟨.slice (some ⟨w.heap.size, 0, none⟩) 0 0, w.alloc (.cells #[] e), by simp [execOp, hr], hw.allocP _ fun b hb => ⟨[], rfl, ?_⟩⟩
 exact ⟨by simp, .inr ⟨w.heap.size, 0, #[], rfl, by simp [bk], by simp, by simp, by simp, by simp⟩⟩
end
theorem Z01 {v : Value} (h : v.oneCell' = true) : v.cells = #[v] := by cases v <;> first | rfl | cases h
end Go.Q
