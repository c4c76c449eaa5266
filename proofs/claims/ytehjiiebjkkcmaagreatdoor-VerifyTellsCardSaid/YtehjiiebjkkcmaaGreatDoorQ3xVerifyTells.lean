/- Words of this seat: kinds of values, slices, calls, returns. -/
import Derived.Test.YtehjiiebjkkcmaaGreatDoorQ2xVerifyTells
set_option linter.unusedVariables false
set_option linter.unusedSimpArgs false
namespace Go.Q
structure Kd (α : Type) where
 sz : Nat
 rd : Hp → List Value → α → Prop
 mono : ∀ h h' cs x, Sub h h' → rd h cs x → rd h' cs x
 len : ∀ h cs x, rd h cs x → cs.length = sz
 cell : ∀ h cs x, rd h cs x → one cs = true
def kInt (ik : IntKind) : Kd Int := ⟨1, fun _ cs x => cs = [.int ik x], fun _ _ _ _ _ h => h, fun _ _ _ h => by simp [h], fun _ _ _ h => by subst h; rfl⟩
def kBool : Kd Bool := ⟨1, fun _ cs x => cs = [.bool x], fun _ _ _ _ _ h => h, fun _ _ _ h => by simp [h], fun _ _ _ h => by subst h; rfl⟩
def At (h : Hp) (b o : Nat) (cs : List Value) : Prop := ∃ c T fr, h b = some (.cells c T fr) ∧ ∀ j u, cs[j]? = some u → c[o + j]? = some u
theorem At.mono {h h' : Hp} {b o : Nat} {cs : List Value} (s : Sub h h') : At h b o cs → At h' b o cs := fun ⟨c, T, fr, e, k⟩ => ⟨c, T, fr, s _ _ e, k⟩
theorem At.cell {w : World} {b o : Nat} {cs : List Value} (h : At (hp w) b o cs) {j : Nat} {u : Value} (hj : cs[j]? = some u) : w.cell? ((⟨b, o, none⟩ : Addr).add j) = some u := by
 obtain ⟨c, T, fr, e, k⟩ := h
 have hadd : (⟨b, o, none⟩ : Addr).add j = ⟨b, o + j, none⟩ := by unfold Addr.add; split <;> simp_all
 rw [hadd]
 have e' : w.heap[b]? = some (.cells c T fr) := e
 simp [World.cell?, e', k j u hj]
def slR {α : Type} (k : Kd α) (h : Hp) (v : Value) (xs : List α) : Prop :=
 ∃ A cap, v = .slice A xs.length cap ∧ xs.length ≤ cap ∧ (A = none → xs = [] ∧ cap = 0) ∧
  ∀ a, A = some a → ∀ i x, xs[i]? = some x → a.spot = none ∧ ∃ cs, k.rd h cs x ∧ At h a.block (a.off + i * k.sz) cs
theorem slR.mono {α : Type} {k : Kd α} {h h' : Hp} {v : Value} {xs : List α} (s : Sub h h') : slR k h v xs → slR k h' v xs := fun ⟨A, cap, e, l, z, f⟩ =>
 ⟨A, cap, e, l, z, fun a ha i x hx => let ⟨sp, cs, p, q⟩ := f a ha i x hx; ⟨sp, cs, k.mono _ _ _ _ s p, q.mono s⟩⟩
def slP {α : Type} (k : Kd α) (v : Value) (xs : List α) : HP := ⟨fun h => slR k h v xs, fun _ _ s => slR.mono s⟩
def kSl {α : Type} (k : Kd α) : Kd (List α) := ⟨1, fun h cs xs => ∃ v, cs = [v] ∧ slR k h v xs, fun _ _ _ _ s ⟨v, e, p⟩ => ⟨v, e, slR.mono s p⟩, fun _ _ _ ⟨v, e, _⟩ => by simp [e], fun _ _ _ ⟨v, e, p⟩ => by obtain ⟨_, _, rfl, -⟩ := p; subst e; rfl⟩
def Flat {α : Type} (k : Kd α) (a : Hp) : List Value → List α → Prop
 | cells, [] => cells = []
 | cells, x :: xs => ∃ cs rest, cells = cs ++ rest ∧ k.rd a cs x ∧ Flat k a rest xs
theorem Flat.mono {α : Type} {k : Kd α} {a a' : Hp} (s : Sub a a') : ∀ {xs : List α} {cells : List Value}, Flat k a cells xs → Flat k a' cells xs
 | [], _, h => h
 | _ :: _, _, ⟨cs, rest, e, r, f⟩ => ⟨cs, rest, e, k.mono _ _ _ _ s r, Flat.mono s f⟩
theorem Flat.len {α : Type} {k : Kd α} {a : Hp} : ∀ {xs : List α} {cells : List Value}, Flat k a cells xs → cells.length = xs.length * k.sz
 | [], _, h => by simp [show _ = [] from h]
 | _ :: xs, _, ⟨cs, rest, e, r, f⟩ => by subst e; rw [List.length_append, k.len _ _ _ r, Flat.len f, List.length_cons, Nat.add_mul]; omega
theorem Z1t : ∀ {a b : List Value}, one (a ++ b) = (one a && one b)
 | [], b => by simp [one]
 | v :: r, b => by simp [one, Z1t, Bool.and_assoc]
theorem Flat.one {α : Type} {k : Kd α} {a : Hp} : ∀ {xs : List α} {cells : List Value}, Flat k a cells xs → Q.one cells = true
 | [], _, h => by simp [show _ = [] from h, Q.one]
 | _ :: xs, _, ⟨cs, rest, e, r, f⟩ => by subst e; rw [Z1t, k.cell _ _ _ r, Flat.one f]; rfl
theorem Flat.append {α : Type} {k : Kd α} {a : Hp} : ∀ {xs ys : List α} {c d : List Value}, Flat k a c xs → Flat k a d ys → Flat k a (c ++ d) (xs ++ ys)
 | [], _, _, _, h, g => by simpa [show _ = [] from h] using g
 | _ :: xs, _, _, _, ⟨cs, rest, e, r, f⟩, g => ⟨cs, rest ++ _, by rw [e, List.append_assoc], r, Flat.append f g⟩
theorem Flat.get {α : Type} {k : Kd α} {a : Hp} : ∀ {xs : List α} {cells : List Value} {i : Nat} {x : α}, Flat k a cells xs → xs[i]? = some x → ∃ cs, k.rd a cs x ∧ ∀ j u, cs[j]? = some u → cells[i * k.sz + j]? = some u
 | [], _, i, x, _, h => by simp at h
 | _ :: xs, _, 0, x, ⟨cs, rest, e, r, f⟩, h => by
  simp at h; subst h; subst e
  refine ⟨cs, r, fun j u hj => ?_⟩
  have hl : j < cs.length := by
   rcases Nat.lt_or_ge j cs.length with g | g
   ·exact g
   ·rw [List.getElem?_eq_none g] at hj; cases hj
  simpa [List.getElem?_append_left hl] using hj
 | _ :: xs, _, i + 1, x, ⟨cs, rest, e, r, f⟩, h => by
  subst e
  obtain ⟨cs', r', g⟩ := Flat.get (i := i) f (by simpa using h)
  refine ⟨cs', r', fun j u hj => ?_⟩
  have hl := k.len _ _ _ r
  rw [List.getElem?_append_right (by rw [hl, Nat.add_mul]; omega)]
  have : (i + 1) * k.sz + j - cs.length = i * k.sz + j := by rw [hl, Nat.add_mul]; omega
  rw [this]; exact g j u hj
theorem Flat.set {α : Type} {k : Kd α} {a : Hp} {y : α} {ds : List Value} (hy : k.rd a ds y) : ∀ {xs : List α} {cells : List Value} {i : Nat}, Flat k a cells xs → i < xs.length → Flat k a (put cells (i * k.sz) ds) (xs.set i y)
 | [], _, i, _, h => by simp at h
 | _ :: xs, _, 0, ⟨cs, rest, e, r, f⟩, h => by
  subst e
  have h1 := k.len _ _ _ hy
  have h2 := k.len _ _ _ r
  refine ⟨ds, rest, ?_, hy, f⟩
  rw [put_eq _ _ _ (by simp [h1, h2])]
  simp [h1, ← h2]
 | _ :: xs, _, i + 1, ⟨cs, rest, e, r, f⟩, h => by
  subst e
  have h1 := k.len _ _ _ hy
  have h2 := k.len _ _ _ r
  have h3 := Flat.len f
  have hi : i < xs.length := by simpa using h
  refine ⟨cs, put rest (i * k.sz) ds, ?_, r, Flat.set hy f hi⟩
  have hb : i * k.sz + ds.length ≤ rest.length := by rw [h1, h3, ← Nat.succ_mul]; exact Nat.mul_le_mul_right _ hi
  rw [put_eq _ _ _ (by rw [List.length_append, Nat.add_mul, h2]; omega), put_eq _ _ _ hb]
  have e1 : (i + 1) * k.sz = cs.length + i * k.sz := by rw [h2, Nat.add_mul]; omega
  rw [e1, List.take_length_add_append, show cs.length + i * k.sz + ds.length = cs.length + (i * k.sz + ds.length) from by omega, List.drop_length_add_append]
  simp
def Row (T : TypeId) (sz : Nat) (h : Hp) (v : Value) (n : Nat) (cells : List Value) : Prop :=
 cells.length = n * sz ∧ ((v = .slice none 0 0 ∧ n = 0) ∨ ∃ g cap cur, v = .slice (some ⟨g, 0, none⟩) n cap ∧ h g = some (.cells cur T (0, 0)) ∧ n ≤ cap ∧ cap ≤ maxLen ∧ cur.size = cap * sz ∧ cur.toList.take (n * sz) = cells)
theorem Row.mono {T : TypeId} {sz : Nat} {h h' : Hp} {v : Value} {n : Nat} {cells : List Value} (s : Sub h h') : Row T sz h v n cells → Row T sz h' v n cells := fun ⟨l, r⟩ =>
 ⟨l, r.imp id fun ⟨g, cap, cur, e, hg, z⟩ => ⟨g, cap, cur, e, s _ _ hg, z⟩⟩
def slO {α : Type} (k : Kd α) (T : TypeId) (v : Value) (xs : List α) : HO := ⟨fun a h => ∃ cells, Flat k a cells xs ∧ Row T k.sz h v xs.length cells,
 fun a a' b b' sa sb ⟨cells, f, r⟩ => ⟨cells, f.mono sa, r.mono sb⟩⟩
theorem slO.read {α : Type} {k : Kd α} {T : TypeId} {v : Value} {xs : List α} {a h h' : Hp} (p : (slO k T v xs).p a h) (sa : Sub a h') (sh : Sub h h') : slR k h' v xs := by
 obtain ⟨cells, f, hl, ⟨rfl, hn⟩ | ⟨g, cap, cur, rfl, hg, l, hm, hs, ht⟩⟩ := p
 ·obtain rfl := List.eq_nil_of_length_eq_zero hn
  exact ⟨none, 0, rfl, by simp, fun _ => ⟨rfl, rfl⟩, fun a ha => by cases ha⟩
 ·refine ⟨_, cap, rfl, l, (fun e => by cases e), fun a ha => ?_⟩
  obtain rfl : (⟨g, 0, none⟩ : Addr) = a := by simpa using ha
  intro i x hx
  obtain ⟨cs, r, q⟩ := f.get hx
  refine ⟨rfl, cs, k.mono _ _ _ _ sa r, cur, T, _, sh _ _ hg, fun j u hj => ?_⟩
  have h1 := q j u hj
  rw [← ht] at h1
  have h2 : i * k.sz + j < xs.length * k.sz := by
   rcases Nat.lt_or_ge (i * k.sz + j) (xs.length * k.sz) with z | z
   ·exact z
   ·rw [List.getElem?_eq_none (by rw [List.length_take]; omega)] at h1; cases h1
  rw [List.getElem?_take_of_lt h2] at h1
  simpa using h1
def elP {α : Type} (k : Kd α) (p : Value) (x : α) : HP := ⟨fun h => ∃ b o cs, p = .pointer (some ⟨b, o, none⟩) ∧ k.rd h cs x ∧ At h b o cs, fun _ _ s ⟨b, o, cs, e, r, q⟩ => ⟨b, o, cs, e, k.mono _ _ _ _ s r, q.mono s⟩⟩
def vaP {α : Type} (k : Kd α) (cs : List Value) (x : α) : HP := ⟨fun h => k.rd h cs x, fun _ _ s => k.mono _ _ _ _ s⟩
def HO.ex {ι : Type} (f : ι → HO) : HO := ⟨fun a h => ∃ x, (f x).p a h, fun _ _ _ _ sa sb ⟨x, p⟩ => ⟨x, (f x).mono _ _ _ _ sa sb p⟩⟩
def HO.pand (q : Prop) (x : HO) : HO := ⟨fun a h => q ∧ x.p a h, fun _ _ _ _ sa sb ⟨e, p⟩ => ⟨e, x.mono _ _ _ _ sa sb p⟩⟩
section
variable {w0 w : World} {hA hV : Hp} {ps : List HP} {os : List HO} {x y : HO} {q : Prop}
theorem St.pure (h : St w0 hA hV ps (HO.pure q :: os) w) : q ∧ St w0 hA hV ps os w := by
 obtain ⟨m, f, hN, hO, n1, n2, d, s1, s2, p, h1, h2, e, t1, t2, r, s⟩ := h
 exact ⟨r, m, f, hN, hO, n1, n2, d, s1, s2, p, Sep.mono os (Sub.refl _) t2 s⟩
theorem St.pand (h : St w0 hA hV ps (HO.pand q x :: os) w) : q ∧ St w0 hA hV ps (x :: os) w := by
 obtain ⟨m, f, hN, hO, n1, n2, d, s1, s2, p, h1, h2, e, t1, t2, r, s⟩ := h
 exact ⟨r.1, m, f, hN, hO, n1, n2, d, s1, s2, p, h1, h2, e, t1, t2, r.2, s⟩
theorem St.open {ι : Type} {f : ι → HO} (h : St w0 hA hV ps (HO.ex f :: os) w) : ∃ z, St w0 hA hV ps (f z :: os) w := by
 obtain ⟨m, g, hN, hO, n1, n2, d, s1, s2, p, h1, h2, e, t1, t2, ⟨z, r⟩, s⟩ := h
 exact ⟨z, m, g, hN, hO, n1, n2, d, s1, s2, p, h1, h2, e, t1, t2, r, s⟩
theorem St.and (h : St w0 hA hV ps (HO.and x y :: os) w) : St w0 hA hV ps (x :: y :: os) w := by
 obtain ⟨m, g, hN, hO, n1, n2, d, s1, s2, p, h1, h2, e, t1, t2, ⟨k1, k2, dj, u1, u2, r1, r2⟩, s⟩ := h
 have e1 := e.sub u1 (Sub.refl _)
 have e2 := e.sub u2 (Sub.refl _)
 exact ⟨m, g, hN, hO, n1, n2, d, s1, s2, p, k1, un k2 h2, Dj.Ye dj e1, u1.trans t1, Sub.XY (u2.trans t1) t2, r1, k2, h2, e2, Sub.YC _ _, Sub.Ye e2, r2, s⟩
theorem St.know {z : HP} (hz : ∀ h, All ps h → z.p h) (h : St w0 hA hV ps os w) : St w0 hA hV (z :: ps) os w := by
 obtain ⟨m, g, hN, hO, n1, n2, d, s1, s2, p, s⟩ := h
 refine ⟨m, g, hN, hO, n1, n2, d, s1, s2, fun y hy => ?_, s⟩
 rcases List.mem_cons.1 hy with rfl | hy
 ·exact hz _ p
 ·exact p y hy
theorem St.begin (h : All ps hV) : St w em hV ps [] w :=
 ⟨Met.refl w, fun _ _ e _ => e, em, em, fun _ _ _ => rfl, fun _ _ _ => rfl, Dj.Yw _, Sub.em _, Sub.em _, h.mono (Sub.YC _ _), trivial⟩
end
section
variable {P : Program} {n : Fr} {ρ : Option Nat} {σ : List (Nat × Value)} {w0 : World} {hA hV : Hp} {ps : List HP} {os : List HO} {L l : List Oper} {Q : Cont} {d : Nat} {dd : Option Nat} {t ty tr : TypeId} {x y z : Operand} {pos : String} {af : Array Edge} {g : Option (Nat × Bool)} {v u : Value} {α β : Type} {k : Kd α} {xs : List α}
structure Sees (w0 : World) (hA hV : Hp) : Prop where
 sub : Sub hV (hp w0)
 dj : Dj hV hA
theorem Val.lenP (see : Sees w0 hA hV) (i : Nat) (hi : ps[i]? = some (slP k v xs)) {e : TypeId} (hu : P.underlying t = some (.slice e)) (hx : ev σ x = some v) : Val P n σ (St w0 hA hV ps os) ⟨dd, .call ⟨.builtin .len, #[x], #[t]⟩, tr, pos, af, g⟩ (.int .i64 (xs.length : Int)) := by
 intro a w ha hw
 obtain ⟨A, cap, rfl, -⟩ := St.pers i hi see.sub see.dj hw
 simp [execOp, resolve, invoke, builtin, ha.eval hx, Builtin.len_, run_underlying hu, goInt]
theorem Val.lenO (see : Sees w0 hA hV) (i : Nat) {T : TypeId} (hi : os[i]? = some (slO k T v xs)) {e : TypeId} (hu : P.underlying t = some (.slice e)) (hx : ev σ x = some v) : Val P n σ (St w0 hA hV ps os) ⟨dd, .call ⟨.builtin .len, #[x], #[t]⟩, tr, pos, af, g⟩ (.int .i64 (xs.length : Int)) := by
 intro a w ha hw
 obtain ⟨cells, f, hl, ⟨rfl, hn⟩ | ⟨g', cap, cur, rfl, -⟩⟩ := St.own i hi see.sub see.dj hw
 ·simp [execOp, resolve, invoke, builtin, ha.eval hx, Builtin.len_, run_underlying hu, goInt, hn]
 ·simp [execOp, resolve, invoke, builtin, ha.eval hx, Builtin.len_, run_underlying hu, goInt]
theorem Val.lenS {s : ByteArray} (hu : P.underlying t = some .string) (hx : ev σ x = some (.string s)) : Val P n σ (St w0 hA hV ps os) ⟨dd, .call ⟨.builtin .len, #[x], #[t]⟩, tr, pos, af, g⟩ (.int .i64 (s.size : Int)) := by
 intro a w ha hw
 simp [execOp, resolve, invoke, builtin, ha.eval hx, Builtin.len_, run_underlying hu, goInt]
theorem run_indexAt {w : World} {e : TypeId} {i : Int} {ik : IntKind} {a : Addr} {len cap s : Nat} (hu : P.underlying t = some (.slice e)) (hs : (P.info? e).map (·.size) = some s) (h0 : 0 ≤ i) (h1 : i < len) :
    (Instr.indexAt t (.slice (some a) len cap) (.int ik i)).run P w = .ok (.pointer (some (a.add (i.toNat * s)))) w := by
 cases hq : P.info? e with
 | none => simp [hq] at hs
 | some q =>
  simp [hq] at hs
  simp [Instr.indexAt, run_underlying hu, asIntOf, h0, h1, sizeOf, typeInfo, hq, hs]
theorem SP.indexP (see : Sees w0 hA hV) (i : Nat) (hi : ps[i]? = some (slP k v xs)) {e : TypeId} (hu : P.underlying t = some (.slice e)) (hs : (P.info? e).map (·.size) = some k.sz) {ik : IntKind} {j : Int} {x0 : α} (h0 : 0 ≤ j) (hj : xs[j.toNat]? = some x0) (hg : gd L σ g = some true) (hn : Nat.blt d n.n = true) (hx : ev σ x = some v) (hy : ev σ y = some (.int ik j))
    (h : ∀ p, SP P n ρ ((d, p) :: σ) (St w0 hA hV (elP k p x0 :: ps) os) L l Q) : SP P n ρ σ (St w0 hA hV ps os) L (⟨some d, .indexAddr t x y, tr, pos, af, g⟩ :: l) Q := by
 have hlt : j < xs.length := by
  rcases Nat.lt_or_ge j.toNat xs.length with h | h
  ·omega
  ·rw [List.getElem?_eq_none h] at hj; cases hj
 refine SP.op (fun p : Value => p) (fun p => St w0 hA hV (elP k p x0 :: ps) os) hg rfl hn (fun a w ha hw => ?_) h
 obtain ⟨A, cap, rfl, l1, z, f⟩ := St.pers i hi see.sub see.dj hw
 cases A with
 | none => rw [(z rfl).1] at hj; simp at hj
 | some ad =>
  obtain ⟨hsp, -⟩ := f ad rfl _ _ hj
  obtain ⟨ab, ao, as⟩ := ad
  simp at hsp; subst hsp
  refine ⟨.pointer (some ((⟨ab, ao, none⟩ : Addr).add (j.toNat * k.sz))), w, by simp [execOp, ha.eval hx, ha.eval hy, run_indexAt hu hs h0 hlt], hw.know fun hh ap => ?_⟩
  have hadd : (⟨ab, ao, none⟩ : Addr).add (j.toNat * k.sz) = ⟨ab, ao + j.toNat * k.sz, none⟩ := by unfold Addr.add; split <;> simp_all
  obtain ⟨A', cap', e', -, -, f'⟩ := ap _ (List.mem_of_getElem? hi)
  simp at e'
  obtain ⟨rfl, -⟩ := e'
  obtain ⟨-, cs, r, q⟩ := f' _ rfl _ _ hj
  exact ⟨ab, _, cs, by rw [hadd], r, q⟩
theorem SP.loadP (see : Sees w0 hA hV) (i : Nat) {x0 : α} (hi : ps[i]? = some (elP k v x0)) {dsc : TypeDesc} (hu : P.underlying t = some dsc) (hd : (match dsc with | .struct _ | .array _ _ => true | _ => false) = true) (hs : (P.info? t).map (·.size) = some k.sz) (hg : gd L σ g = some true) (hn : Nat.blt d n.n = true) (hx : ev σ x = some v)
    (h : ∀ cs : List Value, SP P n ρ ((d, .agg cs.toArray) :: σ) (St w0 hA hV (vaP k cs x0 :: ps) os) L l Q) : SP P n ρ σ (St w0 hA hV ps os) L (⟨some d, .load t x, tr, pos, af, g⟩ :: l) Q := by
 refine SP.op (fun cs : List Value => .agg cs.toArray) (fun cs => St w0 hA hV (vaP k cs x0 :: ps) os) hg rfl hn (fun a w ha hw => ?_) h
 obtain ⟨m, fr, hN, hO, n1, n2, dj, s1, s2, p, s⟩ := id hw
 obtain ⟨b, o, cs, rfl, r, q⟩ := p _ (List.mem_of_getElem? hi)
 have sub : Sub (un hV hN) (hp w) := Sub.XY (fun b o e => fr b o (see.sub b o e) (by
  rcases see.dj b with k | k
  ·rw [e] at k; cases k
  ·exact k)) s1
 have hl := k.len _ _ _ r
 have := VJ (P := P) (w := w) (a := ⟨b, o, none⟩) (cs := cs) hu hd (by rw [hl]; exact hs) (fun j u hj => (q.mono sub).cell hj)
 refine ⟨cs, w, by simp [execOp, ha.eval hx, Instr.loadAt, Instr.sureAddr, this], m, fr, hN, hO, n1, n2, dj, s1, s2, fun y hy => ?_, s⟩
 rcases List.mem_cons.1 hy with rfl | hy
 ·exact r
 ·exact p y hy
theorem Val.loadP1 (see : Sees w0 hA hV) (i : Nat) {x0 : α} (hi : ps[i]? = some (elP k v x0)) (hk : ∀ h cs, k.rd h cs x0 → cs = [u]) {dsc : TypeDesc} (hu : P.underlying t = some dsc) (hd : (match dsc with | .struct _ | .array _ _ => true | _ => false) = false) (hx : ev σ x = some v) : Val P n σ (St w0 hA hV ps os) ⟨dd, .load t x, tr, pos, af, g⟩ (u) := by
 intro a w ha hw
 obtain ⟨b, o, cs, rfl, r, q⟩ := St.pers i hi see.sub see.dj hw
 have hcs := hk _ _ r
 subst hcs
 have := q.cell (j := 0) (u := u) rfl
 simp only [Addr.add, if_true] at this
 simp [execOp, ha.eval hx, Instr.loadAt, Instr.sureAddr, XC hu hd this]
theorem SP.loadPS (see : Sees w0 hA hV) (i : Nat) {x0 : List β} {k' : Kd β} (hi : ps[i]? = some (elP (kSl k') v x0)) {e : TypeId} (hu : P.underlying t = some (.slice e)) (hg : gd L σ g = some true) (hn : Nat.blt d n.n = true) (hx : ev σ x = some v)
    (h : ∀ s, SP P n ρ ((d, s) :: σ) (St w0 hA hV (slP k' s x0 :: ps) os) L l Q) : SP P n ρ σ (St w0 hA hV ps os) L (⟨some d, .load t x, tr, pos, af, g⟩ :: l) Q := by
 refine SP.op (fun s : Value => s) (fun s => St w0 hA hV (slP k' s x0 :: ps) os) hg rfl hn (fun a w ha hw => ?_) h
 obtain ⟨m, fr, hN, hO, n1, n2, dj, s1, s2, p, s⟩ := id hw
 obtain ⟨b, o, cs, rfl, ⟨sv, rfl, r⟩, q⟩ := p _ (List.mem_of_getElem? hi)
 have sub : Sub (un hV hN) (hp w) := Sub.XY (fun b o e => fr b o (see.sub b o e) (by
  rcases see.dj b with k | k
  ·rw [e] at k; cases k
  ·exact k)) s1
 have := (q.mono sub).cell (j := 0) (u := sv) rfl
 simp only [Addr.add, if_true] at this
 refine ⟨sv, w, by simp [execOp, ha.eval hx, Instr.loadAt, Instr.sureAddr, XC hu rfl this], m, fr, hN, hO, n1, n2, dj, s1, s2, fun y hy => ?_, s⟩
 rcases List.mem_cons.1 hy with rfl | hy
 ·exact r
 ·exact p y hy
def Part {α β : Type} (k : Kd α) (off : Nat) (kf : Kd β) (f : α → β) : Prop := ∀ h cs x, k.rd h cs x → ∃ cs', kf.rd h cs' (f x) ∧ ∀ j u, cs'[j]? = some u → cs[off + j]? = some u
theorem SP.fieldP (see : Sees w0 hA hV) (i : Nat) {x0 : α} (hi : ps[i]? = some (elP k v x0)) {kf : Kd β} {f : α → β} {fi s : Nat} {fs : Array Field} {fd : Field} (hu : P.underlying t = some (.struct fs)) (hf : fs[fi]? = some fd) (hs : (P.info? fd.type).map (·.size) = some (s + 1)) (hpart : Part k fd.offset kf f) (hg : gd L σ g = some true) (hn : Nat.blt d n.n = true) (hx : ev σ x = some v)
    (h : ∀ p, SP P n ρ ((d, p) :: σ) (St w0 hA hV (elP kf p (f x0) :: ps) os) L l Q) : SP P n ρ σ (St w0 hA hV ps os) L (⟨some d, .fieldAddr t x fi, tr, pos, af, g⟩ :: l) Q := by
 refine SP.op (fun p : Value => p) (fun p => St w0 hA hV (elP kf p (f x0) :: ps) os) hg rfl hn (fun a w ha hw => ?_) h
 obtain ⟨b, o, cs, rfl, r, q⟩ := St.pers i hi see.sub see.dj hw
 refine ⟨.pointer (some ((⟨b, o, none⟩ : Addr).add fd.offset)), w, by simp [execOp, ha.eval hx, UN hu hf hs], hw.know fun hh ap => ?_⟩
 have hadd : (⟨b, o, none⟩ : Addr).add fd.offset = ⟨b, o + fd.offset, none⟩ := by unfold Addr.add; split <;> simp_all
 obtain ⟨b', o', cs', e', r', q'⟩ := ap _ (List.mem_of_getElem? hi)
 simp at e'
 obtain ⟨rfl, rfl⟩ := e'
 obtain ⟨c2, r2, h2⟩ := hpart _ _ _ r'
 obtain ⟨c, T, fr, hb, hq⟩ := q'
 exact ⟨b, o + fd.offset, c2, by rw [hadd], r2, c, T, fr, hb, fun j u hj => by rw [Nat.add_assoc]; exact hq _ _ (h2 j u hj)⟩
end
section
variable {P : Program} {n : Fr} {ρ : Option Nat} {σ : List (Nat × Value)} {w0 : World} {hA hV : Hp} {ps : List HP} {os : List HO} {L l : List Oper} {Q : Cont} {d : Nat} {tr : TypeId} {x : Operand} {pos : String} {af : Array Edge} {g : Option (Nat × Bool)} {as : Array Operand} {ats : Array TypeId} {f : FuncId} {vals caps : List Value}
theorem Z24 {P : Program} {ρ : Option Nat} {k : Nat} {f : FuncId} {args : Array Value} {w : World} {R : Ending → World → Prop} (h : Calls P f args w R) : CallsIn (FF ρ) k P f args w R := by
 have h1 : CallsIn Fence.wide k P f args w R := callsIn_wide.2 h
 exact h1
theorem Kv (a b c : Hp) : un (un a b) c = un a (un b c) := by funext x; simp [un, Option.or_assoc]
theorem Z1a {w : World} {fv : Value} {args : Array Value} {b : Oper} (hfn : ((P.funcs[f]?).map fun fn => fn.body.isSome && !(fn.name == "runtime.NumGoroutine")) = some true) :
    (callFunc f args).run P w = .ok (.enter f args) w := by
 cases hq : P.funcs[f]? with
 | none => simp [hq] at hfn
 | some fn =>
  simp [hq] at hfn
  obtain ⟨h1, h2⟩ := hfn
  obtain ⟨c, hc⟩ := Option.isSome_iff_exists.1 h1
  simp [callFunc, hq, hc, h2]
theorem SP.callK (see : Sees w0 hA hV) (K : Value → HO) (hfn : ((P.funcs[f]?).map fun fn => fn.body.isSome && !(fn.name == "runtime.NumGoroutine")) = some true) (hg : gd L σ g = some true) (hn : Nat.blt d n.n = true) (hx : ev σ x = some (.func (.func f) #[] caps.toArray)) (has : evs σ as.toList = some vals)
    (hc : ∀ w hP, St w0 hA hV ps os w → Sub hP (hp w) → All ps hP → Trip P f (vals ++ caps).toArray em hP w K)
    (h : ∀ v, SP P n ρ ((d, v) :: σ) (St w0 hA hV ps (K v :: os)) L l Q) : SP P n ρ σ (St w0 hA hV ps os) L (⟨some d, .call ⟨.value x, as, ats⟩, tr, pos, af, g⟩ :: l) Q := fun a w ha hw => by
 unfold wpListIn
 rw [if_pos (ha.wanted hg)]
 have hm : as.map a.eval = vals.toArray := by rw [← Array.toArray_toList (xs := as.map a.eval), Array.toList_map, ha.evals has]
 have hr : (execOp a.eval ⟨some d, .call ⟨.value x, as, ats⟩, tr, pos, af, g⟩).run P w = .ok (.enter f (vals ++ caps).toArray) w := by
  simp [execOp, resolve, ha.eval hx, Deferred.ofValue, invoke, hm, Z1a hfn (b := default) (fv := undef)]
 refine ⟨fun _ _ => trivial, ?_⟩
 rw [UE hr (fun d e => by cases e), Oper.uponIn_enter]
 refine ⟨fun h => (by cases h), Z24 ?_⟩
 obtain ⟨m, fr, hN, hO, n1, n2, dj, s1, s2, p, s⟩ := id hw
 have sub : Sub (un hV hN) (hp w) := Sub.XY (fun b o e => fr b o (see.sub b o e) (by
  rcases see.dj b with k | k
  ·rw [e] at k; cases k
  ·exact k)) s1
 refine (hc w (un hV hN) hw sub p).mono fun e w' he => ?_
 obtain ⟨v, rfl, hs⟩ := he
 refine h v _ _ (ha.put v (by simpa using hn)) ?_
 have keep : ∀ hP, Sub hP (hp w) → All ps hP → True := fun _ _ _ => trivial
 obtain ⟨m', fr', hN', hO', n1', n2', dj', s1', s2', k⟩ := hs
 have keep : ∀ z : Hp, Sub z (hp w) → Sub z (hp w') := fun z hz b o e => fr' b o (hz b o e) rfl
 have djw : ∀ z y : Hp, Sub z (hp w) → (∀ b, b < w.heap.size → y b = none) → Dj z y := fun z y hz hy b => by
  cases e : z b with
  | none => exact .inl rfl
  | some o => exact .inr (hy b (U6 (hz _ _ e)))
 have n2'' : ∀ b, b < w.heap.size → hO' b = none := fun b hb => n2' b hb rfl
 refine ⟨m.trans m', fun b o e1 e2 => fr' b o (fr b o e1 e2) rfl, un hN hN', un hO' hO, fun b hb h2 => by simp [un, n1 b hb h2, n1' b (Nat.lt_of_lt_of_le hb m.size) rfl], fun b hb h2 => by simp [un, n2 b hb h2, n2'' b (Nat.lt_of_lt_of_le hb m.size)], ?_, Sub.XY (keep _ s1) s1', Sub.XY s2' (keep _ s2), ?_, ?_⟩
 ·exact Dj.YC (Dj.Ye (djw _ _ s1 n2'') dj) (Dj.Ye dj' (djw _ _ s2 (fun b hb => n1' b hb rfl)).symm)
 ·rw [← Kv]; exact p.mono (Sub.YC _ _)
 ·have d2 : Dj hO' hO := (djw _ _ s2 n2'').symm
  rw [← Kv]
  exact ⟨hO', hO, d2, Sub.YC _ _, Sub.Ye d2, k, Sep.mono os (Sub.YC _ _) (Sub.refl _) s⟩
theorem SP.callV (see : Sees w0 hA hV) (r : Value) (hfn : ((P.funcs[f]?).map fun fn => fn.body.isSome && !(fn.name == "runtime.NumGoroutine")) = some true) (hg : gd L σ g = some true) (hn : Nat.blt d n.n = true) (hx : ev σ x = some (.func (.func f) #[] caps.toArray)) (has : evs σ as.toList = some vals)
    (hc : ∀ w hP, St w0 hA hV ps os w → Sub hP (hp w) → All ps hP → Trip P f (vals ++ caps).toArray em hP w fun v => HO.pure (v = r))
    (h : SP P n ρ ((d, r) :: σ) (St w0 hA hV ps os) L l Q) : SP P n ρ σ (St w0 hA hV ps os) L (⟨some d, .call ⟨.value x, as, ats⟩, tr, pos, af, g⟩ :: l) Q :=
 SP.callK see _ hfn hg hn hx has hc fun v a w ha hw => by
  obtain ⟨e, hw2⟩ := hw.pure
  subst e
  exact h a w ha hw2
end
section
variable {P : Program} {n : Fr} {ρ : Option Nat} {σ : List (Nat × Value)} {w0 : World} {hA hV : Hp} {ps : List HP} {os : List HO}
def slots : Nat → List Value → List (Nat × Value)
 | _, [] => []
 | i, v :: r => (i, v) :: slots (i + 1) r
theorem Z1u : ∀ (l : List Value) (i t : Nat) (v : Value), find t (slots i l) = some v → i ≤ t ∧ l[t - i]? = some v
 | [], i, t, v, h => by simp [slots, find] at h
 | u :: r, i, t, v, h => by
  simp only [slots, find] at h
  by_cases e : i = t
  ·subst e; simp at h; subst h; simp
  ·rw [KZ e] at h
   obtain ⟨h1, h2⟩ := Z1u r (i + 1) t v h
   refine ⟨by omega, ?_⟩
   have : t - i = (t - (i + 1)) + 1 := by omega
   rw [this]; simpa using h2
theorem Env.enter {fn : Func} {args : List Value} (hn : fn.ntmps = n.n ∧ n.ds = []) (ha : Nat.ble args.length n.n = true) : Env n (slots 0 args) { tmps := args.toArray ++ Array.replicate (fn.ntmps - args.toArray.size) undef, defers := [] } := by
 refine ⟨?_, hn.2.symm, fun t v hv => ?_⟩
 ·have := Nat.le_of_ble_eq_true ha
  simp [hn.1]; omega
 ·obtain ⟨-, h2⟩ := Z1u args 0 t v hv
  simp at h2
  have hlt : t < args.length := by
   rcases Nat.lt_or_ge t args.length with h | h
   ·exact h
   ·rw [List.getElem?_eq_none h] at h2; cases h2
  simp [Array.getElem?_append, hlt]
  rw [List.getElem?_eq_getElem hlt] at h2
  simpa using h2
theorem Trip.of {f : FuncId} {fn : Func} {c : Code} {args : List Value} {K : Value → HO} (hf : P.funcs[f]? = some fn) (hb : fn.body = some c) (hn : fn.ntmps = n.n ∧ n.ds = []) (ha : Nat.ble args.length n.n = true)
    (h0 : St w0 hA hV ps os w0)
    (h : CP P n none (slots 0 args) (St w0 hA hV ps os) c (bodyPost P fn fun e w' => ∃ v, e = .returned v ∧ Since w0 hA hV (K v).p w')) : Trip P f args.toArray hA hV w0 K :=
 calls_of_wp hf hb (wpIn_wide.1 (h _ _ (Env.enter hn ha) h0))
theorem St.done {w : World} {K : Value → HO} {v : Value} (hk : ∀ a b, All ps a → Sep a os b → (K v).p a b) (h : St w0 hA hV ps os w) : ∃ u, Ending.returned v = .returned u ∧ Since w0 hA hV (K u).p w := by
 obtain ⟨m, fr, hN, hO, n1, n2, dj, s1, s2, p, s⟩ := h
 exact ⟨v, rfl, m, fr, hN, hO, n1, n2, dj, s1, s2, hk _ _ p s⟩
end
end Go.Q
