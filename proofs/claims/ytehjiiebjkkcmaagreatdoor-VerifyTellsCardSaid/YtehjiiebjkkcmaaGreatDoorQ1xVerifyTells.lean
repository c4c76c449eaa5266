/- Words of this seat: the state's moves (new memory, stores, what is kept), and how values lie in memory. -/
import Derived.Test.YtehjiiebjkkcmaaGreatDoorQ0xVerifyTells
set_option linter.unusedVariables false
set_option linter.unusedSimpArgs false
namespace Go.Q
def bk (b : Nat) (o : Obj) : Hp := fun x => if x = b then some o else none
theorem U6 {w : World} {b : Nat} {o : Obj} (h : hp w b = some o) : b < w.heap.size := by
 unfold hp at h
 rcases Nat.lt_or_ge b w.heap.size with g | g
 ·exact g
 ·rw [Array.getElem?_eq_none g] at h; cases h
theorem JE (w : World) (o : Obj) : Sub (hp w) (hp (w.alloc o)) := fun b u h => by
 have hl := U6 h
 show (w.heap.push o)[b]? = _
 rw [Array.getElem?_push, if_neg (by omega)]; exact h
theorem JY (w : World) (o : Obj) : hp (w.alloc o) w.heap.size = some o := by
 show (w.heap.push o)[w.heap.size]? = some o
 simp
def boxO (b : Nat) (cs : List Value) (T : TypeId) : HO := ⟨fun _ h => h b = some (.cells cs.toArray T (0, 0)), fun _ _ _ _ _ hb h => hb _ _ h⟩
def boxP (b : Nat) (cs : List Value) (T : TypeId) : HP := ⟨fun h => h b = some (.cells cs.toArray T (0, 0)), fun _ _ hb h => hb _ _ h⟩
section
variable {w0 w w' : World} {hA hV : Hp} {ps : List HP} {os : List HO}
theorem St.imp {ps' : List HP} {os' : List HO} (hp : ∀ h, All ps h → All ps' h) (ho : ∀ a b, All ps a → Sep a os b → Sep a os' b) (h : St w0 hA hV ps os w) : St w0 hA hV ps' os' w := by
 obtain ⟨m, f, hN, hO, n1, n2, d, s1, s2, p, q⟩ := h
 exact ⟨m, f, hN, hO, n1, n2, d, s1, s2, hp _ p, ho _ _ p q⟩
theorem St.pers (i : Nat) {x : HP} (hi : ps[i]? = some x) (sV : Sub hV (hp w0)) (dj : Dj hV hA) (h : St w0 hA hV ps os w) : x.p (hp w) := by
 obtain ⟨m, f, hN, hO, n1, n2, d, s1, s2, p, q⟩ := h
 refine x.mono _ _ (Sub.XY (fun b o e => f b o (sV b o e) ?_) s1) (p x (List.mem_of_getElem? hi))
 rcases dj b with k | k
 ·rw [e] at k; cases k
 ·exact k
theorem St.own (i : Nat) {x : HO} (hi : os[i]? = some x) (sV : Sub hV (hp w0)) (dj : Dj hV hA) (h : St w0 hA hV ps os w) : x.p (hp w) (hp w) := by
 obtain ⟨m, f, hN, hO, n1, n2, d, s1, s2, p, q⟩ := h
 obtain ⟨h1, h2, e, t1, t2, r, s⟩ := Sep.take i os hi q
 refine x.mono _ _ _ _ (Sub.XY (fun b o e => f b o (sV b o e) ?_) s1) (t1.trans s2) r
 rcases dj b with k | k
 ·rw [e] at k; cases k
 ·exact k
theorem St.cell (i : Nat) {b : Nat} {cs : List Value} {T : TypeId} (hi : os[i]? = some (boxO b cs T)) (h : St w0 hA hV ps os w) : w.heap[b]? = some (.cells cs.toArray T (0, 0)) := by
 obtain ⟨m, f, hN, hO, n1, n2, d, s1, s2, p, q⟩ := h
 obtain ⟨h1, h2, e, t1, t2, r, s⟩ := Sep.take i os hi q
 exact s2 _ _ (t1 _ _ r)
theorem St.drawn (k : Nat) (h : St w0 hA hV ps os w) : St w0 hA hV ps os { w with drawn := k } := by
 obtain ⟨⟨a, b, c, e⟩, f, hN, hO, r⟩ := h
 exact ⟨⟨a, b, c, e⟩, f, hN, hO, r⟩
theorem St.allocP {x : HO} (o : Obj) (hx : ∀ a, All ps a → x.p a (bk w.heap.size o)) (h : St w0 hA hV ps os w) : St w0 hA hV ps (x :: os) (w.alloc o) := by
 obtain ⟨m, f, hN, hO, n1, n2, d, s1, s2, p, q⟩ := h
 have new : ∀ k : Hp, Sub k (hp w) → k w.heap.size = none := fun k hk => by
  cases e : k w.heap.size with
  | none => rfl
  | some u => exact absurd (U6 (hk _ _ e)) (Nat.lt_irrefl _)
 have djN : ∀ k : Hp, Sub k (hp w) → Dj (bk w.heap.size o) k := fun k hk b => by
  by_cases e : b = w.heap.size
  ·subst e; exact .inr (new k hk)
  ·exact .inl (by simp [bk, e])
 refine ⟨⟨m.os, m.tape, m.output, Nat.le_trans m.size (by simp)⟩, fun b u e1 e2 => JE _ _ _ _ (f b u e1 e2), hN, un (bk w.heap.size o) hO, n1, ?_, ?_, s1.trans (JE _ _), ?_, p, ?_⟩
 ·intro b hb hb2
  have : b ≠ w.heap.size := by have := m.size; omega
  simp [un, bk, this, n2 b hb hb2]
 ·exact Dj.Ye (djN _ s1).symm d
 ·refine Sub.XY (fun b u e => ?_) (s2.trans (JE _ _))
  unfold bk at e
  split at e
  ·rename_i hb; subst hb; simp at e; subst e; exact JY _ _
  ·cases e
 ·exact ⟨_, hO, djN _ s2, Sub.YC _ _, Sub.Ye (djN _ s2), hx _ p, q⟩
theorem St.alloc {x : HO} (o : Obj) (hx : x.p em (bk w.heap.size o)) (h : St w0 hA hV ps os w) : St w0 hA hV ps (x :: os) (w.alloc o) :=
 h.allocP o fun a _ => x.mono _ _ _ _ (Sub.em _) (Sub.refl _) hx
theorem St.box (cs : List Value) (T : TypeId) (h : St w0 hA hV ps os w) : St w0 hA hV ps (boxO w.heap.size cs T :: os) (w.alloc (.cells cs.toArray T)) :=
 h.alloc _ (by simp [boxO, bk])
theorem St.change (i : Nat) {x y : HO} (hi : os[i]? = some x) (hm : Met w w') (h : St w0 hA hV ps os w)
    (hc : ∀ hP hO, Sub hO (hp w) → x.p hP hO → ∃ hO', y.p hP hO' ∧ Sub hO' (hp w') ∧ (∀ b, hO' b ≠ none → hO b ≠ none) ∧ ∀ b o, hp w b = some o → hO b = none → hp w' b = some o) : St w0 hA hV ps (os.set i y) w' := by
 obtain ⟨m, f, hN, hO, n1, n2, d, s1, s2, p, q⟩ := h
 obtain ⟨h1, h2, e, t1, t2, r, s⟩ := Sep.take i os hi q
 obtain ⟨h1', k1, k2, k3, k4⟩ := hc _ h1 (t1.trans s2) r
 have hk3 : ∀ b, h1 b = none → h1' b = none := fun b hb => by
  cases eq : h1' b with
  | none => rfl
  | some u => exact absurd hb (k3 b (by rw [eq]; simp))
 have dj' : ∀ k : Hp, Dj h1 k → Dj h1' k := fun k hk b => (hk b).imp (hk3 b) id
 have keep : ∀ k : Hp, Dj h1 k → Sub k (hp w) → Sub k (hp w') := fun k hk hs b o eb => by
  refine k4 b o (hs b o eb) ?_
  rcases hk b with z | z
  ·exact z
  ·rw [eb] at z; cases z
 have dN : Dj h1 hN := (d.sub (Sub.refl _) t1).symm
 refine ⟨m.trans hm, fun b o e1 e2 => ?_, hN, un h1' h2, n1, ?_, Dj.Ye (dj' _ dN).symm (d.sub (Sub.refl _) t2), keep _ dN s1, Sub.XY k2 (keep _ e (t2.trans s2)), p, ?_⟩
 ·refine k4 b o (f b o e1 e2) ?_
  have hb : b < w0.heap.size := U6 e1
  cases eq : h1 b with
  | none => rfl
  | some u => have := t1 _ _ eq; rw [n2 b hb e2] at this; cases this
 ·intro b hb hb2
  have z := n2 b hb hb2
  have z1 : h1 b = none := by
   cases eq : h1 b with
   | none => rfl
   | some u => have := t1 _ _ eq; rw [z] at this; cases this
  have z2 : h2 b = none := by
   cases eq : h2 b with
   | none => rfl
   | some u => have := t2 _ _ eq; rw [z] at this; cases this
  simp [un, hk3 b z1, z2]
 ·exact Sep.back i os (by rcases Nat.lt_or_ge i os.length with g | g; exact g; rw [List.getElem?_eq_none g] at hi; cases hi) (dj' _ e) k1 s
theorem Z2U (w : World) (a : Addr) (v : Value) {b : Nat} (h : b ≠ a.block) : hp (w.setCell a v) b = hp w b := by
 simp only [hp, World.setCell, Array.getElem?_modify]
 rw [if_neg (Ne.symm h)]
theorem Z2V (w : World) (b off : Nat) (v : Value) {cs : Array Value} {T : TypeId} {fr : Nat × Nat} (h : hp w b = some (.cells cs T fr)) :
    hp (w.setCell ⟨b, off, none⟩ v) b = some (.cells (cs.setIfInBounds off v) T fr) := by
 simp only [hp] at h
 simp [hp, World.setCell, Array.getElem?_modify, h]
theorem Met.setCell (w : World) (a : Addr) (v : Value) : Met w (w.setCell a v) := ⟨rfl, rfl, rfl, by simp [World.setCell]⟩
theorem St.set (i : Nat) {b : Nat} {cs : List Value} {T : TypeId} (off : Nat) (v : Value) (hi : os[i]? = some (boxO b cs T)) (h : St w0 hA hV ps os w) :
    St w0 hA hV ps (os.set i (boxO b (cs.set off v) T)) (w.setCell ⟨b, off, none⟩ v) := by
 refine h.change i hi (Met.setCell _ _ _) fun hP hO hs hx => ⟨bk b (.cells (cs.set off v).toArray T (0, 0)), by simp [boxO, bk], fun b' o e => ?_, fun b' hb' => ?_, fun b' o e1 e2 => ?_⟩
 ·unfold bk at e
  split at e
  ·rename_i hb; subst hb; simp at e; subst e
   have := Z2V w b' off v (hs _ _ hx)
   simpa using this
  ·cases e
 ·unfold bk at hb'
  split at hb'
  ·rename_i hb; subst hb; rw [show hO b' = _ from hx]; simp
  ·simp at hb'
 ·rw [Z2U]; exact e1
  intro e; subst e
  rw [show hO _ = _ from hx] at e2; cases e2
def HO.toP (x : HO) : HP := ⟨fun h => x.p h h, fun _ _ s p => x.mono _ _ _ _ s s p⟩
theorem St.freeze (i : Nat) {x : HO} (hi : os[i]? = some x) (dj : Dj hV hA) (sV : Sub hV (hp w0)) (h : St w0 hA hV ps os w) : St w0 hA hV (x.toP :: ps) (os.eraseIdx i) w := by
 obtain ⟨m, f, hN, hO, n1, n2, d, s1, s2, p, q⟩ := h
 obtain ⟨h1, h2, e, t1, t2, r, s⟩ := Sep.take i os hi q
 have dN : Dj hN h1 := d.sub (Sub.refl _) t1
 have dV : Dj hV h1 := fun b => by
  cases eq : hV b with
  | none => exact .inl rfl
  | some u =>
   refine .inr ?_
   have hb := U6 (sV _ _ eq)
   have hAe : hA b = none := (dj b).resolve_left (by rw [eq]; simp)
   cases eq2 : h1 b with
   | none => rfl
   | some z => have := t1 _ _ eq2; rw [n2 b hb hAe] at this; cases this
 have sub1 : Sub (un hV hN) (un hV (un hN h1)) := fun b o eb => by
  simp only [un] at eb ⊢
  cases h1' : hV b with
  | some u => rw [h1'] at eb; simpa using eb
  | none => rw [h1'] at eb; simp at eb; simp [eb]
 have sub2 : Sub h1 (un hV (un hN h1)) := fun b o eb => by
  simp only [un]
  have z1 : hV b = none := (dV b).resolve_right (by rw [eb]; simp)
  have z2 : hN b = none := (dN b).resolve_right (by rw [eb]; simp)
  simp [z1, z2, eb]
 refine ⟨m, f, un hN h1, h2, ?_, ?_, Dj.YC (d.sub (Sub.refl _) t2) e, Sub.XY s1 (t1.trans s2), t2.trans s2, ?_, Sep.mono _ sub1 (Sub.refl _) s⟩
 ·intro b hb hb2
  have z := n2 b hb hb2
  cases eq : h1 b with
  | none => simp [un, n1 b hb hb2, eq]
  | some u => have := t1 _ _ eq; rw [z] at this; cases this
 ·intro b hb hb2
  cases eq : h2 b with
  | none => rfl
  | some u => have := t2 _ _ eq; rw [n2 b hb hb2] at this; cases this
 ·intro y hy
  rcases List.mem_cons.1 hy with rfl | hy
  ·exact x.mono _ _ _ _ sub1 sub2 r
  ·exact y.mono _ _ sub1 (p y hy)
end
end Go.Q
