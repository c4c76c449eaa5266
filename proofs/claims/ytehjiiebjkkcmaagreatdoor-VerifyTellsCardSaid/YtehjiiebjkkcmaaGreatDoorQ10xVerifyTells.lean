/- Words of this seat: rows of one's own whose elements' own memory is one's own too. -/
import Derived.Test.YtehjiiebjkkcmaaGreatDoorQ9xVerifyTells
set_option linter.unusedVariables false
set_option linter.unusedSimpArgs false
namespace Go.Q
def kRaw (m : Nat) : Kd (List Value) := ⟨m, fun _ cs x => cs = x ∧ x.length = m ∧ one x = true, fun _ _ _ _ _ h => h, fun _ _ _ ⟨e, l, _⟩ => by rw [e]; exact l, fun _ _ _ ⟨e, _, o⟩ => by rw [e]; exact o⟩
structure Ko (α : Type) where
 kd : Kd α
 ow : List Value → α → HO
 rd : ∀ {a h H : Hp} {c : List Value} {x : α}, (ow c x).p a h → Sub a H → Sub h H → kd.rd H c x
def zipO {α : Type} (k : Ko α) : List (List Value) → List α → HO
 | [], [] => HO.em
 | c :: cs, x :: xs => HO.and (k.ow c x) (zipO k cs xs)
 | _, _ => HO.pure False
theorem zipO.len {α : Type} {k : Ko α} {a : Hp} : ∀ {cs : List (List Value)} {xs : List α} {h : Hp}, (zipO k cs xs).p a h → cs.length = xs.length
 | [], [], _, _ => rfl
 | _ :: _, _ :: _, _, ⟨_, _, _, _, _, _, q⟩ => by simp [zipO.len q]
 | [], _ :: _, _, h => h.elim
 | _ :: _, [], _, h => h.elim
theorem zipO.append {α : Type} {k : Ko α} {a : Hp} : ∀ {cs : List (List Value)} {xs : List α} {ds : List (List Value)} {ys : List α} {h g : Hp}, Dj h g → (zipO k cs xs).p a h → (zipO k ds ys).p a g → (zipO k (cs ++ ds) (xs ++ ys)).p a (un h g)
 | [], [], _, _, h, g, dj, _, q => (zipO k _ _).mono _ _ _ _ (Sub.refl _) (Sub.Ye dj) q
 | _ :: _, _ :: _, _, _, h, g, dj, ⟨h1, h2, d, s1, s2, p, q⟩, r =>
  have dg2 := dj.sub s2 (Sub.refl _)
  have dg1 := dj.sub s1 (Sub.refl _)
  ⟨h1, un h2 g, Dj.Ye d dg1, s1.trans (Sub.YC _ _), Sub.XY (s2.trans (Sub.YC _ _)) (Sub.Ye dj), p, zipO.append dg2 q r⟩
 | [], _ :: _, _, _, _, _, _, h, _ => h.elim
 | _ :: _, [], _, _, _, _, _, h, _ => h.elim
theorem zipO.take {α : Type} {k : Ko α} {a : Hp} : ∀ {i : Nat} {cs : List (List Value)} {xs : List α} {h : Hp} {x : α}, (zipO k cs xs).p a h → xs[i]? = some x →
    ∃ c h1 h2, cs[i]? = some c ∧ Dj h1 h2 ∧ Sub h1 h ∧ Sub h2 h ∧ (k.ow c x).p a h1 ∧ ∀ a' h' c' x', Sub a a' → Dj h' h2 → (k.ow c' x').p a' h' → (zipO k (cs.set i c') (xs.set i x')).p a' (un h' h2)
 | _, [], [], _, _, _, hx => by simp at hx
 | 0, c :: cs, y :: xs, h, x, ⟨h1, h2, d, s1, s2, p, q⟩, hx => by
  simp at hx; subst hx
  exact ⟨c, h1, h2, rfl, d, s1, s2, p, fun a' h' c' x' sa dj r => ⟨h', h2, dj, Sub.YC _ _, Sub.Ye dj, r, (zipO k _ _).mono _ _ _ _ sa (Sub.refl _) q⟩⟩
 | i + 1, c :: cs, y :: xs, h, x, ⟨h1, h2, d, s1, s2, p, q⟩, hx => by
  obtain ⟨c1, g1, g2, hc, dj, t1, t2, r, back⟩ := zipO.take (i := i) q (by simpa using hx)
  refine ⟨c1, g1, un h1 g2, by simpa using hc, Dj.Ye (d.symm.sub t1 (Sub.refl _)) dj, t1.trans s2, Sub.XY s1 (t2.trans s2), r, fun a' h' c' x' sa dj' r' => ?_⟩
  have d1 : Dj h' h1 := dj'.sub (Sub.refl _) (Sub.YC _ _)
  have d2 : Dj h' g2 := dj'.sub (Sub.refl _) (Sub.Ye (d.sub (Sub.refl _) t2))
  refine ⟨h1, un h' g2, Dj.Ye d1.symm (d.sub (Sub.refl _) t2), ?_, ?_, (k.ow c y).mono _ _ _ _ sa (Sub.refl _) p, back a' h' c' x' sa d2 r'⟩
  ·exact (Sub.YC h1 g2).trans (Sub.Ye dj')
  ·exact Sub.XY (Sub.YC _ _) ((Sub.Ye (d.sub (Sub.refl _) t2)).trans (Sub.Ye dj'))
 | _, [], _ :: _, _, _, h, _ => h.elim
 | _, _ :: _, [], _, _, h, _ => h.elim
def slD {α : Type} (k : Ko α) (T : TypeId) (v : Value) (xs : List α) : HO := HO.ex fun css => HO.and (slO (kRaw k.kd.sz) T v css) (zipO k css xs)
theorem slD.nil {α : Type} (k : Ko α) (T : TypeId) (a : Hp) : (slD k T (.slice none 0 0) ([] : List α)).p a em := ⟨[], em, em, Dj.Yw _, Sub.em _, Sub.em _, slO.nil _ _ _, trivial⟩
theorem Z3e {α : Type} {k : Ko α} {a h H : Hp} : ∀ {css : List (List Value)} {xs : List α} {cells : List Value}, Flat (kRaw k.kd.sz) a cells css → (zipO k css xs).p a h → Sub a H → Sub h H → Flat k.kd H cells xs
 | [], [], _, f, _, _, _ => f
 | c :: css, x :: xs, cells, ⟨cs, rest, e, r, f⟩, ⟨h1, h2, d, s1, s2, p, q⟩, sa, sh => ⟨cs, rest, e, by
     have : cs = c := r.1
     rw [this]; exact k.rd p sa (s1.trans sh), Z3e f q sa (s2.trans sh)⟩
 | [], _ :: _, _, _, h, _, _ => h.elim
 | _ :: _, [], _, _, h, _, _ => h.elim
theorem slD.flat {α : Type} {k : Ko α} {T : TypeId} {v : Value} {xs : List α} {a h H : Hp} (r : (slD k T v xs).p a h) (sa : Sub a H) (sh : Sub h H) : (slO k.kd T v xs).p H H := by
 obtain ⟨css, h1, h2, d, s1, s2, ⟨cells, f, q⟩, z⟩ := r
 refine ⟨cells, Z3e f z sa (s2.trans sh), ?_⟩
 have := zipO.len z
 rw [this] at q
 exact q.mono (s1.trans sh)
theorem slD.read {α : Type} {k : Ko α} {T : TypeId} {v : Value} {xs : List α} {a h H : Hp} (r : (slD k T v xs).p a h) (sa : Sub a H) (sh : Sub h H) : slR k.kd H v xs := slO.read (slD.flat r sa sh) (Sub.refl _) (Sub.refl _)
theorem slD.shape {α : Type} {k : Ko α} {T : TypeId} {a h : Hp} {v : Value} {xs : List α} (r : (slD k T v xs).p a h) : v.oneCell' = true := by
 obtain ⟨css, h1, h2, d, s1, s2, q, z⟩ := r; exact slO.shape q
section
variable {P : Program} {n : Fr} {ρ : Option Nat} {σ : List (Nat × Value)} {w0 w : World} {hA hV : Hp} {ps : List HP} {os : List HO} {L l : List Oper} {Q : Cont} {d : Nat} {dd : Option Nat} {t e T tr : TypeId} {x y : Operand} {pos : String} {af : Array Edge} {g : Option (Nat × Bool)} {v u p : Value} {α β : Type} {k : Ko α} {xs ys : List α} {x0 z0 : α} {j : Int} {m off : Nat}
theorem Sep.swap {X Y : HO} {a b : Hp} : Sep a (X :: Y :: os) b → Sep a (Y :: X :: os) b
 | ⟨h1, r, d1, s1, s2, p, h2, r2, d2, t1, t2, q, s⟩ =>
  have d12 := d1.sub (Sub.refl _) t1
  have d1r := d1.sub (Sub.refl _) t2
  ⟨h2, un h1 r2, Dj.Ye d12.symm d2, t1.trans s2, Sub.XY s1 (t2.trans s2), q, h1, r2, d1r, Sub.YC _ _, Sub.Ye d1r, p, s⟩
theorem Sep.under {X : HO} {os os' : List HO} {a b : Hp} (f : ∀ h, Sep a os h → Sep a os' h) : Sep a (X :: os) b → Sep a (X :: os') b
 | ⟨h1, r, d1, s1, s2, p, s⟩ => ⟨h1, r, d1, s1, s2, p, f r s⟩
theorem St.swap {X Y : HO} (h : St w0 hA hV ps (X :: Y :: os) w) : St w0 hA hV ps (Y :: X :: os) w := h.imp (fun _ a => a) fun _ _ _ s => s.swap
theorem St.rot {X Y Z : HO} (h : St w0 hA hV ps (X :: Y :: Z :: os) w) : St w0 hA hV ps (Y :: Z :: X :: os) w := h.imp (fun _ a => a) fun _ _ _ s => Sep.under (fun _ s => s.swap) s.swap
theorem St.under {X Y Z : HO} (h : St w0 hA hV ps (X :: Y :: Z :: os) w) : St w0 hA hV ps (X :: Z :: Y :: os) w := h.imp (fun _ a => a) fun _ _ _ s => Sep.under (fun _ s => s.swap) s
theorem St.opD (h : St w0 hA hV ps (slD k T v xs :: os) w) : ∃ css, St w0 hA hV ps (slO (kRaw k.kd.sz) T v css :: zipO k css xs :: os) w := by
 obtain ⟨css, h1⟩ := St.open h
 exact ⟨css, St.and h1⟩
theorem St.fold2 {X Y Z : HO} (hz : ∀ a h1 h2, Dj h1 h2 → X.p a h1 → Y.p a h2 → Z.p a (un h1 h2)) (h : St w0 hA hV ps (X :: Y :: os) w) : St w0 hA hV ps (Z :: os) w :=
 h.imp (fun _ a => a) fun a b _ s0 => by
  obtain ⟨h1, r, d1, s1, s2, p, h2, r2, d2, t1, t2, q, s⟩ := s0
  have d12 := d1.sub (Sub.refl _) t1
  have d1r := d1.sub (Sub.refl _) t2
  exact ⟨un h1 h2, r2, Dj.YC d1r d2, Sub.XY s1 (t1.trans s2), t2.trans s2, hz a h1 h2 d12 p q, s⟩
theorem St.clD {css : List (List Value)} (h : St w0 hA hV ps (slO (kRaw k.kd.sz) T v css :: zipO k css xs :: os) w) : St w0 hA hV ps (slD k T v xs :: os) w :=
 St.fold2 (fun a h1 h2 dj p q => ⟨css, h1, h2, dj, Sub.YC _ _, Sub.Ye dj, p, q⟩) h
theorem SP.Z7A (see : Sees w0 hA hV) (hu : P.underlying t = some (.slice e)) {cs : List Value} {bytes : Nat} (hin : (P.info? e).map (fun i => ((i.zero.map fun z => z.cells.toList), i.size, i.bytes)) = some (some cs, k.kd.sz, bytes)) (hz : Nat.beq cs.length k.kd.sz = true) (hk : Nat.blt 0 k.kd.sz = true)
    (hb : (xs.length + ys.length) * bytes ≤ 140737488355328) (hb0 : Nat.blt 0 bytes = true) (hg : gd L σ g = some true) (hn : Nat.blt d n.n = true) (hx : ev σ x = some v) (hy : ev σ y = some u)
    (h : ∀ v', SP P n ρ ((d, v') :: σ) (St w0 hA hV ps (slD k e v' (xs ++ ys) :: os)) L l Q) : SP P n ρ σ (St w0 hA hV ps (slD k e v xs :: slD k e u ys :: os)) L (⟨some d, .call ⟨.builtin .append, #[x, y], #[t, t]⟩, tr, pos, af, g⟩ :: l) Q := by
 refine SP.ex (fun w hw => St.opD hw) (fun css => ?_)
 refine SP.imp (fun w hw => St.rot hw) ?_
 refine SP.imp (fun w hw => St.rot hw) ?_
 refine SP.ex (fun w hw => St.opD hw) (fun dss => ?_)
 refine SP.have (fun w hw => zipO.len (St.own 1 rfl see.sub see.dj hw)) (fun l2 => ?_)
 refine SP.have (fun w hw => zipO.len (St.own 3 rfl see.sub see.dj hw)) (fun l1 => ?_)
 refine SP.W9 see 0 rfl ?_
 refine SP.append (k := kRaw k.kd.sz) see 1 rfl 0 rfl hu hin hz hk (by rw [l1, l2]; exact hb) hb0 hg hn hx hy (fun v' => ?_)
 refine SP.imp (fun w hw => ?_) (h v')
 have h1 : St w0 hA hV ps (zipO k dss ys :: slO (kRaw k.kd.sz) e v' (css ++ dss) :: zipO k css xs :: os) w := St.dropP 1 hw
 have h2 := St.swap (St.under h1)
 have h3 := St.fold2 (Z := zipO k (css ++ dss) (xs ++ ys)) (fun a h1 h2 dj p q => zipO.append dj p q) h2
 exact St.clD (St.swap h3)
theorem St.group : ∀ (l : List HO) {os : List HO}, St w0 hA hV ps (l ++ os) w → St w0 hA hV ps (HO.seps l :: os) w
 | [], _, h => h.imp (fun _ a => a) fun _ b _ s => ⟨em, b, Dj.Yw _, Sub.em _, Sub.refl _, trivial, s⟩
 | X :: l, os, h => by
  have h1 : St w0 hA hV ps (X :: HO.seps l :: os) w := h.imp (fun _ a => a) fun a b al s0 => by
   obtain ⟨h1, r, d1, s1, s2, p, s⟩ := s0
   have key : ∀ (l : List HO) {b : Hp}, Sep a (l ++ os) b → ∃ g1 g2, Dj g1 g2 ∧ Sub g1 b ∧ Sub g2 b ∧ Sep a l g1 ∧ Sep a os g2 := by
    intro l
    induction l with
    | nil => intro b s; exact ⟨em, b, Dj.Yw _, Sub.em _, Sub.refl _, trivial, s⟩
    | cons Y l ih =>
     intro b ⟨k1, k2, d, t1, t2, q, s⟩
     obtain ⟨g1, g2, dg, u1, u2, sl, so⟩ := ih s
     have d1 := d.sub (Sub.refl _) u1
     have d2 := d.sub (Sub.refl _) u2
     exact ⟨un k1 g1, g2, Dj.YC d2 dg, Sub.XY t1 (u1.trans t2), u2.trans t2, ⟨k1, g1, d1, Sub.YC _ _, Sub.Ye d1, q, sl⟩, so⟩
   obtain ⟨g1, g2, dg, u1, u2, sl, so⟩ := key l s
   exact ⟨h1, r, d1, s1, s2, p, g1, g2, dg, u1, u2, sl, so⟩
  exact St.fold2 (fun a h1 h2 dj p q => ⟨h1, h2, dj, Sub.YC _ _, Sub.Ye dj, p, q⟩) h1
theorem St.map0 {X Y : HO} (f : ∀ a b, X.p a b → Y.p a b) (h : St w0 hA hV ps (X :: os) w) : St w0 hA hV ps (Y :: os) w :=
 h.imp (fun _ a => a) fun a b _ s0 => by
  obtain ⟨h1, r, d1, s1, s2, p, s⟩ := s0
  exact ⟨h1, r, d1, s1, s2, f _ _ p, s⟩
theorem zipO.one {a h : Hp} {c : List Value} (r : (k.ow c x0).p a h) : (zipO k [c] [x0]).p a h := ⟨h, em, Dj.XR _, Sub.refl _, Sub.em _, r, trivial⟩
theorem St.litD {c : List Value} (l : List HO) (h : St w0 hA hV ps (slO (kRaw k.kd.sz) T v [c] :: l ++ os) w) (f : ∀ a b, Sep a l b → (k.ow c x0).p a b) : St w0 hA hV ps (slD k T v [x0] :: os) w := by
 have h1 := St.group (slO (kRaw k.kd.sz) T v [c] :: l) h
 refine St.map0 (fun a b s => ?_) h1
 obtain ⟨h1, r, d1, s1, s2, p, s⟩ := s
 exact ⟨[c], h1, r, d1, s1, s2, p, zipO.one (f _ _ s)⟩
end
section
variable {P : Program} {n : Fr} {ρ : Option Nat} {σ : List (Nat × Value)} {A : World → Prop} {L l : List Oper} {Q : Cont} {d : Nat} {dd : Option Nat} {t e T tr : TypeId} {x y : Operand} {pos : String} {af : Array Edge} {g : Option (Nat × Bool)} {v u p : Value} {α : Type} {k : Kd α} {xs : List α} {x0 z0 : α} {j : Int} {m off : Nat}
theorem SP.indexW (how : ∀ w, A w → (slO k e v xs).p (hp w) (hp w)) (hu : P.underlying t = some (.slice e)) (hs : (P.info? e).map (·.size) = some k.sz) {ik : IntKind} (h0 : 0 ≤ j) (hj : xs[j.toNat]? = some x0) (hg : gd L σ g = some true) (hn : Nat.blt d n.n = true) (hx : ev σ x = some v) (hy : ev σ y = some (.int ik j))
    (h : ∀ p, PtC v (j.toNat * k.sz) p → SP P n ρ ((d, p) :: σ) A L l Q) : SP P n ρ σ A L (⟨some d, .indexAddr t x y, tr, pos, af, g⟩ :: l) Q := by
 have hlt := Wd hj
 refine SP.have (q := ∃ p, PtC v (j.toNat * k.sz) p ∧ ∃ len cap a, v = .slice (some a) len cap ∧ j < len ∧ p = .pointer (some (a.add (j.toNat * k.sz)))) (fun w hw => ?_) (fun ⟨p, hp, len, cap, a, hv, hl, he⟩ => ?_)
 ·obtain ⟨cells, f, hl, ⟨rfl, hn⟩ | ⟨gg, cap, cur, rfl, -⟩⟩ := how w hw
  ·omega
  ·refine ⟨.pointer (some ⟨gg, j.toNat * k.sz, none⟩), ⟨gg, _, _, rfl, rfl⟩, _, _, _, rfl, by omega, ?_⟩
   have : (⟨gg, 0, none⟩ : Addr).add (j.toNat * k.sz) = ⟨gg, j.toNat * k.sz, none⟩ := by unfold Addr.add; split <;> simp_all
   rw [this]
 ·subst hv; subst he
  exact SP.val (fun a' w ha _ => by simp [execOp, ha.eval hx, ha.eval hy, run_indexAt hu hs h0 hl]) hg rfl hn (h _ hp)
theorem Val.loadW1 (how : ∀ w, A w → (slO k e v xs).p (hp w) (hp w)) (hx0 : xs[j.toNat]? = some x0) (hp : PtC v (j.toNat * k.sz + off) p) (hk : ∀ a cs, k.rd a cs x0 → nv cs off = some u) {dsc : TypeDesc} (hu : P.underlying t = some dsc) (hd : (match dsc with | .struct _ | .array _ _ => true | _ => false) = false) (hx : ev σ x = some p) :
    Val P n σ A ⟨dd, .load t x, tr, pos, af, g⟩ u := fun a w ha hw => by
 obtain ⟨b, cap, cur, cs, e1, hb, r, q⟩ := slO.elem (how w hw) hx0
 obtain ⟨b', len', cap', e2, rfl⟩ := hp
 rw [e1] at e2
 simp at e2
 obtain ⟨rfl, -⟩ := e2
 have h1 := hk _ _ r
 rw [JF] at h1
 have hb' : w.heap[b]? = some (.cells cur e (0, 0)) := hb
 have : w.cell? ⟨b, j.toNat * k.sz + off, none⟩ = some u := by simp [World.cell?, hb', q off u h1]
 simp [execOp, ha.eval hx, Instr.loadAt, Instr.sureAddr, XC hu hd this]
end
section
variable {P : Program} {n : Fr} {ρ : Option Nat} {σ : List (Nat × Value)} {w0 w : World} {hA hV : Hp} {ps : List HP} {os : List HO} {L l : List Oper} {Q : Cont} {d : Nat} {dd : Option Nat} {t e T T' tr : TypeId} {x y : Operand} {pos : String} {af : Array Edge} {g : Option (Nat × Bool)} {v u p s : Value} {α β : Type} {k : Ko α} {kd : Kd β} {xs : List α} {x0 z0 : α} {j : Int} {i m off : Nat} {get : α → List β} {set : α → List β → α}
theorem zipO.put {a h : Hp} {css : List (List Value)} (z : (zipO k css xs).p a h) (hx : xs[i]? = some x0) {c c' : List Value} (hc : css[i]? = some c) (f : ∀ a h, (k.ow c x0).p a h → (k.ow c' z0).p a h) : (zipO k (css.set i c') (xs.set i z0)).p a h := by
 obtain ⟨c1, h1, h2, e, dj, s1, s2, ow, back⟩ := zipO.take z hx
 rw [hc] at e
 obtain rfl := Option.some.inj e
 exact (zipO k _ _).mono _ _ _ _ (Sub.refl _) (Sub.XY s1 s2) (back a h1 c' z0 (Sub.refl _) dj (f _ _ ow))
theorem QE.imp {A A' : World → Prop} {ex : Exit} (hx : ∀ w, A w → A' w) (h : QE n σ A' Q ex) : QE n σ A Q ex := fun a w ha hw => h a w ha (hx w hw)
end
theorem slO.whole {α : Type} {k : Kd α} {T : TypeId} {v : Value} {xs : List α} {w : World} (h : (slO k T v xs).p (hp w) (hp w)) : (slO k T v xs).p (hp w) (hp w) := h
section
variable {P : Program} {n : Fr} {ρ : Option Nat} {σ : List (Nat × Value)} {w0 w : World} {hA hV : Hp} {ps : List HP} {os : List HO} {L l : List Oper} {Q : Cont} {dd : Option Nat} {t tr : TypeId} {x : Operand} {pos : String} {af : Array Edge} {g : Option (Nat × Bool)} {v : Value}
theorem SP.Ky (see : Sees w0 hA hV) (i : Nat) {b : Nat} {cs : List Value} {T : TypeId} (hi : os[i]? = some (boxO b cs T)) (h : SP P n ρ σ (St w0 hA hV (boxP b cs T :: ps) (os.eraseIdx i)) L l Q) : SP P n ρ σ (St w0 hA hV ps os) L l Q :=
 SP.imp (fun w hw => hw.freeze i hi see.dj see.sub) h
theorem Val.loadB1 (see : Sees w0 hA hV) (i : Nat) {b off : Nat} {cs : List Value} {T : TypeId} {dsc : TypeDesc} (hi : ps[i]? = some (boxP b cs T)) (hu : P.underlying t = some dsc) (hd : (match dsc with | .struct _ | .array _ _ => true | _ => false) = false)
    (hx : ev σ x = some (.pointer (some ⟨b, off, none⟩))) (hc : nv cs off = some v) : Val P n σ (St w0 hA hV ps os) ⟨dd, .load t x, tr, pos, af, g⟩ (v) := by
 intro a w ha hw
 have hb : w.heap[b]? = some (.cells cs.toArray T (0, 0)) := St.pers i hi see.sub see.dj hw
 have hcell : w.cell? ⟨b, off, none⟩ = some v := by
  rw [JF] at hc
  simp [World.cell?, hb, hc]
 simp [execOp, ha.eval hx, Instr.loadAt, Instr.sureAddr, XC hu hd hcell]
end
end Go.Q
