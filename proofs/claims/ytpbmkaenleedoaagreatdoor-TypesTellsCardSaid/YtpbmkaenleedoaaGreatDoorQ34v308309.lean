/- Words of this seat: rows some of whose elements are one's own. -/
import Derived.Test.YtpbmkaenleedoaaGreatDoorQ33v308309
set_option linter.unusedVariables false
set_option linter.unusedSimpArgs false
namespace Go.Q
def Kd.opt {α : Type} (k : Kd α) : Kd (α × Bool) := ⟨k.sz, fun h cs x => k.rd h cs x.1, fun _ _ _ _ s r => k.mono _ _ _ _ s r, fun _ _ _ r => k.len _ _ _ r, fun _ _ _ r => k.cell _ _ _ r⟩
/-- Of each element it is told whether it is one's own. -/
def Ko.opt {α : Type} (k : Ko α) : Ko (α × Bool) :=
  ⟨k.kd.opt, fun c x => match x.2 with
    | true => k.ow c x.1
    | false => ⟨fun a _ => k.kd.rd a c x.1, fun _ _ _ _ sa _ r => k.kd.mono _ _ _ _ sa r⟩,
   fun {a h H c x} r sa sh => by
    obtain ⟨y, b⟩ := x
    cases b with
    | true => exact k.rd r sa sh
    | false => exact k.kd.mono _ _ _ _ sa r⟩
theorem flat_opt {α : Type} {k : Ko α} {a : Hp} : ∀ {xs : List α} {cells : List Value}, Flat k.kd a cells xs → ∃ css, Flat (kRaw k.kd.sz) a cells css ∧ css.length = xs.length ∧ ∀ h, (zipO k.opt css (xs.map fun z => (z, false))).p a h
  | [], cells, f => ⟨[], f, rfl, fun _ => trivial⟩
  | x :: xs, cells, ⟨cs, rest, e, r, f⟩ => by
    obtain ⟨css, f1, f2, f3⟩ := flat_opt f
    exact ⟨cs :: css, ⟨cs, rest, e, ⟨rfl, k.kd.len _ _ _ r, k.kd.cell _ _ _ r⟩, f1⟩, by simp [f2], fun h => ⟨em, em, Dj.em_left _, Sub.em _, Sub.em _, r, f3 em⟩⟩
theorem slO.toOpt {α : Type} {k : Ko α} {T : TypeId} {v : Value} {xs : List α} {a h : Hp} (r : (slO k.kd T v xs).p a h) : (slD k.opt T v (xs.map fun z => (z, false))).p a h := by
  obtain ⟨cells, f, hl, alt⟩ := r
  obtain ⟨css, f1, f2, f3⟩ := flat_opt f
  refine ⟨css, h, em, Dj.em_right _, Sub.refl _, Sub.em _, ⟨cells, f1, by rw [f2]; exact hl, ?_⟩, f3 em⟩
  rw [f2]; exact alt
theorem zipO.opt {α : Type} {k : Ko α} {a : Hp} : ∀ {xs : List (α × Bool)} {css : List (List Value)} {h : Hp}, (xs.all fun z => z.2) = true → (zipO k.opt css xs).p a h → (zipO k css (xs.map fun z => z.1)).p a h
  | [], [], _, _, q => q
  | (x, b) :: xs, c :: css, h, ha, ⟨h1, h2, d, s1, s2, p, q⟩ => by
    simp only [List.all_cons, Bool.and_eq_true] at ha
    obtain ⟨rfl, ha⟩ := ha
    exact ⟨h1, h2, d, s1, s2, p, zipO.opt ha q⟩
  | [], _ :: _, _, _, h => h.elim
  | _ :: _, [], _, _, h => h.elim
section
variable {P : Program} {n : Fr} {ρ : Option Nat} {σ : List (Nat × Value)} {w0 w : World} {hA hV : Hp} {ps : List HP} {os : List HO} {L l : List Oper} {Q : Cont} {d : Nat} {dd : Option Nat} {t e T T' tr : TypeId} {x y : Operand} {pos : String} {af : Array Edge} {g : Option (Nat × Bool)} {v u p s : Value} {α β : Type} {k : Ko α} {kd : Kd β} {j : Int} {off : Nat}
theorem St.toOpt {xs : List α} (h : St w0 hA hV ps (slO k.kd T v xs :: os) w) : St w0 hA hV ps (slD k.opt T v (xs.map fun z => (z, false)) :: os) w := St.map0 (fun _ _ r => slO.toOpt r) h
theorem St.fromOpt {xs : List (α × Bool)} (ha : (xs.all fun z => z.2) = true) (h : St w0 hA hV ps (slD k.opt T v xs :: os) w) : St w0 hA hV ps (slD k T v (xs.map fun z => z.1) :: os) w :=
  St.map0 (X := slD k.opt T v xs) (Y := slD k T v (xs.map fun z => z.1)) (fun _ _ r => by
    obtain ⟨css, h1, h2, d, s1, s2, p, q⟩ := r
    exact ⟨css, h1, h2, d, s1, s2, p, zipO.opt ha q⟩) h
/-- A slice is loaded out of an element that isn't one's own. -/
theorem SP.loadOF {xs : List (α × Bool)} {x0 : α × Bool} {ys : List β} (see : Sees w0 hA hV) (off : Nat) (hj : xs[j.toNat]? = some x0) (hf : x0.2 = false) (hp : PtC v (j.toNat * k.kd.sz + off) p) (hk : ∀ a cs, k.kd.rd a cs x0.1 → ∃ s, cs[off]? = some s ∧ slR kd a s ys) {e' : TypeId} (hu : P.underlying t = some (.slice e'))
    (hx : ev σ x = some p) (hg : gd L σ g = some true) (hn : Nat.blt d n.n = true)
    (h : ∀ s, SP P n ρ ((d, s) :: σ) (St w0 hA hV (slP kd s ys :: ps) (slD k.opt T v xs :: os)) L l Q) : SP P n ρ σ (St w0 hA hV ps (slD k.opt T v xs :: os)) L (⟨some d, .load t x, tr, pos, af, g⟩ :: l) Q := by
  refine SP.op (fun s : Value => s) (fun s => St w0 hA hV (slP kd s ys :: ps) (slD k.opt T v xs :: os)) hg rfl hn (fun a w ha hw => ?_) h
  obtain ⟨m, fr, hN, hO, n1, n2, dj, s1, s2, pp, q0⟩ := id hw
  obtain ⟨h1, h2, e1, t1, t2, r0, s0⟩ := id q0
  obtain ⟨css, g1, g2, dg, u1, u2, q, z⟩ := r0
  obtain ⟨c, z1, z2, hc, dz, y1, y2, ow, back⟩ := zipO.take z hj
  obtain ⟨x1, b1⟩ := x0
  obtain rfl : b1 = false := hf
  obtain ⟨b, cap, cur, cs, ev', hb, r, qc⟩ := slO.elem q hc
  obtain ⟨rfl, -, -⟩ := r
  obtain ⟨b', len', cap', e2, rfl⟩ := hp
  rw [ev'] at e2
  simp only [Value.slice.injEq, Option.some.injEq, Addr.mk.injEq, and_true] at e2
  obtain ⟨rfl, -⟩ := e2
  obtain ⟨s, c1, c2⟩ := hk _ _ ow
  have h3 := qc _ _ c1
  have hb' : w.heap[b]? = some (.cells cur T (0, 0)) := s2 _ _ (t1 _ _ (u1 _ _ hb))
  have hcell : w.cell? ⟨b, j.toNat * k.kd.sz + off, none⟩ = some s := by simp only [World.cell?, hb']; exact h3
  refine ⟨s, w, by simp [execOp, ha.eval hx, Instr.loadAt, Instr.sureAddr, run_loadVar_one hu rfl hcell], m, fr, hN, hO, n1, n2, dj, s1, s2, fun y hy => ?_, q0⟩
  rcases List.mem_cons.1 hy with rfl | hy
  · exact c2
  · exact pp y hy
/-- A row of one's own is stored into an element, which is one's own from then on. -/
theorem SP.storeOF {xs : List (α × Bool)} {x0 : α × Bool} {z0 : α} {ys : List β} (see : Sees w0 hA hV) (hj : xs[j.toNat]? = some x0) (hf : x0.2 = false) (hp : PtC v (j.toNat * k.kd.sz + off) p) (hv : s.cells = #[s]) (hone : one [s] = true) (hs : (P.info? t).map (·.size) = some 1) (hoff : Nat.ble (off + 1) k.kd.sz = true)
    (hrd : ∀ a h c, k.kd.rd a c x0.1 → (slO kd T' s ys).p a h → (k.ow (put c off [s]) z0).p a h) (hg : gd L σ g = some true) (hx : ev σ x = some p) (hy : ev σ y = some s)
    (h : SP P n ρ σ (St w0 hA hV ps (slD k.opt e v (xs.set j.toNat (z0, true)) :: os)) L l Q) : SP P n ρ σ (St w0 hA hV ps (slO kd T' s ys :: slD k.opt e v xs :: os)) L (⟨none, .store t x y, tr, pos, af, g⟩ :: l) Q := by
  refine SP.imp (fun w hw => St.swap hw) ?_
  refine SP.ex (fun w hw => St.opD hw) (fun css => ?_)
  refine SP.have (fun w hw => zipO.len (St.own 1 rfl see.sub see.dj hw)) (fun hl => ?_)
  obtain ⟨c, hc⟩ : ∃ c, css[j.toNat]? = some c := ⟨_, List.getElem?_eq_getElem (by rw [hl]; exact lt_of_get hj)⟩
  have hof : off + 1 ≤ k.kd.sz := by simpa using hoff
  refine SP.storeO (k := kRaw k.kd.sz) (x0 := c) (z0 := put c off [s]) (vs := [s]) see 0 rfl hc hp hv hone hs hoff (fun a cs _ r => ?_) hg hx hy ?_
  · obtain ⟨rfl, r2, r3⟩ := r
    exact ⟨rfl, by rw [put_len (by simpa using (by omega : off + 1 ≤ cs.length))]; exact r2, one_put r3 hone⟩
  · refine SP.imp (fun w hw => ?_) h
    refine St.clD (css := css.set j.toNat (put c off [s])) ?_
    refine St.swap ?_
    -- the row that is stored, and the elements, as the elements
    have hw2 := St.swap hw
    refine St.fold2 (X := zipO k.opt css xs) (Y := slO kd T' s ys) (fun a h1 h2 dj p q => ?_) (St.under hw2)
    obtain ⟨c1, z1, z2, hc1, dz, y1, y2, ow, back⟩ := zipO.take p hj
    rw [hc] at hc1
    obtain rfl := Option.some.inj hc1
    obtain ⟨x1, b1⟩ := x0
    obtain rfl : b1 = false := hf
    have d2 : Dj h2 z2 := dj.symm.sub (Sub.refl _) y2
    have := back a h2 (put c off [s]) (z0, true) (Sub.refl _) d2 (hrd a h2 c ow q)
    exact (zipO _ _ _).mono _ _ _ _ (Sub.refl _) (Sub.un_of (Sub.un_right dj) (y2.trans (Sub.un_left _ _))) this
end
end Go.Q
