/- Words of this seat: variables that are lent, slices out of rows of one's own, a slice of an array. -/
import Derived.Test.YtehjiiebjkkcmaaGreatDoorQ30xVerifyTells
set_option linter.unusedVariables false
set_option linter.unusedSimpArgs false
namespace Go.Q
def preP (b : Nat) (pre : List Value) (T : TypeId) : HP := ⟨fun h => ∃ all : List Value, h b = some (.cells all.toArray T (0, 0)) ∧ ∀ (q : Nat) (u : Value), pre[q]? = some u → all[q]? = some u, fun _ _ s ⟨all, e, q⟩ => ⟨all, s _ _ e, q⟩⟩
theorem St.learnP {ι : Type} {w0 w : World} {hA hV : Hp} {ps : List HP} {os : List HO} {x : HP} {z : ι → HP} (h : St w0 hA hV ps os w) (i : Nat) (hi : ps[i]? = some x) (hz : ∀ a, x.p a → ∃ c, (z c).p a) : ∃ c, St w0 hA hV (z c :: ps) os w := by
 obtain ⟨m, f, hN, hO, n1, n2, d, s1, s2, p, q⟩ := h
 obtain ⟨c, hc⟩ := hz _ (p _ (List.mem_of_getElem? hi))
 refine ⟨c, m, f, hN, hO, n1, n2, d, s1, s2, fun y hy => ?_, q⟩
 rcases List.mem_cons.1 hy with rfl | hy
 ·exact hc
 ·exact p y hy
section
variable {P : Program} {n : Fr} {ρ : Option Nat} {σ : List (Nat × Value)} {w0 w : World} {hA hV : Hp} {ps : List HP} {os : List HO} {L l : List Oper} {Q : Cont} {d : Nat} {dd : Option Nat} {t tr e T : TypeId} {x y : Operand} {pos : String} {af : Array Edge} {g : Option (Nat × Bool)} {α β : Type} {k : Kd α} {N b m off : Nat} {xs : List α} {pre post : List Value} {j : Int} {ik : IntKind} {x0 z0 : α} {u v p : Value} {z : Int}
theorem arrK.preP {h : Hp} (hr : (arrK k b pre N xs post T).p h h) : (Go.Q.preP b pre T).p h := arrK.ahead hr
theorem Val.JH (see : Sees w0 hA hV) (i : Nat) {dsc : TypeDesc} (hi : ps[i]? = some (Go.Q.preP b pre T)) (hu : P.underlying t = some dsc) (hd : (match dsc with | .struct _ | .array _ _ => true | _ => false) = false)
    (hx : ev σ x = some (.pointer (some ⟨b, off, none⟩))) (hc : nv pre off = some u) : Val P n σ (St w0 hA hV ps os) ⟨dd, .load t x, tr, pos, af, g⟩ u := fun a w ha hw => by
 obtain ⟨all, hb, q⟩ := St.pers i hi see.sub see.dj hw
 rw [JF] at hc
 have hcell : w.cell? ⟨b, off, none⟩ = some u := by
  have hb' : w.heap[b]? = some (.cells all.toArray T (0, 0)) := hb
  simp [World.cell?, hb', q _ _ hc]
 simp [execOp, ha.eval hx, Instr.loadAt, Instr.sureAddr, XC hu hd hcell]
theorem SP.loadOS (see : Sees w0 hA hV) (i : Nat) (off : Nat) {k' : Kd β} {ys : List β} (hi : os[i]? = some (slO k e v xs)) (hj : xs[j.toNat]? = some x0) (hp : PtC v (j.toNat * k.sz + off) p) (hk : ∀ a cs, k.rd a cs x0 → ∃ s, cs[off]? = some s ∧ slR k' a s ys) {e' : TypeId} (hu : P.underlying t = some (.slice e'))
    (hx : ev σ x = some p) (hg : gd L σ g = some true) (hn : Nat.blt d n.n = true)
    (h : ∀ s, SP P n ρ ((d, s) :: σ) (St w0 hA hV (slP k' s ys :: ps) os) L l Q) : SP P n ρ σ (St w0 hA hV ps os) L (⟨some d, .load t x, tr, pos, af, g⟩ :: l) Q := by
 refine SP.op (fun s : Value => s) (fun s => St w0 hA hV (slP k' s ys :: ps) os) hg rfl hn (fun a w ha hw => ?_) h
 obtain ⟨m, fr, hN, hO, n1, n2, dj, s1, s2, pp, q0⟩ := id hw
 obtain ⟨h1, h2, e1, t1, t2, r0, s0⟩ := Sep.take i os hi q0
 obtain ⟨b, cap, cur, cs, ev', hb, r, q⟩ := slO.elem r0 hj
 obtain ⟨b', len', cap', e2, rfl⟩ := hp
 rw [ev'] at e2
 simp only [Value.slice.injEq, Option.some.injEq, Addr.mk.injEq, and_true] at e2
 obtain ⟨rfl, -⟩ := e2
 obtain ⟨s, c1, c2⟩ := hk _ _ r
 have h3 := q _ _ c1
 have hb' : w.heap[b]? = some (.cells cur e (0, 0)) := s2 _ _ (t1 _ _ hb)
 have hcell : w.cell? ⟨b, j.toNat * k.sz + off, none⟩ = some s := by simp [World.cell?, hb', h3]
 refine ⟨s, w, by simp [execOp, ha.eval hx, Instr.loadAt, Instr.sureAddr, XC hu rfl hcell], m, fr, hN, hO, n1, n2, dj, s1, s2, fun y hy => ?_, q0⟩
 rcases List.mem_cons.1 hy with rfl | hy
 ·exact c2
 ·exact pp y hy
theorem SP.sliceK (see : Sees w0 hA hV) (i : Nat) (hi : os[i]? = some (arrK k b pre N xs post T)) (hu : P.underlying t = some (.array N e)) (hs : (P.info? e).map (·.size) = some k.sz) (hx : ev σ x = some (.pointer (some ⟨b, m, none⟩))) (hm : pre.length = m) (hy : ev σ y = some (.int ik z)) (h0 : 0 ≤ z ∧ z ≤ N) (hg : gd L σ g = some true) (hn : Nat.blt d n.n = true)
    (h : ∀ s, SP P n ρ ((d, s) :: σ) (St w0 hA hV (slP k s (xs.take z.toNat) :: ps) (os.eraseIdx i)) L l Q) : SP P n ρ σ (St w0 hA hV ps os) L (⟨some d, .slice t x none (some y) none, tr, pos, af, g⟩ :: l) Q := by
 refine SP.op (fun s : Value => s) (fun s => St w0 hA hV (slP k s (xs.take z.toNat) :: ps) (os.eraseIdx i)) hg rfl hn (fun a w ha hw => ?_) h
 obtain ⟨_, _, hN, _⟩ := St.own i hi see.sub see.dj hw
 cases hq : P.info? e with
 | none => simp [hq] at hs
 | some jj =>
  have hj : jj.size = k.sz := by simpa [hq] using hs
  have hb := run_sliceBound (P := P) (w := w) ik z N .sliceAlen h0.1 (by omega)
  refine ⟨.slice (some ⟨b, m, none⟩) z.toNat N, w, by
   have z0 : ∀ c : Addr, c.add 0 = c := fun c => by simp [Addr.add]
   simp [execOp, ha.eval hx, ha.eval hy, Instr.sliceAt, Instr.slice, run_underlying hu, Instr.sliceBounds, hb, sizeOf, typeInfo, hq, hj, z0, Instr.sureAddr], ?_⟩
  have hf := hw.freeze i hi see.dj see.sub
  obtain ⟨c, hc⟩ := St.learnP hf (z := fun _ : Unit => slP k (.slice (some ⟨b, m, none⟩) z.toNat N) (xs.take z.toNat)) 0 rfl (fun h hh => ⟨(), by rw [← hm]; exact arrK.frozen hh (by omega) (by omega)⟩)
  exact St.imp (fun h q y hy => by
   rcases List.mem_cons.1 hy with rfl | hy
   ·exact q _ (by simp)
   ·exact q _ (by simp [hy])) (fun _ _ _ q => q) hc
end
end Go.Q
