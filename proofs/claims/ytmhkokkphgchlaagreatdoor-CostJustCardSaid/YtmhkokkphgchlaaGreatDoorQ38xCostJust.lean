/- Words of this seat: pointers to elements of rows of one's own that are asked whether they are nil; how long a row is that is read out of such an element. -/
import Derived.Test.YtmhkokkphgchlaaGreatDoorQ37xCostJust
set_option linter.unusedVariables false
set_option linter.unusedSimpArgs false
namespace Go.Q
section
variable {P : Program} {n : Fr} {ρ : Option Nat} {σ : List (Nat × Value)} {A : World → Prop} {w0 w : World} {hA hV : Hp} {ps : List HP} {os : List HO} {d : Nat} {dd : Option Nat} {t e T T' tr : TypeId} {x y : Operand} {pos : String} {af : Array Edge} {g : Option (Nat × Bool)} {v u p : Value} {α β : Type} {k : Ko α} {kd : Kd β} {xs : List α} {x0 : α} {get : α → List β} {set : α → List β → α} {off m len : Nat} {j : Int}
theorem Val.nilCheckC (hp : PtC v m p) (hx : ev σ x = some p) : Val P n σ A ⟨dd, .nilCheck x, tr, pos, af, g⟩ p := by
 obtain ⟨b, len, cap, -, rfl⟩ := hp
 exact Val.nilCheck hx
theorem St.learnCn (lf : Leaf k off kd T' get set) (hx0 : xs[j.toNat]? = some x0) (h : St w0 hA hV ps (slD k T v xs :: os) w) : ∃ s, (∃ A cap, s = .slice A (get x0).length cap) ∧ St w0 hA hV ps (slDc k T v xs j off s :: os) w := by
 obtain ⟨mt, f, hN, hO, n1, n2, dd1, s1, s2, ap, h1, h2, e1, t1, t2, r, q⟩ := h
 obtain ⟨s, b, cap, cur, k1, k2, ev1, hb, hc, -, -, -, so, -⟩ := slD.focus lf r hx0
 refine ⟨s, ?_, mt, f, hN, hO, n1, n2, dd1, s1, s2, ap, h1, h2, e1, t1, t2, ⟨r, b, cap, cur, ev1, hb, hc⟩, q⟩
 obtain ⟨cells, f, hl, ⟨rfl, hn⟩ | ⟨g', cap', cur', rfl, -⟩⟩ := so
 ·exact ⟨none, 0, by rw [hn]⟩
 ·exact ⟨_, _, rfl⟩
theorem slDc.flat {s : Value} {a h H : Hp} (r : (slDc k T v xs j off s).p a h) (sa : Sub a H) (sh : Sub h H) : (slO k.kd T v xs).p H H := slD.flat r.1 sa sh
theorem Val.lenF (hl : ∃ A cap, v = .slice A len cap) (hu : P.underlying t = some (.slice e)) (hx : ev σ x = some v) : Val P n σ A ⟨dd, .call ⟨.builtin .len, #[x], #[t]⟩, tr, pos, af, g⟩ (.int .i64 (len : Int)) := by
 obtain ⟨B, cap, rfl⟩ := hl
 intro a w ha hw
 simp [execOp, resolve, invoke, builtin, ha.eval hx, Builtin.len_, run_underlying hu, goInt]
end
theorem Flat.take {α : Type} {k : Kd α} {a : Hp} : ∀ {xs : List α} {cells : List Value} (n : Nat), Flat k a cells xs → Flat k a (cells.take (n * k.sz)) (xs.take n)
 | [], _, n, f => by rw [show _ = [] from f, List.take_nil, List.take_nil]; rfl
 | x :: xs, _, 0, _ => by rw [Nat.zero_mul, List.take_zero, List.take_zero]; rfl
 | x :: xs, _, n + 1, ⟨cs, rest, e, r, f⟩ => ⟨cs, rest.take (n * k.sz), by
     have := k.len _ _ _ r
     rw [e, show (n + 1) * k.sz = cs.length + n * k.sz by rw [Nat.add_mul, this]; omega, List.take_length_add_append], r, Flat.take n f⟩
theorem zipO.pre {α : Type} {k : Ko α} {a : Hp} : ∀ {cs : List (List Value)} {xs : List α} {h : Hp} (n : Nat), (zipO k cs xs).p a h → (zipO k (cs.take n) (xs.take n)).p a h
 | _, _, _, 0, _ => by rw [List.take_zero, List.take_zero]; trivial
 | [], [], _, n + 1, _ => trivial
 | _ :: _, _ :: _, _, n + 1, ⟨h1, h2, d, s1, s2, p, q⟩ => ⟨h1, h2, d, s1, s2, p, zipO.pre n q⟩
 | [], _ :: _, _, _ + 1, h => h.elim
 | _ :: _, [], _, _ + 1, h => h.elim
section
variable {P : Program} {n : Fr} {ρ : Option Nat} {σ : List (Nat × Value)} {w0 w : World} {hA hV : Hp} {ps : List HP} {os : List HO} {L l : List Oper} {Q : Cont} {d : Nat} {t e tr : TypeId} {x y : Operand} {pos : String} {af : Array Edge} {g : Option (Nat × Bool)} {α : Type} {v : Value} {xs : List α} {ik : IntKind} {z : Int}
theorem SP.takeO {k : Kd α} (see : Sees w0 hA hV) (i : Nat) (hi : os[i]? = some (slO k e v xs)) (hu : P.underlying t = some (.slice e)) (hs : (P.info? e).map (·.size) = some k.sz) (hx : ev σ x = some v) (hy : ev σ y = some (.int ik z)) (h0 : 0 ≤ z ∧ z ≤ xs.length) (hg : gd L σ g = some true) (hn : Nat.blt d n.n = true)
    (h : ∀ s, SP P n ρ ((d, s) :: σ) (St w0 hA hV ps (os.set i (slO k e s (xs.take z.toNat)))) L l Q) : SP P n ρ σ (St w0 hA hV ps os) L (⟨some d, .slice t x none (some y) none, tr, pos, af, g⟩ :: l) Q := by
 refine SP.op (fun s : Value => s) (fun s => St w0 hA hV ps (os.set i (slO k e s (xs.take z.toNat)))) hg rfl hn (fun a w ha hw => ?_) h
 obtain ⟨hP, h1, ⟨cells, f, hl, hr⟩, sP, s1, ap, back⟩ := hw.at i hi see
 have hlen : (xs.take z.toNat).length = z.toNat := by rw [List.length_take]; omega
 have f2 := f.take z.toNat
 have hcl : (cells.take (z.toNat * k.sz)).length = z.toNat * k.sz := by rw [f2.len, hlen]
 have fin : ∀ s, Row e k.sz h1 s (xs.take z.toNat).length (cells.take (z.toNat * k.sz)) → St w0 hA hV ps (os.set i (slO k e s (xs.take z.toNat))) w := fun s q => back w _ h1 (Met.refl w) (fun b _ _ => rfl) ⟨_, f2, q⟩ s1 (fun b hb => .inl hb)
 cases hq : P.info? e with
 | none => simp [hq] at hs
 | some j =>
  have hj : j.size = k.sz := by simpa [hq] using hs
  rcases hr with ⟨rfl, hn0⟩ | ⟨gg, cap, cur, rfl, hgg, hle, hm, hsz, ht⟩
  ·obtain rfl : z = 0 := by omega
   have hb := run_sliceBound (P := P) (w := w) ik 0 0 .sliceAcap (by omega) (by omega)
   refine ⟨.slice none 0 0, w, by simp [execOp, ha.eval hx, ha.eval hy, Instr.sliceAt, Instr.slice, run_underlying hu, Instr.sliceBounds, hb, sizeOf, typeInfo, hq, hj], fin _ ⟨by rw [hcl, hlen], .inl ⟨rfl, by rw [hlen]; rfl⟩⟩⟩
  ·have hb := run_sliceBound (P := P) (w := w) ik z cap .sliceAcap h0.1 (by omega)
   have z0 : ∀ c : Addr, c.add 0 = c := fun c => by simp [Addr.add]
   refine ⟨.slice (some ⟨gg, 0, none⟩) z.toNat cap, w, by simp [execOp, ha.eval hx, ha.eval hy, Instr.sliceAt, Instr.slice, run_underlying hu, Instr.sliceBounds, hb, sizeOf, typeInfo, hq, hj, z0], fin _ ⟨by rw [hcl, hlen], .inr ⟨gg, cap, cur, by rw [hlen], hgg, by omega, hm, hsz, ?_⟩⟩⟩
   rw [hlen, ← ht, List.take_take, Nat.min_eq_left]
   exact Nat.mul_le_mul_right _ (by omega)
theorem SP.takeD {k : Ko α} (see : Sees w0 hA hV) (hu : P.underlying t = some (.slice e)) (hs : (P.info? e).map (·.size) = some k.kd.sz) (hx : ev σ x = some v) (hy : ev σ y = some (.int ik z)) (h0 : 0 ≤ z ∧ z ≤ xs.length) (hg : gd L σ g = some true) (hn : Nat.blt d n.n = true)
    (h : ∀ s, SP P n ρ ((d, s) :: σ) (St w0 hA hV ps (slD k e s (xs.take z.toNat) :: os)) L l Q) : SP P n ρ σ (St w0 hA hV ps (slD k e v xs :: os)) L (⟨some d, .slice t x none (some y) none, tr, pos, af, g⟩ :: l) Q := by
 refine SP.ex (fun w hw => St.opD hw) (fun css => ?_)
 refine SP.have (fun w hw => zipO.len (St.own 1 rfl see.sub see.dj hw)) (fun l1 => ?_)
 refine SP.takeO (k := kRaw k.kd.sz) see 0 rfl hu hs hx hy (by rw [l1]; exact h0) hg hn (fun s => ?_)
 refine SP.imp (fun w hw => ?_) (h s)
 exact St.clD (St.swap (St.map0 (fun a b q => zipO.pre z.toNat q) (St.swap hw)))
end
end Go.Q
