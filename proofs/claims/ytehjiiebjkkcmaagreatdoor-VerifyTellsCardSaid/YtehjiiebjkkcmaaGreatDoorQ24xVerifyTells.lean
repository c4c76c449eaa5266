/- Words of this seat: parts of a row of one's own, copies into it (elements of one cell). -/
import Derived.Test.YtehjiiebjkkcmaaGreatDoorQ23xVerifyTells
import Derived.Laws.CopyRow
set_option linter.unusedVariables false
set_option linter.unusedSimpArgs false
namespace Go.Q
def partV (v : Value) (lo hi : Nat) : Value := match v with
 | .slice a _ cap => .slice (if cap = lo then a else a.map (·.add (lo * 1))) (hi - lo) (cap - lo)
 | _ => v
theorem Z1y {g i : Nat} : (⟨g, 0, none⟩ : Addr).add i = ⟨g, i, none⟩ := by
 simp only [Addr.add]
 by_cases h : i = 0
 ·subst h; simp
 ·simp [h]
theorem KI {α : Type} {k : Kd α} (h1 : k.sz = 1) {a : Hp} : ∀ {xs : List α} {cells : List Value} (i : Nat), Flat k a cells xs → Flat k a (cells.take i) (xs.take i) ∧ Flat k a (cells.drop i) (xs.drop i)
 | [], cells, i, h => by
  obtain rfl : cells = [] := h
  simp [Flat]
 | x :: xs, cells, 0, h => ⟨rfl, by simpa using h⟩
 | x :: xs, cells, i + 1, ⟨cs, rest, e, r, f⟩ => by
  have hl := k.len _ _ _ r
  rw [h1] at hl
  obtain ⟨c, rfl⟩ := List.length_eq_one_iff.1 hl
  subst e
  obtain ⟨p, q⟩ := KI h1 i f
  refine ⟨?_, by simpa using q⟩
  show Flat k a ([c] ++ rest.take i) (x :: xs.take i)
  exact ⟨[c], _, rfl, r, p⟩
section
variable {P : Program} {n : Fr} {ρ : Option Nat} {σ : List (Nat × Value)} {w0 : World} {hA hV : Hp} {ps : List HP} {os : List HO} {L l : List Oper} {Q : Cont} {d : Nat} {dd : Option Nat} {t e tr : TypeId} {x y : Operand} {pos : String} {af : Array Edge} {g : Option (Nat × Bool)} {v u : Value} {α : Type} {k : Kd α} {xs ys : List α}
theorem Val.sliceFrom (see : Sees w0 hA hV) (i : Nat) {T : TypeId} (hi : os[i]? = some (slO k T v xs)) (hu : P.underlying t = some (.slice e)) (hs : (P.info? e).map (·.size) = some 1) {ik : IntKind} {z : Int} (hx : ev σ x = some v) (hy : ev σ y = some (.int ik z)) (h0 : 0 ≤ z ∧ z ≤ xs.length) :
    Val P n σ (St w0 hA hV ps os) ⟨dd, .slice t x (some y) none none, tr, pos, af, g⟩ (partV v z.toNat xs.length) := by
 intro a w ha hw
 obtain ⟨cells, f, hl, hr⟩ := St.own i hi see.sub see.dj hw
 have hle : ∃ b c, v = .slice b xs.length c ∧ xs.length ≤ c := by
  rcases hr with ⟨rfl, hn⟩ | ⟨g', cap, cur, rfl, -, hle, -⟩
  ·exact ⟨_, _, by rw [hn], by omega⟩
  ·exact ⟨_, _, rfl, hle⟩
 obtain ⟨b, c, rfl, hc⟩ := hle
 cases hq : P.info? e with
 | none => simp [hq] at hs
 | some j =>
  have hj : j.size = 1 := by simpa [hq] using hs
  have hb := run_sliceBound (P := P) (w := w) ik z xs.length .sliceB h0.1 h0.2
  simp [execOp, ha.eval hx, ha.eval hy, Instr.sliceAt, Instr.slice, run_underlying hu, Instr.sliceBounds, hb, sizeOf, typeInfo, hq, hj, partV]
theorem Val.sliceTo (see : Sees w0 hA hV) (i : Nat) {T : TypeId} (hi : os[i]? = some (slO k T v xs)) (hu : P.underlying t = some (.slice e)) (hs : (P.info? e).map (·.size) = some 1) {ik : IntKind} {z : Int} (hx : ev σ x = some v) (hy : ev σ y = some (.int ik z)) (h0 : 0 ≤ z ∧ z ≤ xs.length) :
    Val P n σ (St w0 hA hV ps os) ⟨dd, .slice t x none (some y) none, tr, pos, af, g⟩ (partV v 0 z.toNat) := by
 intro a w ha hw
 obtain ⟨cells, f, hl, hr⟩ := St.own i hi see.sub see.dj hw
 have hle : ∃ b c, v = .slice b xs.length c ∧ xs.length ≤ c := by
  rcases hr with ⟨rfl, hn⟩ | ⟨g', cap, cur, rfl, -, hle, -⟩
  ·exact ⟨_, _, by rw [hn], by omega⟩
  ·exact ⟨_, _, rfl, hle⟩
 obtain ⟨b, c, rfl, hc⟩ := hle
 cases hq : P.info? e with
 | none => simp [hq] at hs
 | some j =>
  have hj : j.size = 1 := by simpa [hq] using hs
  have hb := run_sliceBound (P := P) (w := w) ik z c .sliceAcap h0.1 (by omega)
  simp [execOp, ha.eval hx, ha.eval hy, Instr.sliceAt, Instr.slice, run_underlying hu, Instr.sliceBounds, hb, sizeOf, typeInfo, hq, hj, partV]
theorem Z2C {w : World} {a h : Hp} (sa : Sub a (hp w)) (sh : Sub h (hp w)) (hu : P.underlying t = some (.slice e)) (hs : (P.info? e).map (·.size) = some 1) (h1 : k.sz = 1)
    {cells : List Value} (hf : Flat k a cells xs) (hr : Row e k.sz h v xs.length cells) (o : Nat) (ho : o ≤ xs.length) {A : Option Addr} {m cap : Nat} {news : List Value} (hA0 : A = none → m = 0 ∧ cap = 0) (hnl : news.length = min m (xs.length - o)) (hc : ∀ ad, A = some ad → ∀ j c, news[j]? = some c → w.cell? (ad.add j) = some c)
    {zs : List α} (hz : Flat k a news zs) {ty : TypeId} :
    ∃ w' h', (Builtin.copy_ #[t, t] ty #[partV v o xs.length, .slice A m cap]).run P w = .ok (goInt news.length) w' ∧ Met w w' ∧ (∀ b, b < w.heap.size → some b ≠ v.ownBlock → w'.heap[b]? = w.heap[b]?) ∧
     (slO k e v (xs.take o ++ zs ++ xs.drop (o + zs.length))).p a h' ∧ Sub h' (hp w') ∧ ∀ b, h' b ≠ none → h b ≠ none ∨ w.heap.size ≤ b := by
 have hzl : news.length = zs.length := by have := hz.len; rwa [h1, Nat.mul_one] at this
 cases hq : P.info? e with
 | none => simp [hq] at hs
 | some j =>
  have hj : j.size = 1 := by simpa [hq] using hs
  have keep : news = [] → (xs.take o ++ zs ++ xs.drop (o + zs.length)) = xs := fun e0 => by
   have : zs = [] := List.eq_nil_of_length_eq_zero (by rw [← hzl, e0]; rfl)
   subst this; simp
  obtain ⟨hl, ⟨rfl, hn⟩ | ⟨gg, cp, cur, rfl, hg, hle, hcm, hcs, ht⟩⟩ := id hr
  ·have e0 : news = [] := List.eq_nil_of_length_eq_zero (by rw [hnl]; omega)
   refine ⟨w, h, ?_, Met.refl w, fun _ _ _ => rfl, by rw [keep e0]; exact ⟨cells, hf, hr⟩, sh, fun b hb => .inl hb⟩
   subst e0
   have e1 : xs.length - o = 0 := by omega
   cases A with
   | none => simp [Builtin.copy_, partV, run_underlying hu, Builtin.lenOf, Builtin.firstCells, sizeOf, typeInfo, hq, storeCells, hn, e1]
   | some ad => simp [Builtin.copy_, partV, run_underlying hu, Builtin.lenOf, Builtin.firstCells, sizeOf, typeInfo, hq, storeCells, hn, e1, loadCells, loadCellsFrom]
  ·have hg' := sh _ _ hg
   cases A with
   | none =>
    obtain ⟨rfl, rfl⟩ := hA0 rfl
    have e0 : news = [] := List.eq_nil_of_length_eq_zero (by rw [hnl]; simp)
    refine ⟨w, h, ?_, Met.refl w, fun _ _ _ => rfl, by rw [keep e0]; exact ⟨cells, hf, hr⟩, sh, fun b hb => .inl hb⟩
    subst e0
    by_cases hc0 : cp = o
    ·simp [Builtin.copy_, partV, run_underlying hu, Builtin.lenOf, Builtin.firstCells, sizeOf, typeInfo, hq, storeCells, hc0]
    ·simp [Builtin.copy_, partV, run_underlying hu, Builtin.lenOf, Builtin.firstCells, sizeOf, typeInfo, hq, storeCells, hc0]
   | some ad =>
    have hcl : cells.length = xs.length := by rw [hl, h1, Nat.mul_one]
    have hcz : cur.size = cp := by rw [hcs, h1, Nat.mul_one]
    rw [h1, Nat.mul_one] at ht
    have key : ∀ o', (o' = o ∨ news = []) → o' ≤ cp - news.length →  (Builtin.copy_ #[t, t] ty #[.slice (some ⟨gg, o', none⟩) (xs.length - o) (cp - o), .slice (some ad) m cap]).run P w =
        .ok (goInt news.length) (w.setRow gg (cur.toList.take o ++ news ++ cur.toList.drop (o + news.length)).toArray) := fun o' h' hle' => by
     have hr2 := run_copy_row P w t t ty e gg o' (xs.length - o) (cp - o) ad m cap cur e news hu hs hg' hnl (fun j v hj => hc ad rfl j v hj) (by
      rcases h' with h' | h'
      ·omega
      ·rw [h'] at hle' ⊢; simp at hle' ⊢; omega) (Z0E hz.one)
     rw [hr2]
     rcases h' with rfl | rfl
     ·rfl
     ·simp
    have hrun : (Builtin.copy_ #[t, t] ty #[partV (.slice (some ⟨gg, 0, none⟩) xs.length cp) o xs.length, .slice (some ad) m cap]).run P w =
        .ok (goInt news.length) (w.setRow gg (cur.toList.take o ++ news ++ cur.toList.drop (o + news.length)).toArray) := by
     simp only [partV]
     by_cases hc0 : cp = o
     ·rw [if_pos hc0]
      have e0 : news = [] := List.eq_nil_of_length_eq_zero (by rw [hnl]; omega)
      exact key 0 (.inr e0) (Nat.zero_le _)
     ·rw [if_neg hc0]
      simp only [Option.map_some, Nat.mul_one, Z1y]
      exact key o (.inl rfl) (by omega)
    have hlen : (xs.take o ++ zs ++ xs.drop (o + zs.length)).length = xs.length := by
     simp only [List.length_append, List.length_take, List.length_drop]
     omega
    have hrow : Row e k.sz (fun b => if b = gg then some (.cells (cur.toList.take o ++ news ++ cur.toList.drop (o + news.length)).toArray e (0, 0)) else none) (.slice (some ⟨gg, 0, none⟩) xs.length cp) (xs.take o ++ zs ++ xs.drop (o + zs.length)).length (cells.take o ++ news ++ cells.drop (o + news.length)) := by
     refine ⟨?_, .inr ⟨gg, cp, _, by rw [hlen], if_pos rfl, by rw [hlen]; exact hle, hcm, ?_, ?_⟩⟩
     ·rw [hlen, h1]
      simp only [List.length_append, List.length_take, List.length_drop]
      omega
     ·simp only [List.size_toArray, List.length_append, List.length_take, List.length_drop, Array.length_toList]
      rw [h1]
      omega
     ·rw [hlen, h1, Nat.mul_one, ← ht]
      apply List.ext_getElem?
      intro q
      simp only [List.getElem?_take, List.getElem?_append, List.length_take, List.length_append, Array.length_toList, List.getElem?_drop]
      have m1 : min o cur.size = o := by omega
      have m2 : min o (min xs.length cur.size) = o := by omega
      rw [m1, m2]
      by_cases q1 : q < xs.length
      ·rw [if_pos q1]
       by_cases q2 : q < o
       ·have q3 : q < o + news.length := by omega
        simp [q2, q3, q1]
       ·by_cases q3 : q < o + news.length
        ·simp [q2, q3]
        ·simp only [q2, q3, if_false]
         rw [if_pos (by omega)]
      ·rw [if_neg q1]
       by_cases q2 : q < o
       ·omega
       ·have q3 : ¬ q < o + news.length := by omega
        simp only [q2, q3, if_false]
        rw [if_neg (by omega)]
    refine ⟨_, _, hrun, ⟨rfl, rfl, rfl, by simp⟩, fun b _ hb => setRow_other w gg b _ (fun e => hb (by simp [Value.ownBlock, e])), ⟨_, ?_, hrow⟩, ?_, ?_⟩
    ·obtain ⟨p1, p2⟩ := KI h1 o hf
     obtain ⟨q1, q2⟩ := KI h1 (o + zs.length) hf
     rw [hzl]
     exact (p1.append hz).append q2
    ·intro b u hb
     dsimp only at hb
     by_cases hbg : b = gg
     ·subst hbg
      rw [if_pos rfl] at hb
      show (w.setRow b _).heap[b]? = _
      rw [setRow_heap w b cur _ e _ hg']; exact hb
     ·rw [if_neg hbg] at hb; cases hb
    ·intro b hb
     by_cases hbg : b = gg
     ·subst hbg; exact .inl (by rw [hg]; exact fun h => by cases h)
     ·rw [if_neg hbg] at hb; exact absurd rfl hb
theorem SP.copyIn (see : Sees w0 hA hV) (i : Nat) (hi : os[i]? = some (slO k e v xs)) (j : Nat) (hj : ps[j]? = some (slP k u ys)) (hu : P.underlying t = some (.slice e)) (hs : (P.info? e).map (·.size) = some 1) (h1 : k.sz = 1)
    (hg : gd L σ g = some true) (hn : Nat.blt d n.n = true) (hx : ev σ x = some v) (hy : ev σ y = some u)
    (h : SP P n ρ ((d, .int .i64 (min ys.length xs.length : Nat)) :: σ) (St w0 hA hV ps (os.set i (slO k e v (ys.take xs.length ++ xs.drop ys.length)))) L l Q) : SP P n ρ σ (St w0 hA hV ps os) L (⟨some d, .call ⟨.builtin .copy, #[x, y], #[t, t]⟩, tr, pos, af, g⟩ :: l) Q := by
 refine SP.op (fun _ : Unit => .int .i64 (min ys.length xs.length : Nat)) (fun _ => St w0 hA hV ps (os.set i (slO k e v (ys.take xs.length ++ xs.drop ys.length)))) hg rfl hn (fun a w ha hw => ?_) (fun _ => h)
 obtain ⟨hP, hh, ⟨cells, f, r⟩, sP, s1, ap, back⟩ := hw.at i hi see
 obtain ⟨A, cap, rfl, hA0, news, hf2, hc⟩ := (ap.get j hj).cells sP
 have hl2 := hf2.len
 rw [h1, Nat.mul_one] at hl2
 obtain ⟨z1, z2⟩ := KI h1 xs.length hf2
 have hv0 : ∃ b c, v = .slice b xs.length c ∧ (partV v 0 xs.length = v) := by
  rcases r.2 with ⟨rfl, hn⟩ | ⟨g', cap, cur, rfl, -⟩
  ·exact ⟨_, _, by rw [hn], by simp [partV, hn]⟩
  ·refine ⟨_, _, rfl, ?_⟩
   simp only [partV, Nat.sub_zero]
   by_cases hc : cap = 0
   ·simp [hc]
   ·simp only [hc, if_false, Option.map_some, Nat.zero_mul, Z1y]
 have hle : A = none → ys.length = 0 := fun e => by rw [hA0 e]; rfl
 have hA0' : A = none → ys.length = 0 ∧ cap = 0 := fun e => by
  obtain ⟨A', cap', e', -, z, -⟩ := ap.get j hj
  simp only [Value.slice.injEq] at e'
  obtain ⟨rfl, -, rfl⟩ := e'
  obtain ⟨rfl, rfl⟩ := z e
  exact ⟨rfl, rfl⟩
 obtain ⟨w', h', q1, q2, q3, q4, q5, q6⟩ := Z2C (P := P) (ty := tr) sP s1 hu hs h1 f r 0 (Nat.zero_le _) (A := A) (m := ys.length) (cap := cap) (news := news.take xs.length) hA0' (by rw [List.length_take, hl2]; simp [Nat.min_comm]) (fun ad e j c hj => hc ad e j c (by
  rw [List.getElem?_take] at hj
  split at hj
  ·exact hj
  ·cases hj)) z1
 obtain ⟨b0, c0, rfl, hv1⟩ := hv0
 rw [hv1] at q1
 have el : (news.take xs.length).length = min ys.length xs.length := by rw [List.length_take, hl2, Nat.min_comm]
 rw [el] at q1
 have e3 : xs.take 0 ++ ys.take xs.length ++ xs.drop (0 + (ys.take xs.length).length) = ys.take xs.length ++ xs.drop ys.length := by
  rw [List.take_zero, List.nil_append, Nat.zero_add, List.length_take]
  by_cases hh : ys.length ≤ xs.length
  ·rw [Nat.min_eq_right hh]
  ·rw [Nat.min_eq_left (by omega), List.drop_eq_nil_of_le (Nat.le_refl _), List.drop_eq_nil_of_le (by omega)]
 rw [e3] at q4
 refine ⟨(), w', by simp [execOp, resolve, invoke, builtin, ha.eval hx, ha.eval hy, q1, goInt], back w' _ h' q2 (fun b hb hn => q3 b hb fun e => ?_) q4 q5 q6⟩
 exact r.block b e.symm hn
theorem SP.Z3k (see : Sees w0 hA hV) (i : Nat) (hi : os[i]? = some (slO k e v xs)) (hu : P.underlying t = some (.slice e)) (hs : (P.info? e).map (·.size) = some 1) (h1 : k.sz = 1) {o : Nat} (ho : o ≤ xs.length)
    (hg : gd L σ g = some true) (hn : Nat.blt d n.n = true) (hx : ev σ x = some (partV v o xs.length)) (hy : ev σ y = some (partV v 0 o))
    (h : SP P n ρ ((d, .int .i64 (min o (xs.length - o) : Nat)) :: σ) (St w0 hA hV ps (os.set i (slO k e v (xs.take o ++ xs.take (min o (xs.length - o)) ++ xs.drop (o + min o (xs.length - o)))))) L l Q) : SP P n ρ σ (St w0 hA hV ps os) L (⟨some d, .call ⟨.builtin .copy, #[x, y], #[t, t]⟩, tr, pos, af, g⟩ :: l) Q := by
 refine SP.op (fun _ : Unit => .int .i64 (min o (xs.length - o) : Nat)) (fun _ => St w0 hA hV ps (os.set i (slO k e v (xs.take o ++ xs.take (min o (xs.length - o)) ++ xs.drop (o + min o (xs.length - o)))))) hg rfl hn (fun a w ha hw => ?_) (fun _ => h)
 obtain ⟨hP, hh, ⟨cells, f, r⟩, sP, s1, ap, back⟩ := hw.at i hi see
 have hcl : cells.length = xs.length := by rw [r.1, h1, Nat.mul_one]
 obtain ⟨z1, z2⟩ := KI h1 (min o (xs.length - o)) f
 have hp : ∃ A cap, partV v 0 o = .slice A o cap ∧ (A = none → o = 0 ∧ cap = 0) ∧ ∀ ad, A = some ad → ∀ j c, cells[j]? = some c → w.cell? (ad.add j) = some c := by
  obtain ⟨hl, ⟨rfl, hn⟩ | ⟨gg, cp, cur, rfl, hg', hle, hcm, hcs, ht⟩⟩ := id r
  ·exact ⟨none, 0, by simp [partV], fun _ => ⟨by omega, rfl⟩, fun ad e => by cases e⟩
  ·refine ⟨some ⟨gg, 0, none⟩, cp, ?_, (fun e9 => by cases e9), fun ad e9 j c hj => ?_⟩
   ·simp only [partV, Nat.sub_zero]
    by_cases hc : cp = 0
    ·simp [hc]
    ·simp only [hc, if_false, Option.map_some, Nat.zero_mul, Z1y]
   ·obtain rfl : (⟨gg, 0, none⟩ : Addr) = ad := by simpa using e9
    rw [Z1y]
    have h2 := s1 _ _ hg'
    rw [← ht] at hj
    simp only [World.cell?]
    have h3 : w.heap[gg]? = some (.cells cur e (0, 0)) := h2
    rw [h3]
    have h4 := List.getElem?_take (l := cur.toList) (i := xs.length * k.sz) (j := j)
    rw [h4] at hj
    split at hj
    ·simpa using hj
    ·cases hj
 obtain ⟨A, cap, ep, hA0, hc⟩ := hp
 obtain ⟨w', h', q1, q2, q3, q4, q5, q6⟩ := Z2C (P := P) (ty := tr) sP s1 hu hs h1 f r o ho (A := A) (m := o) (cap := cap) (news := cells.take (min o (xs.length - o))) hA0 (by rw [List.length_take, hcl]; omega) (fun ad e j c hj => hc ad e j c (by
  rw [List.getElem?_take] at hj
  split at hj
  ·exact hj
  ·cases hj)) z1
 rw [← ep] at q1
 have el : (cells.take (min o (xs.length - o))).length = min o (xs.length - o) := by rw [List.length_take, hcl]; omega
 have el2 : (xs.take (min o (xs.length - o))).length = min o (xs.length - o) := by rw [List.length_take]; omega
 rw [el] at q1
 rw [el2] at q4
 refine ⟨(), w', by simp [execOp, resolve, invoke, builtin, ha.eval hx, ha.eval hy, q1, goInt], back w' _ h' q2 (fun b hb hn => q3 b hb fun e => ?_) q4 q5 q6⟩
 exact r.block b e.symm hn
theorem Z7p {b : Nat} {o : Obj} : bk b o b = some o := by simp [bk]
theorem Z2W {α : Type} {k : Kd α} (h1 : k.sz = 1) {a : Hp} {c : Value} {z : α} (hz : k.rd a [c] z) (m : Nat) : (madeCells #[c] (m * 1)).size = m ∧ Flat k a (madeCells #[c] (m * 1)).toList (List.replicate m z) := by
 have e : (madeCells #[c] (m * 1)).toList = List.replicate m c := by
  apply List.ext_getElem?
  intro i
  by_cases h : i < m
  ·simp [madeCells, h, Nat.mod_one]
  ·simp [madeCells, h]
 refine ⟨by rw [← Array.length_toList, e]; simp, ?_⟩
 rw [e]
 clear e
 induction m with
 | zero => rfl
 | succ m ih => exact ⟨[c], List.replicate m c, rfl, hz, ih⟩
theorem SP.makeO {c : Value} {z : α} {bytes : Nat} {kk : Int} {kl : IntKind} (hu : P.underlying t = some (.slice e)) (hi : (P.info? e).map (fun i => ((i.zero.map fun z => z.cells.toList), i.size, i.bytes)) = some (some [c], k.sz, bytes)) (h1 : k.sz = 1) (hz : ∀ a, k.rd a [c] z) (hg : gd L σ g = some true) (hn : Nat.blt d n.n = true)
    (hx : ev σ x = some (.int kl kk)) (hy : ev σ y = some (.int kl kk)) (hb : (0 : Int) ≤ kk ∧ (bytes : Int) * kk ≤ 281474976710656 ∧ (kk : Int) ≤ 9223372036854775807)
    (h : ∀ v, SP P n ρ ((d, v) :: σ) (St w0 hA hV ps (slO k e v (List.replicate kk.toNat z) :: os)) L l Q) : SP P n ρ σ (St w0 hA hV ps os) L (⟨some d, .makeSlice t x y, tr, pos, af, g⟩ :: l) Q := by
 obtain ⟨i, zz, i1, i2, i3, i4, i5⟩ := J2 hi
 refine SP.op (fun v : Value => v) (fun v => St w0 hA hV ps (slO k e v (List.replicate kk.toNat z) :: os)) hg rfl hn (fun a w ha hw => ⟨.slice (some ⟨w.heap.size, 0, none⟩) kk.toNat kk.toNat, _, ?_, hw.allocP (.cells (madeCells zz.cells (kk.toNat * i.size)) e) fun b hb' => ?_⟩) h
 ·have := run_make (P := P) w t e i zz hu i1 i2 kl kl kk kk hb.1 (Int.le_refl _) (by rw [i5]; exact hb.2.1) hb.2.2
  simp [execOp, ha.eval hx, ha.eval hy, this]
 ·have e1 : zz.cells = #[c] := i3
  have e2 : i.size = 1 := by rw [i4, h1]
  rw [e1, e2]
  obtain ⟨q1, q2⟩ := Z2W h1 (hz b) kk.toNat
  refine ⟨_, q2, ?_, .inr ⟨w.heap.size, kk.toNat, _, ?_, Z7p, ?_, ?_, ?_, ?_⟩⟩
  ·rw [Array.length_toList, q1, List.length_replicate, h1, Nat.mul_one]
  ·rw [List.length_replicate]
  ·rw [List.length_replicate]; exact Nat.le_refl _
  ·simp only [maxLen]; omega
  ·rw [q1, h1, Nat.mul_one]
  ·rw [List.length_replicate, h1]
   exact List.take_of_length_le (by rw [Array.length_toList, q1, Nat.mul_one]; exact Nat.le_refl _)
end
section
variable {P : Program} {n : Fr} {ρ : Option Nat} {σ : List (Nat × Value)} {A : World → Prop} {L : List Oper} {Q : Cont} {T : Nat → Bool} {listed : Array Bool}
theorem Z3l {ops : Array Oper} : ∀ (fuel : Nat) (listed : Array Bool) (a : Act) (w : World), wpAnyIn (FF ρ) 0 P .any ops Q fuel listed a w → wpT P ρ ops Q T (fun _ => True) fuel listed a w
 | 0, _, _, _, h => h
 | fuel + 1, listed, _, _, h => ⟨h.1, fun i hi => wpOpIn_mono (fun a' w' h' => ⟨fun _ => trivial, by
     cases hT : T i with
     | true => exact Z3l fuel _ a' w' h'
     | false => exact h'⟩) (h.2 i hi)⟩
theorem DT.free {fuel : Nat} (h : DA P n ρ σ A L Q fuel listed) : DT P n ρ σ A L Q T (fun _ => True) fuel listed := fun a w ha hw => Z3l _ _ _ _ (h a w ha hw)
end
section
variable {P : Program} {n : Fr} {σ : List (Nat × Value)} {A : World → Prop} {dd : Option Nat} {t e tr : TypeId} {x y : Operand} {pos : String} {af : Array Edge} {g : Option (Nat × Bool)} {v p p' : Value} {α : Type} {k : Kd α} {xs : List α} {x0 : α} {m m' : Nat}
def IxC (v : Value) (j : Int) (m : Nat) (p : Value) : Prop := PtC v m p ∧ ∃ len cap a, v = .slice (some a) len cap ∧ 0 ≤ j ∧ j < (len : Nat) ∧ p = .pointer (some (a.add m))
theorem ixC {w : World} {j : Int} (how : (slO k e v xs).p (hp w) (hp w)) (h0 : 0 ≤ j) (hj : xs[j.toNat]? = some x0) : ∃ p, IxC v j (j.toNat * k.sz) p := by
 have hlt := Wd hj
 obtain ⟨cells, f, hl, ⟨rfl, hn⟩ | ⟨gg, cap, cur, rfl, -⟩⟩ := how
 ·omega
 ·refine ⟨.pointer (some ⟨gg, j.toNat * k.sz, none⟩), ⟨gg, _, _, rfl, rfl⟩, _, _, _, rfl, h0, by omega, ?_⟩
  have : (⟨gg, 0, none⟩ : Addr).add (j.toNat * k.sz) = ⟨gg, j.toNat * k.sz, none⟩ := by unfold Addr.add; split <;> simp_all
  rw [this]
theorem Val.Z0K {s : Nat} {ik : IntKind} {j : Int} (h : IxC v j (j.toNat * s) p) (hu : P.underlying t = some (.slice e)) (hs : (P.info? e).map (·.size) = some s) (hx : ev σ x = some v) (hy : ev σ y = some (.int ik j)) :
    Val P n σ A ⟨dd, .indexAddr t x y, tr, pos, af, g⟩ p := fun a w ha _ => by
 obtain ⟨-, len, cap, ad, rfl, h0, hl, rfl⟩ := h
 simp [execOp, ha.eval hx, ha.eval hy, run_indexAt hu hs h0 hl]
theorem PtC.more (h : PtC v m p) (o : Nat) : ∃ p', PtC v (m + o) p' := by
 obtain ⟨b, len, cap, e, rfl⟩ := h
 exact ⟨_, b, len, cap, e, rfl⟩
theorem Val.fieldC {s f : Nat} {fs : Array Field} {fd : Field} (hp : PtC v m p) (hp' : PtC v m' p') (hu : P.underlying t = some (.struct fs)) (hf : fs[f]? = some fd) (hm : m' = m + fd.offset) (hs : (P.info? fd.type).map (·.size) = some (s + 1)) (hx : ev σ x = some p) :
    Val P n σ A ⟨dd, .fieldAddr t x f, tr, pos, af, g⟩ p' := by
 obtain ⟨b, len, cap, e1, rfl⟩ := id hp
 obtain ⟨b', len', cap', e2, rfl⟩ := hp'
 rw [e1] at e2
 simp only [Value.slice.injEq, Option.some.injEq, Addr.mk.injEq, and_true] at e2
 obtain ⟨rfl, -⟩ := e2
 subst hm
 intro a w ha _
 have hadd : (⟨b, m, none⟩ : Addr).add fd.offset = ⟨b, m + fd.offset, none⟩ := by unfold Addr.add; split <;> simp_all
 simp [execOp, ha.eval hx, UN hu hf hs, hadd]
end
theorem slO.flip {α : Type} {k : Kd α} {T : TypeId} {v : Value} {xs : List α} {a a2 b : Hp} (hk : ∀ a a2 cs x, k.rd a cs x → k.rd a2 cs x) (h : (slO k T v xs).p a b) : (slO k T v xs).p a2 b := by
 obtain ⟨cells, f, r⟩ := h
 refine ⟨cells, ?_, r⟩
 clear r
 induction xs generalizing cells with
 | nil => exact f
 | cons x xs ih => obtain ⟨cs, rest, e, q, f⟩ := f; exact ⟨cs, rest, e, hk _ _ _ _ q, ih _ f⟩
theorem Sep.fnil {a a2 b : Hp} (h : Sep a [] b) : Sep a2 [] b := trivial
theorem Sep.fcons {x : HO} {l : List HO} {a a2 : Hp} (hx : ∀ b, x.p a b → x.p a2 b) (hr : ∀ b, Sep a l b → Sep a2 l b) {b : Hp} : Sep a (x :: l) b → Sep a2 (x :: l) b :=
 fun ⟨h1, h2, d, s1, s2, p, q⟩ => ⟨h1, h2, d, s1, s2, hx _ p, hr _ q⟩
end Go.Q
