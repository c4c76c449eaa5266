/- Words of this seat: rows of numbers of one's own that begin behind the first cell of their block. -/
import Derived.Test.YtmhkokkphgchlaaGreatDoorQ39xCostJust
set_option linter.unusedVariables false
set_option linter.unusedSimpArgs false
namespace Go.Q
open Go.Sort Go.Proofs
def slV (T : TypeId) (v : Value) (xs : List Int) : HO := ⟨fun _ h => (v = .slice none 0 0 ∧ xs = []) ∨ ∃ g o cap cur, v = .slice (some ⟨g, o, none⟩) xs.length cap ∧ h g = some (.cells cur T (0, 0)) ∧ xs.length ≤ cap ∧ cap ≤ maxLen ∧ o + cap ≤ cur.size ∧ ∀ (i : Nat) x, xs[i]? = some x → cur[o + i]? = some (.int .i64 x),
 fun _ _ _ _ _ sb h => h.imp id fun ⟨g, o, cap, cur, e, hg, z⟩ => ⟨g, o, cap, cur, e, sb _ _ hg, z⟩⟩
def PtV (v : Value) (m : Nat) (p : Value) : Prop := ∃ g o len cap, v = .slice (some ⟨g, o, none⟩) len cap ∧ p = .pointer (some ⟨g, o + m, none⟩)
theorem flatInt {ik : IntKind} {a : Hp} : ∀ {xs : List Int} {cells : List Value}, Flat (kInt ik) a cells xs → cells = xs.map (Value.int ik)
 | [], _, h => h
 | x :: xs, _, ⟨cs, rest, e, r, f⟩ => by rw [e, show cs = [.int ik x] from r, flatInt f]; rfl
theorem slV.of {T : TypeId} {v : Value} {xs : List Int} {a h : Hp} (r : (slO (kInt .i64) T v xs).p a h) : (slV T v xs).p a h := by
 obtain ⟨cells, f, hl, ⟨rfl, hn⟩ | ⟨g, cap, cur, rfl, hg, l, hm, hs, ht⟩⟩ := r
 ·exact .inl ⟨rfl, List.eq_nil_of_length_eq_zero hn⟩
 ·refine .inr ⟨g, 0, cap, cur, rfl, hg, l, hm, by rw [hs]; simp [kInt], fun i x hx => ?_⟩
  have hi := lt_of_get hx
  have e := flatInt f
  rw [← ht] at e
  have : (cur.toList.take (xs.length * (kInt .i64).sz))[i]? = some (.int .i64 x) := by rw [e, List.getElem?_map, hx]; rfl
  rw [List.getElem?_take_of_lt (by simpa [kInt] using hi)] at this
  simpa using this
theorem St.toV {w0 w : World} {hA hV : Hp} {ps : List HP} {os : List HO} {T : TypeId} {v : Value} {xs : List Int} (h : St w0 hA hV ps (slO (kInt .i64) T v xs :: os) w) : St w0 hA hV ps (slV T v xs :: os) w := St.map0 (fun _ _ r => slV.of r) h
section
variable {P : Program} {n : Fr} {ρ : Option Nat} {σ : List (Nat × Value)} {A : World → Prop} {w0 : World} {hA hV : Hp} {ps : List HP} {os : List HO} {L l : List Oper} {Q : Cont} {d : Nat} {dd : Option Nat} {t e T tr : TypeId} {x y : Operand} {pos : String} {af : Array Edge} {g : Option (Nat × Bool)} {v u p : Value} {xs ys : List Int} {x0 j z : Int} {ik : IntKind}
theorem Val.lenV (how : ∀ w, A w → (slV T v xs).p (hp w) (hp w)) (hu : P.underlying t = some (.slice e)) (hx : ev σ x = some v) : Val P n σ A ⟨dd, .call ⟨.builtin .len, #[x], #[t]⟩, tr, pos, af, g⟩ (.int .i64 (xs.length : Int)) := by
 intro a w ha hw
 rcases how w hw with ⟨rfl, rfl⟩ | ⟨g, o, cap, cur, rfl, -⟩ <;> simp [execOp, resolve, invoke, builtin, ha.eval hx, Builtin.len_, run_underlying hu, goInt]
theorem SP.indexV (how : ∀ w, A w → (slV e v xs).p (hp w) (hp w)) (hu : P.underlying t = some (.slice e)) (hs : (P.info? e).map (·.size) = some 1) (h0 : 0 ≤ j) (hj : xs[j.toNat]? = some x0) (hg : gd L σ g = some true) (hn : Nat.blt d n.n = true) (hx : ev σ x = some v) (hy : ev σ y = some (.int ik j))
    (h : ∀ p, PtV v j.toNat p → SP P n ρ ((d, p) :: σ) A L l Q) : SP P n ρ σ A L (⟨some d, .indexAddr t x y, tr, pos, af, g⟩ :: l) Q := by
 have hlt := lt_of_get hj
 refine SP.have (q := ∃ p, PtV v j.toNat p ∧ ∃ len cap a, v = .slice (some a) len cap ∧ j < len ∧ p = .pointer (some (a.add (j.toNat * 1)))) (fun w hw => ?_) (fun ⟨p, hp, len, cap, a, hv, hl, he⟩ => ?_)
 ·rcases how w hw with ⟨rfl, rfl⟩ | ⟨gg, o, cap, cur, rfl, -⟩
  ·simp at hlt
  ·refine ⟨.pointer (some ⟨gg, o + j.toNat, none⟩), ⟨gg, o, _, _, rfl, rfl⟩, _, _, _, rfl, by omega, ?_⟩
   rw [Nat.mul_one, Addr.add_lit]
 ·subst hv; subst he
  exact SP.val (fun a' w ha _ => by simp [execOp, ha.eval hx, ha.eval hy, run_indexAt hu hs h0 hl]) hg rfl hn (h _ hp)
theorem Val.loadV (how : ∀ w, A w → (slV e v xs).p (hp w) (hp w)) (hx0 : xs[j.toNat]? = some x0) (hp : PtV v j.toNat p) {dsc : TypeDesc} (hu : P.underlying t = some dsc) (hd : (match dsc with | .struct _ | .array _ _ => true | _ => false) = false) (hx : ev σ x = some p) :
    Val P n σ A ⟨dd, .load t x, tr, pos, af, g⟩ (.int .i64 x0) := fun a w ha hw => by
 obtain ⟨b', o', len', cap', e2, rfl⟩ := hp
 rcases how w hw with ⟨rfl, rfl⟩ | ⟨gg, o, cap, cur, e1, hb, -, -, -, q⟩
 ·simp at hx0
 ·rw [e1] at e2
  simp at e2
  obtain ⟨⟨rfl, rfl⟩, -⟩ := e2
  have hb' : w.heap[gg]? = some (.cells cur e (0, 0)) := hb
  have : w.cell? ⟨gg, o + j.toNat, none⟩ = some (.int .i64 x0) := by simp [World.cell?, hb', q _ _ hx0]
  simp [execOp, ha.eval hx, Instr.loadAt, Instr.sureAddr, run_loadVar_one hu hd this]
def IxV (v : Value) (j : Int) (p : Value) : Prop := PtV v j.toNat p ∧ ∃ len cap a, v = .slice (some a) len cap ∧ 0 ≤ j ∧ j < (len : Nat) ∧ p = .pointer (some (a.add (j.toNat * 1)))
theorem ixV {w : World} (how : (slV e v xs).p (hp w) (hp w)) (h0 : 0 ≤ j) (hj : xs[j.toNat]? = some x0) : ∃ p, IxV v j p := by
 have hlt := lt_of_get hj
 rcases how with ⟨rfl, rfl⟩ | ⟨gg, o, cap, cur, rfl, -⟩
 ·simp at hlt
 ·refine ⟨.pointer (some ⟨gg, o + j.toNat, none⟩), ⟨gg, o, _, _, rfl, rfl⟩, _, _, _, rfl, h0, by omega, ?_⟩
  rw [Nat.mul_one, Addr.add_lit]
theorem Val.indexV (h : IxV v j p) (hu : P.underlying t = some (.slice e)) (hs : (P.info? e).map (·.size) = some 1) (hx : ev σ x = some v) (hy : ev σ y = some (.int ik j)) :
    Val P n σ A ⟨dd, .indexAddr t x y, tr, pos, af, g⟩ p := fun a w ha _ => by
 obtain ⟨-, len, cap, ad, rfl, h0, hl, rfl⟩ := h
 simp [execOp, ha.eval hx, ha.eval hy, run_indexAt hu hs h0 hl]
theorem SP.dropV (see : Sees w0 hA hV) (i : Nat) (hi : os[i]? = some (slV e v xs)) (hu : P.underlying t = some (.slice e)) (hs : (P.info? e).map (·.size) = some 1) (hx : ev σ x = some v) (hy : ev σ y = some (.int ik z)) (h0 : 0 ≤ z ∧ z ≤ xs.length) (hg : gd L σ g = some true) (hn : Nat.blt d n.n = true)
    (h : ∀ s, SP P n ρ ((d, s) :: σ) (St w0 hA hV ps (os.set i (slV e s (xs.drop z.toNat)))) L l Q) : SP P n ρ σ (St w0 hA hV ps os) L (⟨some d, .slice t x (some y) none none, tr, pos, af, g⟩ :: l) Q := by
 refine SP.op (fun s : Value => s) (fun s => St w0 hA hV ps (os.set i (slV e s (xs.drop z.toNat)))) hg rfl hn (fun a w ha hw => ?_) h
 obtain ⟨hP, h1, r, sP, s1, ap, back⟩ := hw.at i hi see
 have fin : ∀ s, (slV e s (xs.drop z.toNat)).p hP h1 → St w0 hA hV ps (os.set i (slV e s (xs.drop z.toNat))) w := fun s q => back w _ h1 (Met.refl w) (fun b _ _ => rfl) q s1 (fun b hb => .inl hb)
 cases hq : P.info? e with
 | none => simp [hq] at hs
 | some k =>
  have hk : k.size = 1 := by simpa [hq] using hs
  have hb := run_sliceBound (P := P) (w := w) ik z xs.length .sliceB h0.1 h0.2
  rcases r with ⟨rfl, rfl⟩ | ⟨gg, o, cap, cur, rfl, hgg, hle, hm, hsz, q⟩
  ·obtain rfl : z = 0 := by have := h0.2; simp at this; omega
   refine ⟨.slice none 0 0, w, by simp only [List.length_nil] at hb; simp [execOp, ha.eval hx, ha.eval hy, Instr.sliceAt, Instr.slice, run_underlying hu, Instr.sliceBounds, hb, sizeOf, typeInfo, hq, hk], fin _ (.inl ⟨rfl, by simp⟩)⟩
  ·refine ⟨.slice (if cap = z.toNat then some ⟨gg, o, none⟩ else some ((⟨gg, o, none⟩ : Addr).add (z.toNat * 1))) (xs.length - z.toNat) (cap - z.toNat), w, by
    by_cases hc : cap = z.toNat <;> simp [execOp, ha.eval hx, ha.eval hy, Instr.sliceAt, Instr.slice, run_underlying hu, Instr.sliceBounds, hb, sizeOf, typeInfo, hq, hk, hc], fin _ ?_⟩
   have hlen : (xs.drop z.toNat).length = xs.length - z.toNat := List.length_drop
   by_cases hc : cap = z.toNat
   ·rw [if_pos hc]
    refine .inr ⟨gg, o, cap - z.toNat, cur, by rw [hlen], hgg, by rw [hlen]; omega, by omega, by omega, fun i x hx => ?_⟩
    have := lt_of_get hx
    rw [hlen] at this; omega
   ·rw [if_neg hc, Nat.mul_one, Addr.add_lit]
    refine .inr ⟨gg, o + z.toNat, cap - z.toNat, cur, by rw [hlen], hgg, by rw [hlen]; omega, by omega, by have := h0.2; omega, fun i x hx => ?_⟩
    rw [List.getElem?_drop] at hx
    rw [Nat.add_assoc]; exact q _ _ hx
theorem run_append_roomO {w : World} (t ty e : TypeId) (i : TypeInfo) (ht : P.underlying t = some (.slice e)) (hi : P.info? e = some i)
    (g o sLen sCap : Nat) (cur : Array Value) (hg : w.heap[g]? = some (.cells cur e (0, 0)))
    (a : Addr) (m c : Nat) (news : List Value) (hl : news.length = m * i.size) (hnews : ∀ j u, news[j]? = some u → w.cell? (a.add j) = some u) (h1 : ∀ u ∈ news, u.oneCell' = true)
    (hroom : sLen + m ≤ sCap) (hfit : o + sLen * i.size + news.length ≤ cur.size) :
    (Builtin.append_ #[t, t] ty #[.slice (some ⟨g, o, none⟩) sLen sCap, .slice (some a) m c]).run P w =
     .ok (.slice (some ⟨g, o, none⟩) (sLen + m) sCap) (w.setRow g (cur.toList.take (o + sLen * i.size) ++ news ++ cur.toList.drop (o + sLen * i.size + news.length)).toArray) := by
 have hf := run_firstCells_some (P := P) w i.size m a m c news hl hnews
 have hst := run_storeCells_at P g (o + sLen * i.size) e news 0 cur w hg (by simpa using hfit) h1
 simp only [Nat.add_zero] at hst
 simp [Builtin.append_, run_underlying ht, sizeOf, typeInfo, hi, Builtin.lenOf, hroom, hf, Addr.add_lit, hst]
theorem getMap {xs : List Int} {i : Nat} {x : Int} (h : xs[i]? = some x) : (xs.map (Value.int .i64))[i]? = some (.int .i64 x) := by rw [List.getElem?_map, h]; rfl
theorem SP.appendV (see : Sees w0 hA hV) (i : Nat) (hi : os[i]? = some (slV e v xs)) (jj : Nat) (hj : ps[jj]? = some (slP (kInt .i64) u ys)) (hu : P.underlying t = some (.slice e)) {cs : List Value} {bytes : Nat} (hin : (P.info? e).map (fun i => ((i.zero.map fun z => z.cells.toList), i.size, i.bytes)) = some (some cs, (kInt .i64).sz, bytes)) (hz : Nat.beq cs.length (kInt .i64).sz = true) (hk : Nat.blt 0 (kInt .i64).sz = true)
    (hb : (xs.length + ys.length) * bytes ≤ 140737488355328) (hb0 : Nat.blt 0 bytes = true) (hg : gd L σ g = some true) (hn : Nat.blt d n.n = true) (hx : ev σ x = some v) (hy : ev σ y = some u)
    (h : ∀ v', SP P n ρ ((d, v') :: σ) (St w0 hA hV ps (os.set i (slV e v' (xs ++ ys)))) L l Q) : SP P n ρ σ (St w0 hA hV ps os) L (⟨some d, .call ⟨.builtin .append, #[x, y], #[t, t]⟩, tr, pos, af, g⟩ :: l) Q := by
 have hb0' : 0 < bytes := by simpa using hb0
 have hz' : cs.length = 1 := by simpa [kInt] using hz
 have hm : xs.length + ys.length ≤ maxLen := by
  have : xs.length + ys.length ≤ (xs.length + ys.length) * bytes := Nat.le_mul_of_pos_right _ hb0'
  simp only [maxLen]; omega
 refine SP.op (fun v' : Value => v') (fun v' => St w0 hA hV ps (os.set i (slV e v' (xs ++ ys)))) hg rfl hn (fun a w ha hw => ?_) h
 obtain ⟨hP, h1, r, sP, s1, ap, back⟩ := hw.at i hi see
 obtain ⟨ti, zv, i1, i2, i3, i4, i5⟩ := zero_of hin
 have i4' : ti.size = 1 := by rw [i4]; rfl
 have hzs : zv.cells.size = 1 := by rw [i3]; simpa using hz'
 obtain ⟨A', cap', rfl, hA0, news, hf2, hc⟩ := slR.cells sP (ap.get jj hj)
 have hnw := flatInt hf2
 have hl2 : news.length = ys.length := by rw [hnw, List.length_map]
 -- it grows: a block of its own
 have fresh : ∀ (old : Nat), old < xs.length + ys.length → (∀ b, h1 b ≠ none → h1 b ≠ none) → 
     St w0 hA hV ps (os.set i (slV e (.slice (some ⟨w.heap.size, 0, none⟩) (xs.length + ys.length) (grownCap w (xs.length + ys.length) old e)) (xs ++ ys))) (w.drew.alloc (.cells ((xs.map (Value.int .i64)).toArray ++ news.toArray ++ Builtin.zeroCells zv.cells (grownCap w (xs.length + ys.length) old e - (xs.length + ys.length))) e)) := fun old ho _ => by
  have hge := grownCap_ge w (xs.length + ys.length) old e
  have hcm := grownCap_le_maxLen w (xs.length + ys.length) old e hm
  obtain ⟨C, hC⟩ : ∃ C : Array Value, C = (xs.map (Value.int .i64)).toArray ++ news.toArray ++ Builtin.zeroCells zv.cells (grownCap w (xs.length + ys.length) old e - (xs.length + ys.length)) := ⟨_, rfl⟩
  rw [← hC]
  refine back _ _ (bk w.heap.size (.cells C e)) ⟨rfl, rfl, rfl, by simp⟩ (fun b hb _ => ?_) (.inr ⟨w.heap.size, 0, _, C, by rw [List.length_append], by simp [bk], by rw [List.length_append]; exact hge, hcm, ?_, fun i x hx => ?_⟩) (fun b o eb => ?_) (fun b hb => ?_)
  ·show (w.heap.push _)[b]? = _
   rw [Array.getElem?_push, if_neg (by omega)]
  ·subst hC; simp only [Array.size_append, List.size_toArray, List.length_map, size_zeroCells, hzs, hl2]; omega
  ·have hi := lt_of_get hx
   rw [List.length_append] at hi
   rw [hC, Nat.zero_add, Array.getElem?_append_left (by simp only [Array.size_append, List.size_toArray, List.length_map, hl2]; exact hi), List.append_toArray, List.getElem?_toArray, hnw, ← List.map_append]
   exact getMap hx
  ·unfold bk at eb
   split at eb
   ·rename_i hbb; subst hbb; simp at eb; subst eb; exact heap_alloc_new w.drew _
   ·cases eb
  ·unfold bk at hb
   split at hb
   ·rename_i hbb; exact .inr (by omega)
   ·exact absurd rfl hb
 cases A' with
 | none =>
  obtain rfl := hA0 rfl
  have hn0 : news = [] := by simpa using hl2
  subst hn0
  refine ⟨v, w, ?_, back w _ h1 (Met.refl w) (fun _ _ _ => rfl) (by rw [List.append_nil]; exact r) s1 (fun _ hb => .inl hb)⟩
  have : ∃ b2 n2 c2, v = .slice b2 n2 c2 ∧ n2 ≤ c2 := by
   rcases r with ⟨rfl, -⟩ | ⟨g, o, cp, cur, rfl, -, hl, -⟩
   ·exact ⟨_, _, _, rfl, Nat.le_refl _⟩
   ·exact ⟨_, _, _, rfl, hl⟩
  obtain ⟨b2, n2, c2, rfl, hle⟩ := this
  cases b2 <;> simp [execOp, resolve, invoke, builtin, ha.eval hx, ha.eval hy, Builtin.append_, run_underlying hu, sizeOf, typeInfo, i1, Builtin.lenOf, hle, Builtin.firstCells, storeCells]
 | some ad =>
  have hnews : ∀ j c, news[j]? = some c → w.cell? (ad.add j) = some c := fun j c hj => hc ad rfl j c hj
  have hm' : xs.length + ys.length ≤ 9223372036854775807 := by simpa only [maxLen] using hm
  rcases r with ⟨rfl, rfl⟩ | ⟨gg, o, cp, cur, rfl, hgg, hle, hcm, hcs, q⟩
  ·by_cases h0 : ys.length = 0
   ·obtain rfl := List.eq_nil_of_length_eq_zero h0
    have hn0 : news = [] := by simpa using hl2
    subst hn0
    refine ⟨.slice none 0 0, w, by simp [execOp, resolve, invoke, builtin, ha.eval hx, ha.eval hy, Builtin.append_, run_underlying hu, sizeOf, typeInfo, i1, Builtin.lenOf, Builtin.firstCells, loadCells, loadCellsFrom], back w _ h1 (Met.refl w) (fun _ _ _ => rfl) (.inl ⟨rfl, rfl⟩) s1 (fun _ hb => .inl hb)⟩
   ·have hr := run_append_nil (P := P) w t tr e ti zv hu i1 i2 ad ys.length cap' news (by rw [i4', Nat.mul_one]; exact hl2) hnews (by omega) (by simp at hm'; omega) (by rw [i5]; simp at hb; omega)
    have := fresh 0 (by simp; omega) (fun _ h => h)
    simp only [List.length_nil, Nat.zero_add, List.nil_append, List.map_nil, Array.empty_append] at this ⊢
    exact ⟨_, _, by simp [execOp, resolve, invoke, builtin, ha.eval hx, ha.eval hy, hr], this⟩
  ·have hg' := s1 _ _ hgg
   by_cases hroom : xs.length + ys.length ≤ cp
   ·have hr2 := run_append_roomO (P := P) t tr e ti hu i1 gg o xs.length cp cur hg' ad ys.length cap' news (by rw [i4', Nat.mul_one]; exact hl2) hnews (one_mem hf2.one) hroom (by rw [i4', hl2]; omega)
    rw [i4', Nat.mul_one] at hr2
    obtain ⟨C, hC⟩ : ∃ C : Array Value, C = (cur.toList.take (o + xs.length) ++ news ++ cur.toList.drop (o + xs.length + news.length)).toArray := ⟨_, rfl⟩
    rw [← hC] at hr2
    refine ⟨_, w.setRow gg C, by simp [execOp, resolve, invoke, builtin, ha.eval hx, ha.eval hy, hr2]; rfl, back (w.setRow gg C) _ (bk gg (.cells C e (0, 0))) ⟨rfl, rfl, rfl, by simp⟩ (fun b hb hn => ?_) (.inr ⟨gg, o, cp, C, by rw [List.length_append], by simp [bk], by rw [List.length_append]; exact hroom, hcm, ?_, fun i x hx => ?_⟩) (fun b o eb => ?_) (fun b hb => ?_)⟩
    ·exact setRow_other w gg b _ (fun e => by subst e; rw [hgg] at hn; cases hn)
    ·subst hC; simp only [List.size_toArray, List.length_append, List.length_take, List.length_drop, Array.length_toList, hl2]
     omega
    ·rw [hC, List.getElem?_toArray]
     have h3 : (cur.toList.take (o + xs.length)).length = o + xs.length := by have := Array.length_toList (xs := cur); rw [List.length_take]; omega
     rcases Nat.lt_or_ge i xs.length with hlt | hge
     ·rw [List.getElem?_append_left (by rw [List.length_append]; omega), List.getElem?_append_left (by omega), List.getElem?_take_of_lt (by omega), Array.getElem?_toList]
      rw [List.getElem?_append_left hlt] at hx
      exact q _ _ hx
     ·rw [List.getElem?_append_right hge] at hx
      have := lt_of_get hx
      rw [List.getElem?_append_left (by rw [List.length_append]; omega), List.getElem?_append_right (by omega), h3, show o + i - (o + xs.length) = i - xs.length by omega, hnw]
      exact getMap hx
    ·unfold bk at eb
     split at eb
     ·rename_i hbb; subst hbb; simp at eb; subst eb; exact setRow_heap w b cur _ e _ hg'
     ·cases eb
    ·unfold bk at hb
     split at hb
     ·rename_i hbb; subst hbb; exact .inl (by rw [hgg]; simp)
     ·exact absurd rfl hb
   ·have holds : ∀ j u, (xs.map (Value.int .i64))[j]? = some u → w.cell? ((⟨gg, o, none⟩ : Addr).add j) = some u := fun j u hj => by
     rw [List.getElem?_map] at hj
     cases hx : xs[j]? with
     | none => rw [hx] at hj; cases hj
     | some x =>
      rw [hx] at hj; simp at hj; subst hj
      rw [Addr.add_lit]
      simp [World.cell?, show w.heap[gg]? = some (.cells cur e (0, 0)) from hg', q _ _ hx]
    have hr2 := run_append_grow (P := P) w t tr e ti zv hu i1 i2 ⟨gg, o, none⟩ xs.length cp (xs.map (Value.int .i64)) (by rw [i4', List.length_map, Nat.mul_one]) holds ad ys.length cap' news (by rw [i4', Nat.mul_one]; exact hl2) hnews (by omega) (by omega) (by rw [i5]; exact growslice_fits (by omega) hb)
    exact ⟨_, _, by simp [execOp, resolve, invoke, builtin, ha.eval hx, ha.eval hy, hr2], fresh cp (by omega) (fun _ h => h)⟩
end
theorem slV.since {T : TypeId} {g o cap n q : Nat} {cur : Array Value} {w : World} {h1 hP : Hp} {os : Array Obj} {ys zs : List Int} (s1 : Sub h1 (hp w)) (hg : h1 g = some (.cells cur T (0, 0))) (hcap : n ≤ cap) (hm : cap ≤ maxLen) (hs : o + cap ≤ cur.size) (hy : ys.length = n) (hz : ∃ r, zs = ys ++ r) (hzl : zs.length ≤ cap) :
    Since w h1 hP (HO.seps [slV T (.slice (some ⟨g, o, none⟩) n cap) ys]).p (grow (putRow (Value.int .i64) (Sort.ahead w q) g o zs.toArray) os) := by
 have hgw : w.heap[g]? = some (.cells cur T (0, 0)) := s1 _ _ hg
 have hlt : g < w.heap.size := (Array.getElem?_eq_some_iff.1 hgw).1
 have hnew : ∀ b, b < w.heap.size → (grow (putRow (Value.int .i64) (Sort.ahead w q) g o zs.toArray) os).heap[b]? = if b = g then some (.cells (putCells (Value.int .i64) o zs.toArray cur) T (0, 0)) else w.heap[b]? := by
  intro b hb
  have e0 : (grow (putRow (Value.int .i64) (Sort.ahead w q) g o zs.toArray) os).heap = w.heap.modify g (onCells (putCells (Value.int .i64) o zs.toArray)) ++ os := rfl
  rw [e0, Array.getElem?_append_left (by simpa using hb), Array.getElem?_modify]
  by_cases hbg : g = b
  ·subst hbg; rw [if_pos rfl, if_pos rfl, hgw]; rfl
  ·rw [if_neg hbg, if_neg (Ne.symm hbg)]
 refine ⟨⟨rfl, rfl, rfl, ?_⟩, ?_, em, bk g (.cells (putCells (Value.int .i64) o zs.toArray cur) T (0, 0)), fun _ _ _ => rfl, ?_, Dj.em_left _, Sub.em _, ?_, ?_⟩
 ·have e0 : (grow (putRow (Value.int .i64) (Sort.ahead w q) g o zs.toArray) os).heap = w.heap.modify g (onCells (putCells (Value.int .i64) o zs.toArray)) ++ os := rfl
  rw [e0]; simp
 ·intro b x hb ha
  have hbs : b < w.heap.size := (Array.getElem?_eq_some_iff.1 hb).1
  have hbg : b ≠ g := fun e => by subst e; rw [hg] at ha; cases ha
  show (grow (putRow (Value.int .i64) (Sort.ahead w q) g o zs.toArray) os).heap[b]? = some x
  rw [hnew b hbs, if_neg hbg]; exact hb
 ·intro b hb ha
  unfold bk
  split
  ·rename_i e; subst e; rw [hg] at ha; cases ha
  ·rfl
 ·intro b x e
  unfold bk at e
  split at e
  ·rename_i hb; subst hb; simp at e; subst e
   show (grow (putRow (Value.int .i64) (Sort.ahead w q) b o zs.toArray) os).heap[b]? = _
   rw [hnew b hlt, if_pos rfl]
  ·cases e
 ·refine ⟨_, em, Dj.em_right _, Sub.refl _, Sub.em _, .inr ⟨g, o, cap, putCells (Value.int .i64) o zs.toArray cur, by rw [hy], by simp [bk], by omega, hm, by simpa [putCells] using hs, fun i x hx => ?_⟩, trivial⟩
  have hi := lt_of_get hx
  obtain ⟨r, rfl⟩ := hz
  rw [List.length_append] at hzl
  have hb : o + i < cur.size := by omega
  simp only [putCells, Array.getElem?_mapIdx, Array.getElem?_eq_getElem hb, Option.map_some, List.size_toArray, List.length_append]
  rw [if_pos ⟨by omega, by omega⟩, show o + i - o = i by omega, getElem!_pos _ i (by simp; omega)]
  have : (ys ++ r)[i]? = some x := by rw [List.getElem?_append_left hi]; exact hx
  obtain ⟨h2, h3⟩ := List.getElem?_eq_some_iff.1 this
  simp [h3]
theorem slV.holds {T : TypeId} {g o cap : Nat} {cur : Array Value} {w : World} {l : List Int} (hg : w.heap[g]? = some (.cells cur T (0, 0))) (q : ∀ (i : Nat) x, l[i]? = some x → cur[o + i]? = some (.int .i64 x)) : Holds (Value.int .i64) w g o l.toArray := by
 intro j hj
 have hj' : j < l.length := by simpa using hj
 refine ⟨?_, ?_⟩
 ·simp only [World.cell?]
  rw [hg]
  have := q j l[j] (List.getElem?_eq_getElem hj')
  simp [this, getElem!_pos, hj']
 ·simp only [World.frozen?]
  rw [hg]
  simp
theorem Since.none {w : World} {h1 hP : Hp} {K : HO} (s1 : Sub h1 (hp w)) (hK : K.p em em) : Since w h1 hP K.p w :=
 ⟨Met.refl _, fun _ _ e _ => e, em, em, fun _ _ _ => rfl, fun _ _ _ => rfl, Dj.em_left _, Sub.em _, Sub.em _, K.mono _ _ _ _ (Sub.em _) (Sub.refl _) hK⟩
theorem slV.nilSeps {T : TypeId} : (HO.seps [slV T (.slice none 0 0) ([] : List Int)]).p em em := ⟨em, em, Dj.em_left _, Sub.em _, Sub.em _, .inl ⟨rfl, rfl⟩, trivial⟩
theorem Since.imp {w w' : World} {h1 hP : Hp} {F G : Hp → Hp → Prop} (h : Since w h1 hP F w') (f : ∀ a b, F a b → G a b) : Since w h1 hP G w' := by
 obtain ⟨m, fr, hN, hO, n1, n2, d, t1, t2, q⟩ := h
 exact ⟨m, fr, hN, hO, n1, n2, d, t1, t2, f _ _ q⟩
theorem slV.sortTrip {P : Program} {f : FuncId} {T : TypeId} {v : Value} {l : List Int}
    (hc : ∀ (blk off cap : Nat) (zs : List Int) (w : World), Holds (Value.int .i64) w blk off zs.toArray → blk < w.heap.size → zs.length < 4611686018427387904 →
     Calls P f #[.slice (some ⟨blk, off, none⟩) zs.length cap] w fun e w' => e = .returned (.tuple #[]) ∧ ∃ n os, w' = grow (putRow (Value.int .i64) (Sort.ahead w n) blk off (zs.mergeSort fun x y => decide (x ≤ y)).toArray) os)
    (hn : ∀ w, Calls P f #[.slice none 0 0] w fun e w' => e = .returned (.tuple #[]) ∧ w' = w)
    (hll : l.length < 4611686018427387904) {w : World} {hP h1 : Hp} (sub : Sub hP (hp w)) (s1 : Sub h1 (hp w)) (dj : Dj hP h1) (hI : (slV T v l).p hP h1) :
    Trip P f #[v] h1 hP w (fun r => HO.pand (r = .tuple #[]) (HO.seps [slV T v (l.mergeSort fun x y => decide (x ≤ y))])) := by
 rcases hI with ⟨rfl, rfl⟩ | ⟨g, o, cap, cur, rfl, hg, hle, hm, hs, q⟩
 ·refine (hn w).mono fun e w' ⟨h1, h2⟩ => ⟨_, h1, ?_⟩
  subst h2
  exact (Since.none s1 (K := HO.seps [slV T (.slice none 0 0) []]) slV.nilSeps).imp fun a b h => ⟨rfl, by simpa using h⟩
 ·have hgw := s1 _ _ hg
  refine (hc g o cap l w (slV.holds (cap := cap) hgw q) (hp_lt hgw) hll).mono fun e w' ⟨h1, n, os, h2⟩ => ⟨_, h1, ?_⟩
  subst h2
  have hl := List.length_mergeSort (le := fun x y : Int => decide (x ≤ y)) l
  exact (slV.since s1 hg hle hm hs hl ⟨[], by simp⟩ (by omega)).imp fun a b h => ⟨rfl, h⟩
theorem slV.compactTrip {P : Program} {f : FuncId} {T : TypeId} {v : Value} {l : List Int}
    (hc : ∀ (blk off cap : Nat) (zs : List Int) (w : World), Holds (Value.int .i64) w blk off zs.toArray → zs.length ≤ 9223372036854775807 → zs.length ≤ cap →
     Calls P f #[.slice (some ⟨blk, off, none⟩) zs.length cap] w fun e w' => e = .returned (.slice (some ⟨blk, off, none⟩) (Lib.compact zs).length cap) ∧ ∃ q, w' = putRow (Value.int .i64) (Sort.ahead w q) blk off (Lib.compact zs ++ List.replicate (zs.length - (Lib.compact zs).length) 0).toArray)
    (hn : ∀ w, Calls P f #[.slice none 0 0] w fun e w' => e = .returned (.slice none 0 0) ∧ w' = w)
    (hll : l.length < 4611686018427387904) {w : World} {hP h1 : Hp} (sub : Sub hP (hp w)) (s1 : Sub h1 (hp w)) (dj : Dj hP h1) (hI : (slV T v l).p hP h1) :
    Trip P f #[v] h1 hP w (fun r => HO.ex fun u : Value => HO.pand (r = u) (HO.seps [slV T u (Lib.compact l)])) := by
 rcases hI with ⟨rfl, rfl⟩ | ⟨g, o, cap, cur, rfl, hg, hle, hm, hs, q⟩
 ·refine (hn w).mono fun e w' ⟨h1, h2⟩ => ⟨_, h1, ?_⟩
  subst h2
  exact (Since.none s1 (K := HO.seps [slV T (.slice none 0 0) []]) slV.nilSeps).imp fun a b h => ⟨_, rfl, h⟩
 ·have hgw := s1 _ _ hg
  have hcl := compact_le l
  refine (hc g o cap l w (slV.holds (cap := cap) hgw q) (by omega) hle).mono fun e w' ⟨h1, n, h2⟩ => ⟨_, h1, ?_⟩
  subst h2
  have := slV.since (n := (Lib.compact l).length) (q := n) (os := #[]) (hP := hP) (ys := Lib.compact l) (zs := Lib.compact l ++ List.replicate (l.length - (Lib.compact l).length) 0) s1 hg (by omega) hm hs rfl ⟨_, rfl⟩ (by simp; omega)
  rw [grow_none] at this
  exact this.imp fun a b h => ⟨_, rfl, h⟩
end Go.Q
