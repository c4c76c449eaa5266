/- Words of this seat: rows of one's own that grow and are written; things put in another order. -/
import Derived.Test.YtehjiiebjkkcmaaGreatDoorQ5xVerifyTells
import Derived.Great.BuildSlice
set_option linter.unusedVariables false
set_option linter.unusedSimpArgs false
namespace Go.Q
def Fam (a : Hp) (l : List HO) (b : Hp) : Prop := ∃ H : Nat → Hp, (∀ i j, i ≠ j → Dj (H i) (H j)) ∧ (∀ i, Sub (H i) b) ∧ ∀ (i : Nat) x, l[i]? = some x → x.p a (H i)
theorem Sep.fam : ∀ {l : List HO} {a b : Hp}, Sep a l b → Fam a l b
 | [], a, b, _ => ⟨fun _ => em, fun _ _ _ => Dj.Yw _, fun _ => Sub.em _, fun i x h => by simp at h⟩
 | x :: xs, a, b, ⟨h1, h2, d, s1, s2, p, q⟩ => by
  obtain ⟨H, k1, k2, k3⟩ := Sep.fam q
  refine ⟨fun i => match i with | 0 => h1 | i + 1 => H i, fun i j hij => ?_, fun i => ?_, fun i y hy => ?_⟩
  ·cases i with
   | zero => cases j with
    | zero => exact absurd rfl hij
    | succ j => exact d.sub (Sub.refl _) (k2 j)
   | succ i => cases j with
    | zero => exact (d.sub (Sub.refl _) (k2 i)).symm
    | succ j => exact k1 i j (by omega)
  ·cases i with
   | zero => exact s1
   | succ i => exact (k2 i).trans s2
  ·cases i with
   | zero => simp at hy; subst hy; exact p
   | succ i => exact k3 i y (by simpa using hy)
def big (H : Nat → Hp) : Nat → Hp
 | 0 => em
 | n + 1 => un (H 0) (big (fun i => H (i + 1)) n)
theorem Z4l {b : Hp} : ∀ {n : Nat} {H : Nat → Hp}, (∀ i, Sub (H i) b) → Sub (big H n) b
 | 0, _, _ => Sub.em _
 | n + 1, H, h => Sub.XY (h 0) (Z4l fun i => h (i + 1))
theorem Z3a {k : Hp} : ∀ {n : Nat} {H : Nat → Hp}, (∀ i, Dj k (H i)) → Dj k (big H n)
 | 0, _, _ => Dj.XR _
 | n + 1, H, h => Dj.Ye (h 0) (Z3a fun i => h (i + 1))
theorem Fam.sep : ∀ {l : List HO} {a b : Hp}, Fam a l b → Sep a l b
 | [], _, _, _ => trivial
 | x :: xs, a, b, ⟨H, k1, k2, k3⟩ => by
  have : Fam a xs (big (fun i => H (i + 1)) xs.length) := by
   -- each part is within all of them
   have sub : ∀ (n : Nat) (G : Nat → Hp), (∀ i j, i ≠ j → Dj (G i) (G j)) → ∀ i, i < n → Sub (G i) (big G n) := by
    intro n
    induction n with
    | zero => intro G _ i hi; omega
    | succ n ih =>
     intro G hd i hi
     cases i with
     | zero => exact Sub.YC _ _
     | succ i => exact (ih (fun i => G (i + 1)) (fun i j h => hd _ _ (by omega)) i (by omega)).trans (Sub.Ye (Z3a fun j => hd _ _ (by omega)))
   refine ⟨fun i => if i < xs.length then H (i + 1) else em, fun i j hij => ?_, fun i => ?_, fun i y hy => ?_⟩
   ·dsimp only
    split
    ·split
     ·exact k1 _ _ (by omega)
     ·exact Dj.XR _
    ·exact Dj.Yw _
   ·dsimp only
    split
    ·rename_i h; exact sub _ (fun i => H (i + 1)) (fun i j h => k1 _ _ (by omega)) i h
    ·exact Sub.em _
   ·have hl : i < xs.length := by
     rcases Nat.lt_or_ge i xs.length with h | h
     ·exact h
     ·rw [List.getElem?_eq_none h] at hy; cases hy
    dsimp only
    rw [if_pos hl]; exact k3 (i + 1) y (by simpa using hy)
  exact ⟨H 0, big (fun i => H (i + 1)) xs.length, Z3a fun i => k1 _ _ (by omega), k2 0, Z4l fun i => k2 (i + 1), k3 0 x rfl, Fam.sep this⟩
def sel {β : Type} : List Nat → List β → Option (List β)
 | [], _ => some []
 | i :: is, l => match l[i]?, sel is l with
  | some x, some r => some (x :: r)
  | _, _ => none
theorem Z25 {β : Type} : ∀ {is : List Nat} {l r : List β}, sel is l = some r → ∀ (j : Nat) x, r[j]? = some x → ∃ i, is[j]? = some i ∧ l[i]? = some x
 | [], l, r, h, j, x, hx => by simp [sel] at h; subst h; simp at hx
 | i :: is, l, r, h, j, x, hx => by
  simp only [sel] at h
  split at h
  ·rename_i y r' h1 h2
   simp at h; subst h
   cases j with
   | zero => simp at hx; subst hx; exact ⟨i, rfl, h1⟩
   | succ j => simpa using Z25 h2 j x (by simpa using hx)
  ·cases h
def nodup : List Nat → Bool
 | [] => true
 | i :: is => !(is.contains i) && nodup is
theorem Z2y : ∀ {is : List Nat}, nodup is = true → ∀ (i j : Nat) (x : Nat), is[i]? = some x → is[j]? = some x → i = j
 | [], _, i, j, x, h, _ => by simp at h
 | z :: is, hn, i, j, x, h, k => by
  simp [nodup] at hn
  cases i with
  | zero => cases j with
   | zero => rfl
   | succ j => simp at h k; subst h; exact absurd (List.mem_of_getElem? k) hn.1
  | succ i => cases j with
   | zero => simp at h k; subst k; exact absurd (List.mem_of_getElem? h) hn.1
   | succ j => simp at h k; rw [Z2y hn.2 i j x h k]
theorem Sep.sel {is : List Nat} {l r : List HO} {a b : Hp} (hn : nodup is = true) (hs : Q.sel is l = some r) (h : Sep a l b) : Sep a r b := by
 obtain ⟨H, k1, k2, k3⟩ := h.fam
 refine Fam.sep ⟨fun j => match is[j]? with | some i => H i | none => em, fun i j hij => ?_, fun i => ?_, fun j x hx => ?_⟩
 ·dsimp only
  split
  ·rename_i u hu
   split
   ·rename_i v hv
    exact k1 _ _ fun e => hij (Z2y hn i j u hu (e ▸ hv))
   ·exact Dj.XR _
  ·exact Dj.Yw _
 ·dsimp only
  split
  ·exact k2 _
  ·exact Sub.em _
 ·obtain ⟨i, h1, h2⟩ := Z25 hs j x hx
  dsimp only
  rw [h1]; exact k3 i x h2
section
variable {w0 w w' : World} {hA hV : Hp} {ps ps' : List HP} {os os' : List HO} {x y : HO}
theorem St.selO (is : List Nat) (hn : nodup is = true) (hs : Q.sel is os = some os') (h : St w0 hA hV ps os w) : St w0 hA hV ps os' w := h.imp (fun _ a => a) (fun _ _ _ s => s.sel hn hs)
theorem St.selP (is : List Nat) (hs : Q.sel is ps = some ps') (h : St w0 hA hV ps os w) : St w0 hA hV ps' os w := h.imp (fun _ a x hx => by
 obtain ⟨j, hj⟩ := List.getElem?_of_mem hx
 obtain ⟨i, -, h2⟩ := Z25 hs j x hj
 exact a x (List.mem_of_getElem? h2)) (fun _ _ _ s => s)
theorem St.addO (hx : ∀ a, x.p a em) (h : St w0 hA hV ps os w) : St w0 hA hV ps (x :: os) w := h.imp (fun _ a => a) (fun a b _ s => ⟨em, b, Dj.Yw _, Sub.em _, Sub.refl _, hx a, s⟩)
theorem slO.nil {α : Type} (k : Kd α) (T : TypeId) (a : Hp) : (slO k T (.slice none 0 0) ([] : List α)).p a em := ⟨[], rfl, by simp, .inl ⟨rfl, rfl⟩⟩
theorem slP.nil {α : Type} (k : Kd α) (h : Hp) : (slP k (.slice none 0 0) ([] : List α)).p h := ⟨none, 0, rfl, by simp, fun _ => ⟨rfl, rfl⟩, fun a e => by cases e⟩
def HO.seps (l : List HO) : HO := ⟨fun a h => Sep a l h, fun _ _ _ _ sa sb h => Sep.mono l sa sb h⟩
theorem Sep.append : ∀ {l m : List HO} {a b c : Hp}, Sep a l b → Sep a m c → Dj b c → Sep a (l ++ m) (un b c)
 | [], m, a, b, c, _, k, d => Sep.mono m (Sub.refl _) (Sub.Ye d) k
 | x :: xs, m, a, b, c, ⟨h1, h2, e, s1, s2, p, q⟩, k, d => by
  have := Sep.append q k (d.sub s2 (Sub.refl _))
  exact ⟨h1, un h2 c, Dj.Ye e (d.sub s1 (Sub.refl _)), s1.trans (Sub.YC _ _), Sub.XY (s2.trans (Sub.YC _ _)) (Sub.Ye d), p, this⟩
theorem St.seps {l : List HO} (h : St w0 hA hV ps (HO.seps l :: os) w) : St w0 hA hV ps (l ++ os) w := h.imp (fun _ a => a) (fun a b _ s => by
 obtain ⟨h1, h2, e, s1, s2, p, q⟩ := s
 exact Sep.mono _ (Sub.refl _) (Sub.XY s1 s2) (Sep.append p q e))
theorem St.toP (i : Nat) {z : HP} (hi : os[i]? = some (HO.ofP z)) (h : St w0 hA hV ps os w) : St w0 hA hV (z :: ps) (os.eraseIdx i) w := by
 obtain ⟨m, g, hN, hO, n1, n2, d, s1, s2, p, s⟩ := h
 obtain ⟨h1, h2, e, t1, t2, r, q⟩ := Sep.take i os hi s
 refine ⟨m, g, hN, hO, n1, n2, d, s1, s2, fun y hy => ?_, Sep.mono _ (Sub.refl _) t2 q⟩
 rcases List.mem_cons.1 hy with rfl | hy
 ·exact r
 ·exact p y hy
end
theorem St.at {w0 w : World} {hA hV : Hp} {ps : List HP} {os : List HO} {x : HO} (i : Nat) (hi : os[i]? = some x) (see : Sees w0 hA hV) (h : St w0 hA hV ps os w) :
    ∃ hP h1, x.p hP h1 ∧ Sub hP (hp w) ∧ Sub h1 (hp w) ∧ All ps hP ∧ ∀ (w' : World) (y : HO) (h1' : Hp), Met w w' → (∀ b, b < w.heap.size → h1 b = none → w'.heap[b]? = w.heap[b]?) →
     y.p hP h1' → Sub h1' (hp w') → (∀ b, h1' b ≠ none → h1 b ≠ none ∨ w.heap.size ≤ b) → St w0 hA hV ps (os.set i y) w' := by
 obtain ⟨m, f, hN, hO, n1, n2, d, s1, s2, p, q⟩ := h
 obtain ⟨h1, h2, e, t1, t2, r, s⟩ := Sep.take i os hi q
 have sub : Sub (un hV hN) (hp w) := Sub.XY (fun b o e => f b o (see.sub b o e) (by
  rcases see.dj b with k | k
  ·rw [e] at k; cases k
  ·exact k)) s1
 refine ⟨un hV hN, h1, r, sub, t1.trans s2, p, fun w' y h1' hm hk k1 k2 k3 => ?_⟩
 have hkeep : ∀ k : Hp, Dj h1 k → Sub k (hp w) → Sub k (hp w') := fun k hd hs b o eb => by
  have hb := U6 (hs b o eb)
  have : w'.heap[b]? = w.heap[b]? := hk b hb ((hd b).resolve_right (by rw [eb]; simp))
  show w'.heap[b]? = some o
  rw [this]; exact hs b o eb
 have dj' : ∀ k : Hp, Dj h1 k → Sub k (hp w) → Dj h1' k := fun k hd hs b => by
  cases eq : h1' b with
  | none => exact .inl rfl
  | some u =>
   refine .inr ?_
   rcases k3 b (by rw [eq]; simp) with z | z
   ·exact (hd b).resolve_left z
   ·cases eq2 : k b with
    | none => rfl
    | some v => have := U6 (hs b v eq2); omega
 have dN : Dj h1 hN := (d.sub (Sub.refl _) t1).symm
 refine ⟨m.trans hm, fun b o e1 e2 => ?_, hN, un h1' h2, n1, ?_, Dj.Ye (dj' _ dN s1).symm (d.sub (Sub.refl _) t2), hkeep _ dN s1, Sub.XY k2 (hkeep _ e (t2.trans s2)), p, ?_⟩
 ·have hb : b < w0.heap.size := U6 e1
  have : w'.heap[b]? = w.heap[b]? := hk b (Nat.lt_of_lt_of_le hb m.size) (by
   cases eq : h1 b with
   | none => rfl
   | some u => have := t1 _ _ eq; rw [n2 b hb e2] at this; cases this)
  show w'.heap[b]? = some o
  rw [this]; exact f b o e1 e2
 ·intro b hb hb2
  have z := n2 b hb hb2
  have z1 : h1 b = none := by
   cases eq : h1 b with
   | none => rfl
   | some u => have := t1 _ _ eq; rw [z] at this; cases this
  have z2 : h2 b = none := by
   cases eq : h2 b with
   | none => rfl
   | some u => have := t2 _ _ eq; rw [z] at this; cases this
  have z3 : h1' b = none := by
   cases eq : h1' b with
   | none => rfl
   | some u =>
    rcases k3 b (by rw [eq]; simp) with y | y
    ·exact absurd z1 y
    ·have := m.size; omega
  simp [un, z3, z2]
 ·exact Sep.back i os (by rcases Nat.lt_or_ge i os.length with g | g; exact g; rw [List.getElem?_eq_none g] at hi; cases hi) (dj' _ e (t2.trans s2)) k1 s
theorem Row.owns {T : TypeId} {sz : Nat} {w : World} {h : Hp} {v : Value} {n : Nat} {cells : List Value} (s : Sub h (hp w)) (r : Row T sz h v n cells) : w.ownsRow 0 T sz v n cells :=
 ⟨r.1, r.2.imp id fun ⟨g, cap, cur, e, hg, z⟩ => ⟨g, cap, cur, e, Nat.zero_le _, s _ _ hg, z⟩⟩
theorem Row.of {T : TypeId} {sz : Nat} {w : World} {v : Value} {n : Nat} {cells : List Value} (r : w.ownsRow 0 T sz v n cells) :
    ∃ h, Row T sz h v n cells ∧ Sub h (hp w) ∧ ∀ b, h b ≠ none → v.ownBlock = some b := by
 obtain ⟨l, ⟨rfl, hn⟩ | ⟨g, cap, cur, rfl, -, hg, z⟩⟩ := r
 ·exact ⟨em, ⟨l, .inl ⟨rfl, hn⟩⟩, Sub.em _, fun b hb => absurd rfl hb⟩
 ·refine ⟨bk g (.cells cur T (0, 0)), ⟨l, .inr ⟨g, cap, cur, rfl, by simp [bk], z⟩⟩, fun b o e => ?_, fun b hb => ?_⟩
  ·unfold bk at e
   split at e
   ·rename_i hb; subst hb; simp at e; subst e; exact hg
   ·cases e
  ·unfold bk at hb
   split at hb
   ·rename_i hb2; simp [Value.ownBlock, hb2]
   ·exact absurd rfl hb
theorem Row.block {T : TypeId} {sz : Nat} {h : Hp} {v : Value} {n : Nat} {cells : List Value} (r : Row T sz h v n cells) : ∀ b, v.ownBlock = some b → h b ≠ none := by
 obtain ⟨l, ⟨rfl, hn⟩ | ⟨g, cap, cur, rfl, hg, z⟩⟩ := r
 ·intro b hb; simp [Value.ownBlock] at hb
 ·intro b hb; simp [Value.ownBlock] at hb; subst hb; rw [hg]; simp
section
variable {P : Program} {n : Fr} {ρ : Option Nat} {σ : List (Nat × Value)} {w0 : World} {hA hV : Hp} {ps : List HP} {os : List HO} {L l : List Oper} {Q : Cont} {d : Nat} {t e tr : TypeId} {x y : Operand} {pos : String} {af : Array Edge} {g : Option (Nat × Bool)} {v u : Value} {α : Type} {k : Kd α} {xs ys : List α}
theorem slR.cells {w : World} {a : Hp} (s : Sub a (hp w)) (h : slR k a u ys) : ∃ A cap, u = .slice A ys.length cap ∧ (A = none → ys = []) ∧ ∃ cells, Flat k a cells ys ∧ ∀ ad, A = some ad → ∀ j c, cells[j]? = some c → w.cell? (ad.add j) = some c := by
 obtain ⟨A, cap, rfl, -, z, f⟩ := h
 refine ⟨A, cap, rfl, fun e => (z e).1, ?_⟩
 cases A with
 | none => obtain ⟨rfl, -⟩ := z rfl; exact ⟨[], rfl, fun ad e => by cases e⟩
 | some ad =>
  have key : ∀ (zs : List α) (o : Nat), (∀ i x, zs[i]? = some x → ad.spot = none ∧ ∃ cs, k.rd a cs x ∧ At a ad.block (ad.off + (o + i) * k.sz) cs) →
      ∃ cells, Flat k a cells zs ∧ ∀ j c, cells[j]? = some c → w.cell? (ad.add (o * k.sz + j)) = some c := by
   intro zs
   induction zs with
   | nil => intro o _; exact ⟨[], rfl, fun j c h => by simp at h⟩
   | cons z zs ih =>
    intro o h
    obtain ⟨cells, h1, h2⟩ := ih (o + 1) fun i x hx => by have := h (i + 1) x (by simpa using hx); rwa [show o + (i + 1) = o + 1 + i from by omega] at this
    obtain ⟨sp, cs, r, q⟩ := h 0 z rfl
    refine ⟨cs ++ cells, ⟨cs, cells, rfl, r, h1⟩, fun j c hj => ?_⟩
    have hl := k.len _ _ _ r
    rcases Nat.lt_or_ge j cs.length with hlt | hge
    ·rw [List.getElem?_append_left hlt] at hj
     have := (q.mono s).cell hj
     have e1 : ad.add (o * k.sz + j) = (⟨ad.block, ad.off + (o + 0) * k.sz, none⟩ : Addr).add j := by
      obtain ⟨ab, ao, as⟩ := ad
      simp at sp; subst sp
      simp only [Addr.add, Nat.add_zero]
      by_cases h0 : o * k.sz + j = 0
      ·have : j = 0 := by omega
       have h1 : o * k.sz = 0 := by omega
       simp [h0, this, h1]
      ·rw [if_neg h0]
       by_cases hj0 : j = 0
       ·subst hj0; simp
       ·rw [if_neg hj0]; simp [Nat.add_assoc]
     rw [e1]; exact this
    ·rw [List.getElem?_append_right hge] at hj
     have := h2 (j - cs.length) c hj
     have e2 : (o + 1) * k.sz + (j - cs.length) = o * k.sz + j := by rw [Nat.add_mul]; omega
     rwa [e2] at this
  obtain ⟨cells, h1, h2⟩ := key ys 0 fun i x hx => by simpa using f ad rfl i x hx
  refine ⟨cells, h1, fun ad' e j c hj => ?_⟩
  obtain rfl : ad = ad' := by simpa using e
  simpa using h2 j c hj
theorem Z4c {w : World} {a h : Hp} {bytes : Nat} (sa : Sub a (hp w)) (sh : Sub h (hp w)) (hu : P.underlying t = some (.slice e)) {cs : List Value} (hi : (P.info? e).map (fun i => ((i.zero.map fun z => z.cells.toList), i.size, i.bytes)) = some (some cs, k.sz, bytes)) (hz : cs.length = k.sz) (hk : 0 < k.sz)
    {cells : List Value} (hf : Flat k a cells xs) (hr : Row e k.sz h v xs.length cells) (hy : slR k a u ys) (hb : (xs.length + ys.length) * bytes ≤ 140737488355328) (hm : xs.length + ys.length ≤ maxLen) {ty : TypeId} :
    ∃ v' w' h', (Builtin.append_ #[t, t] ty #[v, u]).run P w = .ok v' w' ∧ Met w w' ∧ (∀ b, b < w.heap.size → some b ≠ v.ownBlock → w'.heap[b]? = w.heap[b]?) ∧
     (slO k e v' (xs ++ ys)).p a h' ∧ Sub h' (hp w') ∧ ∀ b, h' b ≠ none → h b ≠ none ∨ w.heap.size ≤ b := by
 obtain ⟨i, z, i1, i2, i3, i4, i5⟩ := J2 hi
 obtain ⟨A, cap, rfl, hA0, news, hf2, hc⟩ := hy.cells sa
 have hown := hr.owns sh
 have fin : ∀ v' w', w'.ownsRow 0 e k.sz v' (xs.length + ys.length) (cells ++ news) → w.grownBy w' v.ownBlock → (v'.ownBlock = v.ownBlock ∨ v'.ownBlock = none ∨ ∃ b, v'.ownBlock = some b ∧ w.heap.size ≤ b) →
     ∃ h', Met w w' ∧ (∀ b, b < w.heap.size → some b ≠ v.ownBlock → w'.heap[b]? = w.heap[b]?) ∧ (slO k e v' (xs ++ ys)).p a h' ∧ Sub h' (hp w') ∧ ∀ b, h' b ≠ none → h b ≠ none ∨ w.heap.size ≤ b := fun v' w' ho hg hn => by
  obtain ⟨h', r1, r2, r3⟩ := Row.of ho
  refine ⟨h', ⟨hg.os, hg.tape, hg.output, hg.size⟩, hg.block, ⟨cells ++ news, hf.append hf2, by rw [List.length_append]; exact r1⟩, r2, fun b hb => ?_⟩
  have eb := r3 b hb
  rcases hn with z | z | ⟨c, z, y⟩
  ·exact .inl (hr.block b (z ▸ eb))
  ·rw [z] at eb; cases eb
  ·rw [z] at eb; simp at eb; subst eb; exact .inr y
 cases A with
 | none =>
  obtain rfl := hA0 rfl
  have hn0 : news = [] := hf2
  subst hn0
  obtain ⟨h', q1, q2, q3, q4, q5⟩ := fin v w (by simpa using hown) ⟨rfl, rfl, rfl, Nat.le_refl _, fun _ _ _ => rfl⟩ (.inl rfl)
  refine ⟨v, w, h', ?_, q1, q2, q3, q4, q5⟩
  have : ∃ b2 n2 c2, v = .slice b2 n2 c2 ∧ n2 ≤ c2 := by
   rcases hr.2 with ⟨rfl, hn⟩ | ⟨g, cp, cur, rfl, -, hl, -⟩
   ·exact ⟨_, _, _, rfl, Nat.le_refl _⟩
   ·exact ⟨_, _, _, rfl, hl⟩
  obtain ⟨b2, n2, c2, rfl, hle⟩ := this
  cases b2 <;> simp [Builtin.append_, run_underlying hu, sizeOf, typeInfo, i1, Builtin.lenOf, hle, Builtin.firstCells, storeCells]
 | some ad =>
  have hzs : z.cells.size = k.sz := by rw [i3]; simpa using hz
  have hl2 := hf2.len
  have hnews : ∀ j c, news[j]? = some c → w.cell? (ad.add j) = some c := fun j c hj => hc ad rfl j c hj
  have hm' : xs.length + ys.length ≤ 9223372036854775807 := by simpa only [maxLen] using hm
  have grown : ∀ old : Nat, old < xs.length + ys.length →
      (w.drew.alloc (.cells (cells.toArray ++ news.toArray ++ Builtin.zeroCells z.cells (grownCap w (xs.length + ys.length) old e - (xs.length + ys.length))) e)).ownsRow 0 e k.sz (.slice (some ⟨w.heap.size, 0, none⟩) (xs.length + ys.length) (grownCap w (xs.length + ys.length) old e)) (xs.length + ys.length) (cells ++ news) := fun old ho => by
   have hge := grownCap_ge w (xs.length + ys.length) old e
   have hcm := grownCap_le_maxLen w (xs.length + ys.length) old e hm
   have hlen : (cells ++ news).length = (xs.length + ys.length) * k.sz := by rw [List.length_append, hown.1, hl2, Nat.add_mul]
   refine ⟨hlen, .inr ⟨w.heap.size, _, _, rfl, Nat.zero_le _, heap_alloc_new w.drew _, hge, hcm, ?_, ?_⟩⟩
   ·simp only [Array.size_append, List.size_toArray, size_zeroCells, hzs, hown.1, hl2, ← Nat.add_mul]
    congr 1
    omega
   ·simp only [Array.toList_append, List.append_assoc]
    rw [← List.append_assoc, ← hlen]
    exact List.take_left
  have gb : ∀ old : Nat, w.grownBy (w.drew.alloc (.cells (cells.toArray ++ news.toArray ++ Builtin.zeroCells z.cells (grownCap w (xs.length + ys.length) old e - (xs.length + ys.length))) e)) v.ownBlock := fun old =>
   ⟨rfl, rfl, rfl, by simp, fun k hk _ => by
    show (w.heap.push _)[k]? = _
    rw [Array.getElem?_push, if_neg (by omega)]⟩
  rcases hr.2 with ⟨rfl, hn⟩ | ⟨gg, cp, cur, rfl, hg, hle, hcm, hcs, htake⟩
  ·obtain rfl := List.eq_nil_of_length_eq_zero hn
   have hc0 : cells = [] := hf
   subst hc0
   by_cases h0 : ys.length = 0
   ·obtain rfl := List.eq_nil_of_length_eq_zero h0
    have hn0 : news = [] := hf2
    subst hn0
    obtain ⟨h', q1, q2, q3, q4, q5⟩ := fin (.slice none 0 0) w (by simpa using hown) ⟨rfl, rfl, rfl, Nat.le_refl _, fun _ _ _ => rfl⟩ (.inl rfl)
    refine ⟨_, w, h', ?_, q1, q2, q3, q4, q5⟩
    simp [Builtin.append_, run_underlying hu, sizeOf, typeInfo, i1, Builtin.lenOf, Builtin.firstCells, loadCells, loadCellsFrom]
   ·have hr := run_append_nil (P := P) w t ty e i z hu i1 i2 ad ys.length cap news (by rw [i4]; exact hl2) hnews (by omega) (by simp at hm'; omega) (by rw [i5]; simp at hb; omega)
    have := grown 0 (by simp; omega)
    have := gb 0
    simp only [List.length_nil, Nat.zero_add, List.nil_append] at *
    obtain ⟨h', q1, q2, q3, q4, q5⟩ := fin _ _ (by assumption) (by assumption) (.inr (.inr ⟨_, rfl, Nat.le_refl _⟩))
    simp only [Array.empty_append] at *
    exact ⟨_, _, h', hr, q1, q2, q3, q4, q5⟩
  ·by_cases hroom : xs.length + ys.length ≤ cp
   ·have hfit : xs.length * i.size + news.length ≤ cur.size := by rw [hl2, hcs, i4, ← Nat.add_mul]; exact Nat.mul_le_mul_right _ hroom
    have hg' := sh _ _ hg
    have hr2 := run_append_room (P := P) w t ty e i hu i1 gg xs.length cp cur hg' ad ys.length cap news (by rw [i4]; exact hl2) hnews (Z0E hf2.one) hroom hfit
    have ho : (w.setRow gg (cur.toList.take (xs.length * i.size) ++ news ++ cur.toList.drop (xs.length * i.size + news.length)).toArray).ownsRow 0 e k.sz (.slice (some ⟨gg, 0, none⟩) (xs.length + ys.length) cp) (xs.length + ys.length) (cells ++ news) := by
     refine ⟨by rw [List.length_append, hown.1, hl2, Nat.add_mul], .inr ⟨gg, cp, _, rfl, Nat.zero_le _, setRow_heap w gg cur _ e _ hg', hroom, hcm, ?_, ?_⟩⟩
     ·simp only [List.size_toArray, List.length_append, List.length_take, List.length_drop, Array.length_toList]
      rw [i4] at hfit ⊢
      omega
     ·have hl3 : (cells ++ news).length = (xs.length + ys.length) * k.sz := by rw [List.length_append, hown.1, hl2, Nat.add_mul]
      rw [i4, htake, ← hl3]
      exact List.take_left
    obtain ⟨h', q1, q2, q3, q4, q5⟩ := fin _ _ ho ⟨rfl, rfl, rfl, by simp, fun k _ hk => setRow_other w gg k _ (fun e => hk (by simp [Value.ownBlock, e]))⟩ (.inl rfl)
    exact ⟨_, _, h', hr2, q1, q2, q3, q4, q5⟩
   ·have holds : ∀ j u, cells[j]? = some u → w.cell? ((⟨gg, 0, none⟩ : Addr).add j) = some u := hown.cells (g := gg) rfl
    have hr2 := run_append_grow (P := P) w t ty e i z hu i1 i2 ⟨gg, 0, none⟩ xs.length cp cells (by rw [i4]; exact hown.1) holds ad ys.length cap news (by rw [i4]; exact hl2) hnews (by omega) (by omega) (by rw [i5]; exact growslice_fits (by omega) hb)
    obtain ⟨h', q1, q2, q3, q4, q5⟩ := fin _ _ (grown cp (by omega)) (gb cp) (.inr (.inr ⟨_, rfl, Nat.le_refl _⟩))
    exact ⟨_, _, h', hr2, q1, q2, q3, q4, q5⟩
theorem SP.append (see : Sees w0 hA hV) (i : Nat) (hi : os[i]? = some (slO k e v xs)) (j : Nat) (hj : ps[j]? = some (slP k u ys)) (hu : P.underlying t = some (.slice e)) {cs : List Value} {bytes : Nat} (hin : (P.info? e).map (fun i => ((i.zero.map fun z => z.cells.toList), i.size, i.bytes)) = some (some cs, k.sz, bytes)) (hz : Nat.beq cs.length k.sz = true) (hk : Nat.blt 0 k.sz = true)
    (hb : (xs.length + ys.length) * bytes ≤ 140737488355328) (hb0 : Nat.blt 0 bytes = true) (hg : gd L σ g = some true) (hn : Nat.blt d n.n = true) (hx : ev σ x = some v) (hy : ev σ y = some u)
    (h : ∀ v', SP P n ρ ((d, v') :: σ) (St w0 hA hV ps (os.set i (slO k e v' (xs ++ ys)))) L l Q) : SP P n ρ σ (St w0 hA hV ps os) L (⟨some d, .call ⟨.builtin .append, #[x, y], #[t, t]⟩, tr, pos, af, g⟩ :: l) Q := by
 have hz' : cs.length = k.sz := by simpa using hz
 have hk' : 0 < k.sz := by simpa using hk
 have hb0' : 0 < bytes := by simpa using hb0
 have hm : xs.length + ys.length ≤ maxLen := by
  have : xs.length + ys.length ≤ (xs.length + ys.length) * bytes := Nat.le_mul_of_pos_right _ hb0'
  simp only [maxLen]; omega
 refine SP.op (fun v' : Value => v') (fun v' => St w0 hA hV ps (os.set i (slO k e v' (xs ++ ys)))) hg rfl hn (fun a w ha hw => ?_) h
 obtain ⟨hP, h1, ⟨cells, f, r⟩, sP, s1, ap, back⟩ := hw.at i hi see
 obtain ⟨v', w', h', q1, q2, q3, q4, q5, q6⟩ := Z4c (P := P) (ty := tr) sP s1 hu hin hz' hk' f r (ap.get j hj) hb hm
 refine ⟨v', w', by simp [execOp, resolve, invoke, builtin, ha.eval hx, ha.eval hy, q1], back w' _ h' q2 (fun b hb hn => q3 b hb fun e => ?_) q4 q5 q6⟩
 exact r.block b e.symm hn
theorem SP.W9 {T : TypeId} (see : Sees w0 hA hV) (i : Nat) (hi : os[i]? = some (slO k T v xs)) (h : SP P n ρ σ (St w0 hA hV (slP k v xs :: ps) (os.eraseIdx i)) L l Q) : SP P n ρ σ (St w0 hA hV ps os) L l Q := fun a w ha hw => by
 have := hw.freeze i hi see.dj see.sub
 refine h a w ha (St.imp (fun hh al x hx => ?_) (fun _ _ _ s => s) this)
 rcases List.mem_cons.1 hx with rfl | hx
 ·exact slO.read (al.get 0 rfl) (Sub.refl _) (Sub.refl _)
 ·exact al x (List.mem_cons_of_mem _ hx)
theorem SP.buildSlice {len : Nat} {parts : Array (Nat × Operand)} {us : List (Nat × Value)} {cs cells : List Value} {bytes : Nat} (hu : P.underlying t = some (.slice e)) (hin : (P.info? e).map (fun i => ((i.zero.map fun z => z.cells.toList), i.size, i.bytes)) = some (some cs, k.sz, bytes))
    (hp : parts.toList.map (fun q => q.1) = us.map (·.1)) (he : evs σ (parts.toList.map (·.2)) = some (us.map (·.2))) (hsmall : Nat.ble (len * k.sz) 1000 = true) (hpos : Nat.blt 0 (len * k.sz) = true)
    (hf : Instr.fill (fun i => some (i * k.sz, k.sz)) ((Array.range (len * k.sz)).map (cs.toArray[· % cs.toArray.size]!)) us = some cells.toArray)
    (hxs : ∀ a, All ps a → Flat k a cells xs) (hlc : cells.length = xs.length * k.sz) (hl : xs.length = len) (hg : gd L σ g = some true) (hn : Nat.blt d n.n = true)
    (h : ∀ v, SP P n ρ ((d, v) :: σ) (St w0 hA hV ps (slO k e v xs :: os)) L l Q) : SP P n ρ σ (St w0 hA hV ps os) L (⟨some d, .buildSlice t len parts, tr, pos, af, g⟩ :: l) Q := by
 refine SP.op (fun v : Value => v) (fun v => St w0 hA hV ps (slO k e v xs :: os)) hg rfl hn (fun a w ha hw => ?_) h
 obtain ⟨i, z, i1, i2, i3, i4, i5⟩ := J2 hin
 have hm : (parts.map fun q => (q.1, a.eval q.2)).toList = us := by
  rw [Array.toList_map]
  have h2 := ha.evals he
  clear he hf
  generalize parts.toList = pl at hp h2
  induction pl generalizing us with
  | nil => cases us with
   | nil => rfl
   | cons _ _ => simp at hp
  | cons q r ih => cases us with
   | nil => simp at hp
   | cons u r' =>
    simp at hp h2
    obtain ⟨u1, u2⟩ := u
    simp at hp h2
    simp [hp.1, h2.1]
    exact ih (by simpa using hp.2) (by simpa using h2.2)
 have hsm : len * k.sz ≤ 1000 := by simpa using hsmall
 have hps : 0 < len * k.sz := by simpa using hpos
 have hfl := hlc
 have := run_buildSlice (P := P) w t e len (parts.map fun q => (q.1, a.eval q.2)) cells.toArray i z hu i1 i2 (by rw [i4]; omega) (by rw [i4]; omega) (by rw [i4, i3, hm]; exact hf)
 refine ⟨.slice (some ⟨w.heap.size, 0, none⟩) len len, w.alloc (.cells cells.toArray e), by simp [execOp, this], hw.allocP _ fun b hb => ⟨cells, hxs _ hb, ?_⟩⟩
 refine ⟨hfl, .inr ⟨w.heap.size, len, cells.toArray, by rw [hl], by simp [bk], by rw [hl]; exact Nat.le_refl _, ?_, by simp [hfl, hl], by rw [← hfl]; simp⟩⟩
 have : len ≤ len * k.sz := by
  rcases Nat.eq_zero_or_pos k.sz with z | z
  ·rw [z] at hps; simp at hps
  ·exact Nat.le_mul_of_pos_right _ z
 simp only [maxLen]; omega
end
end Go.Q
