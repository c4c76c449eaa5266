/- What is ahead of what is an interval order (the law HistoryAhead): for every input, with no condition. -/
import Derived.Test.YtbejlahmhloloaaRHistoryAhead
set_option linter.unusedVariables false
set_option linter.unusedSimpArgs false
namespace Go.Proofs.Ytbejlahmhloloaa
open Go.Q
namespace HistoryPure
theorem runF_any {S R : Type} {F : S → Option (S ⊕ R)} {n : Nat} {a b : R} (s : Nat → S) (p : Nat → Bool) (h : ∀ k, k < n → F (s k) = some (if p k then .inr a else .inl (s (k + 1)))) (hn : F (s n) = some (.inr b)) :
    runF F (s 0) = some (if (List.range n).any p then a else b) := by
  have key : ∀ m k, k + m = n → runF F (s k) = some (if (List.range' k m).any p then a else b) := by
    intro m
    induction m with
    | zero => intro k e; obtain rfl : k = n := by omega
              rw [runF_end hn]; rfl
    | succ m ih =>
      intro k e
      have hk := h k (by omega)
      rw [List.range'_succ]
      by_cases hp : p k
      · rw [if_pos hp] at hk
        rw [runF_end hk]; simp [hp]
      · rw [if_neg hp] at hk
        have hp' := Bool.eq_false_iff.2 hp
        rw [runF_step hk, ih (k + 1) (by omega), List.any_cons, hp', Bool.false_or]
  have := key n 0 (by omega)
  rwa [← List.range_eq_range'] at this
theorem any_range {α : Type} (l : List α) (p : α → Bool) (q : Nat → Bool) (h : ∀ k (hk : k < l.length), q k = p l[k]) : (List.range l.length).any q = l.any p := by
  rw [Bool.eq_iff_iff]
  simp only [List.any_eq_true, List.mem_range]
  constructor
  · rintro ⟨k, hk, hq⟩; exact ⟨l[k], List.getElem_mem hk, (h k hk) ▸ hq⟩
  · rintro ⟨x, hx, hp⟩
    obtain ⟨k, hk, rfl⟩ := List.mem_iff_getElem.1 hx
    exact ⟨k, hk, (h k hk).symm ▸ hp⟩
theorem stepD {S R : Type} {F : S → Option (List S ⊕ R)} {s t : S} (h : F s = some (.inl [t])) : runD F s = runD F t := by
  apply Option.ext
  intro r
  rw [runD_iff, runD_iff]
  constructor
  · rintro ⟨n, hn⟩
    cases n with
    | zero => exact hn.elim
    | succ n => simp only [stepsD, h] at hn; exact ⟨n, hn.2 t (by simp)⟩
  · rintro ⟨n, hn⟩
    exact ⟨n + 1, by simp only [stepsD, h]; exact ⟨by simp, by simpa using hn⟩⟩
def Fit (o : api_Op) : Prop := o.Args.length ≤ 20 ∧ o.Bytes.length ≤ 3000
instance (o : api_Op) : Decidable (Fit o) := by unfold Fit; infer_instance
theorem great (o : api_Op) : capstanlaw20_Great.f o = some (decide (¬ Fit o)) := by
  unfold capstanlaw20_Great.f Fit
  congr 1
  rw [Bool.eq_iff_iff]
  simp
  omega
theorem great30 (l : List history_Call) : capstanlaw30_Great.f l = some true ∨ (capstanlaw30_Great.f l = some false ∧ l.length ≤ 200 ∧ ∀ x ∈ l, Fit x.Op) := by
  unfold capstanlaw30_Great.f
  by_cases hl : l.length ≤ 200
  case neg => exact .inl (runF_end (by dsimp only [capstanlaw30_Great.F]; rw [if_pos (by omega)]))
  rw [runF_step (t := .l1 0) (by dsimp only [capstanlaw30_Great.F]; rw [if_neg (by omega)])]
  have key := runF_any (F := capstanlaw30_Great.F l) (n := l.length) (a := true) (b := false) (fun k => .l1 (k : Int)) (fun k => if h : k < l.length then decide (¬ Fit l[k].Op) else false) (fun k hk => by
    dsimp only [capstanlaw30_Great.F]
    rw [if_pos (by omega), elt_lt hk]
    simp only [Option.bind_some]
    rw [great]
    simp only [Option.bind_some, hk, dif_pos]
    rw [wrap_succ k (by omega)]
    by_cases hf : Fit l[k].Op <;> simp [hf]) (by dsimp only [capstanlaw30_Great.F]; rw [if_neg (by omega)])
  have key : runF (capstanlaw30_Great.F l) (.l1 0) = _ := key
  rw [key, any_range l (fun x => decide (¬ Fit x.Op)) _ (fun k hk => by simp [hk])]
  by_cases hf : l.any (fun x => decide (¬ Fit x.Op)) = true
  · left; rw [if_pos hf]
  · right
    rw [if_neg hf]
    refine ⟨rfl, hl, fun x hx => ?_⟩
    simp only [List.any_eq_true, not_exists, not_and, decide_eq_true_eq, Classical.not_not] at hf
    exact hf x hx
def inG (x : Int) : Bool := (decide (x ≥ (-1048576))) && (decide (x ≤ 1048576))
theorem inG_not (x : Int) : ((decide (x < (-1048576))) || (decide (x > 1048576))) = !inG x := by
  unfold inG
  by_cases h1 : x < -1048576 <;> by_cases h2 : x > 1048576 <;> simp [h1, h2] <;> omega
theorem gauss (p : gauss_Pair) : gauss_May.f p = some (inG p.e0 && inG p.e1) := by
  unfold gauss_May.f
  rw [runF_step (t := .l1 0) rfl]
  have h0 : gauss_May.F p (.l1 0) = some (if inG p.e0 then .inl (.l1 1) else .inr false) := by
    dsimp only [gauss_May.F]
    rw [if_pos (by omega)]
    show ((some p.e0).bind _) = _
    simp only [Option.bind_some]
    cases h : inG p.e0
    · simp [inG_not, h]
    · simp [inG_not, h]; rfl
  have h1 : gauss_May.F p (.l1 1) = some (if inG p.e1 then .inl (.l1 2) else .inr false) := by
    dsimp only [gauss_May.F]
    rw [if_pos (by omega)]
    show ((some p.e1).bind _) = _
    simp only [Option.bind_some]
    cases h : inG p.e1
    · simp [inG_not, h]
    · simp [inG_not, h]; rfl
  cases e0 : inG p.e0 with
  | false => rw [runF_end (r := false) (by rw [h0, e0]; rfl)]; rfl
  | true =>
    rw [runF_step (t := .l1 1) (by rw [h0, e0]; rfl)]
    cases e1 : inG p.e1 with
    | false => rw [runF_end (r := false) (by rw [h1, e1]; rfl)]; rfl
    | true => rw [runF_step (t := .l1 2) (by rw [h1, e1]; rfl)]; exact runF_end rfl
def okV (v : api_Value) : Bool := (decide (v.Kind = 1) && decide (v.B = 0)) || (decide (v.Kind = 2) && inG v.A && inG v.B)
theorem value (v : api_Value) : value_May.f v = some (okV v) := by
  unfold value_May.f value_Pair.f value_Int.f value_May.j1 okV
  rw [gauss]
  simp only [Option.bind_some]
  by_cases k1 : v.Kind = 1
  · simp only [k1]
    by_cases hB : v.B = 0
    · cases hA : inG v.A <;> cases hC : inG v.B <;> simp [hB]
    · cases inG v.A <;> cases inG v.B <;> simp [hB]
  · by_cases k2 : v.Kind = 2
    · simp only [k2]
      cases inG v.A <;> cases inG v.B <;> simp
    · cases inG v.A <;> cases inG v.B <;> simp [k1, k2]
theorem contains {l : List api_Value} (hl : l.length ≤ 20) : slices_ContainsFunc_api_Value_api_Value_s1.f l = some (l.any fun v => !okV v) := by
  unfold slices_ContainsFunc_api_Value_api_Value_s1.f slices_IndexFunc_api_Value_api_Value_s1.f
  rw [runF_step (t := .l1 0) rfl]
  have key : ∀ (m k : Nat), k + m = l.length → ∃ r : Int, runF (slices_IndexFunc_api_Value_api_Value_s1.F l) (.l1 (k : Int)) = some r ∧ decide (r ≥ 0) = (l.drop k).any (fun v => !okV v) := by
    intro m
    induction m with
    | zero =>
      intro k e
      refine ⟨-1, runF_end (by dsimp only [slices_IndexFunc_api_Value_api_Value_s1.F]; rw [if_neg (by omega)]), ?_⟩
      rw [List.drop_eq_nil_of_le (by omega)]; rfl
    | succ m ih =>
      intro k e
      have hk : k < l.length := by omega
      rw [List.drop_eq_getElem_cons hk]
      by_cases hv : okV l[k] = true
      · obtain ⟨r, h1, h2⟩ := ih (k + 1) (by omega)
        refine ⟨r, ?_, by simp only [List.any_cons, hv, h2, Bool.not_true, Bool.false_or]⟩
        rw [← h1]
        refine runF_step ?_
        dsimp only [slices_IndexFunc_api_Value_api_Value_s1.F]
        rw [if_pos (by omega), elt_lt hk]
        simp only [Option.bind_some, entry_May_1.f, value]
        rw [if_neg (by simp [hv]), wrap_succ k (by omega)]
      · refine ⟨k, runF_end ?_, by simp only [List.any_cons, Bool.eq_false_iff.2 hv, Bool.not_false, Bool.true_or]; simp⟩
        dsimp only [slices_IndexFunc_api_Value_api_Value_s1.F]
        rw [if_pos (by omega), elt_lt hk]
        simp only [Option.bind_some, entry_May_1.f, value]
        rw [if_pos (by simpa using hv)]
  obtain ⟨r, h1, h2⟩ := key l.length 0 (by omega)
  have h1 : runF (slices_IndexFunc_api_Value_api_Value_s1.F l) (.l1 0) = some r := h1
  rw [h1]
  simp only [Option.bind_some, h2, List.drop_zero]
def okOp (o : api_Op) : Bool :=
  if o.Kind = 1 then decide (o.Method ≥ 0) && decide (o.Method < 16) && decide ((o.Args.length : Int) ≤ 4) && (!(o.Args.any fun v => !okV v)) && decide ((o.Bytes.length : Int) = 0)
  else if o.Kind = 2 then decide (o.Method = 0) && decide ((o.Args.length : Int) = 0) && decide ((o.Bytes.length : Int) ≤ 2000) else false
theorem entry {o : api_Op} (h : Fit o) : entry_May.f o = some (okOp o) := by
  unfold entry_May.f okOp
  rw [contains h.1]
  by_cases k1 : o.Kind = 1
  · rw [if_pos k1, if_pos k1]
    simp only [Option.bind_some]
    by_cases hc : (((decide (o.Method ≥ 0)) && (decide (o.Method < 16))) && (decide ((o.Args.length : Int) ≤ 4))) = true
    · rw [if_pos hc, hc]; simp
    · rw [if_neg hc, Bool.eq_false_iff.2 hc]; simp
  · rw [if_neg k1, if_neg k1]
    by_cases k2 : o.Kind = 2
    · rw [if_pos k2, if_pos k2]
    · rw [if_neg k2, if_neg k2]
def noR (c : history_Call) : Bool := c.Reply.Err == 0 && ((c.Reply.Out.Trap == 0 && ((c.Reply.Out.Result.Kind == 0 && (c.Reply.Out.Result.A == 0 && (c.Reply.Out.Result.B == 0))))))
def okC (c : history_Call) : Bool :=
  decide (c.Proc ≥ 0) && decide (c.Proc < 64) && okOp c.Op && (!(c.Read && decide (c.Op.Kind ≠ 1))) && decide (c.Start ≥ 1) && (if c.End = 0 then noR c else decide (c.End > c.Start))
theorem alone {c : history_Call} (h : Fit c.Op) : history_alone.f c = some (okC c) := by
  unfold history_alone.f okC history_Call_pending.f
  rw [entry h]
  simp only [Option.bind_some]
  by_cases p1 : c.Proc < 0
  · simp [p1]; omega
  by_cases p2 : c.Proc ≥ 64
  · simp [p2]; omega
  rw [if_neg (by simp; omega)]
  simp only [Option.bind_some]
  have e1 : decide (c.Proc ≥ 0) = true := by simp; omega
  have e2 : decide (c.Proc < 64) = true := by simp; omega
  rw [e1, e2]
  by_cases hc : ((!okOp c.Op || (c.Read && (decide (c.Op.Kind ≠ 1)))) || (decide (c.Start < 1))) = true
  · rw [if_pos hc]
    congr 1; symm
    rw [Bool.eq_false_iff]
    intro hz
    simp at hz hc
    rcases hc with (hc | hc) | hc
    · rw [hc] at hz; simp at hz
    · rcases hz.1.1.2 with z | z
      · rw [hc.1] at z; cases z
      · exact hc.2 z
    · omega
  · rw [if_neg hc]
    simp at hc
    obtain ⟨⟨h1, h2⟩, h3⟩ := hc
    have e3 : (!(c.Read && decide (c.Op.Kind ≠ 1))) = true := by
      cases hr : c.Read
      · rfl
      · simp [h2 hr]
    have e4 : decide (c.Start ≥ 1) = true := by simp; omega
    rw [h1, e3, e4]
    by_cases he : c.End = 0
    · simp [he, noR]
    · simp [he]
def ahead (b c : history_Call) : Bool := decide (b.End ≠ 0) && decide (b.End < c.Start)
theorem ahead1 (b c : history_Call) : history_Ahead.f b c = some (ahead b c) := by
  unfold history_Ahead.f history_Call_pending.f ahead
  simp
def pre (b c : history_Call) : Prop := b.Start < c.Start ∧ (b.Proc = c.Proc → ahead b c = true)
def times (c : history_Call) : List Int := c.Start :: (if c.End = 0 then [] else [c.End])
def Prefix (l : List history_Call) (i : Nat) : Prop := ∀ j (hj : j < l.length), j < i → okC l[j] = true ∧ ∀ k (hk : k < j), pre l[k] l[j]
def T (l : List history_Call) (i : Nat) : List Int := (l.take i).flatMap times
theorem T_succ {l : List history_Call} {i : Nat} (h : i < l.length) : T l (i + 1) = T l i ++ times l[i] := by
  unfold T; rw [take_succ l i h, List.flatMap_append]; simp
theorem T_len (l : List history_Call) (i : Nat) : (T l i).length ≤ 2 * i := by
  unfold T
  rw [List.length_flatMap]
  have : ∀ (m : List history_Call), (m.map fun c => (times c).length).sum ≤ 2 * m.length := by
    intro m
    induction m with
    | nil => simp
    | cons c m ih =>
      have : (times c).length ≤ 2 := by unfold times; split <;> simp
      simp only [List.map_cons, List.sum_cons, List.length_cons]; omega
  exact Nat.le_trans (this _) (by simp; omega)
def Inv (m : List (Int × Int)) (t : List Int) : Prop := (m.map (·.1)).Nodup ∧ (∀ p ∈ m, p.2 = (t.count p.1 : Int)) ∧ ∀ x ∈ t, ∃ p ∈ m, p.1 = x
theorem mget_of : ∀ (m : List (Int × Int)) (k : Int), (m.map (·.1)).Nodup → (∃ v, mget m k = some v ∧ (k, v) ∈ m) ∨ (mget m k = none ∧ ∀ p ∈ m, p.1 ≠ k)
  | [], k, _ => .inr ⟨rfl, by simp⟩
  | p :: m, k, h => by
    simp only [List.map_cons, List.nodup_cons] at h
    by_cases hk : p.1 = k
    · exact .inl ⟨p.2, by simp [mget, hk], by rw [← hk]; simp⟩
    · rcases mget_of m k h.2 with ⟨v, a, b⟩ | ⟨a, b⟩
      · exact .inl ⟨v, by simp [mget, hk, a], by simp [b]⟩
      · exact .inr ⟨by simp [mget, hk, a], fun q hq => by rcases List.mem_cons.1 hq with rfl | hq; exact hk; exact b q hq⟩
theorem mset_mem : ∀ (m : List (Int × Int)) (k v : Int), (m.map (·.1)).Nodup → ((mset m k v).map (·.1)).Nodup ∧ (∀ x, x ∈ (mset m k v).map (·.1) ↔ x = k ∨ x ∈ m.map (·.1)) ∧ ∀ p, p ∈ mset m k v → p = (k, v) ∨ (p ∈ m ∧ p.1 ≠ k)
  | [], k, v, _ => ⟨by simp [mset], by simp [mset], by simp [mset]⟩
  | p :: m, k, v, h => by
    simp only [List.map_cons, List.nodup_cons] at h
    by_cases hk : p.1 = k
    · refine ⟨?_, fun x => ?_, fun q hq => ?_⟩
      · simp only [mset, hk, if_pos, List.map_cons, List.nodup_cons]; rw [← hk]; exact h
      · simp [mset, hk]
      · simp only [mset, hk, if_pos] at hq
        rcases List.mem_cons.1 hq with rfl | hq
        · exact .inl rfl
        · exact .inr ⟨by simp [hq], fun e => h.1 (by rw [hk, ← e]; exact List.mem_map.2 ⟨q, hq, rfl⟩)⟩
    · obtain ⟨a, b, c⟩ := mset_mem m k v h.2
      refine ⟨?_, fun x => ?_, fun q hq => ?_⟩
      · simp only [mset, hk, if_false, List.map_cons, List.nodup_cons]
        exact ⟨fun z => by rcases (b _).1 z with z | z; exact hk z; exact h.1 z, a⟩
      · simp only [mset, hk, if_false, List.map_cons, List.mem_cons, b]
        constructor <;> (rintro (z | z | z) <;> simp [z])
      · simp only [mset, hk, if_false] at hq
        rcases List.mem_cons.1 hq with rfl | hq
        · exact .inr ⟨by simp, hk⟩
        · rcases c q hq with z | ⟨z, z'⟩
          · exact .inl z
          · exact .inr ⟨by simp [z], z'⟩
theorem Inv.got {m : List (Int × Int)} {t : List Int} (h : Inv m t) (k : Int) : (mget m k).getD 0 = (t.count k : Int) := by
  rcases mget_of m k h.1 with ⟨v, a, b⟩ | ⟨a, b⟩
  · rw [a]; exact h.2.1 _ b
  · rw [a]
    have : k ∉ t := fun hk => by obtain ⟨p, hp, e⟩ := h.2.2 k hk; exact b p hp e
    rw [List.count_eq_zero_of_not_mem this]; rfl
theorem Inv.put {m : List (Int × Int)} {t : List Int} (h : Inv m t) (k : Int) (ht : t.length ≤ 9000) : Inv (mset m k (IntKind.i64.wrap ((mget m k).getD 0 + 1))) (t ++ [k]) := by
  have hc := List.count_le_length (a := k) (l := t)
  rw [h.got k, wrap_id (by omega) (by omega)]
  obtain ⟨a, b, c⟩ := mset_mem m k ((t.count k : Int) + 1) h.1
  refine ⟨a, fun p hp => ?_, fun x hx => ?_⟩
  · rcases c p hp with rfl | ⟨hm, hne⟩
    · simp
    · rw [h.2.1 p hm, List.count_append]
      simp [List.count_singleton, Ne.symm hne]
  · rcases List.mem_append.1 hx with hx | hx
    · obtain ⟨p, hp, e⟩ := h.2.2 x hx
      have : x ∈ (mset m k ((t.count k : Int) + 1)).map (·.1) := (b x).2 (.inr (List.mem_map.2 ⟨p, hp, e⟩))
      obtain ⟨q, hq, e⟩ := List.mem_map.1 this
      exact ⟨q, hq, e⟩
    · have : x ∈ (mset m k ((t.count k : Int) + 1)).map (·.1) := (b x).2 (.inl (by simpa using hx))
      obtain ⟨q, hq, e⟩ := List.mem_map.1 this
      exact ⟨q, hq, e⟩
theorem Inv.nodup {m : List (Int × Int)} {t : List Int} (h : Inv m t) : (m.any fun p => decide (p.2 > 1)) = !decide t.Nodup := by
  rw [Bool.eq_iff_iff]
  simp only [List.any_eq_true, decide_eq_true_eq, Bool.not_eq_true', decide_eq_false_iff_not]
  rw [List.nodup_iff_count]
  constructor
  · rintro ⟨p, hp, hv⟩ hn
    have := h.2.1 p hp
    have := hn p.1
    omega
  · intro hn
    simp only [Classical.not_forall] at hn
    obtain ⟨x, hx⟩ := hn
    have hm : x ∈ t := List.count_pos_iff.1 (by omega)
    obtain ⟨p, hp, e⟩ := h.2.2 x hm
    refine ⟨p, hp, ?_⟩
    rw [h.2.1 p hp, e]; omega
theorem walk (l : List history_Call) (m : List (Int × Int)) : ∀ (n : Nat) (left : List (Int × Int)), left.length = n → runD (history_May.F l) (.l2 m left) = some (!(left.any fun p => decide (p.2 > 1)))
  | 0, left, e => by
    obtain rfl := List.length_eq_zero_iff.1 e
    exact runD_end (by simp [history_May.F])
  | n + 1, left, e => by
    have hne : left ≠ [] := by intro h; rw [h] at e; cases e
    refine runD_any (l := (picks left).map fun z => .p3 m z.1.1 z.1.2 z.2) ?_ ?_ fun t ht => ?_
    · dsimp only [history_May.F]
      rw [if_neg (by cases left with | nil => exact absurd rfl hne | cons => simp)]
    · intro h; exact picks_ne hne (List.map_eq_nil_iff.1 h)
    · obtain ⟨z, hz, rfl⟩ := List.mem_map.1 ht
      obtain ⟨j, h1, h2⟩ := of_picks hz
      obtain ⟨⟨k, v⟩, rest⟩ := z
      simp only at h1 h2 ⊢
      subst h2
      have hj : j < left.length := by
        rcases Nat.lt_or_ge j left.length with g | g
        · exact g
        · rw [List.getElem?_eq_none g] at h1; cases h1
      have hmem := List.mem_of_getElem? h1
      by_cases hv : v > 1
      · rw [runD_end (r := false) (by dsimp only [history_May.F]; rw [if_pos hv])]
        congr 1; symm
        simp only [Bool.not_eq_false', List.any_eq_true, decide_eq_true_eq]
        exact ⟨_, hmem, hv⟩
      · rw [stepD (t := .l2 m (left.eraseIdx j)) (by dsimp only [history_May.F]; rw [if_neg hv]), walk l m n _ (by rw [List.length_eraseIdx_of_lt hj]; omega)]
        congr 2
        rw [Bool.eq_iff_iff]
        simp only [List.any_eq_true, decide_eq_true_eq]
        constructor
        · rintro ⟨p, hp, h3⟩; exact ⟨p, List.mem_of_mem_eraseIdx hp, h3⟩
        · rintro ⟨p, hp, h3⟩
          refine ⟨p, ?_, h3⟩
          obtain ⟨i, hi⟩ := List.getElem?_of_mem hp
          refine List.mem_eraseIdx_iff_getElem?.2 ⟨i, ?_, hi⟩
          intro e; subst e
          rw [h1] at hi
          have := (Option.some.inj hi).symm
          subst this; exact hv h3
def Last (l : List history_Call) (i : Nat) (xs : List Int) : Prop := xs.length = 64 ∧ ∀ p (hp : p < xs.length), (xs[p] = 0 ∧ ∀ j (hj : j < l.length), j < i → l[j].Proc ≠ (p : Int)) ∨
  ∃ j, ∃ hj : j < l.length, j < i ∧ xs[p] = ((j + 1 : Nat) : Int) ∧ l[j].Proc = (p : Int) ∧ ∀ k (hk : k < l.length), j < k → k < i → l[k].Proc ≠ (p : Int)
theorem may {l : List history_Call} (hl : l.length ≤ 200) (hf : ∀ x ∈ l, Fit x.Op) (b : Bool) (hb : b = true ↔ (Prefix l l.length ∧ (T l l.length).Nodup)) : history_May.f l = some b := by
  unfold history_May.f
  rw [stepD (t := .l1 (List.replicate 64 0) [] 0) (by dsimp only [history_May.F]; rw [if_neg (by omega)])]
  have key : ∀ (n i : Nat) (xs : List Int) (m : List (Int × Int)), i + n = l.length → Prefix l i → Last l i xs → Inv m (T l i) → runD (history_May.F l) (.l1 xs m (i : Int)) = some b := by
    intro n
    induction n with
    | zero =>
      intro i xs m e hp hL hm
      obtain rfl : i = l.length := by omega
      rw [stepD (t := .l2 m m) (by dsimp only [history_May.F]; rw [if_neg (by omega)]), walk l m m.length m rfl, hm.nodup]
      congr 1
      rw [Bool.eq_iff_iff, hb]
      simp [hp]
    | succ n ih =>
      intro i xs m e hp hL hm
      have hi : i < l.length := by omega
      have bad : (¬ (okC l[i] = true ∧ ∀ k (hk : k < i), pre l[k] l[i])) → b = false := fun hn => by
        rw [Bool.eq_false_iff]
        intro hbt
        exact hn ((hb.1 hbt).1 i hi hi)
      have hstep : history_May.F l (.l1 xs m (i : Int)) = (if (!okC l[i]) = true then history_May.j2 l xs m (i : Int) l[i] true else (if (i : Int) > 0 then ((elt l (IntKind.i64.wrap ((i : Int) - 1))).bind fun x82 => history_May.j2 l xs m (i : Int) l[i] (decide (l[i].Start ≤ x82.Start))) else (history_May.j2 l xs m (i : Int) l[i] false))) := by
        dsimp only [history_May.F]
        rw [if_pos (by omega), elt_lt hi]
        simp only [Option.bind_some]
        rw [alone (hf _ (List.getElem_mem hi))]
        simp only [Option.bind_some]
      by_cases ho : okC l[i] = true
      case neg =>
        rw [bad fun h => ho h.1]
        refine runD_end ?_
        rw [hstep, if_pos (by simpa using ho)]
        rfl
      have hproc : 0 ≤ l[i].Proc ∧ l[i].Proc < 64 := by
        unfold okC at ho
        simp at ho
        omega
      -- the one just ahead
      by_cases hs : ∀ k (hk : k < i), l[k].Start < l[i].Start
      case neg =>
        rw [bad fun h => hs fun k hk => (h.2 k hk).1]
        refine runD_end ?_
        simp only [Classical.not_forall] at hs
        obtain ⟨k, hk, hs⟩ := hs
        have h1 : l[i].Start ≤ l[i - 1].Start := by
          by_cases e : k = i - 1
          · subst e; omega
          · have := ((hp (i - 1) (by omega) (by omega)).2 k (by omega)).1
            omega
        rw [hstep, if_neg (by simp [ho]), if_pos (by omega), show IntKind.i64.wrap ((i : Int) - 1) = ((i - 1 : Nat) : Int) by rw [wrap_id (by omega) (by omega)]; omega, elt_lt (by omega)]
        simp only [Option.bind_some]
        rw [decide_eq_true h1]
        rfl
      have hstep2 : history_May.F l (.l1 xs m (i : Int)) = history_May.j2 l xs m (i : Int) l[i] false := by
        rw [hstep, if_neg (by simp [ho])]
        by_cases h0 : i = 0
        · rw [if_neg (by omega)]
        · rw [if_pos (by omega), show IntKind.i64.wrap ((i : Int) - 1) = ((i - 1 : Nat) : Int) by rw [wrap_id (by omega) (by omega)]; omega, elt_lt (by omega)]
          simp only [Option.bind_some]
          have := hs (i - 1) (by omega)
          rw [decide_eq_false (by omega)]
      obtain ⟨p, hpp⟩ : ∃ p : Nat, l[i].Proc = (p : Int) := ⟨l[i].Proc.toNat, by omega⟩
      have hp64 : p < xs.length := by have := hL.1; omega
      -- the next state
      have next : runD (history_May.F l) (.l1 (xs.set p ((i + 1 : Nat) : Int)) (if l[i].End = 0 then mset m l[i].Start (IntKind.i64.wrap (((mget m l[i].Start).getD 0) + 1)) else mset (mset m l[i].Start (IntKind.i64.wrap (((mget m l[i].Start).getD 0) + 1))) l[i].End (IntKind.i64.wrap (((mget (mset m l[i].Start (IntKind.i64.wrap (((mget m l[i].Start).getD 0) + 1))) l[i].End).getD 0) + 1))) ((i + 1 : Nat) : Int)) = some b ∨ ¬ ∀ k (hk : k < i), pre l[k] l[i] := by
        by_cases hpre : ∀ k (hk : k < i), pre l[k] l[i]
        case neg => exact .inr hpre
        left
        refine ih (i + 1) _ _ (by omega) (fun j hj hji => ?_) ⟨by simpa using hL.1, fun q hq => ?_⟩ ?_
        · by_cases e : j = i
          · subst e; exact ⟨ho, hpre⟩
          · exact hp j hj (by omega)
        · simp only [List.length_set] at hq
          by_cases e : q = p
          · subst e
            refine .inr ⟨i, hi, by omega, by simp, hpp, fun k hk h1 h2 => by omega⟩
          · rw [List.getElem_set_ne (Ne.symm e)]
            rcases hL.2 q hq with ⟨h1, h2⟩ | ⟨j, hj, h1, h2, h3, h4⟩
            · refine .inl ⟨h1, fun j hj hji => ?_⟩
              by_cases e2 : j = i
              · subst e2; rw [hpp]; omega
              · exact h2 j hj (by omega)
            · refine .inr ⟨j, hj, by omega, h2, h3, fun k hk h5 h6 => ?_⟩
              by_cases e2 : k = i
              · subst e2; rw [hpp]; omega
              · exact h4 k hk h5 (by omega)
        · have hTl := T_len l i
          rw [T_succ hi]
          unfold times
          have h1 := hm.put l[i].Start (by omega)
          by_cases he : l[i].End = 0
          · rw [if_pos he, if_pos he]; exact h1
          · rw [if_neg he, if_neg he]
            have := h1.put l[i].End (by simp; omega)
            simpa using this
      have hj3 : ∀ h : (∀ k (hk : k < i), pre l[k] l[i]), history_May.F l (.l1 xs m (i : Int)) = history_May.j3 l xs m (i : Int) l[i] false → runD (history_May.F l) (.l1 xs m (i : Int)) = some b := fun hpre h => by
        rcases next with next | hn
        case inr => exact absurd hpre hn
        rw [← next]
        have : history_May.F l (.l1 xs m (i : Int)) = some (.inl [.l1 (xs.set p ((i + 1 : Nat) : Int)) (if l[i].End = 0 then mset m l[i].Start (IntKind.i64.wrap (((mget m l[i].Start).getD 0) + 1)) else mset (mset m l[i].Start (IntKind.i64.wrap (((mget m l[i].Start).getD 0) + 1))) l[i].End (IntKind.i64.wrap (((mget (mset m l[i].Start (IntKind.i64.wrap (((mget m l[i].Start).getD 0) + 1))) l[i].End).getD 0) + 1))) ((i + 1 : Nat) : Int)]) := by
          rw [h]
          unfold history_May.j3 history_May.j1 history_Call_pending.f
          rw [if_neg (by simp), hpp, elt_lt hp64]
          simp only [Option.bind_some, Int.toNat_natCast]
          rw [wrap_succ i (by omega)]
          by_cases he : l[i].End = 0
          · simp [he]
          · simp [he]
        exact stepD this
      rcases hL.2 p hp64 with ⟨h1, h2⟩ | ⟨j, hj, h1, h2, h3, h4⟩
      · refine hj3 (fun k hk => ⟨hs k hk, fun e => absurd (e.trans hpp) (h2 k (by omega) hk)⟩) ?_
        rw [hstep2]
        unfold history_May.j2
        rw [if_neg (by simp), hpp, elt_lt hp64, h1]
        simp
      · have hx : history_May.F l (.l1 xs m (i : Int)) = history_May.j3 l xs m (i : Int) l[i] (!ahead l[j] l[i]) := by
          rw [hstep2]
          unfold history_May.j2
          rw [if_neg (by simp), hpp, elt_lt hp64, h2]
          simp only [Option.bind_some]
          rw [if_pos (by omega), show IntKind.i64.wrap (((j + 1 : Nat) : Int) - 1) = (j : Int) by rw [wrap_id (by omega) (by omega)]; omega, elt_lt hj]
          simp only [Option.bind_some, ahead1]
        by_cases ha : ahead l[j] l[i] = true
        · rw [ha] at hx
          refine hj3 (fun k hk => ⟨hs k hk, fun e => ?_⟩) hx
          by_cases e1 : k = j
          · subst e1; exact ha
          · by_cases e2 : j < k
            · exact absurd (e.trans hpp) (h4 k (by omega) e2 hk)
            · have := ((hp j hj h1).2 k (by omega)).2 (e.trans (hpp.trans h3.symm))
              have h5 := hs j h1
              unfold ahead at this ⊢
              simp at this ⊢
              exact ⟨this.1, by omega⟩
        · rw [bad fun h => ha ((h.2 j h1).2 (h3.trans hpp.symm))]
          refine runD_end ?_
          rw [hx, Bool.eq_false_iff.2 ha]
          rfl
  have := key l.length 0 (List.replicate 64 0) [] (by omega) (fun j hj h => absurd h (by omega)) ⟨by simp, fun p hp => .inl ⟨by rw [List.getElem_replicate], fun j hj h => absurd h (by omega)⟩⟩ ⟨by simp, by simp, by simp [T]⟩
  exact this
theorem okC_end {c : history_Call} (h : okC c = true) (he : c.End ≠ 0) : c.Start < c.End := by
  unfold okC at h
  rw [if_neg he] at h
  simp only [Bool.and_eq_true, decide_eq_true_eq] at h
  exact h.2
def cnt (l : List history_Call) (p : history_Call → Bool) (k : Nat) : List history_Call := (l.take k).filter p
theorem cnt_succ {l : List history_Call} {p : history_Call → Bool} {k : Nat} (h : k < l.length) : cnt l p (k + 1) = cnt l p k ++ (if p l[k] then [l[k]] else []) := by
  unfold cnt
  rw [take_succ l k h, List.filter_append]
  congr 1
  by_cases hc : p l[k] <;> simp [hc]
theorem cnt_len (l : List history_Call) (p : history_Call → Bool) (k : Nat) : (cnt l p k).length ≤ l.length := by
  unfold cnt
  exact Nat.le_trans (List.length_filter_le _ _) (by simp; omega)
theorem own {c : history_Call} (h : Fit c.Op) : history_own.f c = some c := by
  obtain ⟨h1, h2⟩ := h
  unfold history_own.f entry_Copy.f slices_Clone_api_Value_api_Value.f bytes_Clone.f
  have e1 : nilOr c.Op.Args (some []) (if (([] : List api_Value).length + c.Op.Args.length) * 24 ≤ 140737488355328 then (some (([] : List api_Value) ++ c.Op.Args)) else none) = some c.Op.Args := by
    rw [nilOr_same (by intro e; rw [e]; rfl), if_pos (by simp; omega)]; rfl
  have e2 : nilOr c.Op.Bytes (some []) (if (([] : List Int).length + c.Op.Bytes.length) * 1 ≤ 140737488355328 then (some (([] : List Int) ++ c.Op.Bytes)) else none) = some c.Op.Bytes := by
    rw [nilOr_same (by intro e; rw [e]; rfl), if_pos (by simp; omega)]; rfl
  rw [e1]
  simp only [Option.bind_some]
  rw [e2]
  simp only [Option.bind_some]
def isP (c : history_Call) : Bool := decide (c.End = 0)
theorem pending1 {l : List history_Call} (hl : l.length ≤ 200) (hf : ∀ x ∈ l, Fit x.Op) : history_Pending.f l = some ((cnt l isP l.length).length : Int) := by
  unfold history_Pending.f history_kept_history_Call_history_Call_s1.f
  rw [runF_step (t := .l1 [] 0) rfl]
  have key : runF (history_kept_history_Call_history_Call_s1.F l) (.l1 [] 0) = some (cnt l isP l.length) := by
    refine (runF_up (n := l.length) (fun k => history_kept_history_Call_history_Call_s1.S.l1 (cnt l isP k) (k : Int)) fun k hk => ?_).trans ?_
    · dsimp only [history_kept_history_Call_history_Call_s1.F, history_kept_history_Call_history_Call_s1.j1]
      rw [if_pos (by omega), elt_lt hk]
      simp only [Option.bind_some, history_Call_pending.f]
      rw [wrap_succ k (by omega), cnt_succ hk]
      have hb := cnt_len l isP k
      by_cases hc : isP l[k] = true
      · rw [if_pos (by exact hc), own (hf _ (List.getElem_mem hk))]
        simp only [Option.bind_some]
        rw [if_pos (by simp; omega), if_pos hc]
      · rw [if_neg (by exact hc), if_neg hc, List.append_nil]
    · exact runF_end (by dsimp only [history_kept_history_Call_history_Call_s1.F]; rw [if_neg (by omega)])
  rw [key]; rfl
def on (t : Int) (c : history_Call) : Bool := decide (c.Start ≤ t) && (decide (c.End = 0) || decide (c.End ≥ t))
theorem collect {l : List history_Call} (hl : l.length ≤ 200) (a1 a2 a3 : Int) (a4 : List api_Value) (a5 : List Int) (a6 : Bool) (a7 a8 a9 a10 a11 t a13 : Int) :
    slices_Collect_history_Call_s1.f l a1 a2 a3 a4 a5 a6 a7 a8 a9 a10 a11 t a13 = some (cnt l (on t) l.length) := by
  unfold slices_Collect_history_Call_s1.f slices_AppendSeq_history_Call_history_Call_s1.f history_Width_2_s1.f
  rw [runF_step (t := .l1 [] 0) rfl]
  have key : ∀ Y : List history_Call → history_Call → Option (List history_Call × Bool), (∀ s x, s.length ≤ 200 → Y s x = some (s ++ [x], true)) → runF (history_Width_2_s1.F Y [] l a1 a2 a3 a4 a5 a6 a7 a8 a9 a10 a11 t a13) (.l1 [] 0) = some (cnt l (on t) l.length) := by
    intro Y hY
    refine (runF_up (n := l.length) (fun k => history_Width_2_s1.S.l1 (cnt l (on t) k) (k : Int)) fun k hk => ?_).trans ?_
    · dsimp only [history_Width_2_s1.F, history_Width_1_s1.f, history_Call_pending.f]
      rw [if_pos (by omega), elt_lt hk]
      simp only [Option.bind_some]
      have hb := cnt_len l (on t) k
      rw [wrap_succ k (by omega), cnt_succ hk]
      have e : (if l[k].Start ≤ t then some (decide (l[k].End = 0) || decide (l[k].End ≥ t)) else some false) = some (on t l[k]) := by
        unfold on
        by_cases h : l[k].Start ≤ t
        · rw [if_pos h, decide_eq_true h]; rfl
        · rw [if_neg h, decide_eq_false h]; rfl
      rw [e]
      simp only [Option.bind_some]
      by_cases hc : on t l[k] = true
      · rw [if_pos hc, if_pos hc, hY _ _ (by omega)]; rfl
      · rw [if_neg hc, if_neg hc, List.append_nil]; rfl
    · exact runF_end (by dsimp only [history_Width_2_s1.F]; rw [if_neg (by omega)])
  rw [key _ fun s x hs => by
    unfold slices_AppendSeq_history_Call_history_Call_s1.y1
    rw [if_pos (by simp; omega)]]
  rfl
def wide (l : List history_Call) : Nat → Int
  | 0 => 0
  | k + 1 => if h : k < l.length then (if ((cnt l (on l[k].Start) l.length).length : Int) > wide l k then ((cnt l (on l[k].Start) l.length).length : Int) else wide l k) else 0
theorem width1 {l : List history_Call} (hl : l.length ≤ 200) : history_Width.f l = some (wide l l.length) := by
  unfold history_Width.f
  rw [runF_step (t := .l1 0 0) rfl]
  refine (runF_up (n := l.length) (fun k => history_Width.S.l1 (wide l k) (k : Int)) fun k hk => ?_).trans ?_
  · dsimp only [history_Width.F]
    rw [if_pos (by omega), elt_lt hk]
    simp only [Option.bind_some, collect hl]
    rw [wrap_succ k (by omega)]
    simp only [wide, hk, dif_pos]
  · exact runF_end (by dsimp only [history_Width.F]; rw [if_neg (by omega)])
def nothing (c : history_Call) : Bool := ((!c.Read) && (decide (c.Reply.Err = 4))) || (c.Read && (decide (c.End = 0)))
theorem nothing1 (c : history_Call) : history_Nothing.f c = some (nothing c) := by
  unfold history_Nothing.f history_Call_pending.f nothing
  cases h : c.Read <;> simp
def isS (c : history_Call) : Bool := !nothing c
theorem some1 {l : List history_Call} (hl : l.length ≤ 200) (hf : ∀ x ∈ l, Fit x.Op) : history_Some.f l = some (cnt l isS l.length) := by
  unfold history_Some.f history_kept_history_Call_history_Call_s2.f
  rw [runF_step (t := .l1 [] 0) rfl]
  have key : runF (history_kept_history_Call_history_Call_s2.F l) (.l1 [] 0) = some (cnt l isS l.length) := by
    refine (runF_up (n := l.length) (fun k => history_kept_history_Call_history_Call_s2.S.l1 (cnt l isS k) (k : Int)) fun k hk => ?_).trans ?_
    · dsimp only [history_kept_history_Call_history_Call_s2.F, history_kept_history_Call_history_Call_s2.j1]
      rw [if_pos (by omega), elt_lt hk]
      simp only [Option.bind_some, history_Call_some.f, nothing1]
      rw [wrap_succ k (by omega), cnt_succ hk]
      have hb := cnt_len l isS k
      by_cases hc : isS l[k] = true
      · rw [if_pos (by exact hc), own (hf _ (List.getElem_mem hk))]
        simp only [Option.bind_some]
        rw [if_pos (by simp; omega), if_pos hc]
      · rw [if_neg (by exact hc), if_neg hc, List.append_nil]
    · exact runF_end (by dsimp only [history_kept_history_Call_history_Call_s2.F]; rw [if_neg (by omega)])
  rw [key]; rfl
/-! ### the chapter's example -/
def cA : history_Call := ⟨0, ⟨1, 0, [], []⟩, false, ⟨0, ⟨0, ⟨0, 0, 0⟩⟩⟩, 1, 5⟩
def cB : history_Call := ⟨1, ⟨1, 0, [], []⟩, false, ⟨0, ⟨0, ⟨0, 0, 0⟩⟩⟩, 3, 4⟩
def cC : history_Call := ⟨0, ⟨1, 0, [], []⟩, false, ⟨0, ⟨0, ⟨0, 0, 0⟩⟩⟩, 6, 0⟩
def cF : history_Call := ⟨0, ⟨1, 0, [], []⟩, false, ⟨4, ⟨0, ⟨0, 0, 0⟩⟩⟩, 1, 5⟩
def cR : history_Call := ⟨0, ⟨1, 0, [], []⟩, true, ⟨0, ⟨0, ⟨0, 0, 0⟩⟩⟩, 6, 0⟩
theorem fit3 (x y z : history_Call) (hx : Fit x.Op) (hy : Fit y.Op) (hz : Fit z.Op) : ∀ c ∈ [x, y, z], Fit c.Op := by
  intro c hc
  simp only [List.mem_cons, List.not_mem_nil, or_false] at hc
  rcases hc with rfl | rfl | rfl <;> assumption
theorem fit2 (x y : history_Call) (hx : Fit x.Op) (hy : Fit y.Op) : ∀ c ∈ [x, y], Fit c.Op := by
  intro c hc
  simp only [List.mem_cons, List.not_mem_nil, or_false] at hc
  rcases hc with rfl | rfl <;> assumption
theorem fA : Fit cA.Op := by decide
theorem fB : Fit cB.Op := by decide
theorem fC : Fit cC.Op := by decide
theorem may_abc : history_May.f [cA, cB, cC] = some true := by
  refine may (by decide) (fit3 _ _ _ fA fB fC) true ⟨fun _ => ⟨?_, by decide⟩, fun _ => rfl⟩
  intro j hj _
  simp only [List.length_cons, List.length_nil] at hj
  match j, hj with
  | 0, _ => exact ⟨show okC cA = true by decide, fun k hk => absurd hk (by omega)⟩
  | 1, _ => exact ⟨show okC cB = true by decide, fun k hk => match k, hk with
    | 0, _ => (show pre cA cB from ⟨by decide, by decide⟩)⟩
  | 2, _ => exact ⟨show okC cC = true by decide, fun k hk => match k, hk with
    | 0, _ => (show pre cA cC from ⟨by decide, by decide⟩)
    | 1, _ => (show pre cB cC from ⟨by decide, by decide⟩)⟩
theorem may_ba : history_May.f [cB, cA] = some false := by
  refine may (by decide) (fit2 _ _ fB fA) false ⟨fun h => (by cases h), fun h => ?_⟩
  have := ((h.1 1 (by decide) (by decide)).2 0 (by decide)).1
  exact absurd this (by decide)
theorem may_aa : history_May.f [cA, cA] = some false := by
  refine may (by decide) (fit2 _ _ fA fA) false ⟨fun h => (by cases h), fun h => ?_⟩
  have := ((h.1 1 (by decide) (by decide)).2 0 (by decide)).1
  exact absurd this (by decide)
theorem awake : capstanlaw30_awake.f = some true := by
  have e1 : history_Width.f [cA, cB, cC] = some 2 := by rw [width1 (by decide)]; decide
  have e2 : history_Pending.f [cA, cB, cC] = some 1 := by rw [pending1 (by decide) (fit3 _ _ _ fA fB fC)]; decide
  have e3 : history_Some.f [cF, cB, cR] = some [cB] := by
    rw [some1 (by decide) (fit3 _ _ _ (by decide) fB (by decide))]
    rfl
  have e4 := may_abc
  have e5 := may_ba
  have e6 := may_aa
  simp only [cA, cB, cC, cF, cR] at e1 e2 e3 e4 e5 e6
  unfold capstanlaw30_awake.f capstanlaw30_call.f
  simp only [Option.bind_some, ahead1, nothing1, e1, e2, e3, e4, e5, e6]
  rfl
theorem pure : capstanlaw30_HistoryAhead.Pure := by
  intro l a b c d _ _ _ _ _
  unfold capstanlaw30_HistoryAhead.f
  rw [awake]
  simp only [Option.bind_some]
  rw [if_neg (by simp)]
  rcases great30 l with hg | ⟨hg, hl, hf⟩
  · rw [hg]; rfl
  rw [hg]
  simp only [Option.bind_some]
  by_cases h0 : l.length = 0
  · rw [if_pos (by simp [h0])]; rfl
  rw [if_neg (by simp; intro h; exact h0 (by rw [h]; rfl))]
  by_cases hm : Prefix l l.length ∧ (T l l.length).Nodup
  case neg =>
    rw [may hl hf false ⟨fun h => (by cases h), fun h => absurd h hm⟩]
    rfl
  rw [may hl hf true ⟨fun _ => hm, fun _ => rfl⟩]
  simp only [Option.bind_some]
  rw [if_neg (by simp)]
  have hw : IntKind.u64.wrap (l.length : Int) = (l.length : Int) := by
    simp only [IntKind.wrap, IntKind.bits, IntKind.signed]
    first | omega | (split <;> omega) | (simp; omega)
  have hx : ∀ x : Int, ∃ k : Nat, ∃ hk : k < l.length, elt l (Int.tmod (IntKind.u64.wrap x) (l.length : Int)) = some l[k] := fun x => by
    have h1 : 0 ≤ IntKind.u64.wrap x := by
      simp only [IntKind.wrap, IntKind.bits, IntKind.signed]
      first | omega | (split <;> omega) | (simp; omega)
    have h2 := Int.tmod_nonneg (l.length : Int) h1
    have h3 := Int.tmod_lt_of_pos (IntKind.u64.wrap x) (show (0 : Int) < (l.length : Int) by omega)
    refine ⟨(Int.tmod (IntKind.u64.wrap x) (l.length : Int)).toNat, by omega, ?_⟩
    rw [← elt_lt (by omega)]
    congr 1; omega
  rw [hw]
  obtain ⟨i, hi, ei⟩ := hx a
  obtain ⟨j, hj, ej⟩ := hx b
  obtain ⟨k, hk, ek⟩ := hx c
  obtain ⟨m, hm', em⟩ := hx d
  have ok : ∀ q (hq : q < l.length), l[q].End ≠ 0 → l[q].Start < l[q].End := fun q hq he => okC_end (hm.1 q hq hq).1 he
  have o1 := ok i hi; have o2 := ok j hj; have o3 := ok k hk; have o4 := ok m hm'
  rw [if_pos (by omega), ei, ej, ek, em]
  simp only [Option.bind_some, ahead1]
  rw [if_pos (by omega), if_pos (by omega), if_pos (by omega)]
  generalize l[i] = w at o1 ⊢
  generalize l[j] = x at o2 ⊢
  generalize l[k] = y at o3 ⊢
  generalize l[m] = z at o4 ⊢
  have a1 : ahead w w = false := by unfold ahead; simp; omega
  have a2 : ahead w x = true → ahead x w = false := by unfold ahead; simp; omega
  have a3 : ahead w x = true → ahead x y = true → ahead w y = true := by unfold ahead; simp; omega
  have a4 : ahead w x = true → ahead y z = true → ahead w z = false → ahead y x = true := by unfold ahead; simp; omega
  rw [a1]
  simp only [Bool.false_eq_true, if_false]
  cases h1 : ahead w x
  · simp
  · rw [a2 h1]
    simp only [if_true, Option.bind_some, Bool.false_eq_true, if_false]
    cases h2 : ahead x y
    · simp only [Bool.false_eq_true, if_false, Option.bind_some]
      cases h3 : ahead y z <;> cases h4 : ahead w z <;> simp
      exact a4 h1 h3 h4
    · rw [a3 h1 h2]
      simp only [if_true, Option.bind_some, Bool.false_eq_true, if_false]
      cases h3 : ahead y z <;> cases h4 : ahead w z <;> simp
      exact a4 h1 h3 h4
end HistoryPure
theorem historyAhead_holds : Rows.HistoryAheadSaid := historyAhead.over HistoryPure.pure
#print axioms historyAhead_holds
end Go.Proofs.Ytbejlahmhloloaa
