/- The calls of any engine's calls are what the chapter says; what is told is the caller's own (the law HistoryOf): for every input, with no condition. -/
import Derived.Test.YtbejlahmhloloaaRHistoryOf
set_option linter.unusedVariables false
set_option linter.unusedSimpArgs false
namespace Go.Proofs.Ytbejlahmhloloaa
open Go.Q
namespace HistoryOfPure
def isC (x : engine_Call) : Bool := (decide (x.Kind = 1)) || (decide (x.Kind = 2))
def made (x : engine_Call) : history_Call := ⟨x.Proc, x.Op, decide (x.Kind = 2), x.Reply, x.Start, x.End⟩
def Fit (o : api_Op) : Prop := o.Args.length ≤ 20 ∧ o.Bytes.length ≤ 3000
instance (o : api_Op) : Decidable (Fit o) := by unfold Fit; infer_instance
theorem great (o : api_Op) : capstanlaw20_Great.f o = some (decide (¬ Fit o)) := by
  unfold capstanlaw20_Great.f Fit
  congr 1
  rw [Bool.eq_iff_iff]
  simp
  omega
theorem own {c : history_Call} (h : Fit c.Op) : history_own.f c = some c := by
  obtain ⟨h1, h2⟩ := h
  unfold history_own.f entry_Copy.f slices_Clone_api_Value_api_Value.f bytes_Clone.f
  have e1 : nilOr c.Op.Args (some []) (if (([] : List api_Value).length + c.Op.Args.length) * 24 ≤ 140737488355328 then (some (([] : List api_Value) ++ c.Op.Args)) else none) = some c.Op.Args := by
    rw [nilOr_same (by intro e; rw [e]; rfl), if_pos (by simp; omega)]; rfl
  have e2 : nilOr c.Op.Bytes (some []) (if (([] : List Int).length + c.Op.Bytes.length) * 1 ≤ 140737488355328 then (some (([] : List Int) ++ c.Op.Bytes)) else none) = some c.Op.Bytes := by
    rw [nilOr_same (by intro e; rw [e]; rfl), if_pos (by simp; omega)]; rfl
  rw [e1]
  simp only [Option.bind_some]
  rw [e2]
  simp only [Option.bind_some]
def part (l : List engine_Call) (k : Nat) : List history_Call := ((l.take k).filter isC).map made
theorem part_succ {l : List engine_Call} {k : Nat} (h : k < l.length) : part l (k + 1) = part l k ++ (if isC l[k] then [made l[k]] else []) := by
  unfold part
  rw [take_succ l k h, List.filter_append, List.map_append]
  congr 1
  by_cases hc : isC l[k] <;> simp [hc]
theorem part_len (l : List engine_Call) (k : Nat) : (part l k).length ≤ l.length := by
  unfold part
  rw [List.length_map]
  exact Nat.le_trans (List.length_filter_le _ _) (by simp; omega)
theorem ref {l : List engine_Call} (hl : l.length ≤ 200) : capstanref30_Of.f l = some (part l l.length) := by
  unfold capstanref30_Of.f
  rw [runF_step (t := .l1 [] 0) rfl]
  refine (runF_up (n := l.length) (fun k => capstanref30_Of.S.l1 (part l k) (k : Int)) fun k hk => ?_).trans ?_
  · dsimp only [capstanref30_Of.F, capstanref30_Of.j1]
    rw [if_pos (by omega), elt_lt hk]
    simp only [Option.bind_some]
    rw [wrap_succ k (by omega), part_succ hk]
    have hb := part_len l k
    by_cases hc : isC l[k]
    · rw [if_pos (by exact hc), if_pos (by simp; omega), if_pos hc]; rfl
    · rw [if_neg (by exact hc), if_neg hc, List.append_nil]
  · exact runF_end (by dsimp only [capstanref30_Of.F]; rw [if_neg (by omega)])
theorem impl {l : List engine_Call} (hl : l.length ≤ 200) (hf : ∀ x ∈ l, Fit x.Op) : history_Of.f l = some (part l l.length) := by
  unfold history_Of.f history_kept_engine_Call_history_Call_s1.f
  rw [runF_step (t := .l1 [] 0) rfl]
  have key : runF (history_kept_engine_Call_history_Call_s1.F l) (.l1 [] 0) = some (part l l.length) := by
    refine (runF_up (n := l.length) (fun k => history_kept_engine_Call_history_Call_s1.S.l1 (part l k) (k : Int)) fun k hk => ?_).trans ?_
    · dsimp only [history_kept_engine_Call_history_Call_s1.F, history_kept_engine_Call_history_Call_s1.j1]
      rw [if_pos (by omega), elt_lt hk]
      simp only [Option.bind_some, history_Of_1.f]
      rw [wrap_succ k (by omega), part_succ hk]
      have hb := part_len l k
      by_cases hc : isC l[k]
      · have hm : history_Of_2.f l[k] = some (made l[k]) := by
          unfold history_Of_2.f
          rw [own (hf _ (List.getElem_mem hk))]
          rfl
        rw [if_pos (by exact hc), hm]
        simp only [Option.bind_some]
        rw [if_pos (by simp; omega), if_pos hc]
      · rw [if_neg (by exact hc), if_neg hc, List.append_nil]
    · exact runF_end (by dsimp only [history_kept_engine_Call_history_Call_s1.F]; rw [if_neg (by omega)])
  rw [key]; rfl
theorem same17 {a : List api_Value} (h : a.length ≤ 20) : capstanref17_Same.f a a = some true := by
  unfold capstanref17_Same.f
  rw [runF_step (t := .l1 0) (by dsimp only [capstanref17_Same.F]; rw [if_neg (by simp)])]
  refine (runF_up (n := a.length) (fun k => capstanref17_Same.S.l1 (k : Int)) fun k hk => ?_).trans ?_
  · dsimp only [capstanref17_Same.F]
    rw [if_pos (by omega), elt_lt hk]
    simp only [Option.bind_some]
    rw [if_neg (by simp), wrap_succ k (by omega)]
  · exact runF_end (by dsimp only [capstanref17_Same.F]; rw [if_neg (by omega)])
theorem same20 {o : api_Op} (h : Fit o) : capstanref20_Same.f o o = some true := by
  unfold capstanref20_Same.f
  simp [same17 h.1]
/-- Rows that the law may write into. -/
def Ok (l : List history_Call) : Prop := l.length ≤ 200 ∧ ∀ y ∈ l, Fit y.Op
theorem Ok.get {l : List history_Call} (h : Ok l) {k : Nat} (hk : k < l.length) : Fit l[k].Op := h.2 _ (List.getElem_mem hk)
theorem Ok.set {l : List history_Call} (h : Ok l) (k : Nat) {y : history_Call} (hy : Fit y.Op) : Ok (l.set k y) := by
  refine ⟨by simpa using h.1, fun z hz => ?_⟩
  rcases List.mem_or_eq_of_mem_set hz with hz | rfl
  · exact h.2 _ hz
  · exact hy
theorem same30 {l : List history_Call} (h : Ok l) : capstanref30_Same.f l l = some true := by
  unfold capstanref30_Same.f
  rw [runF_step (t := .l1 0) (by dsimp only [capstanref30_Same.F]; rw [if_neg (by simp)])]
  have hl := h.1
  refine (runF_up (n := l.length) (fun k => capstanref30_Same.S.l1 (k : Int)) fun k hk => ?_).trans ?_
  · dsimp only [capstanref30_Same.F, capstanref30_Same.j1]
    rw [if_pos (by omega), elt_lt hk]
    simp [same20 (h.get hk)]
    rw [wrap_succ k (by omega)]; omega
  · exact runF_end (by dsimp only [capstanref30_Same.F]; rw [if_neg (by omega)])
/-- The law writes into what it was told, and goes on. -/
theorem l5 {l0 : List engine_Call} {want : List history_Call} {x : Int} {k : Nat} : ∀ (m : Nat) (l : List history_Call) (j : Nat), Ok l → (hk : k < l.length) → l[k].Op.Bytes.length = j + m →
    ∃ l', Ok l' ∧ l'.length = l.length ∧ runF (capstanlaw30_HistoryOf.F l0) (.l5 want x k l j) = runF (capstanlaw30_HistoryOf.F l0) (.l3 want x l' ((k + 1 : Nat) : Int))
  | 0, l, j, h, hk, e => ⟨l, h, rfl, by
      have h1 := h.1
      rw [runF_step (t := .l3 want x l ((k + 1 : Nat) : Int))]
      dsimp only [capstanlaw30_HistoryOf.F]
      rw [elt_lt hk]
      simp only [Option.bind_some]
      rw [if_neg (by omega), wrap_succ k (by omega)]⟩
  | m + 1, l, j, h, hk, e => by
    have hj : j < l[k].Op.Bytes.length := by omega
    have hf := h.get hk
    have hf' := hf
    unfold Fit at hf'
    obtain ⟨l', a, b, c⟩ := l5 (l0 := l0) (want := want) (x := x) (k := k) m (l.set k (history_Call.set_Op_Bytes l[k] (l[k].Op.Bytes.set j (IntKind.u8.wrap (l[k].Op.Bytes[j] + 1))))) (j + 1) (h.set k ⟨hf.1, by simpa using hf.2⟩) (by simpa using hk) (by simp; omega)
    refine ⟨l', a, by simpa using b, ?_⟩
    rw [← c]
    refine runF_step ?_
    dsimp only [capstanlaw30_HistoryOf.F]
    rw [elt_lt hk]
    simp only [Option.bind_some]
    rw [if_pos (by omega), elt_lt hj]
    simp only [Option.bind_some, Int.toNat_natCast]
    rw [wrap_succ j (by omega)]
theorem l4 {l0 : List engine_Call} {want : List history_Call} {x : Int} {k : Nat} : ∀ (m : Nat) (l : List history_Call) (j : Nat), Ok l → (hk : k < l.length) → l[k].Op.Args.length = j + m →
    ∃ l', Ok l' ∧ l'.length = l.length ∧ runF (capstanlaw30_HistoryOf.F l0) (.l4 want x k l j) = runF (capstanlaw30_HistoryOf.F l0) (.l5 want x k l' 0)
  | 0, l, j, h, hk, e => ⟨l, h, rfl, by
      rw [runF_step (t := .l5 want x k l 0)]
      dsimp only [capstanlaw30_HistoryOf.F]
      rw [elt_lt hk]
      simp only [Option.bind_some]
      rw [if_neg (by omega)]⟩
  | m + 1, l, j, h, hk, e => by
    have hj : j < l[k].Op.Args.length := by omega
    have hf := h.get hk
    have hf' := hf
    unfold Fit at hf'
    obtain ⟨l', a, b, c⟩ := l4 (l0 := l0) (want := want) (x := x) (k := k) m (l.set k (history_Call.set_Op_Args l[k] (l[k].Op.Args.set j ⟨l[k].Op.Args[j].Kind, IntKind.i64.wrap (l[k].Op.Args[j].A + 1), l[k].Op.Args[j].B⟩))) (j + 1) (h.set k ⟨by simpa using hf.1, hf.2⟩) (by simpa using hk) (by simp; omega)
    refine ⟨l', a, by simpa using b, ?_⟩
    rw [← c]
    refine runF_step ?_
    dsimp only [capstanlaw30_HistoryOf.F]
    rw [elt_lt hk]
    simp only [Option.bind_some]
    rw [if_pos (by omega), elt_lt hj]
    simp only [Option.bind_some, Int.toNat_natCast]
    rw [wrap_succ j (by omega)]
theorem l3 {l0 : List engine_Call} {want : List history_Call} {x : Int} : ∀ (m : Nat) (l : List history_Call) (k : Nat), Ok l → l.length = k + m →
    runF (capstanlaw30_HistoryOf.F l0) (.l3 want x l k) = runF (capstanlaw30_HistoryOf.F l0) (.l2 want (IntKind.i64.wrap (x + 1)))
  | 0, l, k, h, e => by
    refine runF_step ?_
    dsimp only [capstanlaw30_HistoryOf.F]
    rw [if_neg (by omega)]
  | m + 1, l, k, h, e => by
    rw [runF_step (t := .l4 want x k l 0) (by dsimp only [capstanlaw30_HistoryOf.F]; rw [if_pos (by omega)])]
    have hk : k < l.length := by omega
    obtain ⟨l1, a1, b1, c1⟩ := l4 (l0 := l0) (want := want) (x := x) (k := k) l[k].Op.Args.length l 0 h hk (by omega)
    have c1' : runF (capstanlaw30_HistoryOf.F l0) (.l4 want x k l 0) = _ := c1
    rw [c1']
    have hk1 : k < l1.length := by omega
    obtain ⟨l2, a2, b2, c2⟩ := l5 (l0 := l0) (want := want) (x := x) (k := k) l1[k].Op.Bytes.length l1 0 a1 hk1 (by omega)
    have c2' : runF (capstanlaw30_HistoryOf.F l0) (.l5 want x k l1 0) = _ := c2
    rw [c2']
    exact l3 m l2 (k + 1) a2 (by omega)
theorem turn {l : List engine_Call} (hl : l.length ≤ 200) (hf : ∀ x ∈ l, Fit x.Op) (x : Int) (hx : x < 2) : runF (capstanlaw30_HistoryOf.F l) (.l2 (part l l.length) x) = runF (capstanlaw30_HistoryOf.F l) (.l2 (part l l.length) (IntKind.i64.wrap (x + 1))) := by
  have ok : Ok (part l l.length) := by
    refine ⟨Nat.le_trans (part_len l _) hl, fun y hy => ?_⟩
    unfold part at hy
    obtain ⟨z, hz, rfl⟩ := List.mem_map.1 hy
    exact hf z (List.mem_of_mem_take (List.mem_filter.1 hz).1)
  rw [runF_step (t := .l3 (part l l.length) x (part l l.length) 0)]
  · exact l3 (part l l.length).length (part l l.length) 0 ok (by omega)
  · dsimp only [capstanlaw30_HistoryOf.F]
    rw [if_pos hx, impl hl hf]
    simp only [Option.bind_some]
    rw [same30 ok]
    simp
theorem pure : capstanlaw30_HistoryOf.Pure := by
  intro l _
  unfold capstanlaw30_HistoryOf.f
  by_cases hl : l.length ≤ 200
  case neg => exact runF_end (by dsimp only [capstanlaw30_HistoryOf.F]; rw [if_pos (by omega)])
  rw [runF_step (t := .l1 0) (by dsimp only [capstanlaw30_HistoryOf.F]; rw [if_neg (by omega)])]
  have go : ∀ (m k : Nat), l.length = k + m → (∀ j (hj : j < l.length), j < k → Fit l[j].Op) → runF (capstanlaw30_HistoryOf.F l) (.l1 k) = some true := by
    intro m
    induction m with
    | zero =>
      intro k e h
      have hf : ∀ x ∈ l, Fit x.Op := fun x hx => by
        obtain ⟨j, hj, rfl⟩ := List.mem_iff_getElem.1 hx
        exact h j hj (by omega)
      rw [runF_step (t := .l2 (part l l.length) 0)]
      · rw [turn hl hf 0 (by omega), show IntKind.i64.wrap (0 + 1) = 1 from rfl, turn hl hf 1 (by omega), show IntKind.i64.wrap (1 + 1) = 2 from rfl]
        exact runF_end (by dsimp only [capstanlaw30_HistoryOf.F]; rw [if_neg (by omega)])
      · dsimp only [capstanlaw30_HistoryOf.F]
        rw [if_neg (by omega), ref hl]
        rfl
    | succ m ih =>
      intro k e h
      have hk : k < l.length := by omega
      by_cases hf : Fit l[k].Op
      · rw [runF_step (t := .l1 ((k + 1 : Nat) : Int))]
        · refine ih (k + 1) (by omega) fun j hj hjk => ?_
          by_cases e : j = k
          · subst e; exact hf
          · exact h j hj (by omega)
        · dsimp only [capstanlaw30_HistoryOf.F]
          rw [if_pos (by omega), elt_lt hk]
          simp only [Option.bind_some]
          rw [great]
          simp only [Option.bind_some]
          rw [if_neg (by simpa using hf), wrap_succ k (by omega)]
      · refine runF_end ?_
        dsimp only [capstanlaw30_HistoryOf.F]
        rw [if_pos (by omega), elt_lt hk]
        simp only [Option.bind_some]
        rw [great]
        simp only [Option.bind_some]
        rw [if_pos (by simpa using hf)]
  exact go l.length 0 (by omega) fun j hj h => absurd h (by omega)
end HistoryOfPure
theorem historyOf_holds : Rows.HistoryOfSaid := historyOf.over HistoryOfPure.pure
#print axioms historyOf_holds
end Go.Proofs.Ytbejlahmhloloaa
