/- Whether any module is accepted, its certificates, who is to blame, is what the chapter says; it stays, and what is told is the caller's own (the law VerifyTells): for every input, with no condition but what the card ties to the program (what op's table of bounds holds). -/
import Derived.Test.YtehjiiebjkkcmaaGreatDoorRVerifyTells
import Derived.Test.YtehjiiebjkkcmaaGreatDoorP0VerifyTells
set_option linter.unusedVariables false
set_option linter.unusedSimpArgs false
set_option linter.unusedSectionVars false
namespace Go.Proofs.YtehjiiebjkkcmaaGreatDoor
open Go.Q
namespace XB
open Zw Y7 Xx XI
theorem JD {S α : Type} {F : S → Option (S ⊕ Int)} (s : Nat → S) (l : List α) (p : α → Bool) (hs : ∀ k (h : k < l.length), F (s k) = some (if p l[k] = true then .inr (k : Int) else .inl (s (k + 1)))) (hb : F (s l.length) = some (.inr (-1))) : ∃ r, runF F (s 0) = some r ∧ decide (r ≥ 0) = l.any p := by
 obtain ⟨r, hr, hc⟩ := Uk (F := F) (n := l.length) (b := -1) (a := fun k => (k : Int)) s (fun k => if h : k < l.length then p l[k] else false) (fun k hk => by rw [hs k hk]; simp only [dif_pos hk]) hb
 refine ⟨r, hr, ?_⟩
 rw [Bool.eq_iff_iff, decide_eq_true_eq, List.any_eq_true]
 rcases hc with ⟨k, hk, hp, rfl⟩ | ⟨hn, rfl⟩
 ·rw [dif_pos hk] at hp
  exact ⟨fun _ => ⟨_, List.getElem_mem hk, hp⟩, fun _ => by omega⟩
 ·refine ⟨fun h => by omega, fun ⟨x, hx, hp⟩ => ?_⟩
  obtain ⟨k, hk, rfl⟩ := List.mem_iff_getElem.1 hx
  have := hn k hk
  rw [dif_pos hk, hp] at this; cases this
def vMay (v : Zn) : Bool := (decide (v.Kind = 1) && decide (v.B = 0)) || (decide (v.Kind = 2) && (decide (-1048576 ≤ v.A ∧ v.A ≤ 1048576) && decide (-1048576 ≤ v.B ∧ v.B ≤ 1048576)))
theorem Z45 (v : Zn) : WK.f v = some (vMay v) := by
 obtain ⟨k, a, b⟩ := v
 unfold WK.f Ke.f KM.f KN.f WK.j1 vMay
 dsimp only
 by_cases h1 : a < -1048576 ∨ a > 1048576
 ·rw [if_pos (by simpa using h1)]
  simp only [Option.bind_some]
  rw [if_pos (by simp)]
  simp only [Option.bind_some]
  have e : decide (-1048576 ≤ a ∧ a ≤ 1048576) = false := by rw [decide_eq_false_iff_not]; omega
  rw [e]
  by_cases hk : k = 1 <;> by_cases hb : b = 0 <;> simp [hk, hb]
 ·rw [if_neg (by simpa using h1)]
  by_cases h2 : b < -1048576 ∨ b > 1048576
  ·rw [if_pos (by simpa using h2)]
   simp only [Option.bind_some]
   rw [if_pos (by simp)]
   simp only [Option.bind_some]
   have e : decide (-1048576 ≤ b ∧ b ≤ 1048576) = false := by rw [decide_eq_false_iff_not]; omega
   rw [e]
   by_cases hk : k = 1 <;> by_cases hb : b = 0 <;> simp [hk, hb]
  ·rw [if_neg (by simpa using h2)]
   simp only [Option.bind_some]
   rw [if_neg (by simp)]
   simp only [Option.bind_some]
   have e1 : decide (-1048576 ≤ a ∧ a ≤ 1048576) = true := by rw [decide_eq_true_eq]; omega
   have e2 : decide (-1048576 ≤ b ∧ b ≤ 1048576) = true := by rw [decide_eq_true_eq]; omega
   rw [e1, e2]
   by_cases hk : k = 1 <;> by_cases hb : b = 0 <;> by_cases hk2 : k = 2 <;> simp [hk, hb, hk2]
theorem Z8h {α : Type} {A B : List α} {k : Nat} (h : A.length = B.length) (hk : k < A.length) : (A.take k ++ B.drop k).set k A[k] = A.take (k + 1) ++ B.drop (k + 1) := by
 rw [List.set_append_right _ _ (by simp; omega), List.length_take, Nat.min_eq_left (by omega), Nat.sub_self]
 rw [List.drop_eq_getElem_cons (by omega), List.set_cons_zero]
 rw [show A.take (k + 1) = A.take k ++ [A[k]] from by rw [List.take_add_one, List.getElem?_eq_getElem hk]; rfl, List.append_assoc]; rfl
theorem Z9A {α : Type} {A B : List α} {k : Nat} (h : A.length = B.length) (hk : k < B.length) : elt (A.take k ++ B.drop k) (k : Int) = some B[k] := by
 rw [Zp (by simp; omega), List.getElem_append_right (by simp; omega)]
 simp [Nat.min_eq_left (show k ≤ A.length by omega)]
def spr (n : Int) (w : Nat) : List Int := (List.range w).map fun i : Nat => IntKind.u8.wrap (shrI .i64 n (8 * (i : Int)))
theorem J5 (n : Int) (w : Nat) : (spr n w).length = w := by simp [spr]
theorem Z7w {n : Int} {w : Nat} (hw : w ≤ 8) : YF.f n w = some (spr n w) := by
 unfold YF.f
 have hl := J5 n w
 rw [Zc (t := .l1 ((spr n w).take 0 ++ (List.replicate w 0).drop 0) ((0 : Nat) : Int)) (by
  dsimp only [YF.F]
  rw [if_pos (by omega)]; rfl)]
 refine (Vs (F := YF.F n w) (n := w) (fun k => .l1 ((spr n w).take k ++ (List.replicate w 0).drop k) (k : Int)) (fun k hk => ?_)).trans (Zf ?_)
 ·have w8 : IntKind.i64.wrap (8 * (k : Int)) = 8 * (k : Int) := Xr (by omega) (by omega)
  dsimp only [YF.F]
  rw [if_pos (by simp; omega), w8, if_pos (by omega), Z9A (by simp [hl]) (by simpa using hk)]
  simp only [Option.bind_some, Int.toNat_natCast]
  rw [Zl k (by omega), ← Z8h (A := spr n w) (by simp [hl]) (by omega)]
  simp [spr]
 ·dsimp only [YF.F]
  rw [if_neg (by simp), List.take_of_length_le (by omega), List.drop_of_length_le (by simp), List.append_nil]
def fB (w : Nat) (n : Int) : Bool := decide (n ≥ 0) && (decide (w = 8) || decide (shrI .i64 n (8 * (w : Int)) = 0))
theorem Z9B {w : Nat} {n : Int} (hw : w ≤ 8) : TI.f w n = some (fB w n) := by
 have w8 : IntKind.i64.wrap (8 * (w : Int)) = 8 * (w : Int) := Xr (by omega) (by omega)
 unfold TI.f fB
 rw [w8]
 by_cases h0 : n ≥ 0
 ·rw [if_pos h0]
  by_cases h8 : w = 8
  ·rw [if_pos (by omega)]; simp [h0, h8]
  ·rw [if_neg (by omega), if_pos (by omega)]; simp [h0, h8]
 ·rw [if_neg h0]; simp [h0]
def putC (w : Nat) (n : Int) : List Int × Int := if fB w n = true then (spr n w, 0) else ([], 11)
theorem Z0Y {w : Nat} {n : Int} (h1 : 1 ≤ w) (hw : w ≤ 8) : XO.f w n = some (putC w n) := by
 unfold XO.f putC
 rw [if_neg (by simp; omega), Z9B hw]
 simp only [Option.bind_some]
 cases fB w n with
 | true => rw [if_neg (by simp), Z7w hw]; rfl
 | false => rfl
theorem VP (w : Nat) (n : Int) : (putC w n).1.length ≤ w := by
 unfold putC; split
 ·simp [J5]
 ·simp
def vBytes (v : Zn) : List Int × Int :=
 if vMay v = false then ([], 30) else if v.Kind = 1 then ([v.Kind] ++ spr v.A 8, 0) else
 if (putC 3 (IntKind.i64.wrap (v.A + 1048576))).2 ≠ 0 then ([], 30) else if (putC 3 (IntKind.i64.wrap (v.B + 1048576))).2 ≠ 0 then ([], 30) else
 (([v.Kind] ++ (putC 3 (IntKind.i64.wrap (v.A + 1048576))).1) ++ (putC 3 (IntKind.i64.wrap (v.B + 1048576))).1, 0)
theorem Z46 (v : Zn) : UR.f v = some (vBytes v) := by
 unfold UR.f vBytes Tf.f
 rw [Z45]
 simp only [Option.bind_some]
 cases vMay v with
 | false => rfl
 | true =>
  rw [if_neg (show ¬ ((!true) = true) by simp), if_neg (show ¬ (true = false) by simp)]
  have a1 := Z0Y (w := 3) (n := IntKind.i64.wrap (v.A + 1048576)) (by omega) (by omega)
  have a2 := Z0Y (w := 3) (n := IntKind.i64.wrap (v.B + 1048576)) (by omega) (by omega)
  have l1 := VP 3 (IntKind.i64.wrap (v.A + 1048576))
  have l2 := VP 3 (IntKind.i64.wrap (v.B + 1048576))
  by_cases hk : v.Kind = 1
  ·have a0 := Z7w (n := v.A) (w := 8) (Nat.le_refl _)
   rw [if_pos hk, if_pos hk, show YF.f v.A 8 = some (spr v.A 8) from a0]
   simp only [Option.bind_some]
   rw [if_pos (by simp [J5])]
  ·rw [if_neg hk, if_neg hk, show XO.f 3 (IntKind.i64.wrap (v.A + 1048576)) = some (putC 3 (IntKind.i64.wrap (v.A + 1048576))) from a1]
   simp only [Option.bind_some]
   by_cases h1 : (putC 3 (IntKind.i64.wrap (v.A + 1048576))).2 ≠ 0
   ·rw [if_pos h1, if_pos h1]
   ·rw [if_neg h1, if_neg h1, if_pos (by simp only [List.length_singleton]; omega), show XO.f 3 (IntKind.i64.wrap (v.B + 1048576)) = some (putC 3 (IntKind.i64.wrap (v.B + 1048576))) from a2]
    simp only [Option.bind_some]
    by_cases h2 : (putC 3 (IntKind.i64.wrap (v.B + 1048576))).2 ≠ 0
    ·rw [if_pos h2, if_pos h2]
    ·rw [if_neg h2, if_neg h2, if_pos (by simp only [List.length_append, List.length_singleton]; omega)]
theorem Z1X (v : Zn) : (vBytes v).1.length ≤ 9 := by
 have l1 := VP 3 (IntKind.i64.wrap (v.A + 1048576))
 have l2 := VP 3 (IntKind.i64.wrap (v.B + 1048576))
 unfold vBytes
 split
 ·simp
 ·split
  ·simp [J5]
  ·split
   ·simp
   ·split
    ·simp
    ·simp only [List.length_append, List.length_singleton]; omega
def pMay (l : List Zn) : Bool := decide (l.length ≤ 32) && !(l.any fun v => !vMay v)
def pLoop : List Zn → List Int → List Int × Int
 | [], o => (o, 0)
 | v :: c, o => if (vBytes v).2 ≠ 0 then ([], 60) else pLoop c (o ++ (vBytes v).1)
def pBytes (l : List Zn) : List Int × Int := if pMay l = false then ([], 60) else pLoop l [IntKind.u8.wrap (l.length : Int)]
theorem Z6q {l : List Zn} (hl : l.length ≤ 100) : KC.f l = some (pMay l) := by
 unfold KC.f pMay
 by_cases h : (l.length : Int) ≤ 32
 ·rw [if_pos h]
  unfold Xu.f ZM.f
  obtain ⟨r, hr, e⟩ := JD (F := ZM.F l) (fun k => .l1 (k : Int)) l (fun v => !vMay v) (fun k hk => by
   dsimp only [ZM.F]
   unfold Kg.f
   rw [if_pos (by omega), Zp hk]
   simp only [Option.bind_some]
   rw [Z45]
   simp only [Option.bind_some, Zl k (by omega)]
   cases vMay l[k] <;> rfl) (by dsimp only [ZM.F]; rw [if_neg (by omega)])
  rw [Zc (t := .l1 ((0 : Nat) : Int)) rfl, hr]
  simp only [Option.bind_some]
  rw [e]
  have : decide (l.length ≤ 32) = true := by rw [decide_eq_true_eq]; omega
  rw [this]; rfl
 ·rw [if_neg h]
  have : decide (l.length ≤ 32) = false := by rw [decide_eq_false_iff_not]; omega
  rw [this]; rfl
theorem Z2P : ∀ (c : List Zn) (o : List Int), (pLoop c o).1.length ≤ o.length + 9 * c.length ∧ ((pLoop c o).2 = 0 ∨ (pLoop c o).2 = 60)
 | [], o => by simp [pLoop]
 | v :: c, o => by
  rw [pLoop]
  split
  ·simp
  ·have := Z2P c (o ++ (vBytes v).1)
   have := Z1X v
   simp only [List.length_append, List.length_cons] at *
   exact ⟨by omega, by omega⟩
theorem Z47 {l : List Zn} (hl : l.length ≤ 100) : XV.f l = some (pBytes l) := by
 unfold XV.f pBytes
 cases hm : pMay l with
 | false =>
  refine Zf ?_
  dsimp only [XV.F]
  rw [Z6q hl, hm]; rfl
 | true =>
  rw [if_neg (by simp), Zc (t := .l1 [IntKind.u8.wrap (l.length : Int)] ((0 : Nat) : Int)) (by dsimp only [XV.F]; rw [Z6q hl, hm]; rfl)]
  have : ∀ (c pre : List Zn) (o : List Int), l = pre ++ c → o.length ≤ 1 + 9 * pre.length → runF (XV.F l) (.l1 o (pre.length : Int)) = some (pLoop c o) := by
   intro c
   induction c with
   | nil =>
    intro pre o he _
    refine Zf ?_
    dsimp only [XV.F]; rw [if_neg (by rw [he]; simp)]; rfl
   | cons v c ih =>
    intro pre o he ho
    have hp : pre.length < l.length := by rw [he]; simp
    have hv : l[pre.length] = v := by simp [he]
    have lv := Z1X v
    rw [pLoop]
    by_cases h : (vBytes v).2 ≠ 0
    ·rw [if_pos h]
     refine Zf ?_
     dsimp only [XV.F]
     rw [if_pos (by omega), Zp hp, hv]; simp only [Option.bind_some]
     rw [Z46]; simp only [Option.bind_some]
     rw [if_pos h]
    ·rw [if_neg h, ← ih (pre ++ [v]) _ (by rw [he]; simp) (by simp only [List.length_append, List.length_singleton]; omega)]
     refine Zc ?_
     dsimp only [XV.F]
     rw [if_pos (by omega), Zp hp, hv]; simp only [Option.bind_some]
     rw [Z46]; simp only [Option.bind_some]
     rw [if_neg h, if_pos (by omega), Zl pre.length (by omega), List.length_append]; rfl
  exact this l [] _ rfl (by simp)
theorem KY (l : List Zn) : (pBytes l).1.length ≤ 1 + 9 * l.length ∧ ((pBytes l).2 = 0 ∨ (pBytes l).2 = 60) := by
 unfold pBytes
 split
 ·simp
 ·have := Z2P l [IntKind.u8.wrap (l.length : Int)]
  simpa using this
end XB
namespace XB
open Zw Y7 Xx XI
def loc (k : Int) : Bool := vMay ⟨k, 0, 0⟩ || decide (k = 3)
theorem Za4 (k : Int) : Uo.f k = some (loc k) := by
 unfold Uo.f Kh.f Ti.f loc
 rw [Z45]
 simp only [Option.bind_some]
 by_cases h3 : k = 3 <;> cases vMay ⟨k, 0, 0⟩ <;> simp [h3]
def mMay (x : Zb) : Bool :=
 if x.Args.length > 4 ∨ x.Args.length + x.Locals.length > 16 ∨ (x.Result ≠ 1 ∧ x.Result ≠ 2) then false else if (x.Args ++ x.Locals).any (fun k => !loc k) = true then false else
 decide ((0 ≤ x.Fuel ∧ x.Fuel ≤ 1048576) ∧ (0 ≤ x.Stack ∧ x.Stack ≤ 256) ∧ 0 ≤ x.Heap ∧ x.Heap ≤ 1024)
theorem Z6r {x : Zb} (h1 : x.Args.length ≤ 100) (h2 : x.Locals.length ≤ 100) : XZ.f x = some (mMay x) := by
 have w : IntKind.i64.wrap ((x.Args.length : Int) + (x.Locals.length : Int)) = (x.Args.length : Int) + (x.Locals.length : Int) := Xr (by omega) (by omega)
 unfold XZ.f mMay
 by_cases h : x.Args.length > 4 ∨ x.Args.length + x.Locals.length > 16 ∨ (x.Result ≠ 1 ∧ x.Result ≠ 2)
 ·rw [if_pos h, Zf]
  dsimp only [XZ.F]
  rw [w, if_pos]
  simp only [Bool.or_eq_true, Bool.and_eq_true, decide_eq_true_eq]
  omega
 ·rw [if_neg h, Zc (t := .l1 (x.Args ++ x.Locals) ((0 : Nat) : Int)) (by
   dsimp only [XZ.F]
   unfold Tg.f
   rw [w, if_neg (by simp only [Bool.or_eq_true, Bool.and_eq_true, decide_eq_true_eq]; omega), Z0V (by omega)]; rfl)]
  obtain ⟨r, hr, hc⟩ := Uk (F := XZ.F x) (n := (x.Args ++ x.Locals).length) (b := decide ((0 ≤ x.Fuel ∧ x.Fuel ≤ 1048576) ∧ (0 ≤ x.Stack ∧ x.Stack ≤ 256) ∧ 0 ≤ x.Heap ∧ x.Heap ≤ 1024)) (a := fun _ => false) (fun k => .l1 (x.Args ++ x.Locals) (k : Int)) (fun k => if h : k < (x.Args ++ x.Locals).length then !loc (x.Args ++ x.Locals)[k] else false) (fun k hk => by
   dsimp only [XZ.F]
   rw [if_pos (by omega), Zp hk]
   simp only [Option.bind_some]
   rw [Za4]
   simp only [Option.bind_some, dif_pos hk, Zl k (by simp at hk; omega)]
   cases loc (x.Args ++ x.Locals)[k] <;> rfl) (by
   dsimp only [XZ.F]
   unfold Vd.f
   rw [if_neg (by omega)]
   simp only [Option.bind_some]
   congr 2
   by_cases f1 : 0 ≤ x.Fuel ∧ x.Fuel ≤ 1048576
   ·rw [show (decide (x.Fuel ≥ 0) && decide (x.Fuel ≤ 1048576)) = true by simp; omega]
    by_cases f2 : 0 ≤ x.Stack ∧ x.Stack ≤ 256
    ·rw [show (decide (x.Stack ≥ 0) && decide (x.Stack ≤ 256)) = true by simp; omega]
     simp [f1, f2]
    ·have : (decide (x.Stack ≥ 0) && decide (x.Stack ≤ 256)) = false := by
      rw [Bool.and_eq_false_iff, decide_eq_false_iff_not, decide_eq_false_iff_not]; omega
     rw [this]; simp [f1, f2]
   ·have : (decide (x.Fuel ≥ 0) && decide (x.Fuel ≤ 1048576)) = false := by
     rw [Bool.and_eq_false_iff, decide_eq_false_iff_not, decide_eq_false_iff_not]; omega
    rw [this]; simp [f1])
  rw [hr]
  congr 1
  rcases hc with ⟨k, hk, hp, rfl⟩ | ⟨hn, rfl⟩
  ·rw [dif_pos hk] at hp
   rw [if_pos (List.any_eq_true.2 ⟨_, List.getElem_mem hk, hp⟩)]
  ·rw [if_neg]
   intro ha
   obtain ⟨k, hk, hp⟩ := List.any_eq_true.1 ha
   obtain ⟨i, hi, rfl⟩ := List.mem_iff_getElem.1 hk
   have := hn i hi
   rw [dif_pos hi, hp] at this; cases this
def mTail (x : Zb) (o : List Int) : List Int × Int :=
 if (putC 3 x.Fuel).2 ≠ 0 then ([], 70) else if (putC 2 x.Stack).2 ≠ 0 then ([], 70) else if (putC 2 x.Heap).2 ≠ 0 then ([], 70) else (((o ++ (putC 3 x.Fuel).1) ++ (putC 2 x.Stack).1) ++ (putC 2 x.Heap).1, 0)
def mHead (x : Zb) : List Int := ((([IntKind.u8.wrap (x.Args.length : Int)] ++ x.Args) ++ [IntKind.u8.wrap (x.Locals.length : Int)]) ++ x.Locals) ++ [x.Result, if x.Reads = true then 1 else 0]
def mBytes (x : Zb) : List Int × Int := if mMay x = false then ([], 70) else mTail x (mHead x)
theorem Z4W {x : Zb} {o : List Int} (ho : o.length ≤ 1000) : WB.j1 x o = some (mTail x o) := by
 have a1 := Z0Y (w := 3) (n := x.Fuel) (by omega) (by omega)
 have a2 := Z0Y (w := 2) (n := x.Stack) (by omega) (by omega)
 have a3 := Z0Y (w := 2) (n := x.Heap) (by omega) (by omega)
 have l1 := VP 3 x.Fuel
 have l2 := VP 2 x.Stack
 have l3 := VP 2 x.Heap
 unfold WB.j1 mTail
 rw [show XO.f 3 x.Fuel = some (putC 3 x.Fuel) from a1]; simp only [Option.bind_some]
 by_cases h1 : (putC 3 x.Fuel).2 ≠ 0
 ·rw [if_pos h1, if_pos h1]
 rw [if_neg h1, if_neg h1, if_pos (by omega), show XO.f 2 x.Stack = some (putC 2 x.Stack) from a2]; simp only [Option.bind_some]
 by_cases h2 : (putC 2 x.Stack).2 ≠ 0
 ·rw [if_pos h2, if_pos h2]
 rw [if_neg h2, if_neg h2, if_pos (by simp only [List.length_append]; omega), show XO.f 2 x.Heap = some (putC 2 x.Heap) from a3]; simp only [Option.bind_some]
 by_cases h3 : (putC 2 x.Heap).2 ≠ 0
 ·rw [if_pos h3, if_pos h3]
 rw [if_neg h3, if_neg h3, if_pos (by simp only [List.length_append]; omega)]
theorem Z6s (x : Zb) (o : List Int) : (mTail x o).1.length ≤ o.length + 7 ∧ ((mTail x o).2 = 0 ∨ (mTail x o).2 = 70) := by
 have l1 := VP 3 x.Fuel
 have l2 := VP 2 x.Stack
 have l3 := VP 2 x.Heap
 unfold mTail
 split
 ·simp
 ·split
  ·simp
  ·split
   ·simp
   ·simp only [List.length_append]; exact ⟨by omega, .inl trivial⟩
theorem Z7h {x : Zb} (h1 : x.Args.length ≤ 100) (h2 : x.Locals.length ≤ 100) : WB.f x = some (mBytes x) := by
 unfold WB.f mBytes
 rw [Z6r h1 h2]
 simp only [Option.bind_some]
 cases mMay x with
 | false => rfl
 | true =>
  rw [if_neg (show ¬ ((!true) = true) by simp), if_neg (show ¬ (true = false) by simp)]
  unfold mHead
  generalize hy : ((([IntKind.u8.wrap (x.Args.length : Int)] ++ x.Args) ++ [IntKind.u8.wrap (x.Locals.length : Int)]) ++ x.Locals) = y
  have hyl : y.length = x.Args.length + x.Locals.length + 2 := by rw [← hy]; simp; omega
  rw [if_pos (by simp; omega), if_pos (by simp; omega), if_pos (by simp; omega), if_pos (by simp; omega)]
  by_cases hr : x.Reads = true
  ·have hl : (((y ++ [x.Result, 0]).length : Int)) - 1 = ((y.length + 1 : Nat) : Int) := by simp; omega
   rw [if_pos hr, if_pos hr, hl, Xr (by omega) (by omega), Zp (by simp)]
   simp only [Option.bind_some]
   rw [Int.toNat_natCast, List.set_append_right _ _ (by omega), show y.length + 1 - y.length = 1 by omega]
   exact Z4W (by simp; omega)
  ·rw [if_neg hr, if_neg hr]
   exact Z4W (by simp; omega)
theorem Z1Y {x : Zb} (h1 : x.Args.length ≤ 100) (h2 : x.Locals.length ≤ 100) : (mBytes x).1.length ≤ 300 ∧ ((mBytes x).2 = 0 ∨ (mBytes x).2 = 70) := by
 unfold mBytes
 split
 ·simp
 ·have := Z6s x (mHead x)
  have : (mHead x).length = x.Args.length + x.Locals.length + 4 := by unfold mHead; simp; omega
  exact ⟨by omega, by omega⟩
def cMay (l : List Z7) : Bool := (decide (0 < l.length) && decide (l.length ≤ 200)) && !(l.any fun i => !may i)
theorem Z6t {l : List Z7} (hl : l.length ≤ 300) (hw : ∀ x ∈ l, Y4 x) : KD.f l = some (cMay l) := by
 unfold KD.f cMay
 by_cases h : 0 < l.length ∧ l.length ≤ 200
 ·rw [if_pos (by simp; omega)]
  unfold Xv.f ZN.f
  obtain ⟨r, hr, e⟩ := JD (F := ZN.F l) (fun k => .l1 (k : Int)) l (fun i => !may i) (fun k hk => by
   dsimp only [ZN.F]
   unfold Ki.f
   rw [if_pos (by omega), Zp hk]
   simp only [Option.bind_some]
   rw [Z63 (hw _ (List.getElem_mem hk))]
   simp only [Option.bind_some, Zl k (by omega)]
   cases may l[k] <;> rfl) (by dsimp only [ZN.F]; rw [if_neg (by omega)])
  rw [Zc (t := .l1 ((0 : Nat) : Int)) rfl, hr]
  simp only [Option.bind_some]
  rw [e]
  have : (decide (0 < l.length) && decide (l.length ≤ 200)) = true := by rw [Bool.and_eq_true, decide_eq_true_eq, decide_eq_true_eq]; exact h
  rw [this]; rfl
 ·rw [if_neg (by simp; omega)]
  have : (decide (0 < l.length) && decide (l.length ≤ 200)) = false := by rw [Bool.and_eq_false_iff, decide_eq_false_iff_not, decide_eq_false_iff_not]; omega
  rw [this]; rfl
def wideB (o : Int) : Bool := match Wm.f o with
 | some b => decide (b.2 > 0)
 | none => false
theorem Z9C {i : Z7} (h : Y4 i) : K4.f i.Op = some (wideB i.Op) := by
 obtain ⟨h0, h1⟩ := Z0T h
 obtain ⟨b, hb⟩ := Z2G h0 h1
 unfold K4.f wideB
 rw [hb]; rfl
def cLoop : List Z7 → List Int → List Int × Int
 | [], o => (o, 0)
 | i :: c, o => if wideB i.Op = true then (if (putC 2 i.A).2 ≠ 0 then ([], 40) else cLoop c ((o ++ [i.Op]) ++ (putC 2 i.A).1)) else cLoop c (o ++ [i.Op])
def cBytes (l : List Z7) : List Int × Int := if cMay l = false then ([], 40) else cLoop l [IntKind.u8.wrap (l.length : Int)]
theorem Z0C : ∀ (c : List Z7) (o : List Int), (cLoop c o).1.length ≤ o.length + 3 * c.length ∧ ((cLoop c o).2 = 0 ∨ (cLoop c o).2 = 40)
 | [], o => by simp [cLoop]
 | i :: c, o => by
  have l2 := VP 2 i.A
  rw [cLoop]
  split
  ·split
   ·simp
   ·have := Z0C c ((o ++ [i.Op]) ++ (putC 2 i.A).1)
    simp only [List.length_append, List.length_cons, List.length_nil] at *
    exact ⟨by omega, by omega⟩
  ·have := Z0C c (o ++ [i.Op])
   simp only [List.length_append, List.length_cons, List.length_nil] at *
   exact ⟨by omega, by omega⟩
theorem Z7i {l : List Z7} (hl : l.length ≤ 300) (hw : ∀ x ∈ l, Y4 x) : Xm.f l = some (cBytes l) := by
 unfold Xm.f cBytes
 cases hm : cMay l with
 | false =>
  refine Zf ?_
  dsimp only [Xm.F]
  rw [Z6t hl hw, hm]; rfl
 | true =>
  rw [if_neg (by simp), Zc (t := .l1 [IntKind.u8.wrap (l.length : Int)] ((0 : Nat) : Int)) (by dsimp only [Xm.F]; rw [Z6t hl hw, hm]; rfl)]
  have : ∀ (c pre : List Z7) (o : List Int), l = pre ++ c → o.length ≤ 1 + 3 * pre.length → runF (Xm.F l) (.l1 o (pre.length : Int)) = some (cLoop c o) := by
   intro c
   induction c with
   | nil =>
    intro pre o he _
    refine Zf ?_
    dsimp only [Xm.F]; rw [if_neg (by rw [he]; simp)]; rfl
   | cons i c ih =>
    intro pre o he ho
    have hp : pre.length < l.length := by rw [he]; simp
    have hv : l[pre.length] = i := by simp [he]
    have hi := hw i (by rw [he]; simp)
    have a2 := Z0Y (w := 2) (n := i.A) (by omega) (by omega)
    have l2 := VP 2 i.A
    have pre_ : ∀ q, (if (!wideB i.Op) = true then (Xm.j1 l (pre.length : Int) (o ++ [i.Op])) else (if (putC 2 i.A).2 ≠ 0 then (some (.inr ([], 40))) else (if ((o ++ [i.Op]).length + (putC 2 i.A).1.length) * 1 ≤ 140737488355328 then (Xm.j1 l (pre.length : Int) ((o ++ [i.Op]) ++ (putC 2 i.A).1)) else none))) = q → Xm.F l (.l1 o (pre.length : Int)) = q := by
     intro q hq
     dsimp only [Xm.F]
     rw [if_pos (by omega), Zp hp, hv]; simp only [Option.bind_some]
     rw [if_pos (by simp; omega), Z9C hi]; simp only [Option.bind_some]
     rw [← hq]
     rw [show XO.f 2 i.A = some (putC 2 i.A) from a2]; simp only [Option.bind_some]
    have nx : IntKind.i64.wrap ((pre.length : Int) + 1) = (((pre ++ [i]).length : Nat) : Int) := by rw [Zl pre.length (by omega), List.length_append]; rfl
    rw [cLoop]
    cases hwd : wideB i.Op with
    | false =>
     rw [if_neg (by simp), ← ih (pre ++ [i]) _ (by rw [he]; simp) (by simp only [List.length_append, List.length_singleton]; omega)]
     refine Zc (pre_ _ ?_)
     rw [hwd, if_pos (by simp)]
     unfold Xm.j1
     rw [nx]
    | true =>
     rw [if_pos rfl]
     by_cases h : (putC 2 i.A).2 ≠ 0
     ·rw [if_pos h]
      refine Zf (pre_ _ ?_)
      rw [hwd, if_neg (by simp), if_pos h]
     ·rw [if_neg h, ← ih (pre ++ [i]) _ (by rw [he]; simp) (by simp only [List.length_append, List.length_singleton]; omega)]
      refine Zc (pre_ _ ?_)
      rw [hwd, if_neg (by simp), if_neg h, if_pos (by simp only [List.length_append, List.length_singleton]; omega)]
      unfold Xm.j1
      rw [nx]
  exact this l [] _ rfl (by simp)
theorem Z1Z {l : List Z7} (hl : l.length ≤ 300) : (cBytes l).1.length ≤ 1000 ∧ ((cBytes l).2 = 0 ∨ (cBytes l).2 = 40) := by
 unfold cBytes
 split
 ·simp
 ·have := Z0C l [IntKind.u8.wrap (l.length : Int)]
  simp only [List.length_singleton] at this
  exact ⟨by omega, by omega⟩
end XB
namespace XB
open Zw Y7 Xx XI
def wLast (m : Z9) : Int := if m.Zd ≥ 0 then IntKind.u8.wrap m.Zd else 255
def wLoop (m : Z9) : List Zb → List Int → List Int × Int
 | [], o => (o ++ [wLast m], 0)
 | x :: c, o => if (mBytes x).2 ≠ 0 then ([], (mBytes x).2) else if (cBytes x.Code).2 ≠ 0 then ([], (cBytes x.Code).2) else wLoop m c ((o ++ (mBytes x).1) ++ (cBytes x.Code).1)
def wholeC (m : Z9) : List Int × Int :=
 if m.Zj.length > 4 ∨ m.Methods.length > 16 ∨ m.Zd < -1 ∨ m.Zd ≥ m.Methods.length then ([], 80) else
 if (pBytes m.Zj).2 ≠ 0 then ([], (pBytes m.Zj).2) else if (pBytes m.Pool).2 ≠ 0 then ([], (pBytes m.Pool).2) else
 wLoop m m.Methods (((pBytes m.Zj).1 ++ (pBytes m.Pool).1) ++ [IntKind.u8.wrap (m.Methods.length : Int)])
def bytesC (m : Z9) : List Int × Int := if (wholeC m).2 ≠ 0 then ([], (wholeC m).2) else if ((wholeC m).1.length : Int) > 2000 then ([], 3) else ((wholeC m).1, 0)
def mayC (m : Z9) : Int := (bytesC m).2
theorem Z8i {m : Z9} (hm : YM m) (S : Small m) : X4.f m = some (wholeC m) := by
 have hG := S.G
 have hP := S.P
 have hM := S.M
 have lg := KY m.Zj
 have lp := KY m.Pool
 unfold X4.f wholeC
 by_cases h : m.Zj.length > 4 ∨ m.Methods.length > 16 ∨ m.Zd < -1 ∨ m.Zd ≥ m.Methods.length
 ·rw [if_pos h]
  refine Zf ?_
  dsimp only [X4.F]
  rw [if_pos]
  simp only [Bool.or_eq_true, decide_eq_true_eq]; omega
 rw [if_neg h]
 have st : ∀ q, (if (pBytes m.Zj).2 ≠ 0 then (some (.inr ([], (pBytes m.Zj).2))) else (if (pBytes m.Pool).2 ≠ 0 then (some (.inr ([], (pBytes m.Pool).2))) else (if ((pBytes m.Zj).1.length + (pBytes m.Pool).1.length) * 1 ≤ 140737488355328 then (if (((pBytes m.Zj).1 ++ (pBytes m.Pool).1).length + [IntKind.u8.wrap (m.Methods.length : Int)].length) * 1 ≤ 140737488355328 then (some (.inl (.l1 (((pBytes m.Zj).1 ++ (pBytes m.Pool).1) ++ [IntKind.u8.wrap (m.Methods.length : Int)]) 0))) else none) else none))) = q → X4.F m .start = q := by
  intro q hq
  dsimp only [X4.F]
  rw [if_neg (by simp only [Bool.or_eq_true, decide_eq_true_eq]; omega), Z47 hG]; simp only [Option.bind_some]
  rw [Z47 hP]; simp only [Option.bind_some]
  exact hq
 by_cases hg : (pBytes m.Zj).2 ≠ 0
 ·rw [if_pos hg] at st ⊢; exact Zf (st _ rfl)
 rw [if_neg hg] at st ⊢
 by_cases hp : (pBytes m.Pool).2 ≠ 0
 ·rw [if_pos hp] at st ⊢; exact Zf (st _ rfl)
 rw [if_neg hp] at st ⊢
 rw [if_pos (by omega), if_pos (by simp only [List.length_append, List.length_singleton]; omega)] at st
 rw [Zc (st _ rfl)]
 have : ∀ (c pre : List Zb) (o : List Int), m.Methods = pre ++ c → o.length ≤ 4000 + 2000 * pre.length → runF (X4.F m) (.l1 o (pre.length : Int)) = some (wLoop m c o) := by
  intro c
  induction c with
  | nil =>
   intro pre o he ho
   have hpl : pre.length ≤ 40 := by rw [he] at hM; simpa using hM
   refine Zf ?_
   dsimp only [X4.F]
   rw [if_neg (by rw [he]; simp)]
   unfold X4.j1
   rw [wLoop, wLast]
   by_cases h0 : m.Zd ≥ 0
   ·rw [if_pos h0, if_pos h0, if_pos (by simp; omega)]
   ·rw [if_neg h0, if_neg h0, if_pos (by simp; omega)]
  | cons x c ih =>
   intro pre o he ho
   have hpl : pre.length < m.Methods.length := by rw [he]; simp
   have hx : m.Methods[pre.length] = x := by simp [he]
   have hxm : x ∈ m.Methods := by rw [he]; simp
   have hs := S.x x hxm
   have hwx : ∀ i ∈ x.Code, Y4 i := ((hm.2.2.1.2 x hxm).2.2.2.2.2.2.2).2
   have lm := Z1Y hs.1 hs.2.1
   have lc := Z1Z hs.2.2
   have pre_ : ∀ q, (if (mBytes x).2 ≠ 0 then (some (.inr ([], (mBytes x).2))) else (if (cBytes x.Code).2 ≠ 0 then (some (.inr ([], (cBytes x.Code).2))) else (if (o.length + (mBytes x).1.length) * 1 ≤ 140737488355328 then (if ((o ++ (mBytes x).1).length + (cBytes x.Code).1.length) * 1 ≤ 140737488355328 then (some (.inl (.l1 ((o ++ (mBytes x).1) ++ (cBytes x.Code).1) (IntKind.i64.wrap ((pre.length : Int) + 1))))) else none) else none))) = q → X4.F m (.l1 o (pre.length : Int)) = q := by
    intro q hq
    dsimp only [X4.F]
    rw [if_pos (by omega), Zp hpl, hx]; simp only [Option.bind_some]
    rw [Z7h hs.1 hs.2.1]; simp only [Option.bind_some]
    rw [Z7i hs.2.2 hwx]; simp only [Option.bind_some]
    exact hq
   rw [wLoop]
   by_cases h1 : (mBytes x).2 ≠ 0
   ·rw [if_pos h1] at pre_ ⊢; exact Zf (pre_ _ rfl)
   rw [if_neg h1] at pre_ ⊢
   by_cases h2 : (cBytes x.Code).2 ≠ 0
   ·rw [if_pos h2] at pre_ ⊢; exact Zf (pre_ _ rfl)
   rw [if_neg h2] at pre_ ⊢
   rw [if_pos (by omega), if_pos (by simp only [List.length_append]; omega), show IntKind.i64.wrap ((pre.length : Int) + 1) = (((pre ++ [x]).length : Nat) : Int) by rw [Zl pre.length (by omega), List.length_append]; rfl] at pre_
   rw [Zc (pre_ _ rfl)]
   exact ih (pre ++ [x]) _ (by rw [he]; simp) (by simp only [List.length_append, List.length_singleton]; omega)
 exact this m.Methods [] _ rfl (by simp only [List.length_append, List.length_singleton]; omega)
theorem Z8j {m : Z9} (hm : YM m) (S : Small m) : Uq.f m = some (bytesC m) := by
 unfold Uq.f bytesC
 rw [Z8i hm S]; simp only [Option.bind_some]
 split
 ·rfl
 ·split <;> rfl
theorem Za5 {m : Z9} (hm : YM m) (S : Small m) : TJ.f m = some (mayC m) := by
 unfold TJ.f mayC
 rw [Z8j hm S]; rfl
def okE (e : Int) : Prop := e ≠ 1 ∧ e ≠ 4
theorem Z2Q {m : Z9} (S : Small m) : ∀ (c : List Zb) (o : List Int), (∀ x ∈ c, x ∈ m.Methods) → okE (wLoop m c o).2
 | [], o, _ => by simp [wLoop, okE]
 | x :: c, o, h => by
  have hs := S.x x (h x (by simp))
  have lm := (Z1Y hs.1 hs.2.1).2
  have lc := (Z1Z hs.2.2).2
  rw [wLoop]
  split
  ·dsimp only; unfold okE; omega
  ·split
   ·dsimp only; unfold okE; omega
   ·exact Z2Q S c _ fun y hy => h y (by simp [hy])
theorem Z1s {m : Z9} (S : Small m) : okE (mayC m) ∧ (mayC m = 0 → -1 ≤ m.Zd ∧ m.Zd < m.Methods.length) := by
 have lg := (KY m.Zj).2
 have lp := (KY m.Pool).2
 unfold mayC bytesC wholeC
 by_cases h : m.Zj.length > 4 ∨ m.Methods.length > 16 ∨ m.Zd < -1 ∨ m.Zd ≥ m.Methods.length
 ·simp [h, okE]
 ·rw [if_neg h]
  refine ⟨?_, fun _ => by omega⟩
  by_cases hg : (pBytes m.Zj).2 ≠ 0
  ·rw [if_pos hg, if_pos hg]; dsimp only; unfold okE; omega
  rw [if_neg hg]
  by_cases hp : (pBytes m.Pool).2 ≠ 0
  ·rw [if_pos hp, if_pos hp]; dsimp only; unfold okE; omega
  rw [if_neg hp]
  have := Z2Q S m.Methods (((pBytes m.Zj).1 ++ (pBytes m.Pool).1) ++ [IntKind.u8.wrap (m.Methods.length : Int)]) (fun _ h => h)
  generalize wLoop m m.Methods (((pBytes m.Zj).1 ++ (pBytes m.Pool).1) ++ [IntKind.u8.wrap (m.Methods.length : Int)]) = w at this
  split
  ·exact this
  ·split
   ·unfold okE; dsimp only; omega
   ·unfold okE; dsimp only; omega
theorem Za6 {l : List Int} {n : Int} (hl : l.length ≤ 100) : Wh.f l n = some (l.any fun a => decide (n = a)) := by
 unfold Wh.f YH.f
 obtain ⟨r, hr, e⟩ := JD (F := YH.F l n) (fun k => .l1 (k : Int)) l (fun a => decide (n = a)) (fun k hk => by
  dsimp only [YH.F]
  rw [if_pos (by omega), Zp hk]
  simp only [Option.bind_some, Zl k (by omega)]
  by_cases h : n = l[k]
  ·rw [if_pos h, if_pos (by simpa using h)]
  ·rw [if_neg h, if_neg (by simpa using h)]) (by dsimp only [YH.F]; rw [if_neg (by omega)])
 rw [Zc (t := .l1 ((0 : Nat) : Int)) rfl, hr]
 simp only [Option.bind_some]
 rw [e]
def migB (x : Zb) : Bool := mMay x && !(x.Args.any fun a => decide (3 = a))
theorem Za7 {x : Zb} (h1 : x.Args.length ≤ 100) (h2 : x.Locals.length ≤ 100) : VL.f x = some (migB x) := by
 unfold VL.f migB
 rw [Z6r h1 h2]; simp only [Option.bind_some]
 cases mMay x with
 | false => rfl
 | true => rw [if_pos rfl, Za6 h1]; rfl
def movesC (m : Z9) : Int := if m.Zd ≥ 0 ∧ migB (methM m m.Zd.toNat) = false then 70 else 0
theorem Z8k {m : Z9} (S : Small m) (h : m.Zd < m.Methods.length) : Ur.f m = some (movesC m) := by
 unfold Ur.f movesC
 by_cases h0 : m.Zd ≥ 0
 ·have hk : m.Zd.toNat < m.Methods.length := by omega
  have hs := S.x _ (List.getElem_mem hk)
  rw [if_pos h0, V7 (xs := m.Methods) (by omega) hk]; simp only [Option.bind_some]
  rw [Za7 hs.1 hs.2.1]; simp only [Option.bind_some]
  rw [TD hk]
  cases migB m.Methods[m.Zd.toNat] <;> simp [h0]
 ·rw [if_neg h0]; simp [h0]
end XB
namespace XB
open Zw Y7 Xx XI
theorem Z6u (E : TE) (i : Z7) (row : List Int) : (afterC E i row).2 = 0 ∨ (afterC E i row).2 = 100 ∨ (afterC E i row).2 = 101 := by
 unfold afterC
 split
 ·simp
 ·split <;> simp
theorem Z4X {next : List Int} : ∀ (ws : List Int) (rows : List Ze), (Y7.put next rows ws).1 = 0 ∨ (Y7.put next rows ws).1 = 100
 | [], rows => by simp [Y7.put]
 | w :: ws, rows => by
  unfold Y7.put
  split
  ·simp
  ·exact Z4X ws _
theorem Z20 (E : TE) (l : List Z7) : ∀ k, (rowsAt E l k).1 = 0 ∨ (rowsAt E l k).1 = 100 ∨ (rowsAt E l k).1 = 101
 | 0 => by simp [rowsAt]
 | k + 1 => by
  unfold rowsAt
  split
  ·exact Z20 E l k
  ·unfold placeC
   split
   ·split
    ·exact Z6u ..
    ·rcases Z4X (next := (afterC E (At l Z7.zero (k : Int)) (At (rowsAt E l k).2 R0 (k : Int)).Kinds).1) (Zw.ways l k) (rowsAt E l k).2 with h | h
     ·exact .inl h
     ·exact .inr (.inl h)
   ·simp
theorem Z2R {m : Z9} {k : Nat} (hm : YM m) (S : Small m) (hk : k < m.Methods.length) : Yd.f m k = some (rowsM m k) ∧ okE (rowsM m k).2 ∧ ((rowsM m k).2 = 0 → Known m.Methods[k].Code ∧ Fine m.Methods[k].Code) := by
 obtain ⟨rows, e, g1, g3⟩ := rows_ok hm S hk
 have er : rowsM m k = (rows, e) := by unfold rowsM; rw [g1]; rfl
 rw [er]
 refine ⟨g1, ?_, fun he => ⟨(g3 he).2.1, (g3 he).2.2.1⟩⟩
 have h0 : (0 : Int) ≤ (k : Int) := by omega
 have h1 : (k : Int) < m.Methods.length := by omega
 have hx := Zp hk
 generalize hxe : m.Methods[k] = x at hx
 have hxm : x ∈ m.Methods := by rw [← hxe]; exact List.getElem_mem hk
 have hs := S.x x hxm
 have hwx : ∀ i ∈ x.Code, Y4 i := ((hm.2.2.1.2 x hxm).2.2.2.2.2.2.2).2
 obtain ⟨e1, e2, e3⟩ := Z0y (m := m) (k := k) (x := x) h0 h1 hx (by omega) hwx (by omega)
 have out : ∀ {r : List Ze} {e' : Int}, Yd.f m k = some (r, e') → e = e' := by
  intro r e' h
  rw [g1] at h
  exact (Prod.mk.inj (Option.some.inj h)).2
 unfold okE
 dsimp only
 by_cases hkn : Known x.Code
 ·by_cases hf : Fine x.Code
  ·by_cases hth : ∃ i ∈ x.Code, there (envOf m x) i = false
   ·have := out (e3 hkn hf hth); omega
   ·have W : Well (envOf m x) x.Code := ⟨hkn, hf, hwx, fun i hi => by
     cases ht : there (envOf m x) i
     ·exact absurd ⟨i, hi, ht⟩ hth
     ·rfl, fun y hy => by have := S.x y hy; omega⟩
    have hw := Z0x h0 h1 hx W (by omega)
    have := out (r := (rowsC (envOf m x) x.Code).1) (e' := (rowsC (envOf m x) x.Code).2) hw
    have ha := Z20 (envOf m x) x.Code x.Code.length
    unfold rowsC at this
    split at this
    ·dsimp only at this; omega
    ·dsimp only at this; omega
  ·have := out (e2 hkn hf); omega
 ·have := out (e1 hkn); omega
noncomputable def firstC (m : Z9) : Int × Int := match (List.range m.Methods.length).find? (fun k => decide ((rowsM m k).2 ≠ 0)) with
 | some k => ((k : Int), (rowsM m k).2)
 | none => (-1, 0)
theorem Z4Y {m : Z9} (hm : YM m) (S : Small m) : XH.f m = some (firstC m) := by
 have hM := S.M
 unfold XH.f
 have scan : ∀ (j k : Nat), k + j = m.Methods.length → runF (XH.F m) (.l1 (k : Int)) = some (match (List.range' k j).find? (fun k => decide ((rowsM m k).2 ≠ 0)) with
     | some k => ((k : Int), (rowsM m k).2)
     | none => (-1, 0)) := by
  intro j
  induction j with
  | zero =>
   intro k hk
   refine Zf ?_
   dsimp only [XH.F]
   rw [if_neg (by omega)]; simp
  | succ j ih =>
   intro k hk
   have hr := (Z2R hm S (show k < m.Methods.length by omega)).1
   rw [List.range'_succ, List.find?_cons]
   by_cases he : (rowsM m k).2 = 0
   ·rw [show decide ((rowsM m k).2 ≠ 0) = false by simpa using he]
    dsimp only
    rw [← ih (k + 1) (by omega)]
    refine Zc ?_
    dsimp only [XH.F]
    unfold V3.f
    rw [if_pos (by omega), hr]; simp only [Option.bind_some]
    rw [if_neg (by simpa using he), Zl k (by omega)]
   ·rw [show decide ((rowsM m k).2 ≠ 0) = true by simpa using he]
    refine Zf ?_
    dsimp only [XH.F]
    unfold V3.f
    rw [if_pos (by omega), hr]; simp only [Option.bind_some]
    rw [if_pos he]
 rw [Zc (t := .l1 ((0 : Nat) : Int)) rfl, scan m.Methods.length 0 (by omega), ← List.range_eq_range']; rfl
def callsC (m : Z9) : Int := if anyBad m = true then 2 else (ordN (whoms m) m.Methods.length []).2
theorem Z8l {m : Z9} (S : Small m) : UW.f m = some (callsC m) := by
 unfold UW.f callsC
 rw [JQ ⟨S.M, fun x hx => (S.x x hx).2.2⟩]
 simp only [Option.bind_some]
 split <;> rfl
theorem Z9D {m : Z9} (hm : YM m) (S : Small m) : TL.f m = some (costsC m).2 := by
 unfold TL.f
 rw [JR hm S]; rfl
theorem Z8m {m : Z9} (S : Fit m) : WY.f m = some (if anyBad m = true then ([], 2) else (whoms m, 0)) := by
 unfold WY.f
 rw [Zc (t := .l1 [] ((0 : Nat) : Int)) rfl]
 have : ∀ (c pre : List Zb), m.Methods = pre ++ c → runF (WY.F m) (.l1 (pre.map fun x => whomL m.Methods.length x.Code) (pre.length : Int)) = some (if (c.any fun x => (nm x.Code).any (badN m.Methods.length)) = true then ([], 2) else (whoms m, 0)) := by
  intro c
  induction c with
  | nil =>
   intro pre he
   refine Zf ?_
   dsimp only [WY.F]
   rw [if_neg (by rw [he]; simp)]
   simp [whoms, he]
  | cons x c ih =>
   intro pre he
   have hlen : pre.length < m.Methods.length := by rw [he]; simp
   have hx : m.Methods[pre.length] = x := by simp [he]
   have hw := Z2J hlen (S.x _ (List.getElem_mem hlen))
   rw [hx] at hw
   have hM := S.M
   by_cases hb : (nm x.Code).any (badN m.Methods.length) = true
   ·rw [List.any_cons, hb, Bool.true_or, if_pos rfl]
    refine Zf ?_
    dsimp only [WY.F]
    rw [if_pos (by omega), hw]
    simp only [Option.bind_some, whomC]
    rw [if_pos hb, if_pos (by simp)]
   ·have hb' : (nm x.Code).any (badN m.Methods.length) = false := by simpa using hb
    rw [List.any_cons, hb', Bool.false_or, ← ih (pre ++ [x]) (by rw [he]; simp)]
    refine Zc ?_
    dsimp only [WY.F]
    rw [if_pos (by omega), hw]
    simp only [Option.bind_some, whomC]
    rw [if_neg hb, if_neg (by simp), if_pos (by simp; omega), Zl pre.length (by omega), List.length_append, List.map_append]; rfl
 exact this _ [] rfl
def UZ (x : Zb) : Bool := x.Code.any fun i => decide (i.Op = 5)
theorem Z7j {x : Zb} (hx : x.Code.length ≤ 300) : UY.f x = some (UZ x) := by
 unfold UY.f Xw.f ZR.f UZ
 obtain ⟨r, hr, e⟩ := JD (F := ZR.F x.Code) (fun k => .l1 (k : Int)) x.Code (fun i => decide (i.Op = 5)) (fun k hk => by
  dsimp only [ZR.F]
  unfold UM.f
  rw [if_pos (by omega), Zp hk]
  simp only [Option.bind_some, Zl k (by omega)]
  cases decide (x.Code[k].Op = 5) <;> rfl) (by dsimp only [ZR.F]; rw [if_neg (by omega)])
 rw [Zc (t := .l1 ((0 : Nat) : Int)) rfl, hr]
 simp only [Option.bind_some]
 rw [e]
def loudB (m : Z9) (l : List Int) : Bool := l.any fun a => !(methM m a.toNat).Reads
theorem Z9E {m : Z9} {l : List Int} (hl : l.length ≤ 100) (h : ∀ a ∈ l, 0 ≤ a ∧ a < m.Methods.length) : XK.f l m.Zj m.Pool m.Methods m.Zd = some (loudB m l) := by
 unfold XK.f Yt.f loudB
 obtain ⟨r, hr, e⟩ := JD (F := Yt.F l m.Zj m.Pool m.Methods m.Zd) (fun k => .l1 (k : Int)) l (fun a => !(methM m a.toNat).Reads) (fun k hk => by
  have := h _ (List.getElem_mem hk)
  have ha : l[k].toNat < m.Methods.length := by omega
  dsimp only [Yt.F]
  unfold Uj.f
  rw [if_pos (by omega), Zp hk]
  simp only [Option.bind_some]
  rw [V7 (xs := m.Methods) this.1 ha]
  simp only [Option.bind_some, Zl k (by omega)]
  rw [TD ha]
  cases m.Methods[l[k].toNat].Reads <;> rfl) (by dsimp only [Yt.F]; rw [if_neg (by omega)])
 rw [Zc (t := .l1 ((0 : Nat) : Int)) rfl, hr]
 simp only [Option.bind_some]
 rw [e]
def badR (m : Z9) (k : Nat) : Bool := (methM m k).Reads && (UZ (methM m k) || loudB m ((whoms m).getD k []))
def pureC (m : Z9) : Int := if anyBad m = true then 2 else if (List.range m.Methods.length).any (badR m) = true then 130 else 0
theorem Z9F {m : Z9} (S : Small m) : Wv.f m = some (pureC m) := by
 have hM := S.M
 have F : Fit m := ⟨S.M, fun x hx => (S.x x hx).2.2⟩
 have hw := Z8m F
 unfold Wv.f pureC
 by_cases hb : anyBad m = true
 ·rw [if_pos hb] at hw ⊢
  refine Zf ?_
  dsimp only [Wv.F]
  rw [hw]; simp only [Option.bind_some]; rw [if_pos (by simp)]
 rw [if_neg hb] at hw ⊢
 rw [Zc (t := .l1 (whoms m, 0) ((0 : Nat) : Int)) (by dsimp only [Wv.F]; rw [hw]; rfl)]
 obtain ⟨r, hr, hc⟩ := Uk (F := Wv.F m) (n := m.Methods.length) (b := 0) (a := fun _ => 130) (fun k => .l1 (whoms m, 0) (k : Int)) (fun k => badR m k) (fun k hk => by
  have hs := S.x _ (List.getElem_mem hk)
  have hwl : k < (whoms m).length := by simpa [whoms] using hk
  have hg : (whoms m).getD k [] = (whoms m)[k] := by rw [List.getD_eq_getElem?_getD, List.getElem?_eq_getElem hwl]; rfl
  have hin : ∀ a ∈ (whoms m)[k], 0 ≤ a ∧ a < m.Methods.length := by
   intro a ha
   rw [← hg, TB hk] at ha
   unfold whomL at ha
   obtain ⟨j, hj, rfl⟩ := List.mem_map.1 (List.mem_filter.1 ha).1
   have := List.mem_range.1 hj
   omega
  have hlen : (whoms m)[k].length ≤ 100 := by
   rw [← hg, TB hk]
   have := Jp m.Methods.length m.Methods[k].Code
   omega
  dsimp only [Wv.F]
  rw [if_pos (by omega), Zp hk]
  simp only [Option.bind_some]
  rw [Z7j hs.2.2, Zp hwl]
  simp only [Option.bind_some]
  rw [Z9E hlen hin]
  simp only [Option.bind_some, Zl k (by omega)]
  unfold badR
  rw [TD hk, hg]
  cases m.Methods[k].Reads <;> cases UZ m.Methods[k] <;> cases loudB m (whoms m)[k] <;> rfl) (by dsimp only [Wv.F]; rw [if_neg (by omega)])
 rw [hr]
 congr 1
 rcases hc with ⟨k, hk, hp, rfl⟩ | ⟨hn, rfl⟩
 ·rw [if_pos (List.any_eq_true.2 ⟨k, List.mem_range.2 hk, hp⟩)]
 ·rw [if_neg]
  intro ha
  obtain ⟨k, hk, hp⟩ := List.any_eq_true.1 ha
  have := hn k (List.mem_range.1 hk)
  rw [hp] at this; cases this
end XB
namespace XI
open Zw Y7 Xx
theorem Z2S {one : List Zq → Nat → Zq} {fit : Nat → Zq → Bool} : ∀ (o : List Int) (l r : List Zq), certsC one fit o l = some r → r.length = l.length ∧ ∀ j : Nat, (j : Int) ∉ o → (∀ a ∈ o, 0 ≤ a) → r.getD j Zq.zero = l.getD j Zq.zero
 | [], l, r, h => by
  rw [certsC] at h; injection h with h; subst h; exact ⟨rfl, fun _ _ _ => rfl⟩
 | a :: o, l, r, h => by
  rw [certsC] at h
  split at h
  ·obtain ⟨h1, h2⟩ := Z2S o _ r h
   refine ⟨by rw [h1, List.length_set], fun j hj h0 => ?_⟩
   rw [h2 j (fun hh => hj (List.mem_cons_of_mem _ hh)) (fun b hb => h0 b (List.mem_cons_of_mem _ hb))]
   have hne : a.toNat ≠ j := fun e => hj (by have := h0 a (List.mem_cons_self ..); rw [show ((j : Nat) : Int) = a by omega]; exact List.mem_cons_self ..)
   rw [List.getD_eq_getElem?_getD, List.getD_eq_getElem?_getD, List.getElem?_set_ne hne]
  ·cases h
end XI
namespace XI
theorem Z21 {l : List Zq} (h : l.length < 4611686018427387904) : YX.f l l = some true := by
 unfold YX.f
 rw [Zc (t := .l1 ((0 : Nat) : Int)) (by dsimp only [YX.F]; rw [if_neg (by simp)]; rfl)]
 refine (Vs (F := YX.F l l) (n := l.length) (fun k => .l1 (k : Int)) (fun k hk => ?_)).trans (Zf ?_)
 ·dsimp only [YX.F]
  rw [if_pos (by omega), Zp hk]
  simp only [Option.bind_some]
  rw [if_neg (by simp), Zl k (by omega)]
 ·dsimp only [YX.F]
  rw [if_neg (by omega)]
end XI
namespace XB
open Zw Y7 Xx XI
theorem Z6v {m : Z9} (h : (costsC m).2 = 0) : (costsC m).1.length = m.Methods.length := by
 revert h
 unfold costsC
 split
 ·intro h; simp at h
 ·split
  ·intro h; rename_i h1; exact absurd h h1
  ·split
   ·intro h; rename_i h1; exact absurd h h1
   ·split
    ·intro h; simp at h
    ·rename_i hA
     intro _
     have := (Z2S _ _ _ hA).1
     simpa using this
noncomputable def T9 (m : Z9) : Int × Int :=
 if mayC m ≠ 0 then (0, mayC m) else if movesC m ≠ 0 then (1, movesC m) else if (firstC m).2 ≠ 0 then (2, (firstC m).2) else if callsC m ≠ 0 then (3, callsC m) else
 if (costsC m).2 ≠ 0 then (4, (costsC m).2) else if pureC m ≠ 0 then (5, pureC m) else (-1, 0)
theorem Z48 {m : Z9} (hm : YM m) (S : Small m) : Xy.f m = some (T9 m) := by
 have hE := (Z1s S).2
 unfold Xy.f U8.f T9 Xy.j2
 simp only [Option.bind_some]
 rw [Za5 hm S]; simp only [Option.bind_some]
 by_cases h1 : mayC m ≠ 0
 ·rw [if_pos h1, if_pos h1]
 rw [if_neg h1, if_neg h1, Z8k S (hE (Classical.not_not.1 h1)).2]; simp only [Option.bind_some]
 by_cases h2 : movesC m ≠ 0
 ·rw [if_pos h2, if_pos h2]
 unfold Tz.f
 rw [if_neg h2, if_neg h2, Z4Y hm S]; simp only [Option.bind_some]
 by_cases h3 : (firstC m).2 ≠ 0
 ·rw [if_pos h3, if_pos h3]
 rw [if_neg h3, if_neg h3, Z8l S]; simp only [Option.bind_some]
 by_cases h4 : callsC m ≠ 0
 ·rw [if_pos h4, if_pos h4]
 rw [if_neg h4, if_neg h4, Z9D hm S]; simp only [Option.bind_some]
 by_cases h5 : (costsC m).2 ≠ 0
 ·rw [if_pos h5, if_pos h5]
 rw [if_neg h5, if_neg h5, Z9F S]; simp only [Option.bind_some]
 by_cases h6 : pureC m ≠ 0
 ·rw [if_pos h6, if_pos h6]
 ·rw [if_neg h6, if_neg h6, Classical.not_not.1 h6]
theorem Z6w {m : Z9} (hm : YM m) (S : Small m) : Vq.f m = some (T9 m).2 := by
 unfold Vq.f
 rw [Z48 hm S]; rfl
noncomputable def TN (m : Z9) : List Zq × Int := if (T9 m).2 ≠ 0 then ([], (T9 m).2) else costsC m
theorem Z7k {m : Z9} (hm : YM m) (S : Small m) : Vx.f m = some (TN m) := by
 unfold Vx.f TN
 rw [Z6w hm S]; simp only [Option.bind_some]
 split
 ·rfl
 ·rw [JR hm S]; rfl
noncomputable def blameC (m : Z9) : Int := if (T9 m).1 ≠ 2 then -1 else (firstC m).1
theorem Z8n {m : Z9} (hm : YM m) (S : Small m) : VI.f m = some (blameC m) := by
 unfold VI.f blameC
 rw [Z48 hm S]; simp only [Option.bind_some]
 split
 ·rfl
 ·rw [Z4Y hm S]; rfl
end XB
namespace XI
open Zw Y7 Xx
theorem Z0D {m : Z9} {k : Nat} (hm : YM m) (S : Small m) (hk : k < m.Methods.length) : ∃ rows e, Yd.f m k = some (rows, e) ∧ Zo.f m k = some (rows.map conv, e) ∧
    (e = 0 → rows.length = m.Methods[k].Code.length ∧ Known m.Methods[k].Code ∧ Fine m.Methods[k].Code ∧ ∀ r ∈ rows, r.Kinds.length ≤ 400) := by
 have h0 : (0 : Int) ≤ (k : Int) := by omega
 have h1 : (k : Int) < m.Methods.length := by omega
 have hx := Zp hk
 generalize hxe : m.Methods[k] = x at hx
 have hxm : x ∈ m.Methods := by rw [← hxe]; exact List.getElem_mem hk
 have hs := S.x x hxm
 have hwx : ∀ i ∈ x.Code, Y4 i := ((hm.2.2.1.2 x hxm).2.2.2.2.2.2.2).2
 obtain ⟨e1, e2, e3⟩ := Z0y (m := m) (k := k) (x := x) h0 h1 hx (by omega) hwx (by omega)
 obtain ⟨f1, f2, f3, f4⟩ := Z7f (m := m) (k := k) (x := x) h0 h1 hx (by omega) hwx (by omega)
 by_cases hkn : Known x.Code
 ·by_cases hf : Fine x.Code
  ·by_cases hth : ∃ i ∈ x.Code, there (envOf m x) i = false
   ·exact ⟨[], 100, e3 hkn hf hth, f3 hkn hf hth, by omega⟩
   ·have W : Well (envOf m x) x.Code := ⟨hkn, hf, hwx, fun i hi => by
     cases ht : there (envOf m x) i
     ·exact absurd ⟨i, hi, ht⟩ hth
     ·rfl, fun y hy => by have := S.x y hy; omega⟩
    have hrow := Z0x h0 h1 hx W (by omega)
    exact ⟨(rowsC (envOf m x) x.Code).1, (rowsC (envOf m x) x.Code).2, hrow, f4 W, fun he => ⟨(Jo W he).len, hkn, hf, (Jo W he).sz⟩⟩
  ·exact ⟨[], 90, e2 hkn hf, f2 hkn hf, by omega⟩
 ·exact ⟨[], 40, e1 hkn, f1 hkn, by omega⟩
theorem Z7l {m : Z9} {k : Nat} {kn : List Zq} (hm : YM m) (S : Small m) (hk : k < m.Methods.length) (hb : (nm m.Methods[k].Code).any (badN m.Methods.length) = false) (hkn : kn.length = m.Methods.length)
    {rows : List Ze} (hr : Yd.f m k = some (rows, 0)) : ∃ c, Yn.f m k kn = some c ∧ ZW.f m k kn = some c := by
 obtain ⟨rows', e', g1, g2, g3⟩ := Z0D hm S hk
 rw [hr] at g1
 obtain ⟨rfl, rfl⟩ : rows = rows' ∧ (0 : Int) = e' := by simpa using g1
 obtain ⟨hlen, hK, hF, hsz⟩ := g3 rfl
 have hx := Zp hk
 have hxm := List.getElem_mem hk
 generalize m.Methods[k] = x at hx hxm hb hlen hK hF
 have hs := S.x x hxm
 have hwx : ∀ i ∈ x.Code, Y4 i := ((hm.2.2.1.2 x hxm).2.2.2.2.2.2.2).2
 have hl300 : x.Code.length ≤ 300 := hs.2.2
 have t1 := (JO (l := x.Code) (by omega) hwx).2.1 hK hF
 have t2 := (Z2N (l := x.Code) (by omega) hwx).2.1 hK hF
 have hH0 := Z1o rows rows.length
 have hH1 := Z7b hsz rows.length
 have hn0 : IntKind.i64.wrap (IntKind.i64.wrap ((x.Args.length : Int) + (x.Locals.length : Int)) + H rows rows.length) = (x.Args.length : Int) + (x.Locals.length : Int) + H rows rows.length := by
  rw [Xr (x := (x.Args.length : Int) + (x.Locals.length : Int)) (by omega) (by omega), Xr (by omega) (by omega)]
 have main : ∀ (c pre : List Z7), x.Code = pre ++ c → (nm c).any (badN m.Methods.length) = false → ∀ f s h : Int, In f → In h → ∃ r, runF (Yn.F m k kn) (.l1 x (tms x.Code, 0) (pre.length : Int) f s h x.Result x.Reads x.Fuel x.Stack x.Heap rows) = some r ∧ runF (ZW.F m k kn) (.l1 x (tms x.Code, 0) (rows.map conv) (pre.length : Int) f s h) = some r := by
  intro c
  induction c with
  | nil =>
   intro pre he _ f s h _ _
   refine ⟨⟨f, s, h⟩, Zf ?_, Zf ?_⟩
   ·dsimp only [Yn.F]; rw [if_neg (by rw [he]; simp)]
   ·dsimp only [ZW.F]; rw [if_neg (by rw [he]; simp)]
  | cons i c ih =>
   intro pre he hb f s h hf hh
   have hpl : pre.length < x.Code.length := by rw [he]; simp
   have hi : x.Code[pre.length] = i := by simp [he]
   have htl : pre.length < (tms x.Code).length := by rw [Z4U]; exact hpl
   have ht := Zp htl
   have hti := Z6e x.Code pre.length htl
   generalize (tms x.Code)[pre.length] = t at ht hti
   have hrl : pre.length < rows.length := by omega
   have hrw := Zp hrl
   have hrc : elt (rows.map conv) (pre.length : Int) = some (conv rows[pre.length]) := by
    rw [Zp (by rw [List.length_map]; exact hrl), List.getElem_map]
   generalize rows[pre.length] = rw_ at hrw hrc
   have hnx : ((pre ++ [i]).length : Int) = IntKind.i64.wrap ((pre.length : Int) + 1) := by rw [Zl pre.length (by omega), List.length_append]; rfl
   -- the heap of a new array
   have hheap : ∀ v : Int, v = (if i.Op = 22 then i.A else 0) → IntKind.i64.wrap (h + IntKind.i64.wrap (t * v)) = if i.Op = 22 then IntKind.i64.wrap (h + IntKind.i64.wrap (t * i.A)) else h := by
    intro v hv
    by_cases h22 : i.Op = 22
    ·rw [if_pos h22] at hv ⊢; rw [hv]
    ·rw [if_neg h22] at hv ⊢; rw [hv, Int.mul_zero, show IntKind.i64.wrap 0 = 0 from rfl, Int.add_zero, Z38 hh]
   have hfuel : IntKind.i64.wrap (f + IntKind.i64.wrap (t * 1)) = IntKind.i64.wrap (f + t) := by rw [Int.mul_one, Z38 hti]
   have hpstep : ∀ q, Yn.j2 m k kn x (tms x.Code, 0) (pre.length : Int) f s h x.Result x.Reads x.Fuel x.Stack x.Heap rows i (if i.Op = 22 then i.A else 0) = q → runF (Yn.F m k kn) (.l1 x (tms x.Code, 0) (pre.length : Int) f s h x.Result x.Reads x.Fuel x.Stack x.Heap rows) = q.bind fun z => match z with | .inl t => runF (Yn.F m k kn) t | .inr r => some r := by
    intro q hq
    rw [Z0F]
    dsimp only [Yn.F]
    rw [if_pos (by omega), Zp hpl, hi]
    simp only [Option.bind_some]
    by_cases h22 : i.Op = 22
    ·rw [if_pos h22] at hq ⊢; rw [hq]; cases q with
     | none => rfl
     | some z => cases z <;> rfl
    ·rw [if_neg h22] at hq ⊢; rw [hq]; cases q with
     | none => rfl
     | some z => cases z <;> rfl
   have hrstep : ∀ q, ZW.j2 m k kn x (tms x.Code, 0) (rows.map conv) (pre.length : Int) f s i t (if i.Op = 22 then IntKind.i64.wrap (h + IntKind.i64.wrap (t * i.A)) else h) = q → runF (ZW.F m k kn) (.l1 x (tms x.Code, 0) (rows.map conv) (pre.length : Int) f s h) = q.bind fun z => match z with | .inl t => runF (ZW.F m k kn) t | .inr r => some r := by
    intro q hq
    rw [Z0F]
    dsimp only [ZW.F]
    rw [if_pos (by omega), Zp hpl, hi]
    simp only [Option.bind_some]
    rw [ht]
    simp only [Option.bind_some]
    by_cases h22 : i.Op = 22
    ·rw [if_pos h22] at hq ⊢
     rw [hq]; cases q with
     | none => rfl
     | some z => cases z <;> rfl
    ·rw [if_neg h22] at hq ⊢; rw [hq]; cases q with
     | none => rfl
     | some z => cases z <;> rfl
   generalize hh' : (if i.Op = 22 then IntKind.i64.wrap (h + IntKind.i64.wrap (t * i.A)) else h) = h' at hrstep hheap
   have hih' : In h' := by rw [← hh']; split; exact TM _; exact hh
   by_cases h30 : i.Op = 30
   ·rw [Ux, if_pos h30, List.any_cons, Bool.or_eq_false_iff] at hb
    have hA := hb.1
    simp only [badN, Bool.or_eq_false_iff, decide_eq_false_iff_not] at hA
    have hA1 : i.A.toNat < m.Methods.length := by omega
    have e1 := V7 (xs := m.Methods) (by omega) hA1
    have e2 := V7 (xs := kn) (by omega) (by omega : i.A.toNat < kn.length)
    generalize m.Methods[i.A.toNat] = om at e1
    generalize kn[i.A.toNat] = oc at e2
    generalize hhigh : IntKind.i64.wrap (IntKind.i64.wrap (IntKind.i64.wrap (IntKind.i64.wrap ((x.Args.length : Int) + (x.Locals.length : Int)) + (rw_.Kinds.length : Int)) - (om.Args.length : Int)) + oc.Stack) = high
    obtain ⟨r, r1, r2⟩ := ih (pre ++ [i]) (by rw [he]; simp) hb.2 (IntKind.i64.wrap (IntKind.i64.wrap (f + t) + IntKind.i64.wrap (t * oc.Fuel))) (if rw_.Reached = true ∧ high > s then high else s) (IntKind.i64.wrap (h' + IntKind.i64.wrap (t * oc.Heap))) (TM _) (TM _)
    refine ⟨r, ?_, ?_⟩
    ·rw [hpstep (some (.inl (.l1 x (tms x.Code, 0) ((pre ++ [i]).length : Int) (IntKind.i64.wrap (IntKind.i64.wrap (f + t) + IntKind.i64.wrap (t * oc.Fuel))) (if rw_.Reached = true ∧ high > s then high else s) (IntKind.i64.wrap (h' + IntKind.i64.wrap (t * oc.Heap))) x.Result x.Reads x.Fuel x.Stack x.Heap rows))) ?_]
     ·exact r1
     ·unfold Yn.j2 XE.f
      rw [ht]
      simp only [Option.bind_some]
      rw [if_pos h30, e1]
      simp only [Option.bind_some]
      rw [e2]
      simp only [Option.bind_some]
      unfold Vj.f XE.f VB.f
      simp only [Option.bind_some]
      rw [hrw]
      simp only [Option.bind_some]
      rw [hfuel, hheap _ rfl, hhigh]
      unfold Yn.j1
      rw [hnx]
      by_cases hre : rw_.Reached = true
      ·rw [if_pos hre]
       simp only [Option.bind_some, hre, true_and]
      ·rw [if_neg hre]
       simp only [Option.bind_some]
       rw [if_neg (fun h => hre h.1)]
    ·rw [hrstep (some (.inl (.l1 x (tms x.Code, 0) (rows.map conv) ((pre ++ [i]).length : Int) (IntKind.i64.wrap (IntKind.i64.wrap (f + t) + IntKind.i64.wrap (t * oc.Fuel))) (if rw_.Reached = true ∧ high > s then high else s) (IntKind.i64.wrap (h' + IntKind.i64.wrap (t * oc.Heap)))))) ?_]
     ·exact r2
     ·unfold ZW.j2 ZW.j1
      rw [if_neg (by simpa using h30), e2]
      simp only [Option.bind_some]
      rw [ht]
      simp only [Option.bind_some]
      rw [hrc]
      simp only [Option.bind_some]
      rw [e1]
      simp only [Option.bind_some]
      have hcond : ((conv rw_).Reached && decide (IntKind.i64.wrap (IntKind.i64.wrap (IntKind.i64.wrap (IntKind.i64.wrap ((x.Args.length : Int) + (x.Locals.length : Int)) + ((conv rw_).Kinds.length : Int)) - (om.Args.length : Int)) + oc.Stack) > s)) = true ↔ (rw_.Reached = true ∧ high > s) := by
       rw [Bool.and_eq_true, decide_eq_true_eq]; dsimp only [conv]; rw [hhigh]
      by_cases hc : rw_.Reached = true ∧ high > s
      ·rw [if_pos (hcond.2 hc), if_pos hc, ← hnx]
       dsimp only [conv]; rw [hhigh]
      ·rw [if_neg (fun h => hc (hcond.1 h)), if_neg hc, ← hnx]
   ·rw [Ux, if_neg h30] at hb
    obtain ⟨r, r1, r2⟩ := ih (pre ++ [i]) (by rw [he]; simp) hb (IntKind.i64.wrap (f + t)) s h' (TM _) hih'
    refine ⟨r, ?_, ?_⟩
    ·rw [hpstep (some (.inl (.l1 x (tms x.Code, 0) ((pre ++ [i]).length : Int) (IntKind.i64.wrap (f + t)) s h' x.Result x.Reads x.Fuel x.Stack x.Heap rows))) ?_]
     ·exact r1
     ·unfold Yn.j2 XE.f
      rw [ht]
      simp only [Option.bind_some]
      rw [if_neg h30, hfuel, hheap _ rfl]
      unfold Yn.j1
      rw [hnx]
    ·rw [hrstep (some (.inl (.l1 x (tms x.Code, 0) (rows.map conv) ((pre ++ [i]).length : Int) (IntKind.i64.wrap (f + t)) s h'))) ?_]
     ·exact r2
     ·unfold ZW.j2 ZW.j1
      rw [if_pos (by simpa using h30), ← hnx]
 obtain ⟨r, r1, r2⟩ := main x.Code [] rfl hb 0 ((x.Args.length : Int) + (x.Locals.length : Int) + H rows rows.length) 0 ⟨by omega, by omega⟩ ⟨by omega, by omega⟩
 refine ⟨r, ?_, ?_⟩
 ·unfold Yn.f
  rw [← r1]
  refine Zc ?_
  dsimp only [Yn.F]
  rw [hx]
  simp only [Option.bind_some]
  rw [hr]
  simp only [Option.bind_some]
  rw [t1]
  simp only [Option.bind_some]
  rw [Z2I (by omega)]
  simp only [Option.bind_some]
  unfold VA.f
  simp only [Option.bind_some]
  rw [hn0]
  congr 2
  by_cases h0 : (x.Args.length : Int) + (x.Locals.length : Int) + H rows rows.length > 0
  ·rw [if_pos h0]; rfl
  ·rw [if_neg h0, show (x.Args.length : Int) + (x.Locals.length : Int) + H rows rows.length = 0 by omega]; rfl
 ·unfold ZW.f
  rw [← r2]
  refine Zc ?_
  dsimp only [ZW.F]
  rw [hx]
  simp only [Option.bind_some]
  rw [g2]
  simp only [Option.bind_some]
  rw [t2]
  simp only [Option.bind_some]
  rw [Z5t (by omega)]
  simp only [Option.bind_some]
  rw [hn0]; rfl
end XI
namespace XI
open Zw Y7 Xx
theorem Z6x (c : Zq) (x : Zb) : ∃ b, UA.f c x = some b ∧ Vv.f c x = some b := by
 unfold UA.f Vk.f Vv.f
 simp only [Option.bind_some, Z42]
 refine ⟨_, rfl, ?_⟩
 split
 ·rename_i h
  simp at h ⊢
  omega
 ·split
  ·rename_i h1 h2
   simp at h1 h2 ⊢
   omega
  ·rename_i h1 h2
   simp at h1 h2 ⊢
   rw [Bool.eq_iff_iff]
   simp
   omega
theorem Z5u {m : Z9} (hm : YM m) (S : Small m) : ∃ L e, Yi.f m = some (L, e) ∧ Y6.f m = some (L, e) ∧ L.length ≤ 40 := by
 have hM := S.M
 have F : Fit m := ⟨S.M, fun x hx => (S.x x hx).2.2⟩
 have p0 := JQ F
 have r0 := Z2O F
 unfold Yi.f Y6.f
 by_cases hb : anyBad m = true
 ·rw [if_pos hb] at p0 r0
  refine ⟨[], 2, Zf ?_, Zf ?_, by simp⟩
  ·dsimp only [Yi.F]; rw [p0]; simp only [Option.bind_some]; rw [if_pos (by simp)]
  ·dsimp only [Y6.F]; rw [r0]; simp only [Option.bind_some]; rw [if_pos (by simp)]
 ·rw [if_neg hb] at p0 r0
  have hok := Z2u (W := whoms m) m.Methods.length [] (by simp)
  have hWl : (whoms m).length = m.Methods.length := by simp [whoms]
  generalize ordN (whoms m) m.Methods.length [] = oe at p0 r0 hok
  obtain ⟨o, e⟩ := oe
  by_cases he : e = 0
  ·subst he
   obtain ⟨ho1, ho2⟩ := hok rfl
   have hol : o.length = m.Methods.length := by simpa using ho1
   have A : runF (Yi.F m) .start = runF (Yi.F m) (.l1 (o, 0) ((0 : Nat) : Int)) := Zc (by dsimp only [Yi.F]; rw [p0]; simp only [Option.bind_some]; rw [if_neg (by simp)]; rfl)
   have B : runF (Y6.F m) .start = runF (Y6.F m) (.l1 (o, 0) ((0 : Nat) : Int)) := Zc (by dsimp only [Y6.F]; rw [r0]; simp only [Option.bind_some]; rw [if_neg (by simp)]; rfl)
   rw [A, B]
   -- the certificates, one by one
   have go : (∀ k (hk : k < m.Methods.length), ∃ rows, Yd.f m k = some (rows, 0)) → ∀ (c pre : List Int) (l : List Zq), o = pre ++ c → l.length = m.Methods.length → ∃ L e, runF (Yi.F m) (.l2 (o, 0) l (pre.length : Int)) = some (L, e) ∧ runF (Y6.F m) (.l2 (o, 0) l (pre.length : Int)) = some (L, e) ∧ L.length ≤ 40 := by
    intro hrows c
    induction c with
    | nil =>
     intro pre l hp hl
     refine ⟨l, 0, Zf ?_, Zf ?_, by omega⟩
     ·dsimp only [Yi.F]; rw [if_neg (by rw [hp]; simp)]
     ·dsimp only [Y6.F]; rw [if_neg (by rw [hp]; simp)]
    | cons a c ih =>
     intro pre l hp hl
     have hpl : pre.length < o.length := by rw [hp]; simp
     have hi : o[pre.length] = a := by simp [hp]
     obtain ⟨a0, a1⟩ := ho2 a (by rw [hp]; simp)
     have hk : a.toNat < m.Methods.length := by omega
     have hak : ((a.toNat : Nat) : Int) = a := by omega
     obtain ⟨rows, hr⟩ := hrows a.toNat hk
     have hbk : (nm m.Methods[a.toNat].Code).any (badN m.Methods.length) = false := by
      have := List.any_eq_false.1 (show (m.Methods.any fun x => (nm x.Code).any (badN m.Methods.length)) = false by simpa [anyBad] using hb) _ (List.getElem_mem hk)
      simpa using this
     obtain ⟨ct, c1, c2⟩ := Z7l (kn := l) hm S hk hbk hl hr
     rw [hak] at c1 c2
     obtain ⟨fb, f1, f2⟩ := Z6x ct m.Methods[a.toNat]
     have e1 := V7 (xs := l) a0 (by omega)
     have e2 : elt (l.set a.toNat ct) a = some ct := by
      rw [V7 (xs := l.set a.toNat ct) a0 (by rw [List.length_set]; omega)]; simp
     have e3 := V7 (xs := m.Methods) a0 hk
     cases fb with
     | false =>
      refine ⟨[], 120, Zf ?_, Zf ?_, by simp⟩
      ·dsimp only [Yi.F]
       rw [if_pos (by omega), Zp hpl, hi]; simp only [Option.bind_some]
       rw [c1]; simp only [Option.bind_some]
       rw [e1]; simp only [Option.bind_some]
       rw [e2]; simp only [Option.bind_some]
       rw [e3]; simp only [Option.bind_some]
       rw [f1]; simp only [Option.bind_some]
       rw [if_pos (by simp)]
      ·dsimp only [Y6.F]
       rw [if_pos (by omega), Zp hpl, hi]; simp only [Option.bind_some]
       rw [c2]; simp only [Option.bind_some]
       rw [e1]; simp only [Option.bind_some]
       rw [e2]; simp only [Option.bind_some]
       rw [e3]; simp only [Option.bind_some]
       rw [f2]; simp only [Option.bind_some]
       rw [if_pos (by simp)]
     | true =>
      obtain ⟨L, e, g1, g2, g3⟩ := ih (pre ++ [a]) (l.set a.toNat ct) (by rw [hp]; simp) (by rw [List.length_set]; exact hl)
      refine ⟨L, e, ?_, ?_, g3⟩
      ·rw [← g1]
       refine Zc ?_
       dsimp only [Yi.F]
       rw [if_pos (by omega), Zp hpl, hi]; simp only [Option.bind_some]
       rw [c1]; simp only [Option.bind_some]
       rw [e1]; simp only [Option.bind_some]
       rw [e2]; simp only [Option.bind_some]
       rw [e3]; simp only [Option.bind_some]
       rw [f1]; simp only [Option.bind_some]
       rw [if_neg (by simp), Zl pre.length (by omega), List.length_append]; rfl
      ·rw [← g2]
       refine Zc ?_
       dsimp only [Y6.F]
       rw [if_pos (by omega), Zp hpl, hi]; simp only [Option.bind_some]
       rw [c2]; simp only [Option.bind_some]
       rw [e1]; simp only [Option.bind_some]
       rw [e2]; simp only [Option.bind_some]
       rw [e3]; simp only [Option.bind_some]
       rw [f2]; simp only [Option.bind_some]
       rw [if_neg (by simp), Zl pre.length (by omega), List.length_append]; rfl
   -- are all rows well?
   have scan : ∀ (j k : Nat), k + j = m.Methods.length → (∀ q (hq : q < k), ∃ rows, Yd.f m q = some (rows, 0)) → ∃ L e, runF (Yi.F m) (.l1 (o, 0) (k : Int)) = some (L, e) ∧ runF (Y6.F m) (.l1 (o, 0) (k : Int)) = some (L, e) ∧ L.length ≤ 40 := by
    intro j
    induction j with
    | zero =>
     intro k hk hq
     obtain ⟨L, e, g1, g2, g3⟩ := go (fun q hq' => hq q (by omega)) o [] (List.replicate o.length Zq.zero) rfl (by rw [List.length_replicate]; simpa using ho1)
     refine ⟨L, e, ?_, ?_, g3⟩
     ·rw [← g1]
      refine Zc ?_
      dsimp only [Yi.F]
      rw [if_neg (by omega), if_pos (by have : o.length = m.Methods.length := by simpa using ho1
                                        omega)]
      simp
     ·rw [← g2]
      refine Zc ?_
      dsimp only [Y6.F]
      rw [if_neg (by omega), if_pos (by have : o.length = m.Methods.length := by simpa using ho1
                                        omega)]
      simp
    | succ j ihj =>
     intro k hk hq
     have hkl : k < m.Methods.length := by omega
     obtain ⟨rows, e, g1, g2, -⟩ := Z0D hm S hkl
     by_cases he : e = 0
     ·subst he
      obtain ⟨L, e, i1, i2, i3⟩ := ihj (k + 1) (by omega) (fun q hq' => by
       by_cases hqk : q = k
       ·subst hqk; exact ⟨rows, g1⟩
       ·exact hq q (by omega))
      refine ⟨L, e, ?_, ?_, i3⟩
      ·rw [← i1]
       refine Zc ?_
       dsimp only [Yi.F]
       unfold V3.f
       rw [if_pos (by omega), g1]; simp only [Option.bind_some]
       rw [if_neg (by simp), Zl k (by omega)]
      ·rw [← i2]
       refine Zc ?_
       dsimp only [Y6.F]
       rw [if_pos (by omega), g2]; simp only [Option.bind_some]
       rw [if_neg (by simp), Zl k (by omega)]
     ·refine ⟨[], e, Zf ?_, Zf ?_, by simp⟩
      ·dsimp only [Yi.F]
       unfold V3.f
       rw [if_pos (by omega), g1]; simp only [Option.bind_some]
       rw [if_pos he]
      ·dsimp only [Y6.F]
       rw [if_pos (by omega), g2]; simp only [Option.bind_some]
       rw [if_pos he]
   exact scan m.Methods.length 0 (by omega) (fun q hq => by omega)
  ·refine ⟨[], e, Zf ?_, Zf ?_, by simp⟩
   ·dsimp only [Yi.F]; rw [p0]; simp only [Option.bind_some]; rw [if_pos he]
   ·dsimp only [Y6.F]; rw [r0]; simp only [Option.bind_some]; rw [if_pos he]
end XI
namespace Y7
open Zw
theorem Z18 {l : List Zn} (h : l.length < 4611686018427387904) : YZ.f l l = some true := by
 unfold YZ.f
 rw [Zc (t := .l1 ((0 : Nat) : Int)) (by dsimp only [YZ.F]; rw [if_neg (by simp)]; rfl)]
 refine (Vs (F := YZ.F l l) (n := l.length) (fun k => .l1 (k : Int)) (fun k hk => ?_)).trans (Zf ?_)
 ·dsimp only [YZ.F]
  rw [if_pos (by omega), Zp hk]
  simp only [Option.bind_some]
  rw [if_neg (by simp), Zl k (by omega)]
 ·dsimp only [YZ.F]
  rw [if_neg (by omega)]
theorem Z6y {l : List Z7} (h : l.length < 4611686018427387904) : Xk.f l l = some true := by
 unfold Xk.f
 rw [Zc (t := .l1 ((0 : Nat) : Int)) (by dsimp only [Xk.F]; rw [if_neg (by simp)]; rfl)]
 refine (Vs (F := Xk.F l l) (n := l.length) (fun k => .l1 (k : Int)) (fun k hk => ?_)).trans (Zf ?_)
 ·dsimp only [Xk.F]
  rw [if_pos (by omega), Zp hk]
  simp only [Option.bind_some]
  rw [if_neg (by simp), Zl k (by omega)]
 ·dsimp only [Xk.F]
  rw [if_neg (by omega)]
theorem Z19 {m : Z9} (S : Small m) : Yj.f m m = some true := by
 have h1 := S.G
 have h2 := S.P
 have h3 := S.M
 unfold Yj.f
 rw [Zc (t := .l1 ((0 : Nat) : Int)) (by
  dsimp only [Yj.F]
  rw [if_neg (by simp), Z18 (by omega)]
  simp only [Option.bind_some]
  rw [if_neg (by simp), Z18 (by omega)]
  simp only [Option.bind_some]
  rw [if_neg (by simp)]; rfl)]
 refine (Vs (F := Yj.F m m) (n := m.Methods.length) (fun k => .l1 (k : Int)) (fun k hk => ?_)).trans (Zf ?_)
 ·have hs := S.x _ (List.getElem_mem hk)
  dsimp only [Yj.F]
  rw [if_pos (by omega), Zp hk]
  simp only [Option.bind_some]
  unfold VQ.f
  rw [JU (by omega)]
  simp only [Option.bind_some]
  rw [if_pos (by simp), JU (by omega)]
  simp only [Option.bind_some]
  rw [if_neg (by simp), Z6y (by omega)]
  simp only [Option.bind_some]
  unfold Yj.j1
  rw [if_neg (by simp), Zl k (by omega)]
 ·dsimp only [Yj.F]
  rw [if_neg (by omega)]
end Y7
namespace XB
open Zw Y7 Xx XI
theorem Z8o {n : Int} {w : Nat} (hw : w < 8) : shrI .i64 n (8 * (w : Int)) = n / 256 ^ w := by
 unfold shrI
 have e : min (8 * (w : Int)).toNat IntKind.i64.bits = 8 * w := by have : IntKind.i64.bits = 64 := rfl; omega
 rw [e, Int.fdiv_eq_ediv_of_nonneg _ (Int.le_of_lt (Int.pow_pos (by omega))), Int.pow_mul]; rfl
theorem J6 {n : Int} {w : Nat} (hw : w < 8) (h0 : 0 ≤ n) (h1 : n < 256 ^ w) : (putC w n).2 = 0 ∧ (putC w n).1.length = w := by
 have hf : fB w n = true := by
  unfold fB
  rw [Z8o hw, Int.ediv_eq_zero_of_lt h0 h1]
  simp [h0]
 unfold putC
 rw [if_pos hf]; exact ⟨rfl, J5 n w⟩
theorem Z22 {w : Nat} {n : Int} (h1 : 1 ≤ w) (hw : w < 8) (h0 : 0 ≤ n) (hn : n < 256 ^ w) : ∃ r, Yx.f w n = some (r, 0) ∧ r.length = w := by
 have go : ∀ (d k : Nat) (l : List Int) (x : Int), k + d = w → l.length = k → 0 ≤ x → x < 256 ^ d → ∃ r, runF (Yx.F w n) (.l1 x l (k : Int)) = some (r, 0) ∧ r.length = w := by
  intro d
  induction d with
  | zero =>
   intro k l x hk hl hx0 hx
   have : x = 0 := by simp at hx; omega
   subst this
   refine ⟨l, Zf ?_, by omega⟩
   dsimp only [Yx.F]
   rw [if_neg (by omega), if_neg (by omega)]
  | succ d ih =>
   intro k l x hk hl hx0 hx
   have hx8 : x < 18446744073709551616 := by
    refine Int.lt_of_lt_of_le hx ?_
    have h7 : (256 : Nat) ^ (d + 1) ≤ 256 ^ 7 := Nat.pow_le_pow_right (by omega) (by omega)
    have h8 : ((256 ^ (d + 1) : Nat) : Int) ≤ ((256 ^ 7 : Nat) : Int) := by omega
    rw [Int.natCast_pow] at h8
    exact Int.le_trans h8 (by decide)
   have hdiv : Int.tdiv x 256 = x / 256 := Int.tdiv_eq_ediv_of_nonneg hx0
   have hq : x / 256 < 256 ^ d := Int.ediv_lt_of_lt_mul (by omega) (by rw [Int.pow_succ] at hx; exact hx)
   obtain ⟨r, e, hr⟩ := ih (k + 1) (l ++ [IntKind.u8.wrap (Int.tmod x 256)]) (x / 256) (by omega) (by simp [hl]) (by omega) hq
   refine ⟨r, (Zc ?_).trans e, hr⟩
   dsimp only [Yx.F]
   rw [if_pos (by omega), if_pos (by simp; omega), hdiv, Xr (x := x / 256) (by omega) (by omega), Zl k (by omega)]
 obtain ⟨r, e, hr⟩ := go w 0 [] n (by omega) rfl h0 hn
 refine ⟨r, (Zc ?_).trans e, hr⟩
 dsimp only [Yx.F]
 rw [if_neg (by simp; omega), if_neg (by omega)]; rfl
theorem Z7m (n : Int) : ∃ r, Zh.f n = some r ∧ r.length = 8 := by
 have j9 : ∀ a b c d e f g h i j, ∃ r, Zh.j9 a b c d e f g h i j = some r ∧ r.length = 8 := fun a b c d e f g h i j => by
  unfold Zh.j9; rw [if_pos (by simp)]; exact ⟨_, rfl, by simp⟩
 have j8 : ∀ a b c d e f g h i, ∃ r, Zh.j8 a b c d e f g h i = some r ∧ r.length = 8 := fun a b c d e f g h i => by
  unfold Zh.j8; rw [if_pos (by simp)]; split <;> exact j9 _ _ _ _ _ _ _ _ _ _
 have j7 : ∀ a b c d e f g h, ∃ r, Zh.j7 a b c d e f g h = some r ∧ r.length = 8 := fun a b c d e f g h => by
  unfold Zh.j7; rw [if_pos (by simp)]; split <;> exact j8 _ _ _ _ _ _ _ _ _
 have j6 : ∀ a b c d e f g, ∃ r, Zh.j6 a b c d e f g = some r ∧ r.length = 8 := fun a b c d e f g => by
  unfold Zh.j6; rw [if_pos (by simp)]; split <;> exact j7 _ _ _ _ _ _ _ _
 have j5 : ∀ a b c d e f, ∃ r, Zh.j5 a b c d e f = some r ∧ r.length = 8 := fun a b c d e f => by
  unfold Zh.j5; rw [if_pos (by simp)]; split <;> exact j6 _ _ _ _ _ _ _
 have j4 : ∀ a b c d e, ∃ r, Zh.j4 a b c d e = some r ∧ r.length = 8 := fun a b c d e => by
  unfold Zh.j4; rw [if_pos (by simp)]; split <;> exact j5 _ _ _ _ _ _
 have j3 : ∀ a b c d, ∃ r, Zh.j3 a b c d = some r ∧ r.length = 8 := fun a b c d => by
  unfold Zh.j3; rw [if_pos (by simp)]; split <;> exact j4 _ _ _ _ _
 have j2 : ∀ a b c, ∃ r, Zh.j2 a b c = some r ∧ r.length = 8 := fun a b c => by
  unfold Zh.j2; rw [if_pos (by simp)]; split <;> exact j3 _ _ _ _
 have j1 : ∀ a b, ∃ r, Zh.j1 a b = some r ∧ r.length = 8 := fun a b => by
  unfold Zh.j1; split <;> exact j2 _ _ _
 unfold Zh.f
 split <;> exact j1 _ _
theorem Z49 (v : Zn) : WS.f v = some (vMay v) := by
 obtain ⟨k, a, b⟩ := v
 unfold WS.f U3.f vMay
 by_cases h1 : k = 1
 ·subst h1
  by_cases h2 : b = 0 <;> simp [h2]
 ·by_cases h2 : k = 2
  ·subst h2
   simp only [show decide ((2 : Int) = 1) = false from rfl, Bool.false_and, Bool.false_or, show decide ((2 : Int) = 2) = true from rfl, Bool.true_and, if_neg Bool.false_ne_true, if_pos, Option.bind_some]
   congr 1
   rw [Bool.eq_iff_iff]; simp only [Bool.and_eq_true, decide_eq_true_eq, true_and]
   omega
  ·simp [h1, h2]
def vSz (v : Zn) : Nat := if v.Kind = 1 then 9 else 7
theorem Z9G {v : Zn} (h : vMay v = true) (hk : v.Kind ≠ 1) : (0 ≤ v.A + 1048576 ∧ v.A + 1048576 < 16777216) ∧ 0 ≤ v.B + 1048576 ∧ v.B + 1048576 < 16777216 := by
 unfold vMay at h
 simp [hk] at h
 omega
theorem Zat {v : Zn} (h : vMay v = true) : (vBytes v).2 = 0 ∧ (vBytes v).1.length = vSz v ∧ ∃ o, Vh.f v = some (o, 0) ∧ o.length = vSz v := by
 unfold vBytes vSz Vh.f
 rw [Z49, h]
 simp only [Option.bind_some]
 by_cases hk : v.Kind = 1
 ·obtain ⟨r, e, hr⟩ := Z7m v.A
  rw [if_neg (by simp), if_pos hk, if_pos hk, if_neg (by simp), if_pos hk, e]
  simp only [Option.bind_some]
  rw [if_pos (by simp [hr])]
  exact ⟨trivial, by simp [J5], _, rfl, by simp [hr]⟩
 ·obtain ⟨⟨a0, a1⟩, b0, b1⟩ := Z9G h hk
  obtain ⟨p1, p2⟩ := J6 (w := 3) (by omega) a0 a1
  obtain ⟨q1, q2⟩ := J6 (w := 3) (by omega) b0 b1
  obtain ⟨r, e, hr⟩ := Z22 (w := 3) (by omega) (by omega) a0 a1
  obtain ⟨s, f, hs⟩ := Z22 (w := 3) (by omega) (by omega) b0 b1
  rw [Xr (x := v.A + 1048576) (by omega) (by omega), Xr (x := v.B + 1048576) (by omega) (by omega)]
  rw [show ((3 : Nat) : Int) = 3 from rfl] at e f
  rw [if_neg (by simp), if_neg hk, if_neg (by simp [p1]), if_neg (by simp [q1]), if_neg hk, if_neg (by simp), if_neg hk, e]
  simp only [Option.bind_some]; rw [f]; simp only [Option.bind_some]
  rw [if_pos (by simp [hr]), if_pos (by simp [hr, hs])]
  exact ⟨trivial, by simp [p2, q2], _, rfl, by simp [hr, hs]⟩
end XB
namespace XB
open Zw Y7 Xx XI
theorem Z6z {l : List Zn} (hl : l.length ≤ 100) : Xh.f l = some (pMay l) := by
 have go : ∀ (c pre : List Zn), l = pre ++ c → pre.length ≤ 33 → (∀ v ∈ pre, vMay v = true) → runF (Xh.F l) (.l1 (pre.length : Int)) = some (pMay l) := by
  intro c
  induction c with
  | nil =>
   intro pre he h33 hp
   refine Zf ?_
   dsimp only [Xh.F]
   rw [if_neg (by rw [he]; simp)]
   have : (l.any fun v => !vMay v) = false := by rw [he, List.append_nil, List.any_eq_false]; intro v hv; simp [hp v hv]
   unfold pMay
   rw [this]; simp; omega
  | cons v c ih =>
   intro pre he h33 hp
   by_cases h : pre.length ≤ 32
   ·have hpl : pre.length < l.length := by rw [he]; simp
    have hv : l[pre.length] = v := by simp [he]
    cases hm : vMay v with
    | true =>
     rw [← ih (pre ++ [v]) (by rw [he]; simp) (by simp; omega) (fun x hx => by
      rcases List.mem_append.1 hx with h1 | h1
      ·exact hp x h1
      ·rw [List.mem_singleton] at h1; subst h1; exact hm)]
     refine Zc ?_
     dsimp only [Xh.F]
     rw [if_pos (by simp; omega), Zp hpl, hv]
     simp only [Option.bind_some]
     rw [Z49, hm]; simp only [Option.bind_some]
     rw [if_neg (by simp), Zl pre.length (by omega)]; simp
    | false =>
     refine Zf ?_
     dsimp only [Xh.F]
     rw [if_pos (by simp; omega), Zp hpl, hv]
     simp only [Option.bind_some]
     rw [Z49, hm]; simp only [Option.bind_some]
     have : (l.any fun v => !vMay v) = true := List.any_eq_true.2 ⟨v, by rw [he]; simp, by simp [hm]⟩
     unfold pMay
     rw [this]; simp
   ·refine Zf ?_
    dsimp only [Xh.F]
    have : ¬ l.length ≤ 32 := by rw [he]; simp; omega
    rw [if_neg (by simp; omega)]
    unfold pMay; simp [this]; omega
 unfold Xh.f
 rw [Zc (t := .l1 ((0 : Nat) : Int)) rfl]
 exact go l [] rfl (by simp) (by simp)
theorem Z2T {l : List Zn} (hl : l.length ≤ 100) : ∃ o, YE.f l = some (o, (pBytes l).2) ∧ o.length = (pBytes l).1.length ∧ o.length ≤ 1000 := by
 unfold YE.f pBytes
 cases hm : pMay l with
 | false =>
  refine ⟨[], Zf ?_, by simp, by simp⟩
  dsimp only [YE.F]
  rw [Z6z hl, hm]; rfl
 | true =>
  have hall : ∀ v ∈ l, vMay v = true := by
   intro v hv
   unfold pMay at hm
   rw [Bool.and_eq_true] at hm
   have := hm.2
   rw [Bool.not_eq_true', List.any_eq_false] at this
   have := this v hv
   simpa using this
  have go : ∀ (c pre : List Zn) (o o' : List Int), l = pre ++ c → o.length = o'.length → o.length ≤ 9 * pre.length + 1 → ∃ r, runF (YE.F l) (.l1 o (pre.length : Int)) = some (r, (pLoop c o').2) ∧ r.length = (pLoop c o').1.length ∧ r.length ≤ 1000 := by
   intro c
   induction c with
   | nil =>
    intro pre o o' he hoo ho
    have hpl : pre.length = l.length := by rw [he]; simp
    refine ⟨o, Zf ?_, by simpa [pLoop] using hoo, by omega⟩
    dsimp only [YE.F, pLoop]
    rw [if_neg (by rw [he]; simp)]
   | cons v c ih =>
    intro pre o o' he hoo ho
    have hpl : pre.length < l.length := by rw [he]; simp
    have hv : l[pre.length] = v := by simp [he]
    obtain ⟨z1, z2, z, z3, z4⟩ := Zat (hall v (by rw [he]; simp))
    have hsz : vSz v ≤ 9 := by unfold vSz; split <;> omega
    obtain ⟨r, e, h1, h2⟩ := ih (pre ++ [v]) (o ++ z) (o' ++ (vBytes v).1) (by rw [he]; simp) (by simp; omega) (by simp; omega)
    have hp : pLoop (v :: c) o' = pLoop c (o' ++ (vBytes v).1) := by rw [pLoop, if_neg (by simp [z1])]
    rw [hp]
    refine ⟨r, (Zc ?_).trans e, h1, h2⟩
    dsimp only [YE.F]
    rw [if_pos (by omega), Zp hpl, hv]
    simp only [Option.bind_some]
    rw [z3]; simp only [Option.bind_some]
    rw [if_pos (by omega), Zl pre.length (by omega)]; simp
  obtain ⟨r, e, h1, h2⟩ := go l [] [IntKind.u8.wrap (l.length : Int)] [IntKind.u8.wrap (l.length : Int)] rfl rfl (by simp)
  rw [if_neg (by simp)]
  refine ⟨r, (Zc ?_).trans e, h1, h2⟩
  dsimp only [YE.F]
  rw [Z6z hl, hm]; rfl
theorem Z9H (k : Int) : loc k = (decide (k = 1) || decide (k = 2) || decide (k = 3)) := by
 unfold loc vMay
 by_cases h1 : k = 1 <;> by_cases h2 : k = 2 <;> simp [h1, h2]
theorem Z4Z {l : List Int} (hl : l.length ≤ 100) : YN.f l = some (l.all loc) := by
 have go : ∀ (c pre : List Int), l = pre ++ c → (∀ v ∈ pre, loc v = true) → runF (YN.F l) (.l1 (pre.length : Int)) = some (l.all loc) := by
  intro c
  induction c with
  | nil =>
   intro pre he hp
   refine Zf ?_
   dsimp only [YN.F]
   have : l.all loc = true := by rw [he, List.append_nil, List.all_eq_true]; exact hp
   rw [if_neg (by rw [he]; simp), this]
  | cons v c ih =>
   intro pre he hp
   have hpl : pre.length < l.length := by rw [he]; simp
   have hv : l[pre.length] = v := by simp [he]
   have body : YN.F l (.l1 (pre.length : Int)) = if loc v = true then some (.inl (.l1 (IntKind.i64.wrap ((pre.length : Int) + 1)))) else some (.inr false) := by
    dsimp only [YN.F]
    rw [if_pos (by omega), Zp hpl, hv, Z9H]
    simp only [Option.bind_some]
    by_cases h1 : v = 1 <;> by_cases h2 : v = 2 <;> by_cases h3 : v = 3 <;> simp [h1, h2, h3]
   cases hm : loc v with
   | true =>
    rw [← ih (pre ++ [v]) (by rw [he]; simp) (fun x hx => by
     rcases List.mem_append.1 hx with h1 | h1
     ·exact hp x h1
     ·rw [List.mem_singleton] at h1; subst h1; exact hm)]
    refine Zc ?_
    rw [body, if_pos hm, Zl pre.length (by omega)]; simp
   | false =>
    refine Zf ?_
    have : l.all loc = false := by rw [List.all_eq_false]; exact ⟨v, by rw [he]; simp, by simp [hm]⟩
    rw [body, if_neg (by simp [hm]), this]
 unfold YN.f
 rw [Zc (t := .l1 ((0 : Nat) : Int)) rfl]
 exact go l [] rfl (by simp)
theorem Z6A {x : Zb} (h1 : x.Args.length ≤ 100) (h2 : x.Locals.length ≤ 100) : WT.f x = some (mMay x) := by
 unfold WT.f mMay
 rw [Z4Z h1, Z4Z h2, Xr (x := 16 - (x.Args.length : Int)) (by omega) (by omega)]
 simp only [Option.bind_some]
 have e : ((x.Args ++ x.Locals).any fun k => !loc k) = !(x.Args.all loc && x.Locals.all loc) := by
  rw [List.any_append, Bool.not_and]; simp [List.not_all_eq_any_not]
 rw [e]
 by_cases ha : x.Args.length > 4 ∨ x.Args.length + x.Locals.length > 16
 ·have c1 : (decide ((x.Args.length : Int) > 4) || decide ((x.Locals.length : Int) > 16 - (x.Args.length : Int))) = true := by simp; omega
  have c2 : x.Args.length > 4 ∨ x.Args.length + x.Locals.length > 16 ∨ (x.Result ≠ 1 ∧ x.Result ≠ 2) := by omega
  rw [if_pos c1, if_pos c2]; rfl
 ·have c1 : ¬ (decide ((x.Args.length : Int) > 4) || decide ((x.Locals.length : Int) > 16 - (x.Args.length : Int))) = true := by simp; omega
  rw [if_neg c1]
  by_cases hr : x.Result ≠ 1 ∧ x.Result ≠ 2
  ·have c2 : x.Args.length > 4 ∨ x.Args.length + x.Locals.length > 16 ∨ (x.Result ≠ 1 ∧ x.Result ≠ 2) := by omega
   have c3 : (decide (x.Result ≠ 1) && decide (x.Result ≠ 2)) = true := by simp [hr]
   rw [if_pos c2, c3]
   cases x.Args.all loc <;> cases x.Locals.all loc <;> rfl
  ·have c2 : ¬ (x.Args.length > 4 ∨ x.Args.length + x.Locals.length > 16 ∨ (x.Result ≠ 1 ∧ x.Result ≠ 2)) := by omega
   have c3 : (decide (x.Result ≠ 1) && decide (x.Result ≠ 2)) = false := by
    rw [Bool.and_eq_false_iff, decide_eq_false_iff_not, decide_eq_false_iff_not]; omega
   rw [if_neg c2, c3]
   cases x.Args.all loc <;> cases x.Locals.all loc <;> first | rfl | skip
   rw [if_neg (show ¬ (!(true && true)) = true by simp)]
   show some _ = some _
   congr 1
   rw [Bool.eq_iff_iff]; simp only [Bool.and_eq_true, decide_eq_true_eq]
   omega
end XB
namespace XB
open Zw Y7 Xx XI
theorem Z9I (n : Fin 256) : (match Wm.f (n.1 : Int) with | some b => decide (0 ≤ b.1 ∧ b.2 < 65536 ∧ ((n.1 : Int) < 33 ∨ b.2 < b.1)) | none => false) = true := by
 revert n; decide +kernel
theorem Za8 {i : Z7} (h0 : 0 ≤ i.Op) (h1 : i.Op < 256) (h : may i = true) : 0 ≤ i.A ∧ i.A < 65536 := by
 obtain ⟨n, hn⟩ := Int.eq_ofNat_of_zero_le h0
 have t := Z9I ⟨n, by omega⟩
 unfold may at h
 rw [hn] at h
 dsimp only at t
 cases hb : Wm.f (n : Int) with
 | none => rw [hb] at h; cases h
 | some b =>
  rw [hb] at h t
  simp only [Bool.and_eq_true, decide_eq_true_eq] at h t
  omega
theorem Z6B {i : Z7} (h : Y4 i) : Vu.f i.Op = some (wideB i.Op) := by
 obtain ⟨h0, h1⟩ := Z0T h
 obtain ⟨b, hb, hb'⟩ := Z16 h0 h1
 unfold Vu.f wideB
 rw [hb, hb']; rfl
theorem Z6C {l : List Z7} (hl : l.length ≤ 300) (hw : ∀ x ∈ l, Y4 x) : Xi.f l = some (cMay l) := by
 have go : ∀ (c pre : List Z7), l = pre ++ c → pre.length ≤ 201 → (∀ v ∈ pre, may v = true) → runF (Xi.F l) (.l1 (pre.length : Int)) = some (cMay l) := by
  intro c
  induction c with
  | nil =>
   intro pre he h33 hp
   refine Zf ?_
   dsimp only [Xi.F]
   rw [if_neg (by rw [he]; simp)]
   have : (l.any fun v => !may v) = false := by rw [he, List.append_nil, List.any_eq_false]; intro v hv; simp [hp v hv]
   unfold cMay
   rw [this]
   rw [Bool.not_false, Bool.and_true]
   congr 2
   rw [Bool.eq_iff_iff]; simp only [Bool.and_eq_true, decide_eq_true_eq]; omega
  | cons v c ih =>
   intro pre he h33 hp
   by_cases h : pre.length ≤ 200
   ·have hpl : pre.length < l.length := by rw [he]; simp
    have hv : l[pre.length] = v := by simp [he]
    have hvm : v ∈ l := by rw [he]; simp
    cases hm : may v with
    | true =>
     rw [← ih (pre ++ [v]) (by rw [he]; simp) (by simp; omega) (fun x hx => by
      rcases List.mem_append.1 hx with h1 | h1
      ·exact hp x h1
      ·rw [List.mem_singleton] at h1; subst h1; exact hm)]
     refine Zc ?_
     dsimp only [Xi.F]
     rw [if_pos (by simp; omega), Zp hpl, hv]
     simp only [Option.bind_some]
     rw [Z0X (hw v hvm), hm]; simp only [Option.bind_some]
     rw [if_neg (by simp), Zl pre.length (by omega)]; simp
    | false =>
     refine Zf ?_
     dsimp only [Xi.F]
     rw [if_pos (by simp; omega), Zp hpl, hv]
     simp only [Option.bind_some]
     rw [Z0X (hw v hvm), hm]; simp only [Option.bind_some]
     have : (l.any fun v => !may v) = true := List.any_eq_true.2 ⟨v, hvm, by simp [hm]⟩
     unfold cMay
     rw [this]; simp
   ·refine Zf ?_
    dsimp only [Xi.F]
    have : ¬ l.length ≤ 200 := by rw [he]; simp; omega
    rw [if_neg (by simp; omega)]
    unfold cMay
    have e : decide ((l.length : Int) ≤ 200) = false := by rw [decide_eq_false_iff_not]; omega
    simp [this, e]
 unfold Xi.f
 rw [Zc (t := .l1 ((0 : Nat) : Int)) rfl]
 exact go l [] rfl (by simp) (by simp)
theorem Z6D {l : List Z7} (hl : l.length ≤ 300) (hw : ∀ x ∈ l, Y4 x) : ∃ o, Ya.f l = some (o, (cBytes l).2) ∧ o.length = (cBytes l).1.length ∧ o.length ≤ 1000 := by
 unfold Ya.f cBytes
 cases hm : cMay l with
 | false =>
  refine ⟨[], Zf ?_, by simp, by simp⟩
  dsimp only [Ya.F]
  rw [Z6C hl hw, hm]; rfl
 | true =>
  have hall : ∀ v ∈ l, may v = true := by
   intro v hv
   unfold cMay at hm
   rw [Bool.and_eq_true] at hm
   have := hm.2
   rw [Bool.not_eq_true', List.any_eq_false] at this
   have := this v hv
   simpa using this
  have go : ∀ (c pre : List Z7) (o o' : List Int), l = pre ++ c → o.length = o'.length → o.length ≤ 3 * pre.length + 1 → ∃ r, runF (Ya.F l) (.l1 o (pre.length : Int)) = some (r, (cLoop c o').2) ∧ r.length = (cLoop c o').1.length ∧ r.length ≤ 1000 := by
   intro c
   induction c with
   | nil =>
    intro pre o o' he hoo ho
    have hpl : pre.length = l.length := by rw [he]; simp
    refine ⟨o, Zf ?_, by simpa [cLoop] using hoo, by omega⟩
    dsimp only [Ya.F, cLoop]
    rw [if_neg (by rw [he]; simp)]
   | cons v c ih =>
    intro pre o o' he hoo ho
    have hpl : pre.length < l.length := by rw [he]; simp
    have hv : l[pre.length] = v := by simp [he]
    have hvm : v ∈ l := by rw [he]; simp
    obtain ⟨w0, w1⟩ := Z0T (hw v hvm)
    obtain ⟨a0, a1⟩ := Za8 w0 w1 (hall v hvm)
    obtain ⟨p1, p2⟩ := J6 (w := 2) (by omega) a0 a1
    have nx : ((pre ++ [v]).length : Int) = (pre.length : Int) + 1 := by simp
    cases hwd : wideB v.Op with
    | true =>
     obtain ⟨r, e, h1, h2⟩ := ih (pre ++ [v]) ((o ++ [v.Op]) ++ [IntKind.u8.wrap (Int.tmod v.A 256), IntKind.u8.wrap (IntKind.i64.wrap (Int.tdiv v.A 256))]) ((o' ++ [v.Op]) ++ (putC 2 v.A).1) (by rw [he]; simp) (by simp; omega) (by simp; omega)
     have hp : cLoop (v :: c) o' = cLoop c ((o' ++ [v.Op]) ++ (putC 2 v.A).1) := by rw [cLoop, if_pos hwd, if_neg (by simp [p1])]
     rw [hp]
     refine ⟨r, (Zc ?_).trans e, h1, h2⟩
     dsimp only [Ya.F]
     rw [if_pos (by omega), Zp hpl, hv]
     simp only [Option.bind_some]
     rw [if_pos (by simp; omega), Z6B (hw v hvm), hwd]
     simp only [Option.bind_some]
     rw [if_pos trivial, if_pos (by simp; omega)]
     unfold Ya.j1
     rw [Zl pre.length (by omega), nx]; rfl
    | false =>
     obtain ⟨r, e, h1, h2⟩ := ih (pre ++ [v]) (o ++ [v.Op]) (o' ++ [v.Op]) (by rw [he]; simp) (by simp; omega) (by simp; omega)
     have hp : cLoop (v :: c) o' = cLoop c (o' ++ [v.Op]) := by rw [cLoop, if_neg (by simp [hwd])]
     rw [hp]
     refine ⟨r, (Zc ?_).trans e, h1, h2⟩
     dsimp only [Ya.F]
     rw [if_pos (by omega), Zp hpl, hv]
     simp only [Option.bind_some]
     rw [if_pos (by simp; omega), Z6B (hw v hvm), hwd]
     simp only [Option.bind_some]
     rw [if_neg (by simp)]
     unfold Ya.j1
     rw [Zl pre.length (by omega), nx]; rfl
  obtain ⟨r, e, h1, h2⟩ := go l [] [IntKind.u8.wrap (l.length : Int)] [IntKind.u8.wrap (l.length : Int)] rfl rfl (by simp)
  rw [if_neg (by simp)]
  refine ⟨r, (Zc ?_).trans e, h1, h2⟩
  dsimp only [Ya.F]
  rw [Z6C hl hw, hm]; rfl
end XB
namespace XB
open Zw Y7 Xx XI
theorem Z6E {x : Zb} (h1 : x.Args.length ≤ 100) (h2 : x.Locals.length ≤ 100) : ∃ o, Xt.f x = some (o, (mBytes x).2) ∧ o.length = (mBytes x).1.length ∧ o.length ≤ 1000 := by
 unfold Xt.f mBytes
 rw [Z6A h1 h2]
 simp only [Option.bind_some]
 cases hm : mMay x with
 | false => exact ⟨[], rfl, by simp, by simp⟩
 | true =>
  have hb : (0 ≤ x.Fuel ∧ x.Fuel ≤ 1048576) ∧ (0 ≤ x.Stack ∧ x.Stack ≤ 256) ∧ 0 ≤ x.Heap ∧ x.Heap ≤ 1024 := by
   unfold mMay at hm
   split at hm
   ·cases hm
   ·split at hm
    ·cases hm
    ·simpa using hm
  obtain ⟨⟨f0, f1⟩, ⟨s0, s1⟩, e0, e1⟩ := hb
  have p3 : (256 : Int) ^ 3 = 16777216 := rfl
  have p2 : (256 : Int) ^ 2 = 65536 := rfl
  obtain ⟨a1, a2⟩ := J6 (w := 3) (by omega) f0 (by omega)
  obtain ⟨b1, b2⟩ := J6 (w := 2) (by omega) s0 (by omega)
  obtain ⟨c1, c2⟩ := J6 (w := 2) (by omega) e0 (by omega)
  obtain ⟨r1, g1, q1⟩ := Z22 (w := 3) (by omega) (by omega) f0 (by omega)
  obtain ⟨r2, g2, q2⟩ := Z22 (w := 2) (by omega) (by omega) s0 (by omega)
  obtain ⟨r3, g3, q3⟩ := Z22 (w := 2) (by omega) (by omega) e0 (by omega)
  rw [show ((3 : Nat) : Int) = 3 from rfl] at g1
  rw [show ((2 : Nat) : Int) = 2 from rfl] at g2 g3
  have tail : ∀ o : List Int, o.length ≤ 500 → ∃ z, Xt.j1 x o = some (z, 0) ∧ z.length = o.length + 7 := by
   intro o ho
   unfold Xt.j1
   rw [g1]; simp only [Option.bind_some]
   rw [g2]; simp only [Option.bind_some]
   rw [g3]; simp only [Option.bind_some]
   rw [if_pos (by omega), if_pos (by simp; omega), if_pos (by simp; omega)]
   exact ⟨_, rfl, by simp; omega⟩
  have hp : mTail x (mHead x) = (((mHead x ++ (putC 3 x.Fuel).1) ++ (putC 2 x.Stack).1) ++ (putC 2 x.Heap).1, 0) := by
   unfold mTail; rw [if_neg (by simp [a1]), if_neg (by simp [b1]), if_neg (by simp [c1])]
  rw [if_neg (show ¬ (!true) = true by simp), if_neg (show ¬ true = false by simp), hp]
  have hl : (mHead x).length = x.Args.length + x.Locals.length + 4 := by unfold mHead; simp; omega
  rw [if_pos (by simp; omega), if_pos (by simp; omega), if_pos (by simp; omega), if_pos (by simp; omega)]
  have fin : ∀ o : List Int, o.length = (mHead x).length → ∃ o', Xt.j1 x o = some (o', 0) ∧ o'.length = ((((mHead x ++ (putC 3 x.Fuel).1) ++ (putC 2 x.Stack).1) ++ (putC 2 x.Heap).1)).length ∧ o'.length ≤ 1000 := by
   intro o ho
   obtain ⟨z, e, hz⟩ := tail o (by omega)
   exact ⟨z, e, by simp [a2, b2, c2]; omega, by omega⟩
  split
  ·rw [if_pos (by simp; omega)]; exact fin _ (by rw [hl]; simp; omega)
  ·rw [if_pos (by simp; omega)]; exact fin _ (by rw [hl]; simp; omega)
theorem Z0Z {m : Z9} (hm : YM m) (S : Small m) : WV.f m = some (mayC m) := by
 have hG := S.G
 have hP := S.P
 have hM := S.M
 unfold WV.f mayC bytesC wholeC
 by_cases hc : m.Zj.length > 4 ∨ m.Methods.length > 16 ∨ m.Zd < -1 ∨ m.Zd ≥ m.Methods.length
 ·rw [if_pos hc]
  have : ZH.f m = some ([], 80) := Zf (by
   dsimp only [ZH.F]
   rw [if_pos (by simp; omega)])
  rw [this]; rfl
 ·rw [if_neg hc]
  obtain ⟨g, g1, g2, g3⟩ := Z2T (l := m.Zj) (by omega)
  obtain ⟨p, p1, p2, p3⟩ := Z2T (l := m.Pool) (by omega)
  by_cases e1 : (pBytes m.Zj).2 ≠ 0
  ·rw [if_pos e1]
   have : ZH.f m = some ([], (pBytes m.Zj).2) := Zf (by
    dsimp only [ZH.F]
    rw [if_neg (by simp; omega), g1]; simp only [Option.bind_some]
    rw [if_pos e1])
   rw [this, if_pos e1]; rfl
  ·rw [if_neg e1]
   by_cases e2 : (pBytes m.Pool).2 ≠ 0
   ·rw [if_pos e2]
    have : ZH.f m = some ([], (pBytes m.Pool).2) := Zf (by
     dsimp only [ZH.F]
     rw [if_neg (by simp; omega), g1]; simp only [Option.bind_some]
     rw [if_neg e1, p1]; simp only [Option.bind_some]
     rw [if_pos e2])
    rw [this, if_pos e2]; rfl
   ·rw [if_neg e2]
    have go : ∀ (c pre : List Zb) (o o' : List Int), m.Methods = pre ++ c → o.length = o'.length → o.length ≤ 2001 + 2000 * pre.length →
        ∃ r, runF (ZH.F m) (.l1 o (pre.length : Int)) = some (r, if (wLoop m c o').2 ≠ 0 then (wLoop m c o').2 else if ((wLoop m c o').1.length : Int) > 2000 then 3 else 0) := by
     intro c
     induction c with
     | nil =>
      intro pre o o' he hoo ho
      have hpl : pre.length = m.Methods.length := by rw [he]; simp
      have fin : ∀ z : Int, ∃ r, (ZH.j1 m (o ++ [z])) = some (.inr (r, if (wLoop m [] o').2 ≠ 0 then (wLoop m [] o').2 else if ((wLoop m [] o').1.length : Int) > 2000 then 3 else 0)) := by
       intro z
       unfold ZH.j1 wLoop
       rw [if_neg (show ¬ (o' ++ [wLast m], (0 : Int)).2 ≠ 0 by simp)]
       by_cases hh : ((o ++ [z]).length : Int) > 2000
       ·rw [if_pos hh, if_pos (by simp at hh ⊢; omega)]; exact ⟨_, rfl⟩
       ·rw [if_neg hh, if_neg (by simp at hh ⊢; omega)]; exact ⟨_, rfl⟩
      have body : ∃ z, ZH.F m (.l1 o (pre.length : Int)) = ZH.j1 m (o ++ [z]) := by
       dsimp only [ZH.F]
       rw [if_neg (by omega)]
       split
       ·rw [if_pos (by simp; omega)]; exact ⟨_, rfl⟩
       ·rw [if_pos (by simp; omega)]; exact ⟨_, rfl⟩
      obtain ⟨z, hz⟩ := body
      obtain ⟨r, hr⟩ := fin z
      exact ⟨r, Zf (by rw [hz, hr])⟩
     | cons x c ih =>
      intro pre o o' he hoo ho
      have hpl : pre.length < m.Methods.length := by rw [he]; simp
      have hv : m.Methods[pre.length] = x := by simp [he]
      have hx : x ∈ m.Methods := by rw [he]; simp
      have hs := S.x x hx
      have hwx : ∀ i ∈ x.Code, Y4 i := ((hm.2.2.1.2 x hx).2.2.2.2.2.2.2).2
      obtain ⟨h, h1, h2, h3⟩ := Z6E (x := x) (by omega) (by omega)
      obtain ⟨d, d1, d2, d3⟩ := Z6D (l := x.Code) (by omega) hwx
      by_cases f1 : (mBytes x).2 ≠ 0
      ·refine ⟨[], Zf ?_⟩
       have hw : wLoop m (x :: c) o' = ([], (mBytes x).2) := by rw [wLoop, if_pos f1]
       dsimp only [ZH.F]
       rw [if_pos (by omega), Zp hpl, hv]; simp only [Option.bind_some]
       rw [h1]; simp only [Option.bind_some]
       rw [if_pos f1, hw, if_pos f1]
      ·by_cases f2 : (cBytes x.Code).2 ≠ 0
       ·refine ⟨[], Zf ?_⟩
        have hw : wLoop m (x :: c) o' = ([], (cBytes x.Code).2) := by rw [wLoop, if_neg f1, if_pos f2]
        dsimp only [ZH.F]
        rw [if_pos (by omega), Zp hpl, hv]; simp only [Option.bind_some]
        rw [h1]; simp only [Option.bind_some]
        rw [if_neg f1, d1]; simp only [Option.bind_some]
        rw [if_pos f2, hw, if_pos f2]
       ·have hw : wLoop m (x :: c) o' = wLoop m c ((o' ++ (mBytes x).1) ++ (cBytes x.Code).1) := by rw [wLoop, if_neg f1, if_neg f2]
        obtain ⟨r, e⟩ := ih (pre ++ [x]) ((o ++ h) ++ d) ((o' ++ (mBytes x).1) ++ (cBytes x.Code).1) (by rw [he]; simp) (by simp; omega) (by simp; omega)
        rw [hw]
        refine ⟨r, (Zc ?_).trans e⟩
        dsimp only [ZH.F]
        rw [if_pos (by omega), Zp hpl, hv]; simp only [Option.bind_some]
        rw [h1]; simp only [Option.bind_some]
        rw [if_neg f1, d1]; simp only [Option.bind_some]
        rw [if_neg f2, if_pos (by omega), if_pos (by simp; omega), Zl pre.length (by omega)]; simp
    obtain ⟨r, e⟩ := go m.Methods [] ((g ++ p) ++ [IntKind.u8.wrap (m.Methods.length : Int)]) (((pBytes m.Zj).1 ++ (pBytes m.Pool).1) ++ [IntKind.u8.wrap (m.Methods.length : Int)]) rfl (by simp; omega) (by simp; omega)
    have : ZH.f m = some (r, _) := (Zc (by
     dsimp only [ZH.F]
     rw [if_neg (by simp; omega), g1]; simp only [Option.bind_some]
     rw [if_neg e1, p1]; simp only [Option.bind_some]
     rw [if_neg e2, if_pos (by omega), if_pos (by simp; omega)]; rfl)).trans e
    rw [this]; simp only [Option.bind_some]
    congr 1
    split
    ·rfl
    ·split <;> rfl
end XB
namespace XB
open Zw Y7 Xx XI
theorem Za9 {x : Zb} (h1 : x.Args.length ≤ 100) (h2 : x.Locals.length ≤ 100) : Yk.f x = some (migB x) := by
 have go : ∀ (c pre : List Int), x.Args = pre ++ c → (∀ a ∈ pre, a ≠ 3) → runF (Yk.F x) (.l1 (pre.length : Int)) = some (migB x) := by
  intro c
  induction c with
  | nil =>
   intro pre he hp
   refine Zf ?_
   dsimp only [Yk.F]
   rw [if_neg (by rw [he]; simp), Z6A h1 h2]
   have : (x.Args.any fun a => decide (3 = a)) = false := by
    rw [he, List.append_nil, List.any_eq_false]; intro a ha; have := hp a ha; simp; omega
   unfold migB; rw [this]; simp
  | cons v c ih =>
   intro pre he hp
   have hpl : pre.length < x.Args.length := by rw [he]; simp
   have hv : x.Args[pre.length] = v := by simp [he]
   by_cases h3 : v = 3
   ·refine Zf ?_
    dsimp only [Yk.F]
    rw [if_pos (by omega), Zp hpl, hv]; simp only [Option.bind_some]
    have : (x.Args.any fun a => decide (3 = a)) = true := List.any_eq_true.2 ⟨v, by rw [he]; simp, by simp [h3]⟩
    rw [if_pos h3]; unfold migB; rw [this]; simp
   ·rw [← ih (pre ++ [v]) (by rw [he]; simp) (fun a ha => by
     rcases List.mem_append.1 ha with h | h
     ·exact hp a h
     ·rw [List.mem_singleton] at h; subst h; exact h3)]
    refine Zc ?_
    dsimp only [Yk.F]
    rw [if_pos (by omega), Zp hpl, hv]; simp only [Option.bind_some]
    rw [if_neg h3, Zl pre.length (by omega)]; simp
 unfold Yk.f
 rw [Zc (t := .l1 ((0 : Nat) : Int)) rfl]
 exact go _ [] rfl (by simp)
theorem Z7n {m : Z9} {k : Nat} (hk : k < m.Methods.length) (hc : m.Methods[k].Code.length ≤ 300) : YO.f m k = some (UZ m.Methods[k], 0) := by
 have hx := Zp hk
 generalize m.Methods[k] = x at hx hc
 have go : ∀ (c pre : List Z7), x.Code = pre ++ c → runF (YO.F m k) (.l1 (pre.length : Int)) = some (c.any (fun i => decide (i.Op = 5)), 0) := by
  intro c
  induction c with
  | nil =>
   intro pre he
   refine Zf ?_
   dsimp only [YO.F]
   rw [hx]; simp only [Option.bind_some]
   rw [if_neg (by rw [he]; simp)]; rfl
  | cons i c ih =>
   intro pre he
   have hpl : pre.length < x.Code.length := by rw [he]; simp
   have hi : x.Code[pre.length] = i := by simp [he]
   by_cases h5 : i.Op = 5
   ·refine Zf ?_
    dsimp only [YO.F]
    rw [hx]; simp only [Option.bind_some]
    rw [if_pos (by omega), Zp hpl, hi]; simp only [Option.bind_some]
    rw [if_pos h5]; simp [h5]
   ·rw [List.any_cons, show decide (i.Op = 5) = false by simpa using h5, Bool.false_or, ← ih (pre ++ [i]) (by rw [he]; simp)]
    refine Zc ?_
    dsimp only [YO.F]
    rw [hx]; simp only [Option.bind_some]
    rw [if_pos (by omega), Zp hpl, hi]; simp only [Option.bind_some]
    rw [if_neg h5, Zl pre.length (by omega)]; simp
 unfold YO.f UZ
 rw [Zc (t := .l1 ((0 : Nat) : Int)) (by
  dsimp only [YO.F]
  rw [if_neg (by simp; omega)]; rfl)]
 exact go _ [] rfl
theorem Z8p {m : Z9} (S : Small m) : Zz.f m = some (pureC m) := by
 have hM := S.M
 have wh : ∀ k (hk : k < m.Methods.length), Zt.f m k = some (whomC m.Methods.length m.Methods[k].Code) := fun k hk => Z1r hk S.M (S.x _ (List.getElem_mem hk)).2.2
 have first : ∀ (c pre : List Zb), m.Methods = pre ++ c → runF (Zz.F m) (.l1 (pre.length : Int)) = if (c.any fun x => (nm x.Code).any (badN m.Methods.length)) = true then some 2 else runF (Zz.F m) (.l2 ((0 : Nat) : Int)) := by
  intro c
  induction c with
  | nil =>
   intro pre he
   rw [if_neg (by simp)]
   refine Zc ?_
   dsimp only [Zz.F]
   rw [if_neg (by rw [he]; simp)]; rfl
  | cons x c ih =>
   intro pre he
   have hpl : pre.length < m.Methods.length := by rw [he]; simp
   have hv : m.Methods[pre.length] = x := by simp [he]
   have hw := wh pre.length hpl
   rw [hv] at hw
   unfold whomC at hw
   by_cases hb : (nm x.Code).any (badN m.Methods.length) = true
   ·rw [if_pos hb] at hw
    rw [if_pos (by rw [List.any_cons, hb]; rfl)]
    refine Zf ?_
    dsimp only [Zz.F]
    rw [if_pos (by omega), hw]; simp only [Option.bind_some]
    rw [if_pos (by simp)]
   ·rw [if_neg hb] at hw
    have hb' : (nm x.Code).any (badN m.Methods.length) = false := by simpa using hb
    rw [List.any_cons, hb', Bool.false_or, ← ih (pre ++ [x]) (by rw [he]; simp)]
    refine Zc ?_
    dsimp only [Zz.F]
    rw [if_pos (by omega), hw]; simp only [Option.bind_some]
    rw [if_neg (by simp), Zl pre.length (by omega)]; simp
 unfold Zz.f pureC
 rw [Zc (t := .l1 ((0 : Nat) : Int)) rfl]
 refine (first m.Methods [] rfl).trans ?_
 by_cases hb : anyBad m = true
 ·rw [if_pos hb]; unfold anyBad at hb; rw [if_pos hb]
 rw [if_neg hb]
 have hb' := hb
 unfold anyBad at hb'; rw [if_neg hb']
 have good : ∀ k (hk : k < m.Methods.length), Zt.f m k = some ((whoms m).getD k [], 0) := by
  intro k hk
  rw [wh k hk, TB hk]
  unfold whomC
  rw [if_neg]
  intro h
  exact hb' (List.any_eq_true.2 ⟨_, List.getElem_mem hk, h⟩)
 have inner : ∀ (k : Nat) (L : List Int), (∀ a ∈ L, 0 ≤ a ∧ a < m.Methods.length) → L.length ≤ 100 → k < m.Methods.length → ∀ (c pre : List Int) (b : Bool), L = pre ++ c →
     runF (Zz.F m) (.l3 (k : Int) (L, 0) b (pre.length : Int)) = if (b || loudB m c) = true then some 130 else runF (Zz.F m) (.l2 ((k + 1 : Nat) : Int)) := by
  intro k L hL hlen hk c
  induction c with
  | nil =>
   intro pre b he
   cases b with
   | true =>
    rw [if_pos (by simp)]
    refine Zf ?_
    dsimp only [Zz.F]
    rw [if_neg (by rw [he]; simp), if_pos rfl]
   | false =>
    rw [if_neg (by simp [loudB])]
    refine Zc ?_
    dsimp only [Zz.F]
    rw [if_neg (by rw [he]; simp), if_neg (by simp)]
    unfold Zz.j1
    rw [Zl k (by omega)]
  | cons a c ih =>
   intro pre b he
   have hpl : pre.length < L.length := by rw [he]; simp
   have ha : L[pre.length] = a := by simp [he]
   have hal := hL a (by rw [he]; simp)
   have step : runF (Zz.F m) (.l3 (k : Int) (L, 0) b (pre.length : Int)) = runF (Zz.F m) (.l3 (k : Int) (L, 0) (b || !(methM m a.toNat).Reads) ((pre ++ [a]).length : Int)) := by
    refine Zc ?_
    dsimp only [Zz.F]
    rw [if_pos (by omega)]
    unfold Zz.j2
    cases b with
    | true => rw [if_pos rfl, Zl pre.length (by omega)]; simp
    | false =>
     rw [if_neg (by simp), Zp hpl, ha]; simp only [Option.bind_some]
     rw [V7 (xs := m.Methods) hal.1 (by omega)]; simp only [Option.bind_some]
     rw [TD (by omega), Zl pre.length (by omega)]; simp
   rw [step, ih (pre ++ [a]) _ (by rw [he]; simp)]
   unfold loudB
   rw [List.any_cons, Bool.or_assoc]
 have outer : ∀ (j k : Nat), k + j = m.Methods.length → runF (Zz.F m) (.l2 (k : Int)) = some (if ((List.range' k j).any (badR m)) = true then 130 else 0) := by
  intro j
  induction j with
  | zero =>
   intro k hk
   refine Zf ?_
   dsimp only [Zz.F]
   rw [if_neg (by omega)]; simp
  | succ j ih =>
   intro k hk
   have hkl : k < m.Methods.length := by omega
   have hs := S.x _ (List.getElem_mem hkl)
   have hwl := good k hkl
   have hin : ∀ a ∈ (whoms m).getD k [], 0 ≤ a ∧ a < m.Methods.length := by
    intro a ha
    rw [TB hkl] at ha
    unfold whomL at ha
    obtain ⟨i, hi, rfl⟩ := List.mem_map.1 (List.mem_filter.1 ha).1
    have := List.mem_range.1 hi
    omega
   have hlen : ((whoms m).getD k []).length ≤ 100 := by
    rw [TB hkl]
    have := Jp m.Methods.length m.Methods[k].Code
    omega
   rw [List.range'_succ, List.any_cons]
   have hbr : badR m k = (m.Methods[k].Reads && (UZ m.Methods[k] || loudB m ((whoms m).getD k []))) := by unfold badR; rw [TD hkl]
   rw [hbr]
   cases hr : m.Methods[k].Reads with
   | false =>
    rw [Bool.false_and, Bool.false_or, ← ih (k + 1) (by omega)]
    refine Zc ?_
    dsimp only [Zz.F]
    rw [if_pos (by omega), Zp hkl]; simp only [Option.bind_some]
    rw [hr, if_pos (by simp)]
    unfold Zz.j1
    rw [Zl k (by omega)]
   | true =>
    rw [Zc (t := .l3 (k : Int) ((whoms m).getD k [], 0) (UZ m.Methods[k]) ((([] : List Int).length : Nat) : Int)) (by
     dsimp only [Zz.F]
     rw [if_pos (by omega), Zp hkl]; simp only [Option.bind_some]
     rw [hr, if_neg (by simp), Z7n hkl hs.2.2]; simp only [Option.bind_some]
     rw [hwl]; rfl), inner k _ hin hlen hkl _ [] _ rfl, ih (k + 1) (by omega)]
    rw [Bool.true_and]
    show (if (UZ m.Methods[k] || loudB m ((whoms m).getD k [])) = true then some 130 else some _) = _
    generalize (UZ m.Methods[k] || loudB m ((whoms m).getD k [])) = q
    cases q with
    | true => rfl
    | false => rw [Bool.false_or]; rfl
 rw [outer m.Methods.length 0 (by omega), ← List.range_eq_range']
end XB
namespace XB
open Zw Y7 Xx XI
theorem Z6F {m : Z9} {k : Nat} (hm : YM m) (S : Small m) (hk : k < m.Methods.length) : ∃ R, Zo.f m k = some (R, (rowsM m k).2) := by
 obtain ⟨rows, e, h1, h2, -⟩ := Z0D hm S hk
 have h3 := (Z2R hm S hk).1
 rw [h1] at h3
 have := congrArg Prod.snd (Option.some.inj h3)
 exact ⟨_, by rw [h2, ← this]⟩
theorem Z8q {m : Z9} (hm : YM m) (S : Small m) : Y6.f m = some (costsC m) := by
 obtain ⟨L, e, h1, h2, -⟩ := Z5u hm S
 rw [JR hm S] at h1
 rw [h2, ← h1]
theorem Z4a {m : Z9} (S : Small m) (h : m.Zd < m.Methods.length) : (if m.Zd ≥ 0 then ((elt m.Methods m.Zd).bind fun x12 => (Yk.f x12).bind fun t19 => some (!t19)) else (some false)) = some (decide (movesC m ≠ 0)) := by
 unfold movesC
 by_cases h0 : m.Zd ≥ 0
 ·have hk : m.Zd.toNat < m.Methods.length := by omega
  have hs := S.x _ (List.getElem_mem hk)
  rw [if_pos h0, V7 (xs := m.Methods) (by omega) hk]; simp only [Option.bind_some]
  rw [Za9 hs.1 hs.2.1]; simp only [Option.bind_some]
  rw [TD hk]
  cases migB m.Methods[m.Zd.toNat] <;> simp [h0]
 ·rw [if_neg h0]; simp [h0]
noncomputable def tailC (m : Z9) : List Zq × Int :=
 if callsC m ≠ 0 then ([], callsC m) else if (costsC m).2 ≠ 0 then ([], (costsC m).2) else if pureC m ≠ 0 then ([], pureC m) else ((costsC m).1, 0)
theorem Z7o {m : Z9} (hm : YM m) (S : Small m) : YA.f m = some (TN m) := by
 have hM := S.M
 have hE := (Z1s S).2
 have ro := Z2O (m := m) ⟨S.M, fun x hx => (S.x x hx).2.2⟩
 have scan : ∀ (j k : Nat), k + j = m.Methods.length → runF (YA.F m) (.l1 (k : Int)) = some (match (List.range' k j).find? (fun k => decide ((rowsM m k).2 ≠ 0)) with
     | some k => ([], (rowsM m k).2)
     | none => tailC m) := by
  intro j
  induction j with
  | zero =>
   intro k hk
   refine Zf ?_
   dsimp only [YA.F]
   rw [if_neg (by omega), ro]; simp only [Option.bind_some]
   have hc : (if anyBad m = true then (([] : List Int), (2 : Int)) else ordN (whoms m) m.Methods.length []).2 = callsC m := by unfold callsC; split <;> rfl
   rw [hc]
   simp only [List.range'_zero, List.find?_nil]
   unfold tailC
   by_cases h1 : callsC m ≠ 0
   ·rw [if_pos h1, if_pos h1]
   rw [if_neg h1, if_neg h1, Z8q hm S]; simp only [Option.bind_some]
   by_cases h2 : (costsC m).2 ≠ 0
   ·rw [if_pos h2, if_pos h2]
   rw [if_neg h2, if_neg h2, Z8p S]; simp only [Option.bind_some]
   by_cases h3 : pureC m ≠ 0
   ·rw [if_pos h3, if_pos h3]
   ·rw [if_neg h3, if_neg h3]
  | succ j ih =>
   intro k hk
   obtain ⟨R, hr⟩ := Z6F hm S (show k < m.Methods.length by omega)
   rw [List.range'_succ, List.find?_cons]
   by_cases he : (rowsM m k).2 = 0
   ·rw [show decide ((rowsM m k).2 ≠ 0) = false by simpa using he]
    dsimp only
    rw [← ih (k + 1) (by omega)]
    refine Zc ?_
    dsimp only [YA.F]
    rw [if_pos (by omega), hr]; simp only [Option.bind_some]
    rw [if_neg (by simpa using he), Zl k (by omega)]
   ·rw [show decide ((rowsM m k).2 ≠ 0) = true by simpa using he]
    refine Zf ?_
    dsimp only [YA.F]
    rw [if_pos (by omega), hr]; simp only [Option.bind_some]
    rw [if_pos he]
 unfold YA.f TN T9
 by_cases h1 : mayC m ≠ 0
 ·rw [if_pos h1]
  rw [if_pos h1]
  refine Zf ?_
  dsimp only [YA.F]
  rw [Z0Z hm S]; simp only [Option.bind_some]; rw [if_pos h1]
 rw [if_neg h1]
 have hmig := Z4a S (hE (Classical.not_not.1 h1)).2
 by_cases h2 : movesC m ≠ 0
 ·rw [if_pos h2]
  rw [if_pos h2]
  have h70 : movesC m = 70 := by revert h2; unfold movesC; split <;> simp
  refine Zf ?_
  dsimp only [YA.F]
  rw [Z0Z hm S]; simp only [Option.bind_some]; rw [if_neg h1, hmig]; simp only [Option.bind_some]
  rw [if_pos (by simpa using h2), h70]
 rw [if_neg h2, Zc (t := .l1 ((0 : Nat) : Int)) (by
  dsimp only [YA.F]
  rw [Z0Z hm S]; simp only [Option.bind_some]; rw [if_neg h1, hmig]; simp only [Option.bind_some]
  rw [if_neg (by simpa using h2)]; rfl), scan m.Methods.length 0 (by omega), ← List.range_eq_range']
 congr 1
 unfold firstC
 cases hf : (List.range m.Methods.length).find? (fun k => decide ((rowsM m k).2 ≠ 0)) with
 | some k =>
  have hp : (rowsM m k).2 ≠ 0 := by simpa using List.find?_some hf
  dsimp only
  rw [if_pos hp, if_pos hp]
 | none =>
  dsimp only
  rw [if_neg (show ¬ (0 : Int) ≠ 0 by simp)]
  unfold tailC
  by_cases h4 : callsC m ≠ 0
  ·rw [if_pos h4, if_pos h4, if_pos h4]
  rw [if_neg h4, if_neg h4]
  by_cases h5 : (costsC m).2 ≠ 0
  ·rw [if_pos h5, if_pos h5, if_pos h5]
  rw [if_neg h5, if_neg h5]
  by_cases h6 : pureC m ≠ 0
  ·rw [if_pos h6, if_pos h6, if_pos h6]
  ·rw [if_neg h6, if_neg h6, if_neg (by simp)]
   exact Prod.ext rfl (Classical.not_not.1 h5).symm
theorem Z8r {m : Z9} (hm : YM m) (S : Small m) : Yu.f m = some (blameC m) := by
 have hM := S.M
 have hE := (Z1s S).2
 have scan : ∀ (j k : Nat), k + j = m.Methods.length → runF (Yu.F m) (.l1 (k : Int)) = some (match (List.range' k j).find? (fun k => decide ((rowsM m k).2 ≠ 0)) with
     | some k => (k : Int)
     | none => -1) := by
  intro j
  induction j with
  | zero =>
   intro k hk
   refine Zf ?_
   dsimp only [Yu.F]
   rw [if_neg (by omega)]; rfl
  | succ j ih =>
   intro k hk
   obtain ⟨R, hr⟩ := Z6F hm S (show k < m.Methods.length by omega)
   rw [List.range'_succ, List.find?_cons]
   by_cases he : (rowsM m k).2 = 0
   ·rw [show decide ((rowsM m k).2 ≠ 0) = false by simpa using he]
    dsimp only
    rw [← ih (k + 1) (by omega)]
    refine Zc ?_
    dsimp only [Yu.F]
    rw [if_pos (by omega), hr]; simp only [Option.bind_some]
    rw [if_neg (by simpa using he), Zl k (by omega)]
   ·rw [show decide ((rowsM m k).2 ≠ 0) = true by simpa using he]
    refine Zf ?_
    dsimp only [Yu.F]
    rw [if_pos (by omega), hr]; simp only [Option.bind_some]
    rw [if_pos he]
 unfold Yu.f blameC T9
 by_cases h1 : mayC m ≠ 0
 ·rw [if_pos h1, if_pos (by simp)]
  refine Zf ?_
  dsimp only [Yu.F]
  rw [Z0Z hm S]; simp only [Option.bind_some]; rw [if_pos h1]; simp only [Option.bind_some]; rw [if_pos trivial]
 rw [if_neg h1]
 have hmig := Z4a S (hE (Classical.not_not.1 h1)).2
 by_cases h2 : movesC m ≠ 0
 ·rw [if_pos h2, if_pos (by simp)]
  refine Zf ?_
  dsimp only [Yu.F]
  rw [Z0Z hm S]; simp only [Option.bind_some]; rw [if_neg h1, hmig]; simp only [Option.bind_some]
  rw [if_pos (by simpa using h2)]
 rw [if_neg h2, Zc (t := .l1 ((0 : Nat) : Int)) (by
  dsimp only [Yu.F]
  rw [Z0Z hm S]; simp only [Option.bind_some]; rw [if_neg h1, hmig]; simp only [Option.bind_some]
  rw [if_neg (by simpa using h2)]; rfl), scan m.Methods.length 0 (by omega), ← List.range_eq_range']
 congr 1
 unfold firstC
 cases hf : (List.range m.Methods.length).find? (fun k => decide ((rowsM m k).2 ≠ 0)) with
 | some k =>
  have hp : (rowsM m k).2 ≠ 0 := by simpa using List.find?_some hf
  dsimp only
  rw [if_pos hp, if_neg (by simp)]
 | none =>
  dsimp only
  rw [if_neg (show ¬ (0 : Int) ≠ 0 by simp), if_pos]
  by_cases h4 : callsC m ≠ 0
  ·rw [if_pos h4]; simp
  rw [if_neg h4]
  by_cases h5 : (costsC m).2 ≠ 0
  ·rw [if_pos h5]; simp
  rw [if_neg h5]
  by_cases h6 : pureC m ≠ 0
  ·rw [if_pos h6]; simp
  ·rw [if_neg h6]; simp
theorem Z23 {m : Z9} (h : ¬ (T9 m).2 ≠ 0) : (costsC m).2 = 0 := by
 revert h
 unfold T9
 split <;> rename_i h1
 ·intro h; exact absurd h1 h
 ·split <;> rename_i h2
  ·intro h; exact absurd h2 h
  ·split <;> rename_i h3
   ·intro h; exact absurd h3 h
   ·split <;> rename_i h4
    ·intro h; exact absurd h4 h
    ·split <;> rename_i h5
     ·intro h; exact absurd h5 h
     ·intro _; exact Classical.not_not.1 h5
theorem Z5v {m : Z9} (S : Small m) : (TN m).1.length ≤ 40 := by
 unfold TN
 split
 ·simp
 ·rename_i h
  rw [Z6v (Z23 h)]; exact S.M
theorem Z6G {m : Z9} (hm : YM m) : Zm.f m = some true := by
 unfold Zm.f
 by_cases hg : greatB m = true
 ·rw [Zf]
  dsimp only [Zm.F]
  rw [Z3Y, hg]; rfl
 ·have S := Z75 (by simpa using hg)
  have hL := Z5v S
  have hp := Z7k hm S
  have hr := Z7o hm S
  have hv : Vq.f m = some (TN m).2 := by
   rw [Z6w hm S]; unfold TN
   split
   ·rfl
   ·rename_i h
    rw [Z23 h, Classical.not_not.1 h]
  have hb := Z8n hm S
  have hrb := Z8r hm S
  generalize TN m = Le at hL hp hr hv
  obtain ⟨L, e⟩ := Le
  dsimp only at hL hv
  generalize blameC m = bl at hb hrb
  have over1 : ∀ (c pre : List Zq), L.length = pre.length + c.length → runF (Zm.F m) (.l1 m (L, e) (pre ++ c) (pre.length : Int)) = some true := by
   intro c
   induction c with
   | nil =>
    intro pre hl
    have over2 : ∀ (c pre : List Zq), L.length = pre.length + c.length → runF (Zm.F m) (.l2 m (L, e) (pre ++ c) (pre.length : Int)) = some true := by
     intro c
     induction c with
     | nil =>
      intro pre hl
      refine Zf ?_
      dsimp only [Zm.F]; rw [if_neg (by simp)]
     | cons x c ih =>
      intro pre hl
      rw [← ih (pre ++ [⟨-5, x.Stack, x.Heap⟩]) (by simp at hl ⊢; omega)]
      refine Zc ?_
      have hpl : pre.length < (pre ++ x :: c).length := by simp
      dsimp only [Zm.F]
      rw [if_pos (by simp; omega), Zp hpl]
      simp only [Option.bind_some]
      rw [Zl pre.length (by simp at hl; omega)]
      simp
    rw [Zc (t := .l2 m (L, e) ([] ++ L) ((([] : List Zq).length : Nat) : Int)) (by
     dsimp only [Zm.F]
     unfold Zm.j2
     rw [if_neg (by simp), hp]; simp only [Option.bind_some]
     rw [if_neg (by simp), hv]; simp only [Option.bind_some]
     rw [if_neg (by simp), Z21 (by omega)]; simp only [Option.bind_some]
     rw [if_neg (by simp), hb]; simp only [Option.bind_some]
     rw [hrb]; simp only [Option.bind_some]
     rw [if_neg (by simp), Z19 S]; simp only [Option.bind_some]
     rw [if_neg (by simp)]; rfl), over2 L [] (by simp)]
   | cons x c ih =>
    intro pre hl
    rw [← ih (pre ++ [⟨-5, x.Stack, x.Heap⟩]) (by simp at hl ⊢; omega)]
    refine Zc ?_
    have hpl : pre.length < (pre ++ x :: c).length := by simp
    dsimp only [Zm.F]
    rw [if_pos (by simp; omega), Zp hpl]
    simp only [Option.bind_some]
    rw [Zl pre.length (by simp at hl; omega)]
    simp
  rw [Zc (t := .l1 m (L, e) ([] ++ L) ((([] : List Zq).length : Nat) : Int)) (by
   dsimp only [Zm.F]
   unfold Zm.j1
   rw [Z3Y]; simp only [Option.bind_some]
   rw [if_neg hg, copy_eq S]; simp only [Option.bind_some]
   rw [hr]; simp only [Option.bind_some]
   rw [hp]; simp only [Option.bind_some]
   rw [if_neg (by simp), hv]; simp only [Option.bind_some]
   rw [if_neg (by simp), Z21 (by omega)]; simp only [Option.bind_some]
   rw [if_neg (by simp), hb]; simp only [Option.bind_some]
   rw [hrb]; simp only [Option.bind_some]
   rw [if_neg (by simp), Z19 S]; simp only [Option.bind_some]
   rw [if_neg (by simp)]; rfl), over1 L [] (by simp)]
end XB
theorem verifyTells_card : Rows.VerifyTellsCardSaid := verifyTells.card fun x0 h => XB.Z6G h
#print axioms verifyTells_card
end Go.Proofs.YtehjiiebjkkcmaaGreatDoor
