/- What is accepted is loaded from its bytes, with the same certificates; what is loaded is accepted, and has those bytes (the law VerifyBack): for every input, with no condition but what the card ties to the program (what op's table of bounds and value's table of sizes hold). -/
import Derived.Test.YtikichjmjbbnbaaGreatDoorP0VerifyBack
set_option linter.unusedVariables false
set_option linter.unusedSimpArgs false
set_option linter.unusedSectionVars false
namespace Go.Proofs.YtikichjmjbbnbaaGreatDoor
open Go.Q
namespace VerifyPure
open FlowPure TypesPure CallsPure CostPure
theorem costs_len {m : api_Module} (h : (costsC m).2 = 0) : (costsC m).1.length = m.Methods.length := by
 revert h
 unfold costsC
 split
 ·intro h; simp at h
 ·split
  ·intro h; rename_i h1; exact absurd h h1
  ·split
   ·intro h; rename_i h1; exact absurd h h1
   ·split
    ·intro h; simp at h
    ·rename_i hA
     intro _
     have := (certs_len _ _ _ hA).1
     simpa using this
noncomputable def standsC (m : api_Module) : Int × Int :=
 if mayC m ≠ 0 then (0, mayC m) else if movesC m ≠ 0 then (1, movesC m) else if (firstC m).2 ≠ 0 then (2, (firstC m).2) else if callsC m ≠ 0 then (3, callsC m) else
 if (costsC m).2 ≠ 0 then (4, (costsC m).2) else if pureC m ≠ 0 then (5, pureC m) else (-1, 0)
theorem p_stands {m : api_Module} (hm : wf_api_Module m) (S : Small m) : verify_stands.f m = some (standsC m) := by
 have hE := (mayC_err S).2
 unfold verify_stands.f verify_checks.f standsC verify_stands.j2
 simp only [Option.bind_some]
 rw [p_may hm S]; simp only [Option.bind_some]
 by_cases h1 : mayC m ≠ 0
 ·rw [if_pos h1, if_pos h1]
 rw [if_neg h1, if_neg h1, p_moves S (hE (Classical.not_not.1 h1)).2]; simp only [Option.bind_some]
 by_cases h2 : movesC m ≠ 0
 ·rw [if_pos h2, if_pos h2]
 unfold verify_kinds.f
 rw [if_neg h2, if_neg h2, p_first hm S]; simp only [Option.bind_some]
 by_cases h3 : (firstC m).2 ≠ 0
 ·rw [if_pos h3, if_pos h3]
 rw [if_neg h3, if_neg h3, p_calls S]; simp only [Option.bind_some]
 by_cases h4 : callsC m ≠ 0
 ·rw [if_pos h4, if_pos h4]
 rw [if_neg h4, if_neg h4, p_cost hm S]; simp only [Option.bind_some]
 by_cases h5 : (costsC m).2 ≠ 0
 ·rw [if_pos h5, if_pos h5]
 rw [if_neg h5, if_neg h5, p_pure S]; simp only [Option.bind_some]
 by_cases h6 : pureC m ≠ 0
 ·rw [if_pos h6, if_pos h6]
 ·rw [if_neg h6, if_neg h6, Classical.not_not.1 h6]
theorem p_vmay {m : api_Module} (hm : wf_api_Module m) (S : Small m) : verify_May.f m = some (standsC m).2 := by
 unfold verify_May.f
 rw [p_stands hm S]; rfl
noncomputable def acceptC (m : api_Module) : List api_Cert × Int := if (standsC m).2 ≠ 0 then ([], (standsC m).2) else costsC m
theorem p_accept {m : api_Module} (hm : wf_api_Module m) (S : Small m) : verify_Accept.f m = some (acceptC m) := by
 unfold verify_Accept.f acceptC
 rw [p_vmay hm S]; simp only [Option.bind_some]
 split
 ·rfl
 ·rw [prog_costs hm S]; rfl
noncomputable def blameC (m : api_Module) : Int := if (standsC m).1 ≠ 2 then -1 else (firstC m).1
theorem p_blame {m : api_Module} (hm : wf_api_Module m) (S : Small m) : verify_Blame.f m = some (blameC m) := by
 unfold verify_Blame.f blameC
 rw [p_stands hm S]; simp only [Option.bind_some]
 split
 ·rfl
 ·rw [p_first hm S]; rfl
end VerifyPure
namespace VerifyPure
open FlowPure TypesPure CallsPure CostPure
def num : List Int → Int
 | [] => 0
 | x :: l => x + 256 * num l
def le : Nat → Int → List Int
 | 0, _ => []
 | w + 1, n => n % 256 :: le w (n / 256)
def Byt (l : List Int) : Prop := ∀ x ∈ l, 0 ≤ x ∧ x < 256
theorem Byt.app {a b : List Int} : Byt (a ++ b) ↔ Byt a ∧ Byt b :=
 ⟨fun h => ⟨fun x hx => h x (List.mem_append.2 (.inl hx)), fun x hx => h x (List.mem_append.2 (.inr hx))⟩, fun h x hx => (List.mem_append.1 hx).elim (h.1 x) (h.2 x)⟩
theorem le_len : ∀ (w : Nat) (n : Int), (le w n).length = w
 | 0, _ => rfl
 | w + 1, n => by rw [le, List.length_cons, le_len w]
theorem le_byt : ∀ (w : Nat) (n : Int), Byt (le w n)
 | 0, _ => fun x h => by cases h
 | w + 1, n => fun x h => by
  rcases List.mem_cons.1 h with rfl | h
  ·omega
  ·exact le_byt w _ x h
theorem pow_pos (w : Nat) : (1 : Int) ≤ 256 ^ w := by
 induction w with
 | zero => simp
 | succ w ih => rw [Int.pow_succ]; omega
theorem num_le : ∀ (w : Nat) (n : Int), num (le w n) = n % 256 ^ w
 | 0, n => by simp [le, num, Int.emod_one]
 | w + 1, n => by
  rw [le, num, num_le w, Int.pow_succ, Int.mul_comm (256 ^ w) 256]
  have h := pow_pos w
  have a := Int.emod_add_mul_ediv n 256
  have b := Int.emod_add_mul_ediv (n / 256) (256 ^ w)
  have c := Int.emod_nonneg (n / 256) (b := 256 ^ w) (by omega)
  have d := Int.emod_lt_of_pos (n / 256) (b := 256 ^ w) (by omega)
  have e : n / 256 / 256 ^ w = n / (256 * 256 ^ w) := Int.ediv_ediv_of_nonneg (by omega)
  have f := Int.emod_add_mul_ediv n (256 * 256 ^ w)
  rw [Int.mul_assoc, ← e] at f
  generalize n / 256 / 256 ^ w = q at b f
  generalize 256 ^ w * q = z at b f
  omega
theorem num_bd : ∀ (l : List Int), Byt l → 0 ≤ num l ∧ num l < 256 ^ l.length
 | [], _ => by simp [num]
 | x :: l, h => by
  have a := num_bd l fun y hy => h y (List.mem_cons_of_mem _ hy)
  have b := h x (List.mem_cons_self ..)
  rw [num, List.length_cons, Int.pow_succ, Int.mul_comm (256 ^ l.length)]
  omega
theorem le_num : ∀ (l : List Int), Byt l → le l.length (num l) = l
 | [], _ => rfl
 | x :: l, h => by
  have b := h x (List.mem_cons_self ..)
  rw [List.length_cons, le, num, show (x + 256 * num l) % 256 = x by omega, show (x + 256 * num l) / 256 = num l by omega, le_num l fun y hy => h y (List.mem_cons_of_mem _ hy)]
theorem le_mod (w : Nat) (n : Int) : le w (n % 256 ^ w) = le w n := by
 have := le_num (le w n) (le_byt w n)
 rwa [le_len, num_le] at this
theorem num_app : ∀ (a b : List Int), num (a ++ b) = num a + 256 ^ a.length * num b
 | [], b => by simp [num]
 | x :: a, b => by
  rw [List.cons_append, num, num, num_app a b, List.length_cons, Int.pow_succ, Int.mul_comm (256 ^ a.length) 256, Int.mul_assoc]
  omega
theorem u8_wrap (x : Int) : IntKind.u8.wrap x = x % 256 := by simp [IntKind.wrap, IntKind.bits, IntKind.signed]
theorem spr_le : ∀ (w : Nat) (n : Int), w ≤ 8 → spr n w = le w n := by
 have key : ∀ (w i : Nat) (n : Int), i + w ≤ 8 → ((List.range' i w).map fun i : Nat => IntKind.u8.wrap (shrI .i64 n (8 * (i : Int)))) = le w (n / 256 ^ i) := by
  intro w
  induction w with
  | zero => intros; rfl
  | succ w ih =>
   intro i n hi
   rw [List.range'_succ, List.map_cons, ih (i + 1) n (by omega), le, Int.pow_succ, ← Int.ediv_ediv_of_nonneg (Int.le_trans (by omega) (pow_pos i))]
   congr 1
   rw [u8_wrap]
   unfold shrI
   have e : min (8 * (i : Int)).toNat IntKind.i64.bits = 8 * i := by have : IntKind.i64.bits = 64 := rfl; omega
   rw [e, Int.fdiv_eq_ediv_of_nonneg _ (Int.le_of_lt (Int.pow_pos (by omega))), Int.pow_mul]
   rfl
 intro w n hw
 have := key w 0 n (by omega)
 rw [Int.pow_zero, Int.ediv_one] at this
 rw [← this, ← List.range_eq_range']; rfl
end VerifyPure
namespace VerifyPure
open FlowPure TypesPure CallsPure CostPure
theorem wrap_mod {k : IntKind} (h64 : k.bits = 64) (x : Int) : k.wrap x % 18446744073709551616 = x % 18446744073709551616 := by
 unfold IntKind.wrap
 rw [h64, show (2 : Int) ^ 64 = 18446744073709551616 from rfl]
 dsimp only
 split
 ·omega
 ·omega
theorem wrap_small {k : IntKind} (h64 : k.bits = 64) {x : Int} (h0 : 0 ≤ x) (h1 : x < 9223372036854775808) : k.wrap x = x := by
 unfold IntKind.wrap
 rw [h64, show (2 : Int) ^ 64 = 18446744073709551616 from rfl, show (2 : Int) ^ (64 - 1) = 9223372036854775808 from rfl]
 dsimp only
 rw [Int.emod_eq_of_lt h0 (by omega), if_neg (fun h => by rw [Bool.and_eq_true, decide_eq_true_eq] at h; omega)]
theorem or_add {k : IntKind} (h64 : k.bits = 64) {A y : Int} {i : Nat} (hi : i < 8) (A0 : 0 ≤ A) (A1 : A < 256 ^ i) (y0 : 0 ≤ y) (y1 : y < 256) : orI k (k.wrap A) (shlI k (k.wrap y) (8 * (i : Int))) = k.wrap (A + 256 ^ i * y) := by
 have hof : ∀ x : Int, BitVec.ofInt 64 (k.wrap x) = BitVec.ofInt 64 x := fun x => by
  apply BitVec.eq_of_toNat_eq
  have := wrap_mod h64 x
  rw [BitVec.toNat_ofInt, BitVec.toNat_ofInt, show ((2 ^ 64 : Nat) : Int) = 18446744073709551616 from rfl, this]
 have hp : (256 : Int) ^ i = ((2 ^ (8 * i) : Nat) : Int) := by
  rw [Nat.pow_mul]; exact (Int.natCast_pow 256 i).symm
 have hle : 2 ^ (8 * i) ≤ 72057594037927936 := Nat.le_trans (Nat.pow_le_pow_right (n := 2) (by omega) (show 8 * i ≤ 56 by omega)) (Nat.le_refl _)
 obtain ⟨An, rfl⟩ : ∃ n : Nat, A = (n : Int) := ⟨A.toNat, by omega⟩
 obtain ⟨yn, rfl⟩ : ∃ n : Nat, y = (n : Int) := ⟨y.toNat, by omega⟩
 rw [hp] at A1 ⊢
 generalize hq : 2 ^ (8 * i) = q at A1 hle
 have hA : An < q := by omega
 have hyq : yn * q ≤ 255 * q := Nat.mul_le_mul_right _ (by omega)
 have hmin : min (8 * (i : Int)).toNat k.bits = 8 * i := by rw [h64]; omega
 unfold orI shlI
 rw [hmin, h64, hof, hof, wrap_small h64 (x := (yn : Int)) (by omega) (by omega)]
 congr 1
 have e1 : (yn : Int) * 2 ^ (8 * i) = ((yn * q : Nat) : Int) := by rw [← hq, Int.natCast_mul, Int.natCast_pow]; rfl
 rw [e1, BitVec.ofInt_natCast, BitVec.ofInt_natCast, BitVec.toNat_or, BitVec.toNat_ofNat, BitVec.toNat_ofNat, show 2 ^ 64 = 18446744073709551616 from rfl, Nat.mod_eq_of_lt (by omega), Nat.mod_eq_of_lt (by omega)]
 have := Nat.two_pow_add_eq_or_of_lt (i := 8 * i) (b := An) (by rw [hq]; exact hA) yn
 rw [hq, Nat.mul_comm] at this
 rw [Nat.or_comm, ← this, Int.natCast_add, Int.natCast_mul, Int.mul_comm (q : Int), Int.add_comm]
theorem num_take {l : List Int} {k : Nat} (h : k < l.length) : num (l.take (k + 1)) = num (l.take k) + 256 ^ k * l[k] := by
 rw [List.take_add_one, List.getElem?_eq_getElem h, Option.toList_some, num_app, List.length_take, Nat.min_eq_left (by omega)]
 simp [num]
theorem byt_take {l : List Int} (h : Byt l) (k : Nat) : Byt (l.take k) := fun x hx => h x (List.mem_of_mem_take hx)
theorem p_gath {S : Type} {F : S → Option (S ⊕ Int)} {k : IntKind} (h64 : k.bits = 64) {l : List Int} (hl : l.length ≤ 8) (hb : Byt l) (s : Int → Nat → S)
    (hs : ∀ x i (h : i < l.length), F (s x i) = some (.inl (s (orI k x (shlI k (k.wrap l[i]) (8 * (i : Int)))) (i + 1)))) (he : ∀ x, F (s x l.length) = some (.inr x)) : runF F (s 0 0) = some (k.wrap (num l)) := by
 have e0 : (0 : Int) = k.wrap (num (l.take 0)) := by rw [List.take_zero, num, wrap_small h64 (by omega) (by omega)]
 rw [e0]
 refine (runF_up (F := F) (n := l.length) (fun i => s (k.wrap (num (l.take i))) i) (fun i hi => ?_)).trans (runF_end ?_)
 ·have b1 := num_bd _ (byt_take hb i)
  rw [List.length_take, Nat.min_eq_left (by omega)] at b1
  have b2 := hb _ (List.getElem_mem hi)
  rw [hs _ i hi, or_add h64 (by omega) b1.1 b1.2 b2.1 b2.2, num_take hi]
 ·rw [he, List.take_length]
theorem p_gatU {l : List Int} (hl : l.length ≤ 8) (hb : Byt l) : octet_gather_uint64.f l = some (IntKind.u64.wrap (num l)) := by
 unfold octet_gather_uint64.f
 rw [runF_step (t := .l1 0 ((0 : Nat) : Int)) rfl]
 refine p_gath (k := .u64) rfl hl hb (fun x i => octet_gather_uint64.S.l1 x (i : Int)) (fun x i h => ?_) (fun x => ?_)
 ·dsimp only [octet_gather_uint64.F]
  have w8 : IntKind.i64.wrap (8 * (i : Int)) = 8 * (i : Int) := wrap_id (by omega) (by omega)
  rw [if_pos (by omega), elt_lt h]
  simp only [Option.bind_some]
  rw [w8, if_pos (by omega), wrap_succ i (by omega)]
 ·dsimp only [octet_gather_uint64.F]; rw [if_neg (by omega)]
theorem p_gatI {l : List Int} (hl : l.length ≤ 8) (hb : Byt l) : octet_gather_int64.f l = some (IntKind.i64.wrap (num l)) := by
 unfold octet_gather_int64.f
 rw [runF_step (t := .l1 0 ((0 : Nat) : Int)) rfl]
 refine p_gath (k := .i64) rfl hl hb (fun x i => octet_gather_int64.S.l1 x (i : Int)) (fun x i h => ?_) (fun x => ?_)
 ·dsimp only [octet_gather_int64.F]
  have w8 : IntKind.i64.wrap (8 * (i : Int)) = 8 * (i : Int) := wrap_id (by omega) (by omega)
  rw [if_pos (by omega), elt_lt h]
  simp only [Option.bind_some]
  rw [w8, if_pos (by omega), wrap_succ i (by omega)]
 ·dsimp only [octet_gather_int64.F]; rw [if_neg (by omega)]
def pN (w : Nat) (B : List Int) : Option (Int × List Int) := if B.length < w then none else some (num (B.take w), B.drop w)
def pos (b B : List Int) : Int := (b.length : Int) - (B.length : Int)
structure On (b B : List Int) : Prop where
 sf : B <:+ b
 bt : Byt b
 ln : b.length ≤ 3000
theorem On.bb {b B : List Int} (h : On b B) : Byt B := fun x hx => h.bt x (h.sf.mem hx)
theorem On.len {b B : List Int} (h : On b B) : B.length ≤ b.length := h.sf.length_le
theorem On.dropN {b B : List Int} (h : On b B) (w : Nat) : On b (B.drop w) := ⟨(List.drop_suffix w B).trans h.sf, h.bt, h.ln⟩
theorem On.eq {b B : List Int} (h : On b B) : b.drop (b.length - B.length) = B := by
 obtain ⟨t, rfl⟩ := h.sf
 simp
theorem p_cut {b B : List Int} (h : On b B) {w : Nat} (hw : w ≤ 8) : octet_cut.f b (pos b B) w = some (if B.length < w then ([], 10) else (B.take w, 0)) := by
 have hl := h.len
 have h3 := h.ln
 unfold octet_cut.f pos
 rw [if_neg (by simp; omega), wrap_id (x := (b.length : Int) - _) (by omega) (by omega)]
 by_cases hc : B.length < w
 ·rw [if_pos (by omega), if_pos hc]
 ·rw [if_neg (by omega), if_neg hc, wrap_id (by omega) (by omega), if_pos (by omega)]
  have e1 : ((b.length : Int) - (B.length : Int) + (w : Int)).toNat = b.length - B.length + w := by omega
  have e2 : ((b.length : Int) - (B.length : Int)).toNat = b.length - B.length := by omega
  rw [e1, e2, List.drop_take, Nat.add_sub_cancel_left, h.eq]
theorem p_get {b B : List Int} (h : On b B) {w : Nat} (h1 : 1 ≤ w) (hw : w ≤ 7) : octet_Get.f b (pos b B) w = some (match pN w B with
    | some (n, B') => (n, pos b B', 0)
    | none => (0, 0, 10)) := by
 have hl := h.len
 have h3 := h.ln
 unfold octet_Get.f pN
 rw [if_neg (by simp; omega), p_cut h (by omega)]
 simp only [Option.bind_some]
 by_cases hc : B.length < w
 ·rw [if_pos hc, if_pos hc]
  rw [p_gatU (by simp) (fun x hx => by cases hx)]
  simp only [Option.bind_some]
  rw [if_neg (by decide)]
  rfl
 ·rw [if_neg hc, if_neg hc]
  have hbt := byt_take h.bb w
  have hlt : (B.take w).length = w := by rw [List.length_take]; omega
  have hb := num_bd _ hbt
  rw [hlt] at hb
  have hp : (256 : Int) ^ w ≤ 72057594037927936 := by
   have : w = 1 ∨ w = 2 ∨ w = 3 ∨ w = 4 ∨ w = 5 ∨ w = 6 ∨ w = 7 := by omega
   rcases this with rfl | rfl | rfl | rfl | rfl | rfl | rfl <;> decide
  rw [p_gatU (by omega) hbt, wrap_small rfl hb.1 (by omega)]
  simp only [Option.bind_some]
  rw [if_neg (by omega)]
  unfold octet_Get.j1 pos
  rw [if_neg (by simp), wrap_id (x := num _) (by omega) (by omega), wrap_id (by omega) (by omega), List.length_drop]
  congr 3
  omega
theorem p_getS {b B : List Int} (h : On b B) (hl : 8 ≤ B.length) : octet_GetSigned.f b (pos b B) = some (IntKind.i64.wrap (num (B.take 8)), pos b (B.drop 8), 0) := by
 have hl2 := h.len
 have h3 := h.ln
 unfold octet_GetSigned.f
 have hc := p_cut h (w := 8) (by omega)
 rw [if_neg (by omega)] at hc
 rw [show octet_cut.f b (pos b B) 8 = _ from hc]
 simp only [Option.bind_some]
 rw [if_neg (by simp), p_gatI (by rw [List.length_take]; omega) (byt_take h.bb 8)]
 simp only [Option.bind_some]
 unfold pos
 rw [wrap_id (x := (b.length : Int) - _ + 8) (by omega) (by omega), List.length_drop]
 congr 3
 omega
def Told {α : Type} (b : List Int) (o : Option (α × List Int)) (r : α × Int × Int) : Prop := match o with
 | some (x, B') => r = (x, pos b B', 0) ∧ On b B'
 | none => r.2.2 ≠ 0
end VerifyPure
namespace VerifyPure
open FlowPure TypesPure CallsPure CostPure
def mid (x : Int) : Bool := decide (-1048576 ≤ x ∧ x ≤ 1048576)
def pVal (B : List Int) : Option (api_Value × List Int) := match pN 1 B with
 | none => none
 | some (k, B1) =>
  if k = 1 then (if B1.length < 8 then none else some (⟨1, IntKind.i64.wrap (num (B1.take 8)), 0⟩, B1.drop 8)) else
  if k = 2 then (if B1.length < 6 then none else
   if mid (num (B1.take 3) - 1048576) = true ∧ mid (num ((B1.drop 3).take 3) - 1048576) = true then some (⟨2, num (B1.take 3) - 1048576, num ((B1.drop 3).take 3) - 1048576⟩, (B1.drop 3).drop 3) else none) else none
theorem pN_some {w : Nat} {B : List Int} (h : ¬ B.length < w) : pN w B = some (num (B.take w), B.drop w) := by unfold pN; rw [if_neg h]
theorem tab0_eq : tab0 = [0, 8, 6] := rfl
theorem p_vRead {b B : List Int} (h : On b B) : ∃ r, value_Read.f b (pos b B) = some r ∧ Told b (pVal B) r := by
 unfold value_Read.f pVal
 rw [show octet_Get.f b (pos b B) 1 = _ from p_get h (w := 1) (by omega) (by omega)]
 simp only [Option.bind_some]
 by_cases h1 : B.length < 1
 ·have e : pN 1 B = none := by unfold pN; rw [if_pos h1]
  rw [e]
  exact ⟨_, rfl, by unfold Told; simp⟩
 rw [pN_some h1]
 dsimp only
 rw [if_neg (show ¬ ((0 : Int) ≠ 0) by simp)]
 have o1 := h.dropN 1
 generalize B.drop 1 = B1 at o1
 have hb0 := num_bd _ (byt_take h.bb 1)
 generalize num (B.take 1) = k at hb0
 have hl := o1.len
 have h3 := o1.ln
 rw [tab0_eq]
 by_cases k3 : k ≥ 3
 ·rw [if_pos k3]
  simp only [Option.bind_some]
  rw [if_pos trivial, if_neg (by omega), if_neg (by omega)]
  exact ⟨_, rfl, by unfold Told; simp⟩
 rw [if_neg k3]
 have hk : k = 0 ∨ k = 1 ∨ k = 2 := by omega
 rcases hk with rfl | rfl | rfl
 ·exact ⟨_, rfl, by unfold Told; simp⟩
 ·rw [show elt [0, 8, 6] (1 : Int) = some (8 : Int) from rfl]
  simp only [Option.bind_some]
  rw [if_neg (by simp), if_pos trivial]
  have hw : IntKind.i64.wrap (pos b B1 + 8) = pos b B1 + 8 := by unfold pos; exact wrap_id (by omega) (by omega)
  rw [hw]
  by_cases h8 : B1.length < 8
  ·rw [if_pos (by unfold pos; omega), if_pos h8]
   exact ⟨_, rfl, by unfold Told; simp⟩
  ·rw [if_neg (by unfold pos; omega), if_neg h8, if_pos (show IntKind.u8.wrap 1 = 1 from rfl), p_getS o1 (by omega)]
   simp only [Option.bind_some]
   unfold value_Int.f
   refine ⟨_, rfl, ?_⟩
   unfold Told
   refine ⟨?_, o1.dropN 8⟩
   unfold pos
   rw [List.length_drop]
   congr 2
   omega
 ·rw [show elt [0, 8, 6] (2 : Int) = some (6 : Int) from rfl]
  simp only [Option.bind_some]
  rw [if_neg (show ¬ (decide ((6 : Int) = 0) = true) by simp), if_neg (show ¬ ((2 : Int) = 1) by omega), if_pos trivial]
  have hw : IntKind.i64.wrap (pos b B1 + 6) = pos b B1 + 6 := by unfold pos; exact wrap_id (by omega) (by omega)
  rw [hw]
  by_cases h6 : B1.length < 6
  ·rw [if_pos (by unfold pos; omega), if_pos h6]
   exact ⟨_, rfl, by unfold Told; simp⟩
  ·rw [if_neg (by unfold pos; omega), if_neg h6, if_neg (show ¬ (IntKind.u8.wrap 2 = 1) by decide)]
   rw [show octet_Get.f b (pos b B1) 3 = _ from p_get o1 (w := 3) (by omega) (by omega)]
   rw [pN_some (show ¬ B1.length < 3 by omega)]
   simp only [Option.bind_some]
   have o2 := o1.dropN 3
   rw [show octet_Get.f b (pos b (B1.drop 3)) 3 = _ from p_get o2 (w := 3) (by omega) (by omega)]
   rw [pN_some (show ¬ (B1.drop 3).length < 3 by rw [List.length_drop]; omega)]
   simp only [Option.bind_some]
   have n1 := num_bd _ (byt_take o1.bb 3)
   have n2 := num_bd _ (byt_take o2.bb 3)
   have l1 : (B1.take 3).length = 3 := by rw [List.length_take]; omega
   have l2 : ((B1.drop 3).take 3).length = 3 := by rw [List.length_take, List.length_drop]; omega
   rw [l1] at n1
   rw [l2] at n2
   have hlen3 : (((B1.drop 3).drop 3).length : Int) = (B1.length : Int) - 6 := by rw [List.length_drop, List.length_drop]; omega
   have o3 := o2.dropN 3
   generalize num (B1.take 3) = x at n1
   generalize num ((B1.drop 3).take 3) = y at n2
   generalize (B1.drop 3).drop 3 = B3 at o3 hlen3
   rw [wrap_id (x := x - 1048576) (by omega) (by omega), wrap_id (x := y - 1048576) (by omega) (by omega)]
   unfold value_Pair.f gauss_May.f
   simp only [Option.bind_some]
   by_cases hm : mid (x - 1048576) = true ∧ mid (y - 1048576) = true
   ·rw [if_pos hm]
    unfold mid at hm
    simp only [decide_eq_true_eq] at hm
    rw [if_neg (by simp; omega), if_neg (by simp; omega)]
    simp only [Option.bind_some]
    rw [if_neg (by simp)]
    simp only [Option.bind_some]
    rw [if_neg (by simp)]
    refine ⟨_, rfl, ?_⟩
    unfold Told
    refine ⟨?_, o3⟩
    unfold pos
    congr 2
    omega
   ·rw [if_neg hm]
    unfold mid at hm
    simp only [decide_eq_true_eq] at hm
    by_cases hx : x - 1048576 < -1048576 ∨ x - 1048576 > 1048576
    ·rw [if_pos (by simp; omega)]
     simp only [Option.bind_some]
     rw [if_pos (by simp)]
     simp only [Option.bind_some]
     rw [if_pos (by simp)]
     exact ⟨_, rfl, by unfold Told; simp⟩
    ·rw [if_neg (by simp; omega), if_pos (by simp; omega)]
     simp only [Option.bind_some]
     rw [if_pos (by simp)]
     simp only [Option.bind_some]
     rw [if_pos (by simp)]
     exact ⟨_, rfl, by unfold Told; simp⟩
def pVals : Nat → List Int → Option (List api_Value × List Int)
 | 0, B => some ([], B)
 | n + 1, B => match pVal B with
  | none => none
  | some (v, B1) => match pVals n B1 with
   | none => none
   | some (l, B2) => some (v :: l, B2)
def pPool (B : List Int) : Option (List api_Value × List Int) := match pN 1 B with
 | none => none
 | some (n, B1) => if n > 32 then none else pVals n.toNat B1
theorem vals_run {b : List Int} (a1 : Int) : ∀ (n : Nat) (t2 : Int × Int × Int) (B : List Int) (l : List api_Value) (j : Nat), On b B → t2.1 = ((j + n : Nat) : Int) → j + n ≤ 32 → l.length = j →
    ∃ r, runF (pool_Read.F b a1) (.l1 t2 (pos b B) l (j : Int)) = some r ∧ Told b ((pVals n B).map fun z => (l ++ z.1, z.2)) r := by
 intro n
 induction n with
 | zero =>
  intro t2 B l j h h1 h2 hl
  refine ⟨(l, pos b B, 0), runF_end ?_, ?_⟩
  ·dsimp only [pool_Read.F]; rw [if_neg (by omega)]
  ·unfold pVals Told; simp [h]
 | succ n ih =>
  intro t2 B l j h h1 h2 hl
  obtain ⟨r, r1, r2⟩ := p_vRead h
  unfold pVals
  cases hv : pVal B with
  | none =>
   rw [hv] at r2
   have r2 : r.2.2 ≠ 0 := r2
   refine ⟨([], 0, r.2.2), runF_end ?_, by unfold Told; simpa using r2⟩
   dsimp only [pool_Read.F]
   rw [if_pos (by omega), r1]; simp only [Option.bind_some]
   rw [if_pos r2]
  | some z =>
   obtain ⟨v, B1⟩ := z
   rw [hv] at r2
   obtain ⟨rfl, o1⟩ := r2
   obtain ⟨q, q1, q2⟩ := ih t2 B1 (l ++ [v]) (j + 1) o1 (by omega) (by omega) (by simp [hl])
   refine ⟨q, Eq.trans (runF_step ?_) q1, ?_⟩
   ·dsimp only [pool_Read.F]
    rw [if_pos (by omega), r1]; simp only [Option.bind_some]
    rw [if_neg (by simp), if_pos (by simp; omega), wrap_succ j (by omega)]
   ·dsimp only
    cases hq : pVals n B1 with
    | none => rw [hq] at q2; exact q2
    | some z => rw [hq] at q2; simpa [Told] using q2
theorem p_pRead {b B : List Int} (h : On b B) : ∃ r, pool_Read.f b (pos b B) = some r ∧ Told b (pPool B) r := by
 have g := p_get h (w := 1) (by omega) (by omega)
 unfold pool_Read.f pPool
 by_cases h1 : B.length < 1
 ·have e : pN 1 B = none := by unfold pN; rw [if_pos h1]
  rw [e] at g ⊢
  refine ⟨([], 0, 10), runF_end ?_, by unfold Told; simp⟩
  dsimp only [pool_Read.F]
  rw [show octet_Get.f b (pos b B) 1 = _ from g]; rfl
 rw [pN_some h1] at g ⊢
 have hb0 := num_bd _ (byt_take h.bb 1)
 have o1 := h.dropN 1
 have g : octet_Get.f b (pos b B) 1 = some (num (B.take 1), pos b (B.drop 1), 0) := g
 dsimp only
 generalize num (B.take 1) = k at hb0 g
 by_cases hk : k > 32
 ·rw [if_pos hk]
  refine ⟨([], 0, 60), runF_end ?_, by unfold Told; simp⟩
  dsimp only [pool_Read.F]
  rw [g]; simp only [Option.bind_some]
  rw [if_neg (by simp), if_pos hk]
 ·rw [if_neg hk]
  obtain ⟨q, q1, q2⟩ := vals_run (pos b B) k.toNat (k, pos b (B.drop 1), 0) (B.drop 1) [] 0 o1 (by simp; omega) (by omega) rfl
  refine ⟨q, Eq.trans (runF_step ?_) q1, ?_⟩
  ·dsimp only [pool_Read.F]
   rw [g]; simp only [Option.bind_some]
   rw [if_neg (by simp), if_neg hk]; rfl
  ·cases hq : pVals k.toNat (B.drop 1) with
   | none => rw [hq] at q2; exact q2
   | some z => rw [hq] at q2; simpa [Told] using q2
end VerifyPure
namespace VerifyPure
open FlowPure TypesPure CallsPure CostPure
def pR (w : Nat) (lo hi : Int) (B : List Int) : Option (Int × List Int) := (pN w B).bind fun z => if lo ≤ z.1 ∧ z.1 ≤ hi then some z else none
def pKs : Nat → List Int → Option (List Int × List Int)
 | 0, B => some ([], B)
 | n + 1, B => (pR 1 1 3 B).bind fun z => (pKs n z.2).bind fun y => some (z.1 :: y.1, y.2)
def pMeth (B : List Int) : Option (api_Method × List Int) :=
 (pR 1 0 4 B).bind fun a => (pKs a.1.toNat a.2).bind fun aa => (pR 1 0 (16 - a.1) aa.2).bind fun l => (pKs l.1.toNat l.2).bind fun ls =>
 (pR 1 1 2 ls.2).bind fun re => (pR 1 0 1 re.2).bind fun rd => (pR 3 0 1048576 rd.2).bind fun fu => (pR 2 0 256 fu.2).bind fun st => (pR 2 0 1024 st.2).bind fun he =>
 some (⟨aa.1, ls.1, re.1, decide (rd.1 = 1), fu.1, st.1, he.1, []⟩, he.2)
abbrev Mz : api_Method := ⟨[], [], 0, false, 0, 0, 0, []⟩
theorem num_err {b : List Int} {p e w lo hi : Int} (he : e ≠ 0) : method_reader_number_s2.f b p e w lo hi = some (0, p, e) := by
 unfold method_reader_number_s2.f; rw [if_pos he]
theorem num_ok {b B : List Int} (h : On b B) {w : Nat} (h1 : 1 ≤ w) (hw : w ≤ 7) (lo hi : Int) :
    (∃ n B', pR w lo hi B = some (n, B') ∧ On b B' ∧ lo ≤ n ∧ n ≤ hi ∧ 0 ≤ n ∧ method_reader_number_s2.f b (pos b B) 0 w lo hi = some (n, pos b B', 0)) ∨ (pR w lo hi B = none ∧ ∃ n p e, e ≠ 0 ∧ method_reader_number_s2.f b (pos b B) 0 w lo hi = some (n, p, e)) := by
 unfold pR method_reader_number_s2.f
 rw [if_neg (by simp), p_get h h1 hw]
 simp only [Option.bind_some]
 by_cases hc : B.length < w
 ·have e : pN w B = none := by unfold pN; rw [if_pos hc]
  rw [e]
  right
  refine ⟨rfl, 0, 0, 10, by omega, ?_⟩
  dsimp only
  rw [if_neg (by simp)]; rfl
 ·rw [pN_some hc]
  have hb := num_bd _ (byt_take h.bb w)
  dsimp only
  simp only [Option.bind_some]
  by_cases hr : lo ≤ num (B.take w) ∧ num (B.take w) ≤ hi
  ·left
   rw [if_pos hr, if_neg (by simp; omega)]
   exact ⟨_, _, rfl, h.dropN w, hr.1, hr.2, hb.1, rfl⟩
  ·right
   rw [if_neg hr, if_pos (by simp; omega)]
   exact ⟨rfl, _, _, 70, by omega, rfl⟩
theorem kind_err {b : List Int} {p e : Int} (he : e ≠ 0) : method_reader_kind_s2.f b p e = some (0, p, e) := by
 unfold method_reader_kind_s2.f
 rw [num_err he]; rfl
theorem kind_ok {b B : List Int} (h : On b B) :
    (∃ n B', pR 1 1 3 B = some (n, B') ∧ On b B' ∧ method_reader_kind_s2.f b (pos b B) 0 = some (n, pos b B', 0)) ∨ (pR 1 1 3 B = none ∧ ∃ n p e, e ≠ 0 ∧ method_reader_kind_s2.f b (pos b B) 0 = some (n, p, e)) := by
 unfold method_reader_kind_s2.f
 rcases num_ok h (w := 1) (by omega) (by omega) 1 3 with ⟨n, B', e1, o, l1, l2, -, e2⟩ | ⟨e1, n, p, e, he, e2⟩
 ·left
  rw [show method_reader_number_s2.f b (pos b B) 0 1 1 3 = _ from e2]
  refine ⟨n, B', e1, o, ?_⟩
  simp only [Option.bind_some]
  rw [u8_wrap, Int.emod_eq_of_lt (by omega) (by omega)]
 ·right
  rw [show method_reader_number_s2.f b (pos b B) 0 1 1 3 = _ from e2]
  exact ⟨e1, _, p, e, he, rfl⟩
noncomputable def nx {S R : Type} (F : S → Option (S ⊕ R)) (o : Option (S ⊕ R)) : Option R := match o with
 | none => none
 | some (.inl t) => runF F t
 | some (.inr r) => some r
theorem nx_run {S R : Type} {F : S → Option (S ⊕ R)} {s : S} {o : Option (S ⊕ R)} (h : F s = o) : runF F s = nx F o := by
 rw [runF_eq, h]; rfl
section
variable {b : List Int} (a1 : Int)
theorem j2_err {l50 l95 : List Int} {p e : Int} (he : e ≠ 0) : method_Read.j2 b a1 l50 p e l95 = some (.inr (Mz, 0, e)) := by
 unfold method_Read.j2
 simp only [num_err he, Option.bind_some]
 rw [if_pos he]
theorem j1_err {t8 : Int × Int × Int} {l50 : List Int} {p e : Int} (he : e ≠ 0) : method_Read.j1 b a1 t8 p e l50 = some (.inr (Mz, 0, e)) := by
 unfold method_Read.j1
 rw [num_err he]
 simp only [Option.bind_some]
 rw [if_neg he, j2_err a1 he]
theorem l1_err {p e : Int} (he : e ≠ 0) : ∀ (n : Nat) (t8 : Int × Int × Int) (j : Nat) (l : List Int), t8.1 = ((j + n : Nat) : Int) → j + n ≤ 100 → l.length = j → runF (method_Read.F b a1) (.l1 t8 (j : Int) l p e) = some (Mz, 0, e)
 | 0, t8, j, l, h, _, _ => by
  rw [nx_run (o := some (.inr (Mz, 0, e))) (by dsimp only [method_Read.F]; rw [if_neg (by omega), j1_err a1 he])]; rfl
 | n + 1, t8, j, l, h, h2, hl => by
  rw [← l1_err he n t8 (j + 1) (l ++ [0]) (by omega) (by omega) (by simp [hl])]
  refine runF_step ?_
  dsimp only [method_Read.F]
  rw [if_pos (by omega), kind_err he]; simp only [Option.bind_some]
  rw [if_pos (by simp; omega), wrap_succ j (by omega)]
theorem l2_err {p e : Int} (he : e ≠ 0) {l50 : List Int} : ∀ (n : Nat) (t53 : Int × Int × Int) (j : Nat) (l : List Int), t53.1 = ((j + n : Nat) : Int) → j + n ≤ 100 → l.length = j → runF (method_Read.F b a1) (.l2 l50 t53 (j : Int) l p e) = some (Mz, 0, e)
 | 0, t8, j, l, h, _, _ => by
  rw [nx_run (o := some (.inr (Mz, 0, e))) (by dsimp only [method_Read.F]; rw [if_neg (by omega), j2_err a1 he])]; rfl
 | n + 1, t8, j, l, h, h2, hl => by
  rw [← l2_err he n t8 (j + 1) (l ++ [0]) (by omega) (by omega) (by simp [hl])]
  refine runF_step ?_
  dsimp only [method_Read.F]
  rw [if_pos (by omega), kind_err he]; simp only [Option.bind_some]
  rw [if_pos (by simp; omega), wrap_succ j (by omega)]
theorem l1_run : ∀ (n : Nat) (t8 : Int × Int × Int) (B : List Int) (j : Nat) (l : List Int), On b B → t8.1 = ((j + n : Nat) : Int) → j + n ≤ 100 → l.length = j →
    (∃ ks B', pKs n B = some (ks, B') ∧ On b B' ∧ runF (method_Read.F b a1) (.l1 t8 (j : Int) l (pos b B) 0) = nx (method_Read.F b a1) (method_Read.j1 b a1 t8 (pos b B') 0 (l ++ ks))) ∨ (pKs n B = none ∧ ∃ e, e ≠ 0 ∧ runF (method_Read.F b a1) (.l1 t8 (j : Int) l (pos b B) 0) = some (Mz, 0, e))
 | 0, t8, B, j, l, h, h1, h2, hl => .inl ⟨[], B, rfl, h, by rw [List.append_nil]; exact nx_run (by dsimp only [method_Read.F]; rw [if_neg (by omega)])⟩
 | n + 1, t8, B, j, l, h, h1, h2, hl => by
  unfold pKs
  have st : ∀ k p e, method_reader_kind_s2.f b (pos b B) 0 = some (k, p, e) → method_Read.F b a1 (.l1 t8 (j : Int) l (pos b B) 0) = some (.inl (.l1 t8 ((j + 1 : Nat) : Int) (l ++ [k]) p e)) := fun k p e hk => by
   dsimp only [method_Read.F]
   rw [if_pos (by omega), hk]; simp only [Option.bind_some]
   rw [if_pos (by simp; omega), wrap_succ j (by omega)]
  rcases kind_ok h with ⟨k, B', e1, o, e2⟩ | ⟨e1, k, p, e, he, e2⟩
  ·rw [e1]; simp only [Option.bind_some]
   rw [runF_step (st _ _ _ e2)]
   rcases l1_run n t8 B' (j + 1) (l ++ [k]) o (by omega) (by omega) (by simp [hl]) with ⟨ks, B2, q1, q2, q3⟩ | ⟨q1, e, q2, q3⟩
   ·left; rw [q1]; exact ⟨_, _, rfl, q2, by rw [q3]; simp⟩
   ·right; rw [q1]; exact ⟨rfl, e, q2, q3⟩
  ·right
   rw [e1]
   exact ⟨rfl, e, he, by rw [runF_step (st _ _ _ e2)]; exact l1_err a1 he n t8 (j + 1) _ (by omega) (by omega) (by simp [hl])⟩
theorem l2_run {l50 : List Int} : ∀ (n : Nat) (t8 : Int × Int × Int) (B : List Int) (j : Nat) (l : List Int), On b B → t8.1 = ((j + n : Nat) : Int) → j + n ≤ 100 → l.length = j →
    (∃ ks B', pKs n B = some (ks, B') ∧ On b B' ∧ runF (method_Read.F b a1) (.l2 l50 t8 (j : Int) l (pos b B) 0) = nx (method_Read.F b a1) (method_Read.j2 b a1 l50 (pos b B') 0 (l ++ ks))) ∨ (pKs n B = none ∧ ∃ e, e ≠ 0 ∧ runF (method_Read.F b a1) (.l2 l50 t8 (j : Int) l (pos b B) 0) = some (Mz, 0, e))
 | 0, t8, B, j, l, h, h1, h2, hl => .inl ⟨[], B, rfl, h, by rw [List.append_nil]; exact nx_run (by dsimp only [method_Read.F]; rw [if_neg (by omega)])⟩
 | n + 1, t8, B, j, l, h, h1, h2, hl => by
  unfold pKs
  have st : ∀ k p e, method_reader_kind_s2.f b (pos b B) 0 = some (k, p, e) → method_Read.F b a1 (.l2 l50 t8 (j : Int) l (pos b B) 0) = some (.inl (.l2 l50 t8 ((j + 1 : Nat) : Int) (l ++ [k]) p e)) := fun k p e hk => by
   dsimp only [method_Read.F]
   rw [if_pos (by omega), hk]; simp only [Option.bind_some]
   rw [if_pos (by simp; omega), wrap_succ j (by omega)]
  rcases kind_ok h with ⟨k, B', e1, o, e2⟩ | ⟨e1, k, p, e, he, e2⟩
  ·rw [e1]; simp only [Option.bind_some]
   rw [runF_step (st _ _ _ e2)]
   rcases l2_run n t8 B' (j + 1) (l ++ [k]) o (by omega) (by omega) (by simp [hl]) with ⟨ks, B2, q1, q2, q3⟩ | ⟨q1, e, q2, q3⟩
   ·left; rw [q1]; exact ⟨_, _, rfl, q2, by rw [q3]; simp⟩
   ·right; rw [q1]; exact ⟨rfl, e, q2, q3⟩
  ·right
   rw [e1]
   exact ⟨rfl, e, he, by rw [runF_step (st _ _ _ e2)]; exact l2_err a1 he n t8 (j + 1) _ (by omega) (by omega) (by simp [hl])⟩
end
theorem told_none {α : Type} {b : List Int} {r : α × Int × Int} {x : α} {p e : Int} (he : e ≠ 0) (h : r = (x, p, e)) : Told b (none : Option (α × List Int)) r := by subst h; exact he
theorem p_mRead {b B : List Int} (h : On b B) : ∃ r, method_Read.f b (pos b B) = some r ∧ Told b (pMeth B) r := by
 unfold method_Read.f pMeth
 generalize ha : pos b B = a1
 have no : ∀ {e : Int}, e ≠ 0 → ∀ {o : Option (api_Method × Int × Int)}, o = some (Mz, 0, e) → ∃ r, o = some r ∧ Told b (none : Option (api_Method × List Int)) r := fun he _ ho => ⟨_, ho, told_none he rfl⟩
 rcases num_ok h (w := 1) (by omega) (by omega) 0 4 with ⟨a, B1, e1, o1, -, l1, g1, c1⟩ | ⟨e1, n, p, e, he, c1⟩
 case inr =>
  rw [e1]
  refine no he (runF_end ?_)
  rw [ha] at c1
  dsimp only [method_Read.F]
  rw [show method_reader_number_s2.f b a1 0 1 0 4 = _ from c1]; simp only [Option.bind_some]
  rw [if_neg he, j1_err a1 he]
 rw [e1, runF_step (t := .l1 (a, pos b B1, 0) ((0 : Nat) : Int) [] (pos b B1) 0) (by
  rw [ha] at c1
  dsimp only [method_Read.F]
  rw [show method_reader_number_s2.f b a1 0 1 0 4 = _ from c1]; simp only [Option.bind_some]
  rw [if_pos trivial]; rfl)]
 simp only [Option.bind_some]
 rcases l1_run a1 a.toNat (a, pos b B1, 0) B1 0 [] o1 (by simp; omega) (by omega) rfl with ⟨aa, B2, e2, o2, c2⟩ | ⟨e2, e, he, c2⟩
 case inr => rw [e2]; exact no he c2
 rw [e2, c2]; simp only [Option.bind_some]
 rw [List.nil_append]
 have w16 : IntKind.i64.wrap (16 - a) = 16 - a := wrap_id (by omega) (by omega)
 unfold method_Read.j1
 dsimp only
 rw [w16]
 rcases num_ok o2 (w := 1) (by omega) (by omega) 0 (16 - a) with ⟨l, B3, e3, o3, -, l3, g3, c3⟩ | ⟨e3, n, p, e, he, c3⟩
 case inr =>
  rw [e3, show method_reader_number_s2.f b (pos b B2) 0 1 0 (16 - a) = _ from c3]
  simp only [Option.bind_some]
  rw [if_neg he, j2_err a1 he]
  exact no he rfl
 rw [e3, show method_reader_number_s2.f b (pos b B2) 0 1 0 (16 - a) = _ from c3]
 simp only [Option.bind_some]
 rw [if_pos trivial]
 show ∃ r, runF (method_Read.F b a1) (.l2 aa (l, pos b B3, 0) ((0 : Nat) : Int) [] (pos b B3) 0) = some r ∧ _
 rcases l2_run a1 (l50 := aa) l.toNat (l, pos b B3, 0) B3 0 [] o3 (by simp; omega) (by omega) rfl with ⟨ls, B4, e4, o4, c4⟩ | ⟨e4, e, he, c4⟩
 case inr => rw [e4]; exact no he c4
 rw [e4, c4]; simp only [Option.bind_some]
 rw [List.nil_append]
 unfold method_Read.j2
 rcases num_ok o4 (w := 1) (by omega) (by omega) 1 2 with ⟨re, B5, e5, o5, k5, l5, g5, c5⟩ | ⟨e5, n, p, e, he, c5⟩
 case inr =>
  rw [e5, show method_reader_number_s2.f b (pos b B4) 0 1 1 2 = _ from c5]
  simp only [Option.bind_some, num_err he]
  rw [if_pos he]
  exact no he rfl
 rw [e5, show method_reader_number_s2.f b (pos b B4) 0 1 1 2 = _ from c5]
 simp only [Option.bind_some]
 rcases num_ok o5 (w := 1) (by omega) (by omega) 0 1 with ⟨rd, B6, e6, o6, -, l6, g6, c6⟩ | ⟨e6, n, p, e, he, c6⟩
 case inr =>
  rw [e6, show method_reader_number_s2.f b (pos b B5) 0 1 0 1 = _ from c6]
  simp only [Option.bind_some, num_err he]
  rw [if_pos he]
  exact no he rfl
 rw [e6, show method_reader_number_s2.f b (pos b B5) 0 1 0 1 = _ from c6]
 simp only [Option.bind_some]
 rcases num_ok o6 (w := 3) (by omega) (by omega) 0 1048576 with ⟨fu, B7, e7, o7, -, l7, g7, c7⟩ | ⟨e7, n, p, e, he, c7⟩
 case inr =>
  rw [e7, show method_reader_number_s2.f b (pos b B6) 0 3 0 1048576 = _ from c7]
  simp only [Option.bind_some, num_err he]
  rw [if_pos he]
  exact no he rfl
 rw [e7, show method_reader_number_s2.f b (pos b B6) 0 3 0 1048576 = _ from c7]
 simp only [Option.bind_some]
 rcases num_ok o7 (w := 2) (by omega) (by omega) 0 256 with ⟨st, B8, e8, o8, -, l8, g8, c8⟩ | ⟨e8, n, p, e, he, c8⟩
 case inr =>
  rw [e8, show method_reader_number_s2.f b (pos b B7) 0 2 0 256 = _ from c8]
  simp only [Option.bind_some, num_err he]
  rw [if_pos he]
  exact no he rfl
 rw [e8, show method_reader_number_s2.f b (pos b B7) 0 2 0 256 = _ from c8]
 simp only [Option.bind_some]
 rcases num_ok o8 (w := 2) (by omega) (by omega) 0 1024 with ⟨hp, B9, e9, o9, -, l9, g9, c9⟩ | ⟨e9, n, p, e, he, c9⟩
 case inr =>
  rw [e9, show method_reader_number_s2.f b (pos b B8) 0 2 0 1024 = _ from c9]
  simp only [Option.bind_some]
  rw [if_pos he]
  exact no he rfl
 rw [e9, show method_reader_number_s2.f b (pos b B8) 0 2 0 1024 = _ from c9]
 simp only [Option.bind_some]
 rw [if_neg (by simp)]
 refine ⟨_, rfl, ?_⟩
 unfold Told
 refine ⟨?_, o9⟩
 rw [u8_wrap, Int.emod_eq_of_lt (by omega) (by omega)]
end VerifyPure
namespace VerifyPure
open FlowPure TypesPure CallsPure CostPure
def pIns : Nat → List Int → Option (List api_Instr × List Int)
 | 0, B => some ([], B)
 | n + 1, B => (pN 1 B).bind fun o => if o.1 < 33 then
     ((if wideB o.1 = true then pN 2 o.2 else some (0, o.2)).bind fun a => if may ⟨o.1, a.1, 0⟩ = true then (pIns n a.2).bind fun y => some (⟨o.1, a.1, 0⟩ :: y.1, y.2) else none) else none
def pCode (B : List Int) : Option (List api_Instr × List Int) := (pN 1 B).bind fun n => if 0 < n.1 ∧ n.1 ≤ 200 then pIns n.1.toNat n.2 else none
theorem pN_cases {b B : List Int} (h : On b B) {w : Nat} (h1 : 1 ≤ w) (hw : w ≤ 7) : (∃ n B', pN w B = some (n, B') ∧ On b B' ∧ 0 ≤ n ∧ n < 256 ^ w ∧ octet_Get.f b (pos b B) w = some (n, pos b B', 0)) ∨ (pN w B = none ∧ octet_Get.f b (pos b B) w = some (0, 0, 10)) := by
 rw [p_get h h1 hw]
 by_cases hc : B.length < w
 ·have e : pN w B = none := by unfold pN; rw [if_pos hc]
  rw [e]; exact .inr ⟨rfl, rfl⟩
 ·rw [pN_some hc]
  have hb := num_bd _ (byt_take h.bb w)
  rw [List.length_take, Nat.min_eq_left (by omega)] at hb
  exact .inl ⟨_, _, rfl, h.dropN w, hb.1, hb.2, rfl⟩
theorem wf_ins {o a : Int} (h0 : 0 ≤ o) (h1 : o < 256) (a0 : 0 ≤ a) (a1 : a < 65536) : wf_api_Instr ⟨o, a, 0⟩ := by
 unfold wf_api_Instr
 simp [Lit.wf, IntKind.min, IntKind.max, IntKind.bits, IntKind.signed]
 omega
theorem ins_run {b : List Int} (a1 : Int) : ∀ (n : Nat) (t11 : Int × Int × Int) (B : List Int) (j : Nat) (l : List api_Instr), On b B → t11.1 = ((j + n : Nat) : Int) → j + n ≤ 200 → l.length = j →
    ∃ r, runF (code_Read.F b a1) (.l1 t11 (j : Int) (pos b B) l) = some r ∧ Told b ((pIns n B).map fun z => (l ++ z.1, z.2)) r := by
 intro n
 induction n with
 | zero =>
  intro t11 B j l h h1 h2 hl
  refine ⟨(l, pos b B, 0), runF_end ?_, by unfold pIns Told; simp [h]⟩
  dsimp only [code_Read.F]; rw [if_neg (by omega)]
 | succ n ih =>
  intro t11 B j l h h1 h2 hl
  unfold pIns
  have bad : ∀ e : Int, e ≠ 0 → code_Read.F b a1 (.l1 t11 (j : Int) (pos b B) l) = some (.inr ([], 0, e)) → ∃ r, runF (code_Read.F b a1) (.l1 t11 (j : Int) (pos b B) l) = some r ∧ Told b (none : Option (List api_Instr × List Int)) r := fun e he hf => ⟨_, runF_end hf, told_none he rfl⟩
  have st : ∀ t q, octet_Get.f b (pos b B) 1 = some t → (if t.2.2 ≠ 0 then (some (.inr ([], 0, t.2.2))) else ((op_Known.f (IntKind.u8.wrap t.1)).bind fun t75 => if (!t75) = true then (some (.inr ([], 0, 40))) else ((code_wide.f (IntKind.u8.wrap t.1)).bind fun t81 => if t81 = true then ((octet_Get.f b t.2.1 2).bind fun t83 => if t83.2.2 ≠ 0 then (some (.inr ([], 0, t83.2.2))) else (code_Read.j1 b a1 t11 (j : Int) l t t83.1 t83.2.1)) else (code_Read.j1 b a1 t11 (j : Int) l t 0 t.2.1)))) = q → code_Read.F b a1 (.l1 t11 (j : Int) (pos b B) l) = q := fun t q ht hq => by
   dsimp only [code_Read.F]
   rw [if_pos (by omega), ht]; simp only [Option.bind_some]
   exact hq
  rcases pN_cases h (w := 1) (by omega) (by omega) with ⟨o, B1, e1, o1, b0, b1, g1⟩ | ⟨e1, g1⟩
  case inr => rw [e1]; exact bad 10 (by omega) (st _ _ g1 rfl)
  rw [e1]; simp only [Option.bind_some]
  have b1 : o < 256 := by simpa using b1
  have hu : IntKind.u8.wrap o = o := by rw [u8_wrap, Int.emod_eq_of_lt b0 b1]
  have hw0 := wf_ins b0 b1 (a := 0) (by omega) (by omega)
  have kn : op_Known.f o = some (decide (o < 33)) := by unfold op_Known.f; rw [wrap_id (by omega) (by omega)]
  have wd : code_wide.f o = some (wideB o) := by have := p_wide hw0; dsimp only at this; exact this
  have j1 : ∀ (a p : Int) (t : Int × Int × Int), t.1 = o → 0 ≤ a → a < 65536 → code_Read.j1 b a1 t11 (j : Int) l t a p = if may ⟨o, a, 0⟩ = true then some (.inl (.l1 t11 ((j + 1 : Nat) : Int) p (l ++ [⟨o, a, 0⟩]))) else some (.inr ([], 0, 40)) := fun a p t ht a0 a65 => by
   unfold code_Read.j1
   rw [ht, hu, op_may (wf_ins b0 b1 a0 a65)]
   simp only [Option.bind_some]
   cases may ⟨o, a, 0⟩ with
   | false => rfl
   | true => rw [if_neg (by simp), if_pos (by simp; omega), wrap_succ j (by omega), if_pos rfl]
  by_cases hk : o < 33
  case neg =>
   rw [if_neg hk]
   refine bad 40 (by omega) (st _ _ g1 ?_)
   dsimp only
   rw [if_neg (by simp), hu, kn]; simp only [Option.bind_some]
   rw [decide_eq_false hk, if_pos (by simp)]
  rw [if_pos hk]
  have fin : ∀ (a : Int) (B2 : List Int) (t : Int × Int × Int), On b B2 → 0 ≤ a → a < 65536 → t.1 = o → code_Read.F b a1 (.l1 t11 (j : Int) (pos b B) l) = code_Read.j1 b a1 t11 (j : Int) l t a (pos b B2) →
      ∃ r, runF (code_Read.F b a1) (.l1 t11 (j : Int) (pos b B) l) = some r ∧ Told b (Option.map (fun z => (l ++ z.1, z.2)) (if may ⟨o, a, 0⟩ = true then (pIns n B2).bind fun y => some (⟨o, a, 0⟩ :: y.1, y.2) else none)) r := fun a B2 t o2 a0 a65 ht hf => by
   rw [j1 a _ t ht a0 a65] at hf
   by_cases hm : may ⟨o, a, 0⟩ = true
   ·rw [if_pos hm] at hf ⊢
    obtain ⟨q, q1, q2⟩ := ih t11 B2 (j + 1) (l ++ [⟨o, a, 0⟩]) o2 (by omega) (by omega) (by simp [hl])
    refine ⟨q, by rw [runF_step hf]; exact q1, ?_⟩
    cases hp : pIns n B2 with
    | none => rw [hp] at q2; exact q2
    | some z => rw [hp] at q2; simpa [Told] using q2
   ·rw [if_neg hm] at hf ⊢
    exact bad 40 (by omega) hf
  cases hwd : wideB o with
  | false =>
   rw [if_neg (by simp)]
   simp only [Option.bind_some]
   refine fin 0 B1 (o, pos b B1, 0) o1 (by omega) (by omega) rfl (st _ _ g1 ?_)
   dsimp only
   rw [if_neg (by simp), hu, kn]; simp only [Option.bind_some]
   rw [decide_eq_true hk, if_neg (by simp), wd, hwd]; simp only [Option.bind_some]
   rw [if_neg (by simp)]
  | true =>
   rw [if_pos rfl]
   have hd : ∀ q, ((octet_Get.f b (pos b B1) 2).bind fun t83 => if t83.2.2 ≠ 0 then (some (.inr ([], 0, t83.2.2))) else (code_Read.j1 b a1 t11 (j : Int) l (o, pos b B1, 0) t83.1 t83.2.1)) = q → code_Read.F b a1 (.l1 t11 (j : Int) (pos b B) l) = q := fun q hq => by
    refine st _ _ g1 ?_
    dsimp only
    rw [if_neg (by simp), hu, kn]; simp only [Option.bind_some]
    rw [decide_eq_true hk, if_neg (by simp), wd, hwd]; simp only [Option.bind_some]
    rw [if_pos trivial]; exact hq
   rcases pN_cases o1 (w := 2) (by omega) (by omega) with ⟨a, B2, e2, o2, c0, c1, g2⟩ | ⟨e2, g2⟩
   ·rw [e2]; simp only [Option.bind_some]
    refine fin a B2 (o, pos b B1, 0) o2 c0 (by simpa using c1) rfl (hd _ ?_)
    rw [show octet_Get.f b (pos b B1) 2 = _ from g2]; simp only [Option.bind_some]
    rw [if_neg (by simp)]
   ·rw [e2]
    refine bad 10 (by omega) (hd _ ?_)
    rw [show octet_Get.f b (pos b B1) 2 = _ from g2]; rfl
theorem p_cRead {b B : List Int} (h : On b B) : ∃ r, code_Read.f b (pos b B) = some r ∧ Told b (pCode B) r := by
 unfold code_Read.f pCode
 rcases pN_cases h (w := 1) (by omega) (by omega) with ⟨n, B1, e1, o1, b0, b1, g1⟩ | ⟨e1, g1⟩
 ·rw [e1]; simp only [Option.bind_some]
  by_cases hn : 0 < n ∧ n ≤ 200
  ·rw [if_pos hn]
   obtain ⟨q, q1, q2⟩ := ins_run (pos b B) n.toNat (n, pos b B1, 0) B1 0 [] o1 (by simp; omega) (by omega) rfl
   refine ⟨q, Eq.trans (runF_step ?_) q1, ?_⟩
   ·dsimp only [code_Read.F]
    rw [show octet_Get.f b (pos b B) 1 = _ from g1]; simp only [Option.bind_some]
    rw [if_neg (by simp), if_neg (by simp; omega)]; rfl
   ·cases hp : pIns n.toNat B1 with
    | none => rw [hp] at q2; exact q2
    | some z => rw [hp] at q2; simpa [Told] using q2
  ·rw [if_neg hn]
   refine ⟨_, runF_end (r := ([], 0, 40)) ?_, told_none (by omega) rfl⟩
   dsimp only [code_Read.F]
   rw [show octet_Get.f b (pos b B) 1 = _ from g1]; simp only [Option.bind_some]
   rw [if_neg (by simp), if_pos (by simp; omega)]
 ·rw [e1]
  refine ⟨_, runF_end (r := ([], 0, 10)) ?_, told_none (by omega) rfl⟩
  dsimp only [code_Read.F]
  rw [show octet_Get.f b (pos b B) 1 = _ from g1]; rfl
def pOne (B : List Int) : Option (api_Method × List Int) := (pMeth B).bind fun x => (pCode x.2).bind fun c => some ({ x.1 with Code := c.1 }, c.2)
theorem p_one {b B : List Int} (h : On b B) : ∃ r, module_one.f b (pos b B) = some r ∧ Told b (pOne B) r := by
 unfold module_one.f pOne
 obtain ⟨r, r1, r2⟩ := p_mRead h
 rw [r1]; simp only [Option.bind_some]
 cases hm : pMeth B with
 | none =>
  rw [hm] at r2
  have r2 : r.2.2 ≠ 0 := r2
  rw [if_pos r2]
  exact ⟨_, rfl, told_none r2 rfl⟩
 | some z =>
  obtain ⟨x, B1⟩ := z
  rw [hm] at r2
  obtain ⟨rfl, o1⟩ := r2
  rw [if_neg (by simp)]
  obtain ⟨q, q1, q2⟩ := p_cRead o1
  dsimp only
  rw [q1]; simp only [Option.bind_some]
  refine ⟨_, rfl, ?_⟩
  cases hc : pCode B1 with
  | none => rw [hc] at q2; exact q2
  | some z => rw [hc] at q2; obtain ⟨rfl, o2⟩ := q2; exact ⟨rfl, o2⟩
def pOnes : Nat → List Int → Option (List api_Method × List Int)
 | 0, B => some ([], B)
 | n + 1, B => (pOne B).bind fun x => (pOnes n x.2).bind fun y => some (x.1 :: y.1, y.2)
def pLast (n : Int) (B : List Int) : Option Int := (pN 1 B).bind fun g => if (g.1 < n ∨ g.1 = 255) ∧ g.2 = [] then some (if g.1 = 255 then -1 else g.1) else none
def pMod (b : List Int) : Option api_Module := if b.length > 2000 then none else
 (pPool b).bind fun G => if G.1.length > 4 then none else (pPool G.2).bind fun P => (pN 1 P.2).bind fun n => if n.1 > 16 then none else (pOnes n.1.toNat n.2).bind fun M => (pLast n.1 M.2).bind fun g => some ⟨G.1, P.1, M.1, g⟩
abbrev Wz : api_Module := ⟨[], [], [], 0⟩
theorem pj2_err {b : List Int} {t22 : (List api_Value) × Int × Int} {e g : Int} {P : List api_Value} {M : List api_Method} (he : e ≠ 0) : module_Parse.j2 b t22 e P M g = some (.inr (Wz, e)) := by
 unfold module_Parse.j2; rw [if_pos he]
def ToldM (o : Option api_Module) (r : api_Module × Int) : Prop := match o with
 | some x => r = (x, 0)
 | none => r.1 = Wz ∧ r.2 ≠ 0
theorem ones_run {b : List Int} (hbt : Byt b) (hbl : b.length ≤ 3000) {t22 t29 : (List api_Value) × Int × Int} {t34 : Int × Int × Int} : ∀ (n : Nat) (B : List Int) (j : Nat) (l : List api_Method), On b B → t34.1 = ((j + n : Nat) : Int) → j + n ≤ 16 → l.length = j →
    ∃ r, runF (module_Parse.F b) (.l1 t22 t29 t34 (j : Int) 0 (pos b B) l) = some r ∧ ToldM ((pOnes n B).bind fun M => (pLast t34.1 M.2).bind fun g => some ⟨t22.1, t29.1, l ++ M.1, g⟩) r := by
 intro n
 induction n with
 | zero =>
  intro B j l h h1 h2 hl
  unfold pOnes
  simp only [Option.bind_some]
  rw [List.append_nil]
  have st : ∀ q, ((octet_Get.f b (pos b B) 1).bind fun t92 => if ((decide (t92.2.2 = 0)) && (!((decide (t92.1 < t34.1)) || (decide (t92.1 = 255))))) = true then (module_Parse.j2 b t22 80 t29.1 l t92.1) else (if ((decide (t92.2.2 = 0)) && (!(decide (t92.2.1 = (b.length : Int))))) = true then (module_Parse.j2 b t22 80 t29.1 l t92.1) else (if t92.2.2 ≠ 0 then (module_Parse.j2 b t22 t92.2.2 t29.1 l t92.1) else (module_Parse.j2 b t22 t92.2.2 t29.1 l t92.1)))) = q → module_Parse.F b (.l1 t22 t29 t34 (j : Int) 0 (pos b B) l) = q := fun q hq => by
   dsimp only [module_Parse.F]
   rw [if_neg (by simp; omega), if_neg (by simp)]; exact hq
  unfold pLast
  rcases pN_cases h (w := 1) (by omega) (by omega) with ⟨g, B1, e1, o1, b0, b1, g1⟩ | ⟨e1, g1⟩
  ·rw [e1]; simp only [Option.bind_some]
   have g1 : octet_Get.f b (pos b B) 1 = some (g, pos b B1, 0) := g1
   have hB : pos b B1 = (b.length : Int) ↔ B1 = [] := by
    unfold pos
    constructor
    ·intro hh; exact List.eq_nil_of_length_eq_zero (by omega)
    ·rintro rfl; simp
   by_cases hg : g < t34.1 ∨ g = 255
   ·by_cases hb : B1 = []
    ·rw [if_pos ⟨hg, hb⟩]
     simp only [Option.bind_some]
     refine ⟨_, runF_end (st _ ?_), rfl⟩
     rw [g1]; simp only [Option.bind_some]
     rw [if_neg (by simp; omega), if_neg (by simp [hB.2 hb]), if_neg (by simp)]
     unfold module_Parse.j2 module_Parse.j3
     rw [if_neg (by simp)]
     by_cases h255 : g = 255
     ·rw [if_pos h255, if_pos h255]
     ·rw [if_neg h255, if_neg h255]
    ·rw [if_neg (fun z => hb z.2)]
     refine ⟨(Wz, 80), runF_end (st _ ?_), rfl, by simp⟩
     have : ¬ pos b B1 = (b.length : Int) := fun z => hb (hB.1 z)
     rw [g1]; simp only [Option.bind_some]
     rw [if_neg (by simp; omega), if_pos (by simp [this]), pj2_err (by omega)]
   ·rw [if_neg (fun z => hg z.1)]
    refine ⟨(Wz, 80), runF_end (st _ ?_), rfl, by simp⟩
    rw [g1]; simp only [Option.bind_some]
    rw [if_pos (by simp; omega), pj2_err (by omega)]
  ·rw [e1]
   refine ⟨(Wz, 10), runF_end (st _ ?_), rfl, by simp⟩
   rw [show octet_Get.f b (pos b B) 1 = _ from g1]; simp only [Option.bind_some]
   rw [if_neg (by simp), if_neg (by simp), if_pos (by simp), pj2_err (by omega)]
 | succ n ih =>
  intro B j l h h1 h2 hl
  unfold pOnes
  obtain ⟨r, r1, r2⟩ := p_one h
  have st : module_Parse.F b (.l1 t22 t29 t34 (j : Int) 0 (pos b B) l) = some (.inl (.l1 t22 t29 t34 ((j + 1 : Nat) : Int) r.2.2 r.2.1 (l ++ [r.1]))) := by
   dsimp only [module_Parse.F]
   rw [if_pos (by simp; omega), r1]; simp only [Option.bind_some]
   rw [if_pos (by simp; omega), wrap_succ j (by omega)]
  rw [runF_step st]
  cases ho : pOne B with
  | none =>
   rw [ho] at r2
   have r2 : r.2.2 ≠ 0 := r2
   refine ⟨(Wz, r.2.2), runF_end ?_, rfl, r2⟩
   dsimp only [module_Parse.F]
   rw [if_neg (by simp [r2]), if_pos r2, pj2_err r2]
  | some z =>
   obtain ⟨x, B1⟩ := z
   rw [ho] at r2
   obtain ⟨rfl, o1⟩ := r2
   simp only [Option.bind_some]
   obtain ⟨q, q1, q2⟩ := ih B1 (j + 1) (l ++ [x]) o1 (by omega) (by omega) (by simp [hl])
   refine ⟨q, q1, ?_⟩
   cases hp : pOnes n B1 with
   | none => rw [hp] at q2; exact q2
   | some z => rw [hp] at q2; simpa using q2
theorem p_parse {b : List Int} (hbt : Byt b) (hbl : b.length ≤ 3000) : ∃ r, module_Parse.f b = some r ∧ ToldM (pMod b) r := by
 unfold module_Parse.f pMod
 by_cases h2 : b.length > 2000
 ·rw [if_pos h2]
  refine ⟨(Wz, 3), runF_end ?_, rfl, by simp⟩
  dsimp only [module_Parse.F]; rw [if_pos (by omega)]
 rw [if_neg h2]
 have h : On b b := ⟨List.suffix_refl _, hbt, hbl⟩
 have h0 : pos b b = 0 := by unfold pos; omega
 obtain ⟨r, r1, r2⟩ := p_pRead h
 rw [h0] at r1
 have no : ∀ e : Int, e ≠ 0 → module_Parse.F b .start = some (.inr (Wz, e)) → ∃ r, runF (module_Parse.F b) .start = some r ∧ ToldM none r := fun e he hf => ⟨_, runF_end hf, rfl, he⟩
 have s1 : ∀ q, (if ((decide (r.2.2 = 0)) && (!(decide ((r.1.length : Int) ≤ 4)))) = true then (module_Parse.j2 b r 80 [] [] 0) else (if r.2.2 ≠ 0 then (module_Parse.j2 b r r.2.2 [] [] 0) else ((pool_Read.f b r.2.1).bind fun t29 => if t29.2.2 ≠ 0 then (module_Parse.j2 b r t29.2.2 t29.1 [] 0) else ((octet_Get.f b t29.2.1 1).bind fun t34 => if ((decide (t34.2.2 = 0)) && (!(decide (t34.1 ≤ 16)))) = true then (module_Parse.j2 b r 80 t29.1 [] 0) else (if t34.2.2 ≠ 0 then (module_Parse.j2 b r t34.2.2 t29.1 [] 0) else (some (.inl (.l1 r t29 t34 0 t34.2.2 t34.2.1 [])))))))) = q → module_Parse.F b .start = q := fun q hq => by
  dsimp only [module_Parse.F]
  rw [if_neg (by omega), r1]; simp only [Option.bind_some]
  exact hq
 cases hG : pPool b with
 | none =>
  rw [hG] at r2
  have r2 : r.2.2 ≠ 0 := r2
  exact no _ r2 (s1 _ (by rw [if_neg (by simp [r2]), if_pos r2, pj2_err r2]))
 | some z =>
 obtain ⟨G, B1⟩ := z
 rw [hG] at r2
 obtain ⟨rfl, o1⟩ := r2
 simp only [Option.bind_some]
 by_cases h4 : G.length > 4
 ·rw [if_pos h4]
  exact no 80 (by omega) (s1 _ (by rw [if_pos (by simp; omega), pj2_err (by omega)]))
 rw [if_neg h4]
 have hG4 : ¬ (((decide ((0 : Int) = 0)) && (!(decide ((G.length : Int) ≤ 4)))) = true) := by simp; omega
 obtain ⟨p, p1, p2⟩ := p_pRead o1
 cases hP : pPool B1 with
 | none =>
  rw [hP] at p2
  have p2 : p.2.2 ≠ 0 := p2
  exact no _ p2 (s1 _ (by
   dsimp only
   rw [if_neg hG4, if_neg (by simp), p1]; simp only [Option.bind_some]
   rw [if_pos p2, pj2_err p2]))
 | some z =>
 obtain ⟨P, B2⟩ := z
 rw [hP] at p2
 obtain ⟨rfl, o2⟩ := p2
 simp only [Option.bind_some]
 rcases pN_cases o2 (w := 1) (by omega) (by omega) with ⟨n, B3, e3, o3, b0, b1, g3⟩ | ⟨e3, g3⟩
 case inr =>
  rw [e3]
  exact no 10 (by omega) (s1 _ (by
   dsimp only
   rw [if_neg hG4, if_neg (by simp), p1]; simp only [Option.bind_some]
   rw [if_neg (by simp), show octet_Get.f b (pos b B2) 1 = _ from g3]; simp only [Option.bind_some]
   rw [if_neg (by simp), if_pos (by simp), pj2_err (by omega)]))
 rw [e3]; simp only [Option.bind_some]
 by_cases h16 : n > 16
 ·rw [if_pos h16]
  exact no 80 (by omega) (s1 _ (by
   dsimp only
   rw [if_neg hG4, if_neg (by simp), p1]; simp only [Option.bind_some]
   rw [if_neg (by simp), show octet_Get.f b (pos b B2) 1 = _ from g3]; simp only [Option.bind_some]
   rw [if_pos (by simp; omega), pj2_err (by omega)]))
 rw [if_neg h16]
 obtain ⟨q, q1, q2⟩ := ones_run hbt hbl (t22 := (G, pos b B1, 0)) (t29 := (P, pos b B2, 0)) (t34 := (n, pos b B3, 0)) n.toNat B3 0 [] o3 (by simp; omega) (by omega) rfl
 refine ⟨q, Eq.trans (runF_step (s1 _ ?_)) q1, ?_⟩
 ·dsimp only
  rw [if_neg hG4, if_neg (by simp), p1]; simp only [Option.bind_some]
  rw [if_neg (by simp), show octet_Get.f b (pos b B2) 1 = _ from g3]; simp only [Option.bind_some]
  rw [if_neg (by simp; omega), if_neg (by simp)]; rfl
 ·simpa using q2
end VerifyPure
namespace VerifyPure
open FlowPure TypesPure CallsPure CostPure
def vB (v : api_Value) : List Int := v.Kind :: (if v.Kind = 1 then le 8 v.A else le 3 (v.A + 1048576) ++ le 3 (v.B + 1048576))
theorem pow3 : (256 : Int) ^ 3 = 16777216 := rfl
theorem pow2 : (256 : Int) ^ 2 = 65536 := rfl
theorem pow8 : (256 : Int) ^ 8 = 18446744073709551616 := rfl
theorem shr_div {n : Int} {w : Nat} (hw : w < 8) : shrI .i64 n (8 * (w : Int)) = n / 256 ^ w := by
 unfold shrI
 have e : min (8 * (w : Int)).toNat IntKind.i64.bits = 8 * w := by have : IntKind.i64.bits = 64 := rfl; omega
 rw [e, Int.fdiv_eq_ediv_of_nonneg _ (Int.le_of_lt (Int.pow_pos (by omega))), Int.pow_mul]; rfl
theorem fB_iff {n : Int} {w : Nat} (hw : w < 8) : fB w n = true ↔ 0 ≤ n ∧ n < 256 ^ w := by
 unfold fB
 rw [shr_div hw]
 have hp := pow_pos w
 have h8 : decide (w = 8) = false := by rw [decide_eq_false_iff_not]; omega
 rw [h8, Bool.false_or, Bool.and_eq_true, decide_eq_true_eq, decide_eq_true_eq]
 refine ⟨fun ⟨a, b⟩ => ⟨a, ?_⟩, fun ⟨a, b⟩ => ⟨a, Int.ediv_eq_zero_of_lt a b⟩⟩
 have := Int.lt_mul_ediv_self_add (x := n) (k := 256 ^ w) (by omega)
 rw [b] at this
 omega
theorem putC_ok {n : Int} {w : Nat} (hw : w < 8) (h0 : 0 ≤ n) (h1 : n < 256 ^ w) : putC w n = (le w n, 0) := by
 unfold putC
 rw [if_pos ((fB_iff hw).2 ⟨h0, h1⟩), spr_le w n (by omega)]
theorem wfV {v : api_Value} (h : wf_api_Value v) : 0 ≤ v.Kind ∧ v.Kind < 256 ∧ -9223372036854775808 ≤ v.A ∧ v.A < 9223372036854775808 ∧ -9223372036854775808 ≤ v.B ∧ v.B < 9223372036854775808 := by
 obtain ⟨a, b, c⟩ := h
 simp [Lit.wf, IntKind.min, IntKind.max, IntKind.signed, IntKind.bits] at a b c
 omega
theorem wfV_of {v : api_Value} (h : 0 ≤ v.Kind ∧ v.Kind < 256 ∧ -9223372036854775808 ≤ v.A ∧ v.A < 9223372036854775808 ∧ -9223372036854775808 ≤ v.B ∧ v.B < 9223372036854775808) : wf_api_Value v := by
 refine ⟨?_, ?_, ?_⟩ <;> simp [Lit.wf, IntKind.min, IntKind.max, IntKind.signed, IntKind.bits] <;> omega
theorem vMay_cases {v : api_Value} (h : vMay v = true) : (v.Kind = 1 ∧ v.B = 0) ∨ (v.Kind = 2 ∧ (-1048576 ≤ v.A ∧ v.A ≤ 1048576) ∧ -1048576 ≤ v.B ∧ v.B ≤ 1048576) := by
 unfold vMay at h
 simp only [Bool.or_eq_true, Bool.and_eq_true, decide_eq_true_eq] at h
 exact h
theorem vBytes_vB {v : api_Value} (h : vMay v = true) : vBytes v = (vB v, 0) := by
 unfold vBytes vB
 rw [if_neg (by rw [h]; simp)]
 rcases vMay_cases h with ⟨hk, -⟩ | ⟨hk, ha, hb⟩
 ·rw [if_pos hk, if_pos hk, spr_le 8 v.A (by omega)]; rfl
 ·rw [if_neg (show ¬ v.Kind = 1 by omega), if_neg (show ¬ v.Kind = 1 by omega), wrap_id (x := v.A + 1048576) (by omega) (by omega), wrap_id (x := v.B + 1048576) (by omega) (by omega), putC_ok (w := 3) (by omega) (by omega) (by rw [pow3]; omega), putC_ok (w := 3) (by omega) (by omega) (by rw [pow3]; omega), if_neg (by simp), if_neg (by simp)]; rfl
theorem pN_app {l R : List Int} : pN l.length (l ++ R) = some (num l, R) := by
 unfold pN
 rw [if_neg (by simp), List.take_left, List.drop_left]
theorem pN_le {w : Nat} {n : Int} {R : List Int} : pN w (le w n ++ R) = some (n % 256 ^ w, R) := by
 have := pN_app (l := le w n) (R := R)
 rwa [le_len, num_le] at this
theorem pN_one {k : Int} {R : List Int} : pN 1 (k :: R) = some (k, R) := by
 have := pN_app (l := [k]) (R := R)
 simpa [num] using this
theorem i64_wrap {x : Int} (h0 : -9223372036854775808 ≤ x) (h1 : x < 9223372036854775808) : IntKind.i64.wrap (x % 18446744073709551616) = x := by
 have e1 := wrap_mod (k := .i64) rfl (x % 18446744073709551616)
 have e2 : -9223372036854775808 ≤ IntKind.i64.wrap (x % 18446744073709551616) ∧ IntKind.i64.wrap (x % 18446744073709551616) < 9223372036854775808 := by
  unfold IntKind.wrap
  rw [show IntKind.i64.bits = 64 from rfl, show (2 : Int) ^ 64 = 18446744073709551616 from rfl, show (2 : Int) ^ (64 - 1) = 9223372036854775808 from rfl, show IntKind.i64.signed = true from rfl]
  dsimp only
  split
  ·rename_i h; simp at h; omega
  ·rename_i h; simp at h; omega
 omega
theorem i64_rng (x : Int) : -9223372036854775808 ≤ IntKind.i64.wrap x ∧ IntKind.i64.wrap x < 9223372036854775808 := by
 unfold IntKind.wrap
 rw [show IntKind.i64.bits = 64 from rfl, show (2 : Int) ^ 64 = 18446744073709551616 from rfl, show (2 : Int) ^ (64 - 1) = 9223372036854775808 from rfl, show IntKind.i64.signed = true from rfl]
 dsimp only
 split
 ·rename_i h; simp at h; omega
 ·rename_i h; simp at h; omega
theorem pVal_to {v : api_Value} (hw : wf_api_Value v) (h : vMay v = true) (R : List Int) : pVal (vB v ++ R) = some (v, R) := by
 have w := wfV hw
 obtain ⟨k, a, c⟩ := v
 unfold pVal vB
 rw [List.cons_append, pN_one]
 dsimp only at *
 rcases vMay_cases h with ⟨hk, hb⟩ | ⟨hk, ha, hb⟩
 ·dsimp only at hk hb
  subst hk hb
  have hl := le_len 8 a
  rw [if_pos rfl, if_pos rfl, if_neg (by rw [List.length_append, hl]; omega), List.take_left' hl, List.drop_left' hl, num_le, pow8, i64_wrap w.2.2.1 w.2.2.2.1]
 ·dsimp only at hk ha hb
  subst hk
  have hl := le_len 3 (a + 1048576)
  have hl2 := le_len 3 (c + 1048576)
  rw [if_neg (show ¬ (2 : Int) = 1 by omega), if_neg (show ¬ (2 : Int) = 1 by omega), if_pos rfl, if_neg (by rw [List.length_append, List.length_append, hl, hl2]; omega), List.append_assoc, List.take_left' hl, List.drop_left' hl, List.take_left' hl2, List.drop_left' hl2, num_le, num_le, pow3, Int.emod_eq_of_lt (by omega) (by omega), Int.emod_eq_of_lt (by omega) (by omega), Int.add_sub_cancel, Int.add_sub_cancel]
  unfold mid
  rw [if_pos ⟨decide_eq_true ha, decide_eq_true hb⟩]
theorem le_take {B : List Int} {w : Nat} (hb : Byt B) (h : w ≤ B.length) : le w (num (B.take w)) = B.take w := by
 have := le_num (B.take w) (byt_take hb w)
 rwa [List.length_take, Nat.min_eq_left h] at this
theorem pN_from {w : Nat} {B R : List Int} {n : Int} (hb : Byt B) (h : pN w B = some (n, R)) : B = le w n ++ R ∧ Byt R ∧ 0 ≤ n ∧ n < 256 ^ w := by
 unfold pN at h
 split at h
 ·cases h
 ·rename_i hc
  obtain ⟨rfl, rfl⟩ := Prod.mk.inj (Option.some.inj h)
  have hn := num_bd _ (byt_take hb w)
  rw [List.length_take, Nat.min_eq_left (by omega)] at hn
  exact ⟨by rw [le_take hb (by omega), List.take_append_drop], fun x hx => hb x (List.mem_of_mem_drop hx), hn.1, hn.2⟩
theorem le1 {n : Int} (h0 : 0 ≤ n) (h1 : n < 256) : le 1 n = [n] := by
 unfold le le; rw [Int.emod_eq_of_lt h0 h1]
theorem pVal_from {B R : List Int} {v : api_Value} (hb : Byt B) (h : pVal B = some (v, R)) : B = vB v ++ R ∧ vMay v = true ∧ wf_api_Value v ∧ Byt R := by
 unfold pVal at h
 cases h1 : pN 1 B with
 | none => rw [h1] at h; cases h
 | some z =>
  obtain ⟨k, B1⟩ := z
  rw [h1] at h
  obtain ⟨e1, b1, k0, k1⟩ := pN_from hb h1
  rw [le1 k0 (by simpa using k1)] at e1
  dsimp only at h
  split at h
  ·rename_i hk
   split at h
   ·cases h
   ·obtain ⟨rfl, rfl⟩ := Prod.mk.inj (Option.some.inj h)
    have hw := i64_rng (num (B1.take 8))
    have hm := wrap_mod (k := .i64) rfl (num (B1.take 8))
    refine ⟨?_, by unfold vMay; simp, wfV_of (by dsimp only; omega), fun x hx => b1 x (List.mem_of_mem_drop hx)⟩
    unfold vB
    dsimp only
    rw [if_pos rfl, ← le_mod 8, pow8, hm, ← pow8, le_mod, le_take b1 (by omega), e1, hk]
    simp
  ·split at h
   ·rename_i hk
    split at h
    ·cases h
    ·split at h
     ·rename_i hm
      obtain ⟨rfl, rfl⟩ := Prod.mk.inj (Option.some.inj h)
      unfold mid at hm
      simp only [decide_eq_true_eq] at hm
      have b2 : Byt (B1.drop 3) := fun x hx => b1 x (List.mem_of_mem_drop hx)
      refine ⟨?_, by unfold vMay; simp; omega, wfV_of (by dsimp only; omega), fun x hx => b2 x (List.mem_of_mem_drop hx)⟩
      unfold vB
      dsimp only
      rw [if_neg (by omega), Int.sub_add_cancel, Int.sub_add_cancel, le_take b1 (by omega), le_take b2 (by rw [List.length_drop]; omega), e1, hk]
      show 2 :: B1 = 2 :: ((B1.take 3 ++ (B1.drop 3).take 3) ++ (B1.drop 3).drop 3)
      rw [List.append_assoc, List.take_append_drop, List.take_append_drop]
     ·cases h
   ·cases h
def fl {α : Type} (f : α → List Int) : List α → List Int
 | [] => []
 | x :: l => f x ++ fl f l
theorem pVals_to : ∀ (l : List api_Value) (R : List Int), (∀ v ∈ l, wf_api_Value v ∧ vMay v = true) → pVals l.length (fl vB l ++ R) = some (l, R)
 | [], _, _ => rfl
 | v :: l, R, h => by
  have hv := h v (by simp)
  rw [List.length_cons, pVals, fl, List.append_assoc, pVal_to hv.1 hv.2]
  dsimp only
  rw [pVals_to l R fun x hx => h x (by simp [hx])]
theorem pVals_from : ∀ (n : Nat) (B R : List Int) (l : List api_Value), Byt B → pVals n B = some (l, R) → l.length = n ∧ B = fl vB l ++ R ∧ (∀ v ∈ l, wf_api_Value v ∧ vMay v = true) ∧ Byt R
 | 0, B, R, l, hb, h => by
  obtain ⟨rfl, rfl⟩ := Prod.mk.inj (Option.some.inj h)
  exact ⟨rfl, rfl, (fun v hv => by cases hv), hb⟩
 | n + 1, B, R, l, hb, h => by
  unfold pVals at h
  cases h1 : pVal B with
  | none => rw [h1] at h; cases h
  | some z =>
   obtain ⟨v, B1⟩ := z
   rw [h1] at h
   dsimp only at h
   obtain ⟨e1, m1, w1, b1⟩ := pVal_from hb h1
   cases h2 : pVals n B1 with
   | none => rw [h2] at h; cases h
   | some z =>
    obtain ⟨l2, B2⟩ := z
    rw [h2] at h
    obtain ⟨rfl, rfl⟩ := Prod.mk.inj (Option.some.inj h)
    obtain ⟨q1, q2, q3, q4⟩ := pVals_from n B1 B2 l2 b1 h2
    refine ⟨by simp [q1], by rw [e1, q2, fl, List.append_assoc], fun x hx => ?_, q4⟩
    rcases List.mem_cons.1 hx with rfl | hx
    ·exact ⟨w1, m1⟩
    ·exact q3 x hx
def pB (l : List api_Value) : List Int := (l.length : Int) :: fl vB l
def PoolOk (l : List api_Value) : Prop := l.length ≤ 32 ∧ ∀ v ∈ l, wf_api_Value v ∧ vMay v = true
theorem pPool_to {l : List api_Value} (h : PoolOk l) (R : List Int) : pPool (pB l ++ R) = some (l, R) := by
 unfold pPool pB
 rw [List.cons_append, pN_one]
 dsimp only
 rw [if_neg (by have := h.1; omega), Int.toNat_natCast, pVals_to l R h.2]
theorem pPool_from {B R : List Int} {l : List api_Value} (hb : Byt B) (h : pPool B = some (l, R)) : B = pB l ++ R ∧ PoolOk l ∧ Byt R := by
 unfold pPool at h
 cases h1 : pN 1 B with
 | none => rw [h1] at h; cases h
 | some z =>
  obtain ⟨k, B1⟩ := z
  rw [h1] at h
  obtain ⟨e1, b1, k0, k1⟩ := pN_from hb h1
  rw [le1 k0 (by simpa using k1)] at e1
  dsimp only at h
  split at h
  ·cases h
  ·obtain ⟨q1, q2, q3, q4⟩ := pVals_from _ _ _ _ b1 h
   exact ⟨by unfold pB; rw [e1, q2, q1, show ((k.toNat : Nat) : Int) = k by omega]; rfl, ⟨by omega, q3⟩, q4⟩
theorem pLoop_vB : ∀ (l : List api_Value) (o : List Int), (∀ v ∈ l, vMay v = true) → pLoop l o = (o ++ fl vB l, 0)
 | [], o, _ => by simp [pLoop, fl]
 | v :: l, o, h => by
  rw [pLoop, vBytes_vB (h v (by simp)), if_neg (by simp), pLoop_vB l _ fun x hx => h x (by simp [hx]), fl, List.append_assoc]
theorem pBytes_ok {l : List api_Value} (h : PoolOk l) : pBytes l = (pB l, 0) := by
 unfold pBytes pB
 have : pMay l = true := by
  unfold pMay
  rw [decide_eq_true h.1, Bool.true_and, Bool.not_eq_true', List.any_eq_false]
  exact fun v hv => by simp [(h.2 v hv).2]
 rw [if_neg (by rw [this]; simp), pLoop_vB l _ fun v hv => (h.2 v hv).2, u8_wrap, Int.emod_eq_of_lt (by omega) (by have := h.1; omega)]; rfl
theorem pBytes_may {l : List api_Value} (hw : ∀ v ∈ l, wf_api_Value v) (h : (pBytes l).2 = 0) : PoolOk l := by
 unfold pBytes at h
 cases hm : pMay l with
 | false => rw [hm] at h; simp at h
 | true =>
  unfold pMay at hm
  rw [Bool.and_eq_true, decide_eq_true_eq, Bool.not_eq_true', List.any_eq_false] at hm
  exact ⟨hm.1, fun v hv => ⟨hw v hv, by have := hm.2 v hv; simpa using this⟩⟩
end VerifyPure
namespace VerifyPure
open FlowPure TypesPure CallsPure CostPure
theorem pR_le {w : Nat} {n lo hi : Int} {R : List Int} (h0 : 0 ≤ n) (h1 : n < 256 ^ w) (hl : lo ≤ n) (hh : n ≤ hi) : pR w lo hi (le w n ++ R) = some (n, R) := by
 unfold pR
 rw [pN_le, Option.bind_some, Int.emod_eq_of_lt h0 h1, if_pos ⟨hl, hh⟩]
theorem pR_one {n lo hi : Int} {R : List Int} (hl : lo ≤ n) (hh : n ≤ hi) : pR 1 lo hi (n :: R) = some (n, R) := by
 unfold pR
 rw [pN_one, Option.bind_some, if_pos ⟨hl, hh⟩]
theorem pR_from {w : Nat} {lo hi n : Int} {B R : List Int} (hb : Byt B) (h : pR w lo hi B = some (n, R)) : B = le w n ++ R ∧ Byt R ∧ lo ≤ n ∧ n ≤ hi ∧ 0 ≤ n ∧ n < 256 ^ w := by
 unfold pR at h
 cases h1 : pN w B with
 | none => rw [h1] at h; cases h
 | some z =>
  rw [h1, Option.bind_some] at h
  split at h
  ·rename_i hr
   obtain rfl := Option.some.inj h
   obtain ⟨a, b, c, d⟩ := pN_from hb h1
   exact ⟨a, b, hr.1, hr.2, c, d⟩
  ·cases h
theorem pR1_from {lo hi n : Int} {B R : List Int} (hb : Byt B) (h : pR 1 lo hi B = some (n, R)) : B = n :: R ∧ Byt R ∧ lo ≤ n ∧ n ≤ hi ∧ 0 ≤ n ∧ n < 256 := by
 obtain ⟨a, b, c, d, e, f⟩ := pR_from hb h
 have f : n < 256 := by simpa using f
 rw [le1 e f] at a
 exact ⟨a, b, c, d, e, f⟩
theorem pKs_to : ∀ (l : List Int) (R : List Int), (∀ k ∈ l, 1 ≤ k ∧ k ≤ 3) → pKs l.length (l ++ R) = some (l, R)
 | [], _, _ => rfl
 | k :: l, R, h => by
  have hk := h k (by simp)
  rw [List.length_cons, pKs, List.cons_append, pR_one hk.1 hk.2, Option.bind_some]
  dsimp only
  rw [pKs_to l R fun x hx => h x (by simp [hx])]; rfl
theorem pKs_from : ∀ (n : Nat) (B R l : List Int), Byt B → pKs n B = some (l, R) → l.length = n ∧ B = l ++ R ∧ (∀ k ∈ l, 1 ≤ k ∧ k ≤ 3) ∧ Byt R
 | 0, B, R, l, hb, h => by
  obtain ⟨rfl, rfl⟩ := Prod.mk.inj (Option.some.inj h)
  exact ⟨rfl, rfl, (fun v hv => by cases hv), hb⟩
 | n + 1, B, R, l, hb, h => by
  unfold pKs at h
  cases h1 : pR 1 1 3 B with
  | none => rw [h1] at h; cases h
  | some z =>
   obtain ⟨k, B1⟩ := z
   rw [h1, Option.bind_some] at h
   obtain ⟨e1, b1, k1, k2, -, -⟩ := pR1_from hb h1
   cases h2 : pKs n B1 with
   | none => dsimp only at h; rw [h2] at h; cases h
   | some z =>
    obtain ⟨l2, B2⟩ := z
    dsimp only at h
    rw [h2, Option.bind_some] at h
    obtain ⟨rfl, rfl⟩ := Prod.mk.inj (Option.some.inj h)
    obtain ⟨q1, q2, q3, q4⟩ := pKs_from n B1 B2 l2 b1 h2
    refine ⟨by simp [q1], by rw [e1, q2]; rfl, fun x hx => ?_, q4⟩
    rcases List.mem_cons.1 hx with rfl | hx
    ·exact ⟨k1, k2⟩
    ·exact q3 x hx
def rdI (x : api_Method) : Int := if x.Reads = true then 1 else 0
def mB (x : api_Method) : List Int := (x.Args.length : Int) :: (x.Args ++ ((x.Locals.length : Int) :: (x.Locals ++ (x.Result :: rdI x :: (le 3 x.Fuel ++ (le 2 x.Stack ++ le 2 x.Heap))))))
structure HeadOk (x : api_Method) : Prop where
 a : x.Args.length ≤ 4
 l : x.Args.length + x.Locals.length ≤ 16
 r : x.Result = 1 ∨ x.Result = 2
 ka : ∀ k ∈ x.Args, 1 ≤ k ∧ k ≤ 3
 kl : ∀ k ∈ x.Locals, 1 ≤ k ∧ k ≤ 3
 f : 0 ≤ x.Fuel ∧ x.Fuel ≤ 1048576
 s : 0 ≤ x.Stack ∧ x.Stack ≤ 256
 h : 0 ≤ x.Heap ∧ x.Heap ≤ 1024
theorem loc_iff {k : Int} : loc k = true ↔ 1 ≤ k ∧ k ≤ 3 := by
 unfold loc vMay
 simp
 omega
theorem mMay_iff {x : api_Method} : mMay x = true ↔ HeadOk x := by
 unfold mMay
 constructor
 ·intro h
  split at h
  ·cases h
  ·rename_i h1
   split at h
   ·cases h
   ·rename_i h2
    simp only [decide_eq_true_eq] at h
    have hk : ∀ k ∈ x.Args ++ x.Locals, 1 ≤ k ∧ k ≤ 3 := fun k hk => by
     have := List.any_eq_false.1 (Bool.eq_false_iff.2 h2) k hk
     exact loc_iff.1 (by simpa using this)
    exact ⟨by omega, by omega, by omega, fun k h => hk k (by simp [h]), fun k h => hk k (by simp [h]), h.1, h.2.1, h.2.2⟩
 ·intro H
  have h1 := H.a; have h2 := H.l; have h3 := H.r
  rw [if_neg (by omega), if_neg (by
   rw [Bool.not_eq_true, List.any_eq_false]
   intro k hk
   have : loc k = true := loc_iff.2 ((List.mem_append.1 hk).elim (H.ka k) (H.kl k))
   simp [this])]
  exact decide_eq_true ⟨H.f, H.s, H.h⟩
theorem pMeth_to {x : api_Method} (H : HeadOk x) (R : List Int) : pMeth (mB x ++ R) = some ({ x with Code := [] }, R) := by
 have h1 := H.a; have h2 := H.l; have h3 := H.r
 unfold pMeth mB
 simp only [List.cons_append, List.append_assoc]
 rw [pR_one (by omega) (by omega), Option.bind_some]
 dsimp only
 rw [Int.toNat_natCast, pKs_to _ _ H.ka, Option.bind_some]
 dsimp only
 rw [pR_one (by omega) (by omega), Option.bind_some]
 dsimp only
 rw [Int.toNat_natCast, pKs_to _ _ H.kl, Option.bind_some]
 dsimp only
 rw [pR_one (by omega) (by omega), Option.bind_some]
 dsimp only
 have hr : 0 ≤ rdI x ∧ rdI x ≤ 1 ∧ decide (rdI x = 1) = x.Reads := by unfold rdI; cases x.Reads <;> simp
 rw [pR_one hr.1 hr.2.1, Option.bind_some]
 dsimp only
 have f := H.f; have s := H.s; have hh := H.h
 rw [pR_le f.1 (by rw [pow3]; omega) f.1 f.2, Option.bind_some]
 dsimp only
 rw [pR_le s.1 (by rw [pow2]; omega) s.1 s.2, Option.bind_some]
 dsimp only
 rw [pR_le hh.1 (by rw [pow2]; omega) hh.1 hh.2, Option.bind_some, hr.2.2]
theorem bindE {α β : Type} {o : Option α} {f : α → Option β} {z : β} (h : o.bind f = some z) : ∃ a, o = some a ∧ f a = some z := by
 cases o with
 | none => cases h
 | some a => exact ⟨a, rfl, h⟩
theorem pMeth_from {B R : List Int} {x : api_Method} (hb : Byt B) (h : pMeth B = some (x, R)) : B = mB x ++ R ∧ HeadOk x ∧ x.Code = [] ∧ Byt R := by
 unfold pMeth at h
 obtain ⟨⟨a, B1⟩, h1, h⟩ := bindE h
 obtain ⟨⟨aa, B2⟩, h2, h⟩ := bindE h
 obtain ⟨⟨l, B3⟩, h3, h⟩ := bindE h
 obtain ⟨⟨ls, B4⟩, h4, h⟩ := bindE h
 obtain ⟨⟨re, B5⟩, h5, h⟩ := bindE h
 obtain ⟨⟨rd, B6⟩, h6, h⟩ := bindE h
 obtain ⟨⟨fu, B7⟩, h7, h⟩ := bindE h
 obtain ⟨⟨st, B8⟩, h8, h⟩ := bindE h
 obtain ⟨⟨he, B9⟩, h9, h⟩ := bindE h
 dsimp only at *
 obtain ⟨rfl, rfl⟩ := Prod.mk.inj (Option.some.inj h)
 obtain ⟨e1, b1, -, g1, z1, -⟩ := pR1_from hb h1
 obtain ⟨q2, e2, k2, b2⟩ := pKs_from _ _ _ _ b1 h2
 obtain ⟨e3, b3, -, g3, z3, -⟩ := pR1_from b2 h3
 obtain ⟨q4, e4, k4, b4⟩ := pKs_from _ _ _ _ b3 h4
 obtain ⟨e5, b5, l5, g5, z5, -⟩ := pR1_from b4 h5
 obtain ⟨e6, b6, l6, g6, z6, -⟩ := pR1_from b5 h6
 obtain ⟨e7, b7, l7, g7, -, -⟩ := pR_from b6 h7
 obtain ⟨e8, b8, l8, g8, -, -⟩ := pR_from b7 h8
 obtain ⟨e9, b9, l9, g9, -, -⟩ := pR_from b8 h9
 refine ⟨?_, ⟨by dsimp only; omega, by dsimp only; omega, by dsimp only; omega, k2, k4, ⟨l7, g7⟩, ⟨l8, g8⟩, ⟨l9, g9⟩⟩, rfl, b9⟩
 unfold mB rdI
 dsimp only
 have hrd : (if decide (rd = 1) = true then (1 : Int) else 0) = rd := by
  by_cases h : rd = 1
  ·simp [h]
  ·rw [if_neg (by simpa using h)]; omega
 rw [hrd, e1, e2, e3, e4, e5, e6, e7, e8, e9, q2, q4, Int.toNat_of_nonneg z1, Int.toNat_of_nonneg z3]
 simp only [List.cons_append, List.append_assoc]
theorem mBytes_ok {x : api_Method} (H : HeadOk x) : mBytes x = (mB x, 0) := by
 have h1 := H.a; have h2 := H.l; have f := H.f; have s := H.s; have hh := H.h
 unfold mBytes mTail
 rw [if_neg (by rw [mMay_iff.2 H]; simp), putC_ok (w := 3) (by omega) f.1 (by rw [pow3]; omega), putC_ok (w := 2) (by omega) s.1 (by rw [pow2]; omega), putC_ok (w := 2) (by omega) hh.1 (by rw [pow2]; omega), if_neg (by simp), if_neg (by simp), if_neg (by simp)]
 unfold mHead mB rdI
 rw [u8_wrap, u8_wrap, Int.emod_eq_of_lt (by omega) (by omega), Int.emod_eq_of_lt (by omega) (by omega)]
 simp
theorem mBytes_may {x : api_Method} (h : (mBytes x).2 = 0) : HeadOk x := by
 unfold mBytes at h
 cases hm : mMay x with
 | false => rw [hm] at h; simp at h
 | true => exact mMay_iff.1 hm
def iB (i : api_Instr) : List Int := i.Op :: (if wideB i.Op = true then le 2 i.A else [])
theorem tab_ok (n : Fin 256) : (match op_Bounds.f (n.1 : Int) with | some b => decide (0 ≤ b.1 ∧ b.2 < 65536 ∧ ((n.1 : Int) < 33 ∨ b.2 < b.1)) | none => false) = true := by
 revert n; decide +kernel
theorem may_facts {i : api_Instr} (h0 : 0 ≤ i.Op) (h1 : i.Op < 256) (h : may i = true) : i.Op < 33 ∧ i.B = 0 ∧ 0 ≤ i.A ∧ i.A < 65536 ∧ (wideB i.Op = false → i.A = 0) := by
 obtain ⟨n, hn⟩ := Int.eq_ofNat_of_zero_le h0
 have t := tab_ok ⟨n, by omega⟩
 unfold may at h
 unfold wideB
 rw [hn] at h ⊢
 dsimp only at t
 cases hb : op_Bounds.f (n : Int) with
 | none => rw [hb] at h; cases h
 | some b =>
  rw [hb] at h t
  simp only [Bool.and_eq_true, decide_eq_true_eq] at h t
  refine ⟨by omega, h.2, by omega, by omega, fun hw => ?_⟩
  rw [decide_eq_false_iff_not] at hw
  omega
def InsOk (i : api_Instr) : Prop := 0 ≤ i.Op ∧ i.Op < 256 ∧ may i = true
theorem pIns_to : ∀ (l : List api_Instr) (R : List Int), (∀ i ∈ l, InsOk i) → pIns l.length (fl iB l ++ R) = some (l, R)
 | [], _, _ => rfl
 | i :: l, R, h => by
  obtain ⟨h0, h1, hm⟩ := h i (by simp)
  obtain ⟨f1, f2, f3, f4, f5⟩ := may_facts h0 h1 hm
  have ih := pIns_to l R fun x hx => h x (by simp [hx])
  obtain ⟨o, a, c⟩ := i
  dsimp only at *
  subst f2
  rw [List.length_cons, pIns, fl, iB, List.cons_append, List.cons_append, pN_one, Option.bind_some]
  dsimp only
  rw [if_pos f1]
  cases hw : wideB o with
  | true =>
   rw [if_pos rfl, if_pos rfl, List.append_assoc, pN_le, pow2, Int.emod_eq_of_lt f3 f4, Option.bind_some]
   dsimp only
   rw [if_pos hm, ih]; rfl
  | false =>
   obtain rfl := f5 hw
   rw [if_neg (by simp), if_neg (by simp), Option.bind_some]
   dsimp only
   rw [if_pos hm, List.nil_append, ih]; rfl
theorem pIns_from : ∀ (n : Nat) (B R : List Int) (l : List api_Instr), Byt B → pIns n B = some (l, R) → l.length = n ∧ B = fl iB l ++ R ∧ (∀ i ∈ l, InsOk i) ∧ Byt R
 | 0, B, R, l, hb, h => by
  obtain ⟨rfl, rfl⟩ := Prod.mk.inj (Option.some.inj h)
  exact ⟨rfl, rfl, (fun v hv => by cases hv), hb⟩
 | n + 1, B, R, l, hb, h => by
  unfold pIns at h
  obtain ⟨⟨o, B1⟩, h1, h⟩ := bindE h
  obtain ⟨e1, b1, z1, y1⟩ := pN_from hb h1
  have y1 : o < 256 := by simpa using y1
  rw [le1 z1 y1] at e1
  dsimp only at h
  split at h
  case isFalse => cases h
  obtain ⟨⟨a, B2⟩, h2, h⟩ := bindE h
  dsimp only at h
  split at h
  case isFalse => cases h
  rename_i hm
  obtain ⟨⟨l2, B3⟩, h3, h⟩ := bindE h
  dsimp only at h
  obtain ⟨rfl, rfl⟩ := Prod.mk.inj (Option.some.inj h)
  have key : B1 = (if wideB o = true then le 2 a else []) ++ B2 ∧ Byt B2 := by
   cases hw : wideB o with
   | true =>
    rw [hw, if_pos rfl] at h2
    obtain ⟨q1, q2, -, -⟩ := pN_from b1 h2
    exact ⟨by rw [if_pos rfl]; exact q1, q2⟩
   | false =>
    rw [hw, if_neg (by simp)] at h2
    obtain ⟨rfl, rfl⟩ := Prod.mk.inj (Option.some.inj h2)
    exact ⟨by rw [if_neg (by simp)]; rfl, b1⟩
  obtain ⟨q1, q2, q3, q4⟩ := pIns_from n B2 B3 l2 key.2 h3
  refine ⟨by simp [q1], ?_, fun x hx => ?_, q4⟩
  ·rw [e1, key.1, q2, fl, iB]
   simp only [List.cons_append, List.append_assoc, List.nil_append]
  ·rcases List.mem_cons.1 hx with rfl | hx
   ·exact ⟨z1, y1, hm⟩
   ·exact q3 x hx
def cB (l : List api_Instr) : List Int := (l.length : Int) :: fl iB l
def CodeOk (l : List api_Instr) : Prop := 0 < l.length ∧ l.length ≤ 200 ∧ ∀ i ∈ l, InsOk i
theorem pCode_to {l : List api_Instr} (h : CodeOk l) (R : List Int) : pCode (cB l ++ R) = some (l, R) := by
 unfold pCode cB
 rw [List.cons_append, pN_one, Option.bind_some]
 dsimp only
 rw [if_pos (by have := h.1; have := h.2.1; omega), Int.toNat_natCast, pIns_to l R h.2.2]
theorem pCode_from {B R : List Int} {l : List api_Instr} (hb : Byt B) (h : pCode B = some (l, R)) : B = cB l ++ R ∧ CodeOk l ∧ Byt R := by
 unfold pCode at h
 obtain ⟨⟨n, B1⟩, h1, h⟩ := bindE h
 obtain ⟨e1, b1, z1, y1⟩ := pN_from hb h1
 rw [le1 z1 (by simpa using y1)] at e1
 dsimp only at h
 split at h
 case isFalse => cases h
 rename_i hn
 obtain ⟨q1, q2, q3, q4⟩ := pIns_from _ _ _ _ b1 h
 refine ⟨?_, ⟨by omega, by omega, q3⟩, q4⟩
 unfold cB
 rw [e1, q2, q1, Int.toNat_of_nonneg z1]; rfl
theorem cLoop_iB : ∀ (l : List api_Instr) (o : List Int), (∀ i ∈ l, InsOk i) → cLoop l o = (o ++ fl iB l, 0)
 | [], o, _ => by simp [cLoop, fl]
 | i :: l, o, h => by
  obtain ⟨h0, h1, hm⟩ := h i (by simp)
  obtain ⟨f1, f2, f3, f4, f5⟩ := may_facts h0 h1 hm
  have ih := fun o => cLoop_iB l o fun x hx => h x (by simp [hx])
  rw [cLoop, fl, iB]
  cases hw : wideB i.Op with
  | true =>
   rw [if_pos rfl, if_pos rfl, putC_ok (w := 2) (by omega) f3 (by rw [pow2]; exact f4), if_neg (by simp), ih]
   simp
  | false =>
   rw [if_neg (by simp), if_neg (by simp), ih]
   simp
theorem cBytes_ok {l : List api_Instr} (h : CodeOk l) : cBytes l = (cB l, 0) := by
 unfold cBytes cB
 have h1 := h.1; have h2 := h.2.1
 have : cMay l = true := by
  unfold cMay
  rw [decide_eq_true h1, decide_eq_true h2, Bool.true_and, Bool.true_and, Bool.not_eq_true', List.any_eq_false]
  exact fun i hi => by simp [(h.2.2 i hi).2.2]
 rw [if_neg (by rw [this]; simp), cLoop_iB l _ h.2.2, u8_wrap, Int.emod_eq_of_lt (by omega) (by omega)]; rfl
theorem cBytes_may {l : List api_Instr} (hw : ∀ i ∈ l, wf_api_Instr i) (h : (cBytes l).2 = 0) : CodeOk l := by
 unfold cBytes at h
 cases hm : cMay l with
 | false => rw [hm] at h; simp at h
 | true =>
  unfold cMay at hm
  rw [Bool.and_eq_true, Bool.and_eq_true, decide_eq_true_eq, decide_eq_true_eq, Bool.not_eq_true', List.any_eq_false] at hm
  exact ⟨hm.1.1, hm.1.2, fun i hi => ⟨(wf_op (hw i hi)).1, (wf_op (hw i hi)).2, by have := hm.2 i hi; simpa using this⟩⟩
end VerifyPure
namespace VerifyPure
open FlowPure TypesPure CallsPure CostPure
def oB (x : api_Method) : List Int := mB x ++ cB x.Code
def OneOk (x : api_Method) : Prop := HeadOk x ∧ CodeOk x.Code
theorem pOne_to {x : api_Method} (h : OneOk x) (R : List Int) : pOne (oB x ++ R) = some (x, R) := by
 unfold pOne oB
 rw [List.append_assoc, pMeth_to h.1, Option.bind_some]
 dsimp only
 rw [pCode_to h.2, Option.bind_some]
theorem pOne_from {B R : List Int} {x : api_Method} (hb : Byt B) (h : pOne B = some (x, R)) : B = oB x ++ R ∧ OneOk x ∧ Byt R := by
 unfold pOne at h
 obtain ⟨⟨y, B1⟩, h1, h⟩ := bindE h
 obtain ⟨⟨c, B2⟩, h2, h⟩ := bindE h
 dsimp only at h h2
 obtain ⟨rfl, rfl⟩ := Prod.mk.inj (Option.some.inj h)
 obtain ⟨e1, k1, -, b1⟩ := pMeth_from hb h1
 obtain ⟨e2, k2, b2⟩ := pCode_from b1 h2
 refine ⟨?_, ⟨⟨k1.a, k1.l, k1.r, k1.ka, k1.kl, k1.f, k1.s, k1.h⟩, k2⟩, b2⟩
 rw [e1, e2]
 unfold oB mB rdI
 dsimp only
 rw [List.append_assoc]
theorem pOnes_to : ∀ (l : List api_Method) (R : List Int), (∀ x ∈ l, OneOk x) → pOnes l.length (fl oB l ++ R) = some (l, R)
 | [], _, _ => rfl
 | x :: l, R, h => by
  rw [List.length_cons, pOnes, fl, List.append_assoc, pOne_to (h x (by simp)), Option.bind_some]
  dsimp only
  rw [pOnes_to l R fun y hy => h y (by simp [hy])]; rfl
theorem pOnes_from : ∀ (n : Nat) (B R : List Int) (l : List api_Method), Byt B → pOnes n B = some (l, R) → l.length = n ∧ B = fl oB l ++ R ∧ (∀ x ∈ l, OneOk x) ∧ Byt R
 | 0, B, R, l, hb, h => by
  obtain ⟨rfl, rfl⟩ := Prod.mk.inj (Option.some.inj h)
  exact ⟨rfl, rfl, (fun v hv => by cases hv), hb⟩
 | n + 1, B, R, l, hb, h => by
  unfold pOnes at h
  obtain ⟨⟨x, B1⟩, h1, h⟩ := bindE h
  obtain ⟨⟨l2, B2⟩, h2, h⟩ := bindE h
  dsimp only at h h2
  obtain ⟨rfl, rfl⟩ := Prod.mk.inj (Option.some.inj h)
  obtain ⟨e1, k1, b1⟩ := pOne_from hb h1
  obtain ⟨q1, q2, q3, q4⟩ := pOnes_from n B1 B2 l2 b1 h2
  refine ⟨by simp [q1], by rw [e1, q2, fl, List.append_assoc], fun y hy => ?_, q4⟩
  rcases List.mem_cons.1 hy with rfl | hy
  ·exact k1
  ·exact q3 y hy
def migI (m : api_Module) : Int := if m.Migrate ≥ 0 then m.Migrate else 255
def wB (m : api_Module) : List Int := pB m.Globals ++ (pB m.Pool ++ ((m.Methods.length : Int) :: (fl oB m.Methods ++ [migI m])))
structure ModOk (m : api_Module) : Prop where
 g : m.Globals.length ≤ 4
 G : PoolOk m.Globals
 P : PoolOk m.Pool
 n : m.Methods.length ≤ 16
 M : ∀ x ∈ m.Methods, OneOk x
 lo : -1 ≤ m.Migrate
 hi : m.Migrate < m.Methods.length
 ln : (wB m).length ≤ 2000
theorem pMod_to {m : api_Module} (h : ModOk m) : pMod (wB m) = some m := by
 have h1 := h.g; have h2 := h.n; have h3 := h.lo; have h4 := h.hi
 unfold pMod
 rw [if_neg (by have := h.ln; omega)]
 unfold wB
 rw [pPool_to h.G, Option.bind_some]
 dsimp only
 rw [if_neg (by omega), pPool_to h.P, Option.bind_some]
 dsimp only
 rw [pN_one, Option.bind_some]
 dsimp only
 rw [if_neg (by omega), Int.toNat_natCast, pOnes_to _ _ h.M, Option.bind_some]
 dsimp only
 unfold pLast migI
 rw [show ([if m.Migrate ≥ 0 then m.Migrate else 255] : List Int) = (if m.Migrate ≥ 0 then m.Migrate else 255) :: [] from rfl, pN_one, Option.bind_some]
 dsimp only
 by_cases hm : m.Migrate ≥ 0
 ·rw [if_pos hm, if_pos ⟨by omega, rfl⟩, if_neg (by omega), Option.bind_some]
 ·rw [if_neg hm, if_pos ⟨by omega, rfl⟩, if_pos rfl, Option.bind_some, show (-1 : Int) = m.Migrate by omega]
theorem pMod_from {b : List Int} {m : api_Module} (hb : Byt b) (h : pMod b = some m) : b = wB m ∧ ModOk m := by
 unfold pMod at h
 split at h
 ·cases h
 rename_i hl
 obtain ⟨⟨G, B1⟩, h1, h⟩ := bindE h
 dsimp only at h
 split at h
 ·cases h
 rename_i h4
 obtain ⟨⟨P, B2⟩, h2, h⟩ := bindE h
 obtain ⟨⟨n, B3⟩, h3, h⟩ := bindE h
 dsimp only at h h2 h3
 split at h
 ·cases h
 rename_i h16
 obtain ⟨⟨M, B4⟩, h5, h⟩ := bindE h
 obtain ⟨g, h6, h⟩ := bindE h
 dsimp only at h h5 h6
 obtain rfl := Option.some.inj h
 unfold pLast at h6
 obtain ⟨⟨g2, B5⟩, h7, h6⟩ := bindE h6
 dsimp only at h6 h7
 split at h6
 case isFalse => cases h6
 rename_i hg
 obtain ⟨hg, rfl⟩ := hg
 obtain rfl := Option.some.inj h6
 obtain ⟨e1, k1, b1⟩ := pPool_from hb h1
 obtain ⟨e2, k2, b2⟩ := pPool_from b1 h2
 obtain ⟨e3, b3, z3, y3⟩ := pN_from b2 h3
 rw [le1 z3 (by simpa using y3)] at e3
 obtain ⟨q1, q2, q3, q4⟩ := pOnes_from _ _ _ _ b3 h5
 obtain ⟨e7, -, z7, y7⟩ := pN_from q4 h7
 have y7 : g2 < 256 := by simpa using y7
 rw [le1 z7 y7] at e7
 have hmig : migI ⟨G, P, M, if g2 = 255 then -1 else g2⟩ = g2 := by
  unfold migI
  dsimp only
  by_cases h255 : g2 = 255
  ·rw [if_pos h255, if_neg (by omega), h255]
  ·rw [if_neg h255, if_pos z7]
 have eb : b = wB ⟨G, P, M, if g2 = 255 then -1 else g2⟩ := by
  unfold wB
  rw [hmig, e1, e2, e3, q2, e7]
  dsimp only
  rw [q1, Int.toNat_of_nonneg z3]
  simp
 refine ⟨eb, ⟨by dsimp only; omega, k1, k2, by dsimp only; omega, q3, ?_, ?_, by rw [← eb]; omega⟩⟩
 ·dsimp only; split <;> omega
 ·dsimp only; split <;> omega
theorem wLoop_ok {m : api_Module} (hL : wLast m = migI m) : ∀ (c : List api_Method) (o : List Int), (∀ x ∈ c, OneOk x) → wLoop m c o = (o ++ (fl oB c ++ [migI m]), 0)
 | [], o, _ => by rw [wLoop, hL]; rfl
 | x :: c, o, h => by
  have hx := h x (by simp)
  rw [wLoop, mBytes_ok hx.1, cBytes_ok hx.2, if_neg (by simp), if_neg (by simp), wLoop_ok hL c _ fun y hy => h y (by simp [hy]), fl, oB]
  simp only [List.append_assoc]
theorem wLoop_may {m : api_Module} : ∀ (c : List api_Method) (o : List Int), (∀ x ∈ c, ∀ i ∈ x.Code, wf_api_Instr i) → (wLoop m c o).2 = 0 → ∀ x ∈ c, OneOk x
 | [], _, _, _ => fun x hx => by cases hx
 | x :: c, o, hw, h => by
  unfold wLoop at h
  by_cases h1 : (mBytes x).2 ≠ 0
  ·rw [if_pos h1] at h; exact absurd h h1
  rw [if_neg h1] at h
  by_cases h2 : (cBytes x.Code).2 ≠ 0
  ·rw [if_pos h2] at h; exact absurd h h2
  rw [if_neg h2] at h
  intro y hy
  rcases List.mem_cons.1 hy with rfl | hy
  ·exact ⟨mBytes_may (Classical.not_not.1 h1), cBytes_may (hw y (by simp)) (Classical.not_not.1 h2)⟩
  ·exact wLoop_may c _ (fun z hz => hw z (by simp [hz])) h y hy
theorem wholeC_ok {m : api_Module} (g : m.Globals.length ≤ 4) (G : PoolOk m.Globals) (P : PoolOk m.Pool) (n : m.Methods.length ≤ 16) (M : ∀ x ∈ m.Methods, OneOk x) (lo : -1 ≤ m.Migrate) (hi : m.Migrate < m.Methods.length) : wholeC m = (wB m, 0) := by
 have hL : wLast m = migI m := by
  unfold wLast migI
  split
  ·rw [u8_wrap, Int.emod_eq_of_lt (by omega) (by omega)]
  ·rfl
 unfold wholeC wB
 rw [if_neg (by omega), pBytes_ok G, pBytes_ok P, if_neg (by simp), if_neg (by simp), wLoop_ok hL _ _ M, u8_wrap, Int.emod_eq_of_lt (by omega) (by omega)]
 simp
theorem bytesC_ok {m : api_Module} (h : ModOk m) : bytesC m = (wB m, 0) := by
 unfold bytesC
 rw [wholeC_ok h.g h.G h.P h.n h.M h.lo h.hi, if_neg (by simp), if_neg (by have := h.ln; dsimp only; omega)]
theorem mayC_ok {m : api_Module} (hm : wf_api_Module m) (h : mayC m = 0) : ModOk m := by
 unfold mayC bytesC at h
 by_cases h1 : (wholeC m).2 ≠ 0
 ·rw [if_pos h1] at h; exact absurd h h1
 rw [if_neg h1] at h
 have h1 := Classical.not_not.1 h1
 by_cases h2 : ((wholeC m).1.length : Int) > 2000
 ·rw [if_pos h2] at h; simp at h
 unfold wholeC at h1
 by_cases hc : m.Globals.length > 4 ∨ m.Methods.length > 16 ∨ m.Migrate < -1 ∨ m.Migrate ≥ m.Methods.length
 ·rw [if_pos hc] at h1; simp at h1
 rw [if_neg hc] at h1
 by_cases hG : (pBytes m.Globals).2 ≠ 0
 ·rw [if_pos hG] at h1; exact absurd h1 hG
 rw [if_neg hG] at h1
 by_cases hP : (pBytes m.Pool).2 ≠ 0
 ·rw [if_pos hP] at h1; exact absurd h1 hP
 rw [if_neg hP] at h1
 have G := pBytes_may hm.1.2 (Classical.not_not.1 hG)
 have P := pBytes_may hm.2.1.2 (Classical.not_not.1 hP)
 have M := wLoop_may m.Methods _ (fun x hx => ((hm.2.2.1.2 x hx).2.2.2.2.2.2.2).2) h1
 have w := wholeC_ok (m := m) (by omega) G P (by omega) M (by omega) (by omega)
 rw [w] at h2
 exact ⟨by omega, G, P, by omega, M, by omega, by omega, by dsimp only at h2; omega⟩
theorem u8_wf {x : Int} (h0 : 0 ≤ x) (h1 : x < 256) : (Lit.int .u8 x).wf = true := by
 simp [Lit.wf, IntKind.min, IntKind.max, IntKind.signed, IntKind.bits]; omega
theorem i64_wf {x : Int} (h0 : -9223372036854775808 ≤ x) (h1 : x < 9223372036854775808) : (Lit.int .i64 x).wf = true := by
 simp [Lit.wf, IntKind.min, IntKind.max, IntKind.signed, IntKind.bits]; omega
theorem mod_wf {m : api_Module} (h : ModOk m) : wf_api_Module m ∧ Small m := by
 have h1 := h.g; have h2 := h.n; have h3 := h.lo; have h4 := h.hi
 have p1 := h.P.1
 refine ⟨⟨⟨by simp only [maxLen]; omega, fun v hv => (h.G.2 v hv).1⟩, ⟨by simp only [maxLen]; omega, fun v hv => (h.P.2 v hv).1⟩, ⟨by simp only [maxLen]; omega, fun x hx => ?_⟩, i64_wf (by omega) (by omega)⟩, ⟨by omega, by omega, by omega, fun x hx => ?_⟩⟩
 ·obtain ⟨H, C⟩ := h.M x hx
  have a1 := H.a; have a2 := H.l; have a3 := H.r; have f := H.f; have s := H.s; have hh := H.h; have c1 := C.1; have c2 := C.2.1
  refine ⟨⟨by simp only [maxLen]; omega, fun k hk => ?_⟩, ⟨by simp only [maxLen]; omega, fun k hk => ?_⟩, u8_wf (by omega) (by omega), trivial, i64_wf (by omega) (by omega), i64_wf (by omega) (by omega), i64_wf (by omega) (by omega), by simp only [maxLen]; omega, fun i hi => ?_⟩
  ·have := H.ka k hk; exact u8_wf (by omega) (by omega)
  ·have := H.kl k hk; exact u8_wf (by omega) (by omega)
  ·obtain ⟨i0, i1, im⟩ := C.2.2 i hi
   obtain ⟨f1, f2, f3, f4, -⟩ := may_facts i0 i1 im
   exact ⟨u8_wf i0 i1, i64_wf (by omega) (by omega), i64_wf (by omega) (by omega)⟩
 ·obtain ⟨H, C⟩ := h.M x hx
  have a1 := H.a; have a2 := H.l; have c2 := C.2.1
  exact ⟨by omega, by omega, by omega⟩
theorem byt_fl {α : Type} {f : α → List Int} : ∀ (l : List α), (∀ x ∈ l, Byt (f x)) → Byt (fl f l)
 | [], _ => fun x hx => by cases hx
 | a :: l, h => Byt.app.2 ⟨h a (by simp), byt_fl l fun x hx => h x (by simp [hx])⟩
theorem byt_cons {x : Int} {l : List Int} (h0 : 0 ≤ x ∧ x < 256) (h : Byt l) : Byt (x :: l) := fun y hy => by
 rcases List.mem_cons.1 hy with rfl | hy
 ·exact h0
 ·exact h y hy
theorem byt_nil : Byt [] := fun x hx => by cases hx
theorem byt_pB {l : List api_Value} (h : PoolOk l) : Byt (pB l) := by
 have := h.1
 refine byt_cons ⟨by omega, by omega⟩ (byt_fl l fun v hv => ?_)
 have w := wfV (h.2 v hv).1
 refine byt_cons ⟨w.1, w.2.1⟩ ?_
 split
 ·exact le_byt 8 _
 ·exact Byt.app.2 ⟨le_byt 3 _, le_byt 3 _⟩
theorem byt_wB {m : api_Module} (h : ModOk m) : Byt (wB m) := by
 have h2 := h.n; have h3 := h.lo; have h4 := h.hi
 refine Byt.app.2 ⟨byt_pB h.G, Byt.app.2 ⟨byt_pB h.P, byt_cons ⟨by omega, by omega⟩ (Byt.app.2 ⟨byt_fl _ fun x hx => ?_, byt_cons ?_ byt_nil⟩)⟩⟩
 ·obtain ⟨H, C⟩ := h.M x hx
  have a1 := H.a; have a2 := H.l; have a3 := H.r; have c2 := C.2.1
  refine Byt.app.2 ⟨byt_cons ⟨by omega, by omega⟩ (Byt.app.2 ⟨fun k hk => by have := H.ka k hk; omega, byt_cons ⟨by omega, by omega⟩ (Byt.app.2 ⟨fun k hk => by have := H.kl k hk; omega, byt_cons ⟨by omega, by omega⟩ (byt_cons (by unfold rdI; split <;> omega) (Byt.app.2 ⟨le_byt 3 _, Byt.app.2 ⟨le_byt 2 _, le_byt 2 _⟩⟩))⟩)⟩), byt_cons ⟨by omega, by omega⟩ (byt_fl _ fun i hi => ?_)⟩
  obtain ⟨i0, i1, -⟩ := C.2.2 i hi
  refine byt_cons ⟨i0, i1⟩ ?_
  split
  ·exact le_byt 2 _
  ·exact byt_nil
 ·unfold migI; split <;> omega
end VerifyPure
namespace VerifyPure
open FlowPure TypesPure CallsPure CostPure
def thereB (m : api_Module) (x : api_Method) : Bool := x.Code.all fun i => there (envOf m x) i
theorem e_rows {m : api_Module} (S : Small m) (hm : wf_api_Module m) {k : Nat} {x : api_Method} (hk : k < m.Methods.length) (hx : m.Methods[k] = x) (h : ((knownB x.Code && fineB x.Code) && thereB m x) = true) : rowsM m k = rowsC (envOf m x) x.Code := by
 rw [Bool.and_eq_true, Bool.and_eq_true] at h
 obtain ⟨k1, k2, k3⟩ := knownB_ok h.1.1
 have h3 := h.2
 unfold thereB at h3
 rw [List.all_eq_true] at h3
 have hxm : x ∈ m.Methods := by rw [← hx]; exact List.getElem_mem hk
 have hwx : ∀ i ∈ x.Code, wf_api_Instr i := ((hm.2.2.1.2 x hxm).2.2.2.2.2.2.2).2
 have r := rows_well (m := m) (x := x) (k := (k : Int)) (by omega) (by omega) (by rw [elt_lt hk, hx]) ⟨k1, fineB_iff.1 h.1.2, hwx, h3, fun y hy => by have := S.x y hy; omega⟩ (by have := S.x x hxm; omega)
 unfold rowsM; rw [r]; rfl
theorem certs_cons {one : List api_Cert → Nat → api_Cert} {fit : Nat → api_Cert → Bool} {a : Int} {o : List Int} {l : List api_Cert} {c : api_Cert} (h : one l a.toNat = c) (hf : fit a.toNat c = true) : certsC one fit (a :: o) l = certsC one fit o (l.set a.toNat c) := by
 subst h; rw [certsC, if_pos hf]
def eC : List api_Instr := [⟨4, 0, 0⟩, ⟨31, 0, 0⟩]
def eX (f : Int) : api_Method := ⟨[], [], 1, false, f, 1, 0, eC⟩
def eM (f : Int) : api_Module := ⟨[⟨1, 0, 0⟩], [], [eX f], -1⟩
def eB : api_Module := ⟨[⟨1, 0, 0⟩], [], [⟨[], [], 1, false, 2, 1, 0, [⟨31, 0, 0⟩]⟩], -1⟩
def eV : api_Module := ⟨[⟨1, 0, 0⟩], [], [⟨[3], [], 1, false, 2, 1, 0, eC⟩], 0⟩
def eN : api_Module := ⟨[], [], [], -1⟩
theorem small_eq (f : Int) : capstanlaw14_small.f f = some (eM f) := rfl
theorem eM_small (f : Int) : Small (eM f) := ⟨by simp [eM], by simp [eM], by simp [eM], fun x hx => by simp [eM, eX, eC] at hx; subst hx; simp⟩
theorem eB_small : Small eB := small_of (by decide +kernel)
theorem eV_small : Small eV := small_of (by decide +kernel)
theorem eN_small : Small eN := small_of (by decide +kernel)
theorem eM_wf {f : Int} (h0 : -9223372036854775808 ≤ f) (h1 : f < 9223372036854775808) : wf_api_Module (eM f) := by
 have h : ∀ x ∈ (eM f).Methods, wf_api_Method x := by
  intro x hx
  simp only [eM, List.mem_cons, List.not_mem_nil, or_false] at hx
  rcases hx with rfl
  refine ⟨?_, ?_, show (Lit.int .u8 1).wf = true by decide, trivial, ?_, show (Lit.int .i64 1).wf = true by decide, show (Lit.int .i64 0).wf = true by decide, ?_⟩
  ·simp [eX, maxLen]
  ·simp [eX, maxLen]
  ·unfold eX Lit.wf; simp [IntKind.min, IntKind.max, IntKind.signed, IntKind.bits]; omega
  ·simp [eX, eC, maxLen, wf_api_Instr]; decide
 exact ⟨by simp [eM, maxLen, wf_api_Value]; decide, by simp [eM], ⟨by simp [eM, maxLen], h⟩, show (Lit.int .i64 (-1)).wf = true by decide⟩
theorem eB_wf : wf_api_Module eB := by
 have h : ∀ x ∈ eB.Methods, wf_api_Method x := by
  intro x hx
  simp only [eB, List.mem_cons, List.not_mem_nil, or_false] at hx
  rcases hx with rfl
  refine ⟨?_, ?_, by decide, trivial, by decide, by decide, by decide, ?_⟩ <;> simp [maxLen, wf_api_Instr] <;> decide
 exact ⟨by simp [eB, maxLen, wf_api_Value]; decide, by simp [eB], ⟨by simp [eB, maxLen], h⟩, by decide⟩
theorem eV_wf : wf_api_Module eV := by
 have h : ∀ x ∈ eV.Methods, wf_api_Method x := by
  intro x hx
  simp only [eV, List.mem_cons, List.not_mem_nil, or_false] at hx
  rcases hx with rfl
  refine ⟨?_, ?_, by decide, trivial, by decide, by decide, by decide, ?_⟩
  ·simp [maxLen]; decide
  ·simp [maxLen]
  ·simp [eC, maxLen, wf_api_Instr]; decide
 exact ⟨by simp [eV, maxLen, wf_api_Value]; decide, by simp [eV], ⟨by simp [eV, maxLen], h⟩, by decide⟩
theorem eN_wf : wf_api_Module eN := ⟨by simp [eN, maxLen], by simp [eN, maxLen], ⟨by simp [eN, maxLen], by simp [eN]⟩, by decide⟩
theorem e_rows1 {f : Int} (h0 : -9223372036854775808 ≤ f) (h1 : f < 9223372036854775808) : rowsM (eM f) 0 = rowsC (envOf (eM f) (eX f)) eC := e_rows (eM_small f) (eM_wf h0 h1) (k := 0) (x := eX f) (by simp [eM]) rfl (by
 have : ((knownB eC && fineB eC) && thereB (eM 0) (eX 0)) = true := by decide +kernel
 exact this)
theorem e_rows0 : (rowsC (envOf (eM 0) (eX 0)) eC) = ([⟨true, []⟩, ⟨true, [1]⟩], 0) := by decide +kernel
theorem e_rowsF {f : Int} (h0 : -9223372036854775808 ≤ f) (h1 : f < 9223372036854775808) : rowsM (eM f) 0 = ([⟨true, []⟩, ⟨true, [1]⟩], 0) := (e_rows1 h0 h1).trans e_rows0
theorem e_rowsB : rowsM eB 0 = ([], 101) := (e_rows eB_small eB_wf (k := 0) (x := ⟨[], [], 1, false, 2, 1, 0, [⟨31, 0, 0⟩]⟩) (by simp [eB]) rfl (by decide +kernel)).trans (by decide +kernel)
theorem first1 {m : api_Module} (h : m.Methods.length = 1) : firstC m = if (rowsM m 0).2 = 0 then (-1, 0) else (0, (rowsM m 0).2) := by
 unfold firstC
 rw [h, show List.range 1 = [0] from rfl]
 by_cases h0 : (rowsM m 0).2 = 0
 ·simp [h0]
 ·simp [h0]
theorem e_err {f : Int} (h0 : -9223372036854775808 ≤ f) (h1 : f < 9223372036854775808) : errM (eM f) = 0 := by
 unfold errM
 rw [show List.range (eM f).Methods.length = [0] from rfl, List.map_cons, List.map_nil, e_rowsF h0 h1]; rfl
theorem e_one {f : Int} (h0 : -9223372036854775808 ≤ f) (h1 : f < 9223372036854775808) (kn : List api_Cert) : oneM (eM f) kn 0 = ⟨2, 1, 0⟩ := by
 have : oneM (eM f) kn 0 = oneC (alens (eM f)) kn (eX f) [⟨true, []⟩, ⟨true, [1]⟩] := by unfold oneM; rw [e_rowsF h0 h1]; rfl
 rw [this]
 have e : ∀ al : List Nat, oneC al kn (eX f) [⟨true, []⟩, ⟨true, [1]⟩] = oneC [] [] (eX 0) [⟨true, []⟩, ⟨true, [1]⟩] := fun al => by
  unfold oneC
  have : ∀ (al : List Nat) (kn : List api_Cert) (x : api_Method) (rows : List types_Row) (ts : List Int) (s : api_Cert), runC al kn x rows ts eC 0 s = runC [] [] (eX 0) rows ts eC 0 s := fun al kn x rows ts s => rfl
  exact this ..
 rw [e]
 have : oneC [] [] (eX 0) [⟨true, []⟩, ⟨true, [1]⟩] = ⟨2, 1, 0⟩ := by kernel_rfl
 exact this
theorem e_costs2 : costsC (eM 2) = ([⟨2, 1, 0⟩], 0) := by
 have hb : anyBad (eM 2) = false := by decide +kernel
 have ho : ordN (whoms (eM 2)) (eM 2).Methods.length [] = ([0], 0) := by decide +kernel
 unfold costsC
 rw [if_neg (by rw [hb]; simp), ho, if_neg (by simp), e_err (by omega) (by omega), if_neg (by simp)]
 have s1 : certsC (oneM (eM 2)) (fun k c => fitB c (methM (eM 2) k)) [0] (List.replicate (eM 2).Methods.length api_Cert.zero) = some [⟨2, 1, 0⟩] :=
  (certs_cons (a := 0) (e_one (by omega) (by omega) _) (by decide +kernel)).trans rfl
 rw [s1]
theorem e_costs1 : costsC (eM 1) = ([], 120) := by
 have hb : anyBad (eM 1) = false := by decide +kernel
 have ho : ordN (whoms (eM 1)) (eM 1).Methods.length [] = ([0], 0) := by decide +kernel
 unfold costsC
 rw [if_neg (by rw [hb]; simp), ho, if_neg (by simp), e_err (by omega) (by omega), if_neg (by simp)]
 have s1 : certsC (oneM (eM 1)) (fun k c => fitB c (methM (eM 1) k)) [0] (List.replicate (eM 1).Methods.length api_Cert.zero) = none := by
  rw [certsC]
  have : oneM (eM 1) (List.replicate (eM 1).Methods.length api_Cert.zero) (Int.toNat 0) = ⟨2, 1, 0⟩ := e_one (by omega) (by omega) _
  rw [this]
  exact if_neg (by decide +kernel)
 rw [s1]
theorem e_stands2 : standsC (eM 2) = (-1, 0) := by
 have h1 : mayC (eM 2) = 0 := by decide +kernel
 have h2 : movesC (eM 2) = 0 := by decide +kernel
 have h3 : (firstC (eM 2)).2 = 0 := by rw [first1 rfl, e_rowsF (by omega) (by omega)]; rfl
 have h4 : callsC (eM 2) = 0 := by decide +kernel
 have h6 : pureC (eM 2) = 0 := by decide +kernel
 unfold standsC
 rw [h1, h2, h3, h4, e_costs2, h6]; simp
theorem e_stands1 : standsC (eM 1) = (4, 120) := by
 have h1 : mayC (eM 1) = 0 := by decide +kernel
 have h2 : movesC (eM 1) = 0 := by decide +kernel
 have h3 : (firstC (eM 1)).2 = 0 := by rw [first1 rfl, e_rowsF (by omega) (by omega)]; rfl
 have h4 : callsC (eM 1) = 0 := by decide +kernel
 unfold standsC
 rw [h1, h2, h3, h4, e_costs1]; simp
theorem e_standsB : standsC eB = (2, 101) ∧ firstC eB = (0, 101) := by
 have h1 : mayC eB = 0 := by decide +kernel
 have h2 : movesC eB = 0 := by decide +kernel
 have h3 : firstC eB = (0, 101) := by rw [first1 rfl, e_rowsB]; rfl
 refine ⟨?_, h3⟩
 unfold standsC
 rw [h1, h2, h3]; simp
theorem e_standsV : standsC eV = (1, 70) := by
 have h1 : mayC eV = 0 := by decide +kernel
 have h2 : movesC eV = 70 := by decide +kernel
 unfold standsC
 rw [h1, h2]; simp
theorem e_standsN : standsC eN = (-1, 0) ∧ costsC eN = ([], 0) := by
 have h1 : mayC eN = 0 := by decide +kernel
 have h2 : movesC eN = 0 := by decide +kernel
 have h3 : (firstC eN).2 = 0 := rfl
 have h4 : callsC eN = 0 := by decide +kernel
 have h6 : pureC eN = 0 := by decide +kernel
 have h5 : costsC eN = ([], 0) := rfl
 refine ⟨?_, h5⟩
 unfold standsC
 rw [h1, h2, h3, h4, h5, h6]; simp
end VerifyPure
namespace VerifyPure
open FlowPure TypesPure CallsPure CostPure
theorem e_parse : module_Parse.f [0, 0, 0, 255] = some (eN, 0) := by
 obtain ⟨r, r1, r2⟩ := p_parse (b := [0, 0, 0, 255]) (fun x hx => by simp at hx; omega) (by simp)
 rw [show pMod [0, 0, 0, 255] = some eN from rfl] at r2
 rw [r1, show r = (eN, 0) from r2]
end VerifyPure
namespace VerifyPure
open FlowPure TypesPure CallsPure CostPure
theorem e_load : verify_Load.f [0, 0, 0, 255] = some (eN, [], 0) := by
 have a := p_accept eN_wf eN_small
 have : acceptC eN = ([], 0) := by unfold acceptC; rw [e_standsN.1, e_standsN.2]; simp
 rw [this] at a
 unfold verify_Load.f
 rw [e_parse]; simp only [Option.bind_some]
 rw [if_neg (by simp), a]; simp only [Option.bind_some]
 rw [if_neg (by simp)]
theorem vawake : capstanlaw14_awake.f = some true := by
 have a2 : acceptC (eM 2) = ([⟨2, 1, 0⟩], 0) := by unfold acceptC; rw [e_stands2, e_costs2]; simp
 have w2 : wf_api_Module (eM 2) := eM_wf (by omega) (by omega)
 have w1 : wf_api_Module (eM 1) := eM_wf (by omega) (by omega)
 have b1 := p_accept w2 (eM_small 2)
 rw [a2] at b1
 have b2 := p_vmay w1 (eM_small 1)
 rw [e_stands1] at b2
 have b3 := p_vmay eB_wf eB_small
 rw [e_standsB.1] at b3
 have b4 := p_blame eB_wf eB_small
 have b5 : blameC eB = 0 := by unfold blameC; rw [e_standsB.1, e_standsB.2]; simp
 rw [b5] at b4
 have b6 := p_vmay eV_wf eV_small
 rw [e_standsV] at b6
 have hB : (⟨(eM 2).Globals, (eM 2).Pool, (eM 2).Methods.set (0 : Int).toNat ({ (eX 2) with Code := ((eX 2).Code.drop (1 : Int).toNat) } : api_Method), (eM 2).Migrate⟩ : api_Module) = eB := rfl
 have hV : (⟨(eM 2).Globals, (eM 2).Pool, (eM 2).Methods.set (0 : Int).toNat ({ (eX 2) with Args := [3] } : api_Method), 0⟩ : api_Module) = eV := rfl
 have e2 := small_eq 2
 have e1 := small_eq 1
 have el : elt (eM 2).Methods 0 = some (eX 2) := rfl
 have hc : (0 : Int) ≤ 1 ∧ 1 ≤ ((eX 2).Code.length : Int) := by unfold eX eC; simp
 have ec : elt ([⟨2, 1, 0⟩] : List api_Cert) 0 = some ⟨2, 1, 0⟩ := rfl
 generalize eM 2 = M at *
 generalize eM 1 = M1 at *
 generalize eX 2 = x at *
 unfold capstanlaw14_awake.f
 rw [e2, Option.bind_some, b1, Option.bind_some, Option.bind_some, el, Option.bind_some, if_pos hc, Option.bind_some, Option.bind_some, el, Option.bind_some, e_load, Option.bind_some, e1, hB, hV, b3, b4, b6]
 rw [if_pos (by simp), ec, Option.bind_some, Option.bind_some, if_pos (by simp), Option.bind_some, b2, Option.bind_some, Option.bind_some, if_pos (by simp), Option.bind_some, Option.bind_some, if_pos (by simp), Option.bind_some, Option.bind_some, if_pos (by simp), Option.bind_some, Option.bind_some]
 simp [eN]
end VerifyPure
namespace VerifyPure
open FlowPure TypesPure CallsPure CostPure
theorem vals_refl {l : List api_Value} (h : l.length < 4611686018427387904) : capstanref03_Same.f l l = some true := by
 unfold capstanref03_Same.f
 rw [runF_step (t := .l1 ((0 : Nat) : Int)) (by dsimp only [capstanref03_Same.F]; rw [if_neg (by simp)]; rfl)]
 refine (runF_up (F := capstanref03_Same.F l l) (n := l.length) (fun k => .l1 (k : Int)) (fun k hk => ?_)).trans (runF_end ?_)
 ·dsimp only [capstanref03_Same.F]
  rw [if_pos (by omega), elt_lt hk]
  simp only [Option.bind_some]
  rw [if_neg (by simp), wrap_succ k (by omega)]
 ·dsimp only [capstanref03_Same.F]
  rw [if_neg (by omega)]
theorem kinds_refl {l : List Int} (h : l.length < 4611686018427387904) : capstanref07_SameKinds.f l l = some true := by
 unfold capstanref07_SameKinds.f
 rw [runF_step (t := .l1 ((0 : Nat) : Int)) (by dsimp only [capstanref07_SameKinds.F]; rw [if_neg (by simp)]; rfl)]
 refine (runF_up (F := capstanref07_SameKinds.F l l) (n := l.length) (fun k => .l1 (k : Int)) (fun k hk => ?_)).trans (runF_end ?_)
 ·dsimp only [capstanref07_SameKinds.F]
  rw [if_pos (by omega), elt_lt hk]
  simp only [Option.bind_some]
  rw [if_neg (by simp), wrap_succ k (by omega)]
 ·dsimp only [capstanref07_SameKinds.F]
  rw [if_neg (by omega)]
theorem code_refl {l : List api_Instr} (h : l.length < 4611686018427387904) : capstanref05_Same.f l l = some true := by
 unfold capstanref05_Same.f
 rw [runF_step (t := .l1 ((0 : Nat) : Int)) (by dsimp only [capstanref05_Same.F]; rw [if_neg (by simp)]; rfl)]
 refine (runF_up (F := capstanref05_Same.F l l) (n := l.length) (fun k => .l1 (k : Int)) (fun k hk => ?_)).trans (runF_end ?_)
 ·dsimp only [capstanref05_Same.F]
  rw [if_pos (by omega), elt_lt hk]
  simp only [Option.bind_some]
  rw [if_neg (by simp), wrap_succ k (by omega)]
 ·dsimp only [capstanref05_Same.F]
  rw [if_neg (by omega)]
theorem mod_refl {m : api_Module} (S : Small m) : capstanref08_Same.f m m = some true := by
 have hG := S.G; have hP := S.P; have hM := S.M
 unfold capstanref08_Same.f
 rw [runF_step (t := .l1 ((0 : Nat) : Int)) (by
  dsimp only [capstanref08_Same.F]
  rw [if_neg (by simp), vals_refl (by omega)]; simp only [Option.bind_some]
  rw [if_neg (by simp), vals_refl (by omega)]; simp only [Option.bind_some]
  rw [if_neg (by simp)]; rfl)]
 refine (runF_up (F := capstanref08_Same.F m m) (n := m.Methods.length) (fun k => .l1 (k : Int)) (fun k hk => ?_)).trans (runF_end ?_)
 ·have hx := S.x _ (List.getElem_mem hk)
  dsimp only [capstanref08_Same.F]
  unfold capstanref07_Same.f
  rw [if_pos (by omega), elt_lt hk]
  simp only [Option.bind_some]
  rw [kinds_refl (by omega)]; simp only [Option.bind_some]
  rw [if_pos trivial, kinds_refl (by omega)]; simp only [Option.bind_some]
  rw [if_neg (by simp), code_refl (by omega)]; simp only [Option.bind_some]
  unfold capstanref08_Same.j1
  rw [if_neg (by simp), wrap_succ k (by omega)]
 ·dsimp only [capstanref08_Same.F]
  rw [if_neg (by omega)]
noncomputable def loadC (b : List Int) : Option (api_Module × List api_Cert) := (pMod b).bind fun m => if (acceptC m).2 = 0 then some (m, (acceptC m).1) else none
theorem p_load {b : List Int} (hb : Byt b) (hl : b.length ≤ 3000) : ∃ e : Int, verify_Load.f b = some (match loadC b with | some z => (z.1, z.2, 0) | none => (Wz, [], e)) ∧ e ≠ 0 := by
 obtain ⟨r, r1, r2⟩ := p_parse hb hl
 unfold verify_Load.f loadC
 rw [r1]; simp only [Option.bind_some]
 cases h : pMod b with
 | none =>
  rw [h] at r2
  have he : r.2 ≠ 0 := r2.2
  rw [if_pos he]
  exact ⟨r.2, rfl, he⟩
 | some m =>
  rw [h] at r2
  have r2 : r = (m, 0) := r2
  subst r2
  obtain ⟨-, ok⟩ := pMod_from hb h
  obtain ⟨w, S⟩ := mod_wf ok
  rw [if_neg (by simp)]
  dsimp only
  rw [p_accept w S]; simp only [Option.bind_some]
  by_cases ha : (acceptC m).2 = 0
  ·rw [if_neg (by simpa using ha), if_pos ha]; exact ⟨1, rfl, by omega⟩
  ·rw [if_pos ha, if_neg ha]; exact ⟨(acceptC m).2, rfl, ha⟩
theorem certs_short {m : api_Module} (S : Small m) (h : (acceptC m).2 = 0) : (acceptC m).1.length < 4611686018427387904 := by
 have hM := S.M
 unfold acceptC at h ⊢
 split at h
 ·rename_i h1; exact absurd h h1
 ·rename_i h1
  rw [if_neg h1, costs_len h]; omega
theorem back_j1 {m : api_Module} {b : List Int} (hb : Byt b) (hl : b.length ≤ 3000) : capstanlaw14_VerifyBack.j1 m b = some true := by
 obtain ⟨e, h1, he⟩ := p_load hb hl
 unfold capstanlaw14_VerifyBack.j1
 rw [h1]; simp only [Option.bind_some]
 cases h : loadC b with
 | none =>
  dsimp only
  rw [if_pos he, if_pos (by simp), mod_refl (m := Wz) ⟨by simp, by simp, by simp, fun x hx => by simp at hx⟩]; rfl
 | some z =>
  obtain ⟨w, k⟩ := z
  dsimp only
  unfold loadC at h
  obtain ⟨w', hp, h⟩ := bindE h
  split at h
  case isFalse => cases h
  rename_i ha
  obtain ⟨rfl, rfl⟩ := Prod.mk.inj (Option.some.inj h)
  obtain ⟨eb, ok⟩ := pMod_from hb hp
  obtain ⟨wf, S⟩ := mod_wf ok
  rw [if_neg (by simp), p_accept wf S]; simp only [Option.bind_some]
  rw [p_bytes wf S, bytesC_ok ok]; simp only [Option.bind_some]
  rw [if_pos (by simp [ha]), certs_refl (certs_short S ha)]; simp only [Option.bind_some]
  rw [← eb]
  simp
theorem law_back {m : api_Module} {b : List Int} (hm : wf_api_Module m) (hb : b.length ≤ maxLen ∧ ∀ y ∈ b, (Lit.int .u8 y).wf = true) : capstanlaw14_VerifyBack.f m b = some true := by
 have hbt : Byt b := fun y hy => by
  have := hb.2 y hy
  simp [Lit.wf, IntKind.min, IntKind.max, IntKind.signed, IntKind.bits] at this
  omega
 unfold capstanlaw14_VerifyBack.f
 rw [vawake]; simp only [Option.bind_some]
 rw [if_neg (by simp), great_eq]; simp only [Option.bind_some]
 by_cases hg : (greatB m || (decide ((b.length : Int) > 3000))) = true
 ·rw [if_pos hg]
 rw [if_neg hg]
 simp only [Bool.or_eq_true, decide_eq_true_eq, not_or] at hg
 have S := small_of (m := m) (by simpa using hg.1)
 have J := back_j1 (m := m) hbt (by omega)
 rw [p_accept hm S]; simp only [Option.bind_some]
 by_cases ha : (acceptC m).2 = 0
 case neg => rw [if_neg ha, J]
 rw [if_pos ha]
 have hs : (standsC m).2 = 0 := by
  by_cases z : (standsC m).2 = 0
  ·exact z
  ·unfold acceptC at ha; rw [if_pos z] at ha; exact ha
 have hmay : mayC m = 0 := by
  by_cases z : mayC m = 0
  ·exact z
  ·unfold standsC at hs; rw [if_pos z] at hs; exact hs
 have ok := mayC_ok hm hmay
 obtain ⟨e, l1, -⟩ := p_load (byt_wB ok) (by have := ok.ln; omega)
 have lc : loadC (wB m) = some (m, (acceptC m).1) := by unfold loadC; rw [pMod_to ok, Option.bind_some, if_pos ha]
 rw [lc] at l1
 rw [p_bytes hm S, bytesC_ok ok]; simp only [Option.bind_some]
 rw [l1]; simp only [Option.bind_some]
 rw [if_neg (by simp), mod_refl S]; simp only [Option.bind_some]
 rw [if_neg (by simp), certs_refl (certs_short S ha)]; simp only [Option.bind_some]
 rw [if_neg (by simp), J]
end VerifyPure
theorem verifyBack_card : Rows.VerifyBackCardSaid := verifyBack.card fun x0 x1 h hb => VerifyPure.law_back h hb
#print axioms verifyBack_card
end Go.Proofs.YtikichjmjbbnbaaGreatDoor
