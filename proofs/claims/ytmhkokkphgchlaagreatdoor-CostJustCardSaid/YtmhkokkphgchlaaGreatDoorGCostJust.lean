/- Functions of the program as plain functions, with the proof that the code computes them: printed by gen.py of this session. -/
import Derived.Test.YtmhkokkphgchlaaGreatDoorProg
import Derived.Test.YtmhkokkphgchlaaGreatDoorQ33xCostJust
import Derived.Test.YtmhkokkphgchlaaGreatDoorQ40xCostJust
import Derived.Ground.GgzProg
import Derived.Ground.Names8Prog
import Derived.Ground.NamesProg
import Derived.Ground.SlgcProg
import Derived.Ground.SlgmProg
import Derived.Ground.SlgnProg
import Derived.Ground.SlsfProg
import Derived.Shelf.Bits.Mul64
import Derived.Shelf.Lay
import Derived.Shelf.SlGeneric
import Derived.Shelf.SlIterI.Nil
import Derived.Shelf.SlSortCmp.WholeK
import Derived.Shelf.SlicesE.Reverse
import Derived.Shelf.SlicesG.Cmp
import Derived.Shelf.SlicesG.CompactI
import Derived.Shelf.Small.Bits
import Derived.Shelf.SortM.Plain
import Derived.Shelf.SortM.SortNone
import Derived.Shelf.Spec.SlicesGrow
import Derived.Test.YtmhkokkphgchlaaGreatDoorGCostJustp2
set_option linter.unusedVariables false
set_option linter.unusedSimpArgs false
set_option maxRecDepth 20000
set_option maxHeartbeats 2000000
set_option linter.defProp false
set_option warn.classDefReducibility false
noncomputable section
namespace Go.Proofs.YtmhkokkphgchlaaGreatDoor
open Go.Q
attribute [local irreducible] CP SP QE DA DT Val St
inductive capstanlaw12_straight.S where
  | start
  | l1 (x16 : Int)
def capstanlaw12_straight.F (l_0 : (List api_Instr)) : capstanlaw12_straight.S → Option (capstanlaw12_straight.S ⊕ Bool)
  | .start => some (.inl (.l1 0))
  | .l1 x16 => if x16 < (l_0.length : Int) then ((elt l_0 x16).bind fun x20 => if (((decide (x20.Op = 26)) || (decide (x20.Op = 27))) || (((decide (x20.Op = 31)) || (decide (x20.Op = 32))) && (decide (x16 < (IntKind.i64.wrap ((l_0.length : Int) - 1)))))) = true then (some (.inr false)) else (if x20.Op = 32 then (some (.inr false)) else (some (.inl (.l1 (IntKind.i64.wrap (x16 + 1))))))) else (some (.inr true))
def capstanlaw12_straight.f (l_0 : (List api_Instr)) : Option Bool := runF (capstanlaw12_straight.F l_0) .start
theorem capstanlaw12_straight.ok (l_0 : (List api_Instr)) (v_l_0 : Value) (r : Bool) (H : capstanlaw12_straight.f l_0 = some r) (w : World) (hV : Hp) (sV : Sub hV (hp w)) (h0 : slR k_api_Instr hV v_l_0 l_0) :
    Trip Tryz.prog 20 [v_l_0].toArray em hV w (fun v => HO.pure (v = .bool r)) := by
 refine Trip.go 43 Tryz.func20 sV (aS h0 (All.nil _)) fun see => ?_
 obtain ⟨n0, hi⟩ := runF_iff.1 H
 obtain ⟨m0, o, hm0, ho, hr⟩ := iter_some hi
 clear hi
 refine go ?_
 refine CP.seq (go ?_)
 obtain rfl := Option.some.inj ho
 refine CP.loop (fun cl1 a w2 => ∃ x16 : Int, cl1 ≤ m0 ∧ iter (capstanlaw12_straight.F l_0) cl1 (.l1 x16) = some r ∧ Env ⟨43, []⟩ [(0, v_l_0), (3, .int .i64 x16)] a ∧ St w em hV [slP k_api_Instr v_l_0 l_0] [] w2) m0 (fun a w2 ha hw => ⟨0, Nat.le_refl _, hr, ha.sub sb, hw⟩) ?_
 clear hr
 rintro cl1 a w2 ⟨x16, hc_l1, hi, ha, hw⟩
 obtain ⟨m17, o, hm_m17, ho, hr⟩ := iter_some hi
 refine CP.app ha hw ?_
 clear ha hw a w2 hi
 refine CP.seq (go ?_)
 refine CP.ci ho (fun ho => ?_) fun ho => ?_
 ·refine go ?_
  refine CP.seq (go ?_)
  obtain ⟨x20, hx, ho⟩ := elt_bind ho
  refine SP.indexP see 0 rfl Tryz.underlying39 sz71 hx.1 hx.2 rfl rfl rfl rfl (fun p18 => ?_)
  clear hx
  refine k_api_Instr.load see 0 rfl Tryz.underlying71 rfl sz71 rfl rfl rfl ?_
  refine SP.alloc (cs := [.int .u8 0, .int .i64 0, .int .i64 0]) inf71 rfl rfl (fun b21 => ?_)
  refine SP.store (v := .agg #[.int .u8 x20.Op, .int .i64 x20.A, .int .i64 x20.B]) (vs := [.int .u8 x20.Op, .int .i64 x20.A, .int .i64 x20.B]) 0 (by rfl) sz71 (by rfl) (by rfl) (by rfl) (by rfl) (by rfl) (by rfl) (go ?_)
  refine CP.seq (go ?_)
  refine SP.jn 4 [0, 3, 4] 22 (.bool ((decide (x20.Op = 26)) || (decide (x20.Op = 27)))) ?_ ?_
  ·refine go ?_
   refine SP.jn 16 [0, 3, 4] 39 (.bool (((decide (x20.Op = 26)) || (decide (x20.Op = 27))) || (((decide (x20.Op = 31)) || (decide (x20.Op = 32))) && (decide (x16 < (IntKind.i64.wrap ((l_0.length : Int) - 1))))))) ?_ ?_
   ·refine go ?_
    refine CP.cb ho (fun ho => ?_) fun ho => ?_
    ·refine go ?_
     obtain rfl := fin ho hr
     exact QE.rt (fun _ h => h)
    refine go ?_
    refine CP.ci ho (fun ho => ?_) fun ho => ?_
    ·refine go ?_
     obtain rfl := fin ho hr
     exact QE.rt (fun _ h => h)
    refine go ?_
    obtain rfl := Option.some.inj ho
    exact QE.lower m17 (by omega) fun a w2 ha hw => ⟨(IntKind.i64.wrap (x16 + 1)), (by omega), hr, ha.sub sb, (St.selP [1] rfl (St.selO [] rfl rfl hw))⟩
   refine SP.bb 23 (fun hq26 => ?_) fun hq26 => ?_
   ·refine go ?_
    exact QE.jb (or_t hq26) fun w2 hw => hw
   refine go ?_
   refine SP.jn 4 [0, 3, 4, 23, 24, 25, 26, 27] 31 (.bool ((decide (x20.Op = 31)) || (decide (x20.Op = 32)))) ?_ ?_
   ·refine go ?_
    refine SP.jn 6 [0, 3, 4, 23, 24, 25, 26, 27, 31, 32] 38 (.bool (((decide (x20.Op = 31)) || (decide (x20.Op = 32))) && (decide (x16 < (IntKind.i64.wrap ((l_0.length : Int) - 1)))))) ?_ ?_
    ·refine go ?_
     exact QE.jb (or_f hq26 rfl) fun w2 hw => hw
    refine SP.bb 32 (fun hq30 => ?_) fun hq30 => ?_
    ·refine go ?_
     exact QE.jb (and_t hq30 rfl) (s := ⟨rfl, rfl, rfl, rfl, rfl, rfl, rfl, rfl, rfl, congrArg (fun z => some (Value.bool z)) hq30.symm, trivial⟩) fun w2 hw => hw
    refine go ?_
    exact QE.jb (and_f hq30) (s := ⟨rfl, rfl, rfl, rfl, rfl, rfl, rfl, rfl, rfl, congrArg (fun z => some (Value.bool z)) hq30.symm, trivial⟩) fun w2 hw => hw
   refine SP.bb 27 (fun hq28 => ?_) fun hq28 => ?_
   ·refine go ?_
    exact QE.jb (or_t hq28) (s := ⟨rfl, rfl, rfl, rfl, rfl, rfl, rfl, congrArg (fun z => some (Value.bool z)) hq28.symm, trivial⟩) fun w2 hw => hw
   refine go ?_
   exact QE.jb (or_f hq28 rfl) (s := ⟨rfl, rfl, rfl, rfl, rfl, rfl, rfl, congrArg (fun z => some (Value.bool z)) hq28.symm, trivial⟩) fun w2 hw => hw
  refine SP.bb 18 (fun hq24 => ?_) fun hq24 => ?_
  ·refine go ?_
   exact QE.jb (or_t hq24) fun w2 hw => hw
  refine go ?_
  exact QE.jb (or_f hq24 rfl) fun w2 hw => hw
 refine go ?_
 obtain rfl := fin ho hr
 exact QE.rt (fun _ h => h)
inductive capstanlaw12_run.S where
  | start
  | l1 (l349 : List capstanlaw12_frame) (x351 : Int) (x352 : Int) (x353 : Int) (x354 : Int)
  | l2 (l349 : List capstanlaw12_frame) (x351 : Int) (x352 : Int) (x353 : Int) (x354 : Int) (x357 : capstanlaw12_frame) (x383 : api_Instr) (x546 : Int) (x547 : Int)
def capstanlaw12_run.j3 (m_0 : api_Module) (rows_1 : (List (List types_Row))) (k_2 : Int) (ways_3 : (List Bool)) (most_4 : Int) (l349 : List capstanlaw12_frame) (x351 : Int) (x352 : Int) (x353 : Int) (x354 : Int) (x357 : capstanlaw12_frame) (x383 : api_Instr) (x547 : Int) (x605 : Int) : Option (capstanlaw12_run.S ⊕ capstanlaw12_took) :=
  some (.inl (.l2 l349 x351 x352 x353 x354 x357 x383 x605 (IntKind.i64.wrap (x547 + 1))))
def capstanlaw12_run.j5 (m_0 : api_Module) (rows_1 : (List (List types_Row))) (k_2 : Int) (ways_3 : (List Bool)) (most_4 : Int) (l349 : List capstanlaw12_frame) (x352 : Int) (x607 : Int) (l671 : List capstanlaw12_frame) (x672 : Int) (x673 : Int) (x674 : Int) : Option (capstanlaw12_run.S ⊕ capstanlaw12_took) :=
  (elt l671 (IntKind.i64.wrap ((l349.length : Int) - 1))).bind fun x676 => some (.inl (.l1 (l671.set (IntKind.i64.wrap ((l349.length : Int) - 1)).toNat ({ x676 with at_ := x673 } : capstanlaw12_frame)) x672 (IntKind.i64.wrap (x352 + 1)) x607 x674))
def capstanlaw12_run.j6 (m_0 : api_Module) (rows_1 : (List (List types_Row))) (k_2 : Int) (ways_3 : (List Bool)) (most_4 : Int) (l349 : List capstanlaw12_frame) (x351 : Int) (x352 : Int) (x354 : Int) (x357 : capstanlaw12_frame) (x607 : Int) (x669 : Int) : Option (capstanlaw12_run.S ⊕ capstanlaw12_took) :=
  capstanlaw12_run.j5 m_0 rows_1 k_2 ways_3 most_4 l349 x352 x607 l349 (IntKind.i64.wrap (x351 + 1)) x669 x354
def capstanlaw12_run.j4 (m_0 : api_Module) (rows_1 : (List (List types_Row))) (k_2 : Int) (ways_3 : (List Bool)) (most_4 : Int) (l349 : List capstanlaw12_frame) (x351 : Int) (x352 : Int) (x354 : Int) (x357 : capstanlaw12_frame) (x383 : api_Instr) (x607 : Int) : Option (capstanlaw12_run.S ⊕ capstanlaw12_took) :=
  if x383.Op = 32 then (some (.inr (⟨IntKind.i64.wrap (x352 + 1), x607, x354, true⟩ : capstanlaw12_took))) else (if x383.Op = 31 then (if (0 : Int) ≤ (IntKind.i64.wrap ((l349.length : Int) - 1)) ∧ (IntKind.i64.wrap ((l349.length : Int) - 1)) ≤ (l349.length : Int) then (if (IntKind.i64.wrap ((l349.length : Int) - 1)) = 0 then (some (.inr (⟨IntKind.i64.wrap (x352 + 1), x607, x354, true⟩ : capstanlaw12_took))) else ((elt (l349.take (IntKind.i64.wrap ((l349.length : Int) - 1) : Int).toNat) (IntKind.i64.wrap ((IntKind.i64.wrap ((l349.length : Int) - 1)) - 1))).bind fun x613 => (elt (l349.take (IntKind.i64.wrap ((l349.length : Int) - 1) : Int).toNat) (IntKind.i64.wrap ((IntKind.i64.wrap ((l349.length : Int) - 1)) - 1))).bind fun x616 => some (.inl (.l1 ((l349.take (IntKind.i64.wrap ((l349.length : Int) - 1) : Int).toNat).set (IntKind.i64.wrap ((IntKind.i64.wrap ((l349.length : Int) - 1)) - 1)).toNat ({ x616 with at_ := IntKind.i64.wrap (x613.at_ + 1) } : capstanlaw12_frame)) x351 (IntKind.i64.wrap (x352 + 1)) x607 x354)))) else none) else (if x383.Op = 30 then ((elt m_0.Methods x383.A).bind fun x621 => if (0 : Int) ≤ (x621.Code.length : Int) ∧ (8 : Int) * (x621.Code.length : Int) ≤ 281474976710656 ∧ ((x621.Code.length : Int) : Int) ≤ 9223372036854775807 then (if (l349.length + [(⟨x383.A, 0, (List.replicate ((x621.Code.length : Int) : Int).toNat 0 : List Int)⟩ : capstanlaw12_frame)].length) * 40 ≤ 140737488355328 then (some (.inl (.l1 (l349 ++ [(⟨x383.A, 0, (List.replicate ((x621.Code.length : Int) : Int).toNat 0 : List Int)⟩ : capstanlaw12_frame)]) x351 (IntKind.i64.wrap (x352 + 1)) x607 x354))) else none) else none) else (if x383.Op = 22 then (capstanlaw12_run.j5 m_0 rows_1 k_2 ways_3 most_4 l349 x352 x607 l349 x351 (IntKind.i64.wrap (x357.at_ + 1)) (IntKind.i64.wrap (x354 + x383.A))) else (if x383.Op = 28 then ((elt x357.left x357.at_).bind fun x642 => capstanlaw12_run.j5 m_0 rows_1 k_2 ways_3 most_4 l349 x352 x607 (l349.set (IntKind.i64.wrap ((l349.length : Int) - 1)).toNat (capstanlaw12_frame.set_left x357 (x357.left.set x357.at_.toNat x383.A))) x351 (IntKind.i64.wrap (x357.at_ + 1)) x354) else (if x383.Op = 29 then ((elt x357.left x383.A).bind fun x649 => (elt x357.left x383.A).bind fun x651 => (elt ((capstanlaw12_frame.set_left x357 (x357.left.set x383.A.toNat (IntKind.i64.wrap (x649 - 1)))).left) x383.A).bind fun x662 => if x662 > 0 then (capstanlaw12_run.j5 m_0 rows_1 k_2 ways_3 most_4 l349 x352 x607 (l349.set (IntKind.i64.wrap ((l349.length : Int) - 1)).toNat (capstanlaw12_frame.set_left x357 (x357.left.set x383.A.toNat (IntKind.i64.wrap (x649 - 1))))) x351 (IntKind.i64.wrap (x383.A + 1)) x354) else (capstanlaw12_run.j5 m_0 rows_1 k_2 ways_3 most_4 l349 x352 x607 (l349.set (IntKind.i64.wrap ((l349.length : Int) - 1)).toNat (capstanlaw12_frame.set_left x357 (x357.left.set x383.A.toNat (IntKind.i64.wrap (x649 - 1))))) x351 (IntKind.i64.wrap (x357.at_ + 1)) x354)) else (if x383.Op = 26 then (capstanlaw12_run.j5 m_0 rows_1 k_2 ways_3 most_4 l349 x352 x607 l349 x351 x383.A x354) else (if x383.Op = 27 then ((if x351 < (ways_3.length : Int) then ((elt ways_3 x351).bind fun x667 => some x667) else (some false)).bind fun t668 => if t668 = true then (capstanlaw12_run.j6 m_0 rows_1 k_2 ways_3 most_4 l349 x351 x352 x354 x357 x607 x383.A) else (capstanlaw12_run.j6 m_0 rows_1 k_2 ways_3 most_4 l349 x351 x352 x354 x357 x607 (IntKind.i64.wrap (x357.at_ + 1)))) else (capstanlaw12_run.j5 m_0 rows_1 k_2 ways_3 most_4 l349 x352 x607 l349 x351 (IntKind.i64.wrap (x357.at_ + 1)) x354))))))))
def capstanlaw12_run.j2 (m_0 : api_Module) (rows_1 : (List (List types_Row))) (k_2 : Int) (ways_3 : (List Bool)) (most_4 : Int) (l349 : List capstanlaw12_frame) (x351 : Int) (x352 : Int) (x353 : Int) (x354 : Int) (x357 : capstanlaw12_frame) (x383 : api_Instr) (b413 : Bool) : Option (capstanlaw12_run.S ⊕ capstanlaw12_took) :=
  if b413 = true then (some (.inr (⟨x352, x353, x354, false⟩ : capstanlaw12_took))) else (some (.inl (.l2 l349 x351 x352 x353 x354 x357 x383 0 0)))
def capstanlaw12_run.j1 (m_0 : api_Module) (rows_1 : (List (List types_Row))) (k_2 : Int) (ways_3 : (List Bool)) (most_4 : Int) (l349 : List capstanlaw12_frame) (x351 : Int) (x352 : Int) (x353 : Int) (x354 : Int) (x357 : capstanlaw12_frame) (b369 : Bool) : Option (capstanlaw12_run.S ⊕ capstanlaw12_took) :=
  if b369 = true then (some (.inr (⟨x352, x353, x354, false⟩ : capstanlaw12_took))) else ((elt m_0.Methods x357.k).bind fun x374 => (elt x374.Code x357.at_).bind fun x383 => if x383.Op = 30 then (if x383.A < 0 then (capstanlaw12_run.j2 m_0 rows_1 k_2 ways_3 most_4 l349 x351 x352 x353 x354 x357 x383 true) else (if x383.A ≥ (rows_1.length : Int) then (capstanlaw12_run.j2 m_0 rows_1 k_2 ways_3 most_4 l349 x351 x352 x353 x354 x357 x383 true) else (if x383.Op = 29 then (if x383.A < 0 then (capstanlaw12_run.j2 m_0 rows_1 k_2 ways_3 most_4 l349 x351 x352 x353 x354 x357 x383 true) else (capstanlaw12_run.j2 m_0 rows_1 k_2 ways_3 most_4 l349 x351 x352 x353 x354 x357 x383 (decide (x383.A ≥ (x357.left.length : Int))))) else (capstanlaw12_run.j2 m_0 rows_1 k_2 ways_3 most_4 l349 x351 x352 x353 x354 x357 x383 false)))) else (if x383.Op = 29 then (if x383.A < 0 then (capstanlaw12_run.j2 m_0 rows_1 k_2 ways_3 most_4 l349 x351 x352 x353 x354 x357 x383 true) else (capstanlaw12_run.j2 m_0 rows_1 k_2 ways_3 most_4 l349 x351 x352 x353 x354 x357 x383 (decide (x383.A ≥ (x357.left.length : Int))))) else (capstanlaw12_run.j2 m_0 rows_1 k_2 ways_3 most_4 l349 x351 x352 x353 x354 x357 x383 false)))
def capstanlaw12_run.F (m_0 : api_Module) (rows_1 : (List (List types_Row))) (k_2 : Int) (ways_3 : (List Bool)) (most_4 : Int) : capstanlaw12_run.S → Option (capstanlaw12_run.S ⊕ capstanlaw12_took)
  | .start => (elt m_0.Methods k_2).bind fun x14 => if (0 : Int) ≤ (x14.Code.length : Int) ∧ (8 : Int) * (x14.Code.length : Int) ≤ 281474976710656 ∧ ((x14.Code.length : Int) : Int) ≤ 9223372036854775807 then (some (.inl (.l1 [(⟨k_2, 0, (List.replicate ((x14.Code.length : Int) : Int).toNat 0 : List Int)⟩ : capstanlaw12_frame)] 0 0 0 0))) else none
  | .l1 l349 x351 x352 x353 x354 => if x352 < most_4 then ((elt l349 (IntKind.i64.wrap ((l349.length : Int) - 1))).bind fun x357 => if x357.at_ < 0 then (capstanlaw12_run.j1 m_0 rows_1 k_2 ways_3 most_4 l349 x351 x352 x353 x354 x357 true) else ((elt rows_1 x357.k).bind fun x365 => capstanlaw12_run.j1 m_0 rows_1 k_2 ways_3 most_4 l349 x351 x352 x353 x354 x357 (decide (x357.at_ ≥ (x365.length : Int))))) else (some (.inr (⟨x352, x353, x354, false⟩ : capstanlaw12_took)))
  | .l2 l349 x351 x352 x353 x354 x357 x383 x546 x547 => if x547 ≤ (IntKind.i64.wrap ((l349.length : Int) - 1)) then ((elt l349 x547).bind fun x550 => (elt m_0.Methods x550.k).bind fun x554 => (elt l349 x547).bind fun x569 => (elt rows_1 x569.k).bind fun x573 => (elt l349 x547).bind fun x578 => (elt x573 x578.at_).bind fun x582 => if x547 < (IntKind.i64.wrap ((l349.length : Int) - 1)) then ((elt l349 x547).bind fun x589 => (elt x554.Code x589.at_).bind fun x593 => (elt m_0.Methods x593.A).bind fun x599 => capstanlaw12_run.j3 m_0 rows_1 k_2 ways_3 most_4 l349 x351 x352 x353 x354 x357 x383 x547 (IntKind.i64.wrap ((IntKind.i64.wrap ((IntKind.i64.wrap ((IntKind.i64.wrap (x546 + (x554.Args.length : Int))) + (x554.Locals.length : Int))) + (x582.Kinds.length : Int))) - (x599.Args.length : Int)))) else (capstanlaw12_run.j3 m_0 rows_1 k_2 ways_3 most_4 l349 x351 x352 x353 x354 x357 x383 x547 (IntKind.i64.wrap ((IntKind.i64.wrap ((IntKind.i64.wrap (x546 + (x554.Args.length : Int))) + (x554.Locals.length : Int))) + (x582.Kinds.length : Int))))) else (if x546 > x353 then (capstanlaw12_run.j4 m_0 rows_1 k_2 ways_3 most_4 l349 x351 x352 x354 x357 x383 x546) else (capstanlaw12_run.j4 m_0 rows_1 k_2 ways_3 most_4 l349 x351 x352 x354 x357 x383 x353))
def capstanlaw12_run.f (m_0 : api_Module) (rows_1 : (List (List types_Row))) (k_2 : Int) (ways_3 : (List Bool)) (most_4 : Int) : Option capstanlaw12_took := runF (capstanlaw12_run.F m_0 rows_1 k_2 ways_3 most_4) .start
theorem capstanlaw12_run.ok (m_0 : api_Module) (rows_1 : (List (List types_Row))) (k_2 : Int) (ways_3 : (List Bool)) (most_4 : Int) (v_m_0_Globals v_m_0_Pool : Value) (v_m_0_Methods v_rows_1 v_ways_3 : Value) (r : capstanlaw12_took) (H : capstanlaw12_run.f m_0 rows_1 k_2 ways_3 most_4 = some r) (w : World) (hV : Hp) (sV : Sub hV (hp w)) (h0 : slR k_api_Value hV v_m_0_Globals m_0.Globals) (h1 : slR k_api_Value hV v_m_0_Pool m_0.Pool) (h2 : slR k_api_Method hV v_m_0_Methods m_0.Methods) (h3 : slR (kSl k_types_Row) hV v_rows_1 rows_1) (h4 : slR kBool hV v_ways_3 ways_3) :
    Trip Tryz.prog 10 [.agg #[v_m_0_Globals, v_m_0_Pool, v_m_0_Methods, .int .i64 m_0.Migrate], v_rows_1, .int .i64 k_2, v_ways_3, .int .i64 most_4].toArray em hV w (fun v => HO.pure (v = .agg #[.int .i64 r.fuel, .int .i64 r.stack, .int .i64 r.heap, .bool r.over])) := by
 refine Trip.go 302 Tryz.func10 sV (aS h0 (aS h1 (aS h2 (aS h3 (aS h4 (All.nil _)))))) fun see => ?_
 obtain ⟨n0, hi⟩ := runF_iff.1 H
 obtain ⟨m0, o, hm0, ho, hr⟩ := iter_some hi
 clear hi
 refine go ?_
 refine SP.box rfl rfl rfl rfl fun b6 => ?_
 refine SP.alloc (cs := [.int .i64 0, .int .i64 0, .int .i64 0, .bool false]) inf33 rfl rfl (fun b8 => go ?_)
 refine SP.alloc (cs := [.int .i64 0, .int .i64 0, .int .i64 0, .bool false]) inf33 rfl rfl (fun b10 => go ?_)
 obtain ⟨x14, hx, ho⟩ := elt_bind ho
 refine SP.indexP see 2 rfl Tryz.underlying23 sz41 hx.1 hx.2 rfl rfl rfl rfl (fun p12 => ?_)
 clear hx
 refine SP.fieldP see 0 rfl Tryz.underlying41 rfl sz39 k_api_Method.part_Code rfl rfl rfl (fun p15 => ?_)
 refine SP.loadPS see 0 rfl Tryz.underlying39 rfl rfl rfl (fun v17 => go ?_)
 obtain ⟨hb, ho⟩ := must_some ho
 refine SP.makeO (k := (kInt .i64)) (z := 0) Tryz.underlying55 inf3 rfl (fun _ => rfl) rfl rfl rfl rfl hb (fun v19 => ?_)
 clear hb
 refine SP.have (fun w2 hw => slO.shape (St.own 0 rfl see.sub see.dj hw)) (fun hs_v19 => ?_)
 refine SP.val (Val.buildC (us := [(0, .int .i64 k_2), (1, .int .i64 0), (2, v19)]) (ucs := [(0, [.int .i64 k_2]), (1, [.int .i64 0]), (2, [v19])]) (cs := [.int .i64 k_2, .int .i64 0, v19]) bt67 rfl rfl ⟨rfl, rfl, ⟨rfl, rfl, ⟨rfl, one_cells hs_v19, trivial⟩⟩⟩ (by rfl)) rfl rfl rfl ?_
 refine SP.have (fun w2 hw => slO.shape (St.own 0 rfl see.sub see.dj hw)) (fun hs_v19 => ?_)
 refine SP.lit (k := kRaw 3) (xs := [[.int .i64 k_2, .int .i64 0, v19]]) (vs := [.agg #[.int .i64 k_2, .int .i64 0, v19]]) (cells := [.int .i64 k_2, .int .i64 0, v19]) Tryz.underlying68 inf67 rfl rfl rfl rfl rfl rfl rfl rfl (fun _ ap => ⟨[.int .i64 k_2, .int .i64 0, v19], _, rfl, ⟨rfl, rfl, one_cons rfl (one_cons rfl (one_cons hs_v19 (rfl)))⟩, rfl⟩) rfl rfl rfl (fun v21 => ?_)
 refine SP.imp (fun w2 hw => St.litD (k := o_capstanlaw12_frame) (c := [.int .i64 k_2, .int .i64 0, v19]) (x0 := (⟨k_2, 0, (List.replicate ((x14.Code.length : Int) : Int).toNat 0 : List Int)⟩ : capstanlaw12_frame)) [slO (kInt .i64) 3 v19 (List.replicate ((x14.Code.length : Int) : Int).toNat 0 : List Int)] (St.selO [0, 1, 2, 3, 4] rfl rfl hw) (fun a b q => ⟨_, rfl, q⟩)) (go ?_)
 refine CP.seq (go ?_)
 obtain rfl := Option.some.inj ho
 refine CP.loop (fun cl1 a w2 => ∃ l349 : List capstanlaw12_frame, ∃ x351 : Int, ∃ x352 : Int, ∃ x353 : Int, ∃ x354 : Int, ∃ v350 : Value, cl1 ≤ m0 ∧ iter (capstanlaw12_run.F m_0 rows_1 k_2 ways_3 most_4) cl1 (.l1 l349 x351 x352 x353 x354) = some r ∧ Env ⟨302, []⟩ [(1, v_rows_1), (3, v_ways_3), (4, .int .i64 most_4), (5, .pointer (some ⟨b6, 0, none⟩)), (10, .pointer (some ⟨b8, 0, none⟩)), (11, .pointer (some ⟨b10, 0, none⟩)), (12, v350), (13, .int .i64 x351)] a ∧ St w em hV [slP k_api_Value v_m_0_Globals m_0.Globals, slP k_api_Value v_m_0_Pool m_0.Pool, slP k_api_Method v_m_0_Methods m_0.Methods, slP (kSl k_types_Row) v_rows_1 rows_1, slP kBool v_ways_3 ways_3] [slD o_capstanlaw12_frame 67 v350 l349, boxO b10 [.int .i64 x352, .int .i64 x353, .int .i64 x354, .bool false] 33, boxO b8 [.int .i64 0, .int .i64 0, .int .i64 0, .bool false] 33, boxO b6 [v_m_0_Globals, v_m_0_Pool, v_m_0_Methods, .int .i64 m_0.Migrate] 25] w2) m0 (fun a w2 ha hw => ⟨[(⟨k_2, 0, (List.replicate ((x14.Code.length : Int) : Int).toNat 0 : List Int)⟩ : capstanlaw12_frame)], 0, 0, 0, 0, v21, Nat.le_refl _, hr, ha.sub sb, (St.selP [3, 4, 5, 6, 7] rfl hw)⟩) ?_
 clear hr
 rintro cl1 a w2 ⟨l349, x351, x352, x353, x354, v350, hc_l1, hi, ha, hw⟩
 obtain ⟨m355, o, hm_m355, ho, hr⟩ := iter_some hi
 refine CP.app ha hw ?_
 clear ha hw a w2 hi
 refine CP.seq (go ?_)
 refine CP.ci ho (fun ho => ?_) fun ho => ?_
 ·refine go ?_
  refine SP.val (Val.lenW (fun w2 hw => slD.flat (St.own 0 rfl see.sub see.dj hw) (Sub.refl _) (Sub.refl _)) Tryz.underlying68 rfl) rfl rfl rfl (go ?_)
  obtain ⟨x357, hx_x357, ho⟩ := elt_bind ho
  refine SP.indexW (fun w2 hw => slD.flat (St.own 0 rfl see.sub see.dj hw) (Sub.refl _) (Sub.refl _)) Tryz.underlying68 sz67 hx_x357.1 hx_x357.2 rfl rfl rfl rfl (fun p356 h_p356 => go ?_)
  refine CP.seq ?_
  refine CP.join (fun a w2 => ∃ b369 : Bool, ∃ (m370 : Nat) (o : (capstanlaw12_run.S ⊕ capstanlaw12_took)), m370 ≤ m355 ∧ capstanlaw12_run.j1 m_0 rows_1 k_2 ways_3 most_4 l349 x351 x352 x353 x354 x357 b369 = some o ∧ next (capstanlaw12_run.F m_0 rows_1 k_2 ways_3 most_4) m370 o = some r ∧ Env ⟨302, []⟩ [(1, v_rows_1), (3, v_ways_3), (4, .int .i64 most_4), (5, .pointer (some ⟨b6, 0, none⟩)), (10, .pointer (some ⟨b8, 0, none⟩)), (11, .pointer (some ⟨b10, 0, none⟩)), (12, v350), (13, .int .i64 x351), (14, .int .i64 (IntKind.i64.wrap ((l349.length : Int) - 1))), (15, p356), (61, .bool b369)] a ∧ St w em hV [slP k_api_Value v_m_0_Globals m_0.Globals, slP k_api_Value v_m_0_Pool m_0.Pool, slP k_api_Method v_m_0_Methods m_0.Methods, slP (kSl k_types_Row) v_rows_1 rows_1, slP kBool v_ways_3 ways_3] [slD o_capstanlaw12_frame 67 v350 l349, boxO b10 [.int .i64 x352, .int .i64 x353, .int .i64 x354, .bool false] 33, boxO b8 [.int .i64 0, .int .i64 0, .int .i64 0, .bool false] 33, boxO b6 [v_m_0_Globals, v_m_0_Pool, v_m_0_Methods, .int .i64 m_0.Migrate] 25] w2) ?_ ?_
  ·rintro a w2 ⟨b369, m370, o, hm_m370, ho, hr, ha, hw⟩
   refine CP.app ha hw ?_
   clear ha hw a w2
   refine CP.cb ho (fun ho => ?_) fun ho => ?_
   ·refine go ?_
    refine SP.val (Val.loadA 1 rfl Tryz.underlying33 rfl sz33 rfl rfl rfl) rfl rfl rfl ?_
    refine SP.store (v := .agg #[.int .i64 x352, .int .i64 x353, .int .i64 x354, .bool false]) (vs := [.int .i64 x352, .int .i64 x353, .int .i64 x354, .bool false]) 2 (by rfl) sz33 (by rfl) (by rfl) (by rfl) (by rfl) (by rfl) (by rfl) (go ?_)
    obtain rfl := fin ho hr
    exact QE.rt (fun _ h => h) (rs := [.cell 10 33]) (vs := [.agg #[.int .i64 x352, .int .i64 x353, .int .i64 x354, .bool false]]) (hv := ⟨RVs.cellA 2 rfl rfl Tryz.underlying33 rfl sz33, trivial⟩)
   refine go ?_
   refine CP.seq ?_
   refine CP.drawA (by kernel_rfl) (fun w2 k h => h.drawn k) ?_
   obtain ⟨p371, h_p371⟩ := PtC.more h_p356 0
   obtain ⟨x374, hx, ho⟩ := elt_bind ho
   refine DA.ghost (fun w2 h => h.elem see 2 rfl hx.1 hx.2) (fun p372 h_p372 => ?_)
   clear hx
   refine DA.ghost (fun w2 h => h.fieldE see 0 rfl k_api_Method.part_Code) (fun p375 h_p375 => ?_)
   refine DA.ghost (fun w2 h => h.openE see 0 rfl (fun (v377 : Value) => [v377]) (fun (v377 : Value) => [slP k_api_Instr v377 x374.Code]) (fun h cs ⟨v377, e, p0⟩ => ⟨v377, e, All.cons p0 (All.nil _)⟩)) (fun z_ _ => ?_)
   rename Value => v377
   obtain ⟨p380, h_p380⟩ := PtC.more h_p356 1
   obtain ⟨x383, hx, ho⟩ := elt_bind ho
   refine DA.ghost (fun w2 h => h.elem see 1 rfl hx.1 hx.2) (fun p381 h_p381 => ?_)
   clear hx
   refine DA.ghost (fun w2 h => h.openE see 0 rfl (fun _ : Unit => [.int .u8 x383.Op, .int .i64 x383.A, .int .i64 x383.B]) (fun _ => []) (fun h cs e => ⟨(), e, All.nil _⟩)) (fun _ _ => ?_)
   refine DA.ph 0 16 ?_
   refine DT.tk 0 ?_
   refine DT.tk 1 ?_
   refine DT.tk 2 ?_
   refine DT.tv 3 rfl (Val.nilCheckC h_p356 rfl) ?_
   refine DT.tv 4 rfl (Val.fieldC h_p356 h_p371 Tryz.underlying67 rfl rfl sz3 rfl) ?_
   refine DT.tv 5 rfl (Val.loadW1 (off := 0) (k := k_capstanlaw12_frame) (fun w2 hw => slD.flat (St.own 0 rfl see.sub see.dj hw) (Sub.refl _) (Sub.refl _)) hx_x357.2 h_p371 (fun _ _ ⟨_, e, _⟩ => by subst e; rfl) Tryz.underlying3 rfl rfl) ?_
   refine DT.tv 6 rfl (Val.indexE h_p372 Tryz.underlying23 sz41 rfl rfl) ?_
   refine DT.tv 7 rfl (Val.fieldE h_p375 Tryz.underlying41 rfl rfl sz39 rfl) ?_
   refine DT.tv 8 rfl (Val.loadAt1 see 2 rfl Tryz.underlying39 rfl rfl) ?_
   refine DT.tk 9 ?_
   refine DT.tv 10 rfl (Val.nilCheckC h_p356 rfl) ?_
   refine DT.tv 11 rfl (Val.fieldC h_p356 h_p380 Tryz.underlying67 rfl rfl sz3 rfl) ?_
   refine DT.tv 12 rfl (Val.loadW1 (off := 1) (k := k_capstanlaw12_frame) (fun w2 hw => slD.flat (St.own 0 rfl see.sub see.dj hw) (Sub.refl _) (Sub.refl _)) hx_x357.2 h_p380 (fun _ _ ⟨_, e, _⟩ => by subst e; rfl) Tryz.underlying3 rfl rfl) ?_
   refine DT.tv 13 rfl (Val.indexE h_p381 Tryz.underlying39 sz71 rfl rfl) ?_
   refine DT.tv 14 rfl (Val.loadAtA see 0 rfl Tryz.underlying71 rfl sz71 rfl) ?_
   refine DT.one 15 rfl (by kernel_rfl) rfl ?_
   refine SP.alloc (cs := [.int .u8 0, .int .i64 0, .int .i64 0]) inf71 rfl rfl (fun b389 => go ?_)
   refine QE.atT (fun w2 hw => (St.selO [1, 2, 3, 4] rfl rfl hw)) ?_
   refine DT.next (by kernel_rfl) ?_
   refine DA.one 16 rfl (by kernel_rfl) ?_
   refine SP.store (v := .agg #[.int .u8 x383.Op, .int .i64 x383.A, .int .i64 x383.B]) (vs := [.int .u8 x383.Op, .int .i64 x383.A, .int .i64 x383.B]) 0 (by rfl) sz71 (by rfl) (by rfl) (by rfl) (by rfl) (by rfl) (by rfl) (go ?_)
   refine QE.atA ?_
   refine DA.done (by kernel_rfl) (go ?_)
   refine CP.seq ?_
   refine CP.join (fun a w2 => ∃ b413 : Bool, ∃ (m414 : Nat) (o : (capstanlaw12_run.S ⊕ capstanlaw12_took)), m414 ≤ m370 ∧ capstanlaw12_run.j2 m_0 rows_1 k_2 ways_3 most_4 l349 x351 x352 x353 x354 x357 x383 b413 = some o ∧ next (capstanlaw12_run.F m_0 rows_1 k_2 ways_3 most_4) m414 o = some r ∧ Env ⟨302, []⟩ [(1, v_rows_1), (3, v_ways_3), (4, .int .i64 most_4), (5, .pointer (some ⟨b6, 0, none⟩)), (10, .pointer (some ⟨b8, 0, none⟩)), (11, .pointer (some ⟨b10, 0, none⟩)), (12, v350), (13, .int .i64 x351), (14, .int .i64 (IntKind.i64.wrap ((l349.length : Int) - 1))), (15, p356), (16, .pointer (some ⟨b389, 0, none⟩)), (112, .bool b413)] a ∧ St w em hV [slP k_api_Value v_m_0_Globals m_0.Globals, slP k_api_Value v_m_0_Pool m_0.Pool, slP k_api_Method v_m_0_Methods m_0.Methods, slP (kSl k_types_Row) v_rows_1 rows_1, slP kBool v_ways_3 ways_3] [boxO b389 [.int .u8 x383.Op, .int .i64 x383.A, .int .i64 x383.B] 71, slD o_capstanlaw12_frame 67 v350 l349, boxO b10 [.int .i64 x352, .int .i64 x353, .int .i64 x354, .bool false] 33, boxO b8 [.int .i64 0, .int .i64 0, .int .i64 0, .bool false] 33, boxO b6 [v_m_0_Globals, v_m_0_Pool, v_m_0_Methods, .int .i64 m_0.Migrate] 25] w2) ?_ ?_
   ·rintro a w2 ⟨b413, m414, o, hm_m414, ho, hr, ha, hw⟩
    refine CP.app ha hw ?_
    clear ha hw a w2
    refine CP.cb ho (fun ho => ?_) fun ho => ?_
    ·refine go ?_
     refine SP.val (Val.loadA 2 rfl Tryz.underlying33 rfl sz33 rfl rfl rfl) rfl rfl rfl ?_
     refine SP.store (v := .agg #[.int .i64 x352, .int .i64 x353, .int .i64 x354, .bool false]) (vs := [.int .i64 x352, .int .i64 x353, .int .i64 x354, .bool false]) 3 (by rfl) sz33 (by rfl) (by rfl) (by rfl) (by rfl) (by rfl) (by rfl) (go ?_)
     obtain rfl := fin ho hr
     exact QE.rt (fun _ h => h) (rs := [.cell 10 33]) (vs := [.agg #[.int .i64 x352, .int .i64 x353, .int .i64 x354, .bool false]]) (hv := ⟨RVs.cellA 3 rfl rfl Tryz.underlying33 rfl sz33, trivial⟩)
    refine go ?_
    refine SP.store (v := .int .i64 (IntKind.i64.wrap (x352 + 1))) (vs := [.int .i64 (IntKind.i64.wrap (x352 + 1))]) 2 (by rfl) sz3 (by rfl) (by rfl) (by rfl) (by rfl) (by rfl) (by rfl) (go ?_)
    refine CP.seq (go ?_)
    obtain rfl := Option.some.inj ho
    refine CP.loop (fun cl2 a w2 => ∃ x546 : Int, ∃ x547 : Int, cl2 ≤ m414 ∧ iter (capstanlaw12_run.F m_0 rows_1 k_2 ways_3 most_4) cl2 (.l2 l349 x351 x352 x353 x354 x357 x383 x546 x547) = some r ∧ Env ⟨302, []⟩ [(1, v_rows_1), (3, v_ways_3), (4, .int .i64 most_4), (5, .pointer (some ⟨b6, 0, none⟩)), (10, .pointer (some ⟨b8, 0, none⟩)), (11, .pointer (some ⟨b10, 0, none⟩)), (12, v350), (13, .int .i64 x351), (14, .int .i64 (IntKind.i64.wrap ((l349.length : Int) - 1))), (15, p356), (16, .pointer (some ⟨b389, 0, none⟩)), (17, .int .i64 x546), (18, .int .i64 x547)] a ∧ St w em hV [slP k_api_Value v_m_0_Globals m_0.Globals, slP k_api_Value v_m_0_Pool m_0.Pool, slP k_api_Method v_m_0_Methods m_0.Methods, slP (kSl k_types_Row) v_rows_1 rows_1, slP kBool v_ways_3 ways_3] [boxO b389 [.int .u8 x383.Op, .int .i64 x383.A, .int .i64 x383.B] 71, slD o_capstanlaw12_frame 67 v350 l349, boxO b10 [.int .i64 (IntKind.i64.wrap (x352 + 1)), .int .i64 x353, .int .i64 x354, .bool false] 33, boxO b8 [.int .i64 0, .int .i64 0, .int .i64 0, .bool false] 33, boxO b6 [v_m_0_Globals, v_m_0_Pool, v_m_0_Methods, .int .i64 m_0.Migrate] 25] w2) m414 (fun a w2 ha hw => ⟨0, 0, Nat.le_refl _, hr, ha.sub sb, hw⟩) ?_
    clear hr
    rintro cl2 a w2 ⟨x546, x547, hc_l2, hi, ha, hw⟩
    obtain ⟨m548, o, hm_m548, ho, hr⟩ := iter_some hi
    refine CP.app ha hw ?_
    clear ha hw a w2 hi
    refine CP.seq (go ?_)
    refine CP.ci ho (fun ho => ?_) fun ho => ?_
    ·refine go ?_
     refine CP.join (fun a w2 => ∃ x605 : Int, ∃ (m606 : Nat) (o : (capstanlaw12_run.S ⊕ capstanlaw12_took)), m606 ≤ m548 ∧ capstanlaw12_run.j3 m_0 rows_1 k_2 ways_3 most_4 l349 x351 x352 x353 x354 x357 x383 x547 x605 = some o ∧ next (capstanlaw12_run.F m_0 rows_1 k_2 ways_3 most_4) m606 o = some r ∧ Env ⟨302, []⟩ [(1, v_rows_1), (3, v_ways_3), (4, .int .i64 most_4), (5, .pointer (some ⟨b6, 0, none⟩)), (10, .pointer (some ⟨b8, 0, none⟩)), (11, .pointer (some ⟨b10, 0, none⟩)), (12, v350), (13, .int .i64 x351), (14, .int .i64 (IntKind.i64.wrap ((l349.length : Int) - 1))), (15, p356), (16, .pointer (some ⟨b389, 0, none⟩)), (17, .int .i64 x605), (18, .int .i64 x547)] a ∧ St w em hV [slP k_api_Value v_m_0_Globals m_0.Globals, slP k_api_Value v_m_0_Pool m_0.Pool, slP k_api_Method v_m_0_Methods m_0.Methods, slP (kSl k_types_Row) v_rows_1 rows_1, slP kBool v_ways_3 ways_3] [boxO b389 [.int .u8 x383.Op, .int .i64 x383.A, .int .i64 x383.B] 71, slD o_capstanlaw12_frame 67 v350 l349, boxO b10 [.int .i64 (IntKind.i64.wrap (x352 + 1)), .int .i64 x353, .int .i64 x354, .bool false] 33, boxO b8 [.int .i64 0, .int .i64 0, .int .i64 0, .bool false] 33, boxO b6 [v_m_0_Globals, v_m_0_Pool, v_m_0_Methods, .int .i64 m_0.Migrate] 25] w2) ?_ ?_
     ·rintro a w2 ⟨x605, m606, o, hm_m606, ho, hr, ha, hw⟩
      refine CP.app ha hw ?_
      clear ha hw a w2
      refine go ?_
      obtain rfl := Option.some.inj ho
      exact QE.lower m606 (by omega) fun a w2 ha hw => ⟨x605, (IntKind.i64.wrap (x547 + 1)), (by omega), hr, ha.sub sb, hw⟩
     refine go ?_
     refine CP.seq ?_
     refine CP.drawA (by kernel_rfl) (fun w2 k h => h.drawn k) ?_
     obtain ⟨x550, hx_x550, ho⟩ := elt_bind ho
     refine DA.ghost (fun w2 hw => let ⟨z, hz⟩ := ixC ((fun w2 hw => slD.flat (St.own 1 rfl see.sub see.dj hw) (Sub.refl _) (Sub.refl _)) w2 hw) hx_x550.1 hx_x550.2; ⟨z, hz, hw⟩) (fun p549 i_p549 => ?_)
     have h_p549 := i_p549.1
     obtain ⟨p551, h_p551⟩ := PtC.more h_p549 0
     obtain ⟨x554, hx, ho⟩ := elt_bind ho
     refine DA.ghost (fun w2 h => h.elem see 2 rfl hx.1 hx.2) (fun p552 h_p552 => ?_)
     clear hx
     refine DA.ghost (fun w2 h => h.openE see 0 rfl (fun ((v555, v557, v559) : Value × Value × Value) => [v555, v557, .int .u8 x554.Result, .bool x554.Reads, .int .i64 x554.Fuel, .int .i64 x554.Stack, .int .i64 x554.Heap, v559]) (fun ((v555, v557, v559) : Value × Value × Value) => [slP (kInt .u8) v555 x554.Args, slP (kInt .u8) v557 x554.Locals, slP k_api_Instr v559 x554.Code]) (fun h cs ⟨v555, v557, v559, e, p0, p1, p2⟩ => ⟨(v555, v557, v559), e, All.cons p0 (All.cons p1 (All.cons p2 (All.nil _)))⟩)) (fun z_ _ => ?_)
     obtain ⟨v555, v557, v559⟩ := z_
     refine DA.ph 0 10 ?_
     refine DT.tk 0 ?_
     refine DT.tk 1 ?_
     refine DT.tk 2 ?_
     refine DT.tk 3 ?_
     refine DT.tv 4 rfl (Val.indexC' i_p549 Tryz.underlying68 sz67 rfl rfl) ?_
     refine DT.tv 5 rfl (Val.fieldC h_p549 h_p551 Tryz.underlying67 rfl rfl sz3 rfl) ?_
     refine DT.tv 6 rfl (Val.loadW1 (off := 0) (k := k_capstanlaw12_frame) (fun w2 hw => slD.flat (St.own 1 rfl see.sub see.dj hw) (Sub.refl _) (Sub.refl _)) hx_x550.2 h_p551 (fun _ _ ⟨_, e, _⟩ => by subst e; rfl) Tryz.underlying3 rfl rfl) ?_
     refine DT.tv 7 rfl (Val.indexE h_p552 Tryz.underlying23 sz41 rfl rfl) ?_
     refine DT.tv 8 rfl (Val.loadAtA see 0 rfl Tryz.underlying41 rfl sz41 rfl) ?_
     refine DT.one 9 rfl (by kernel_rfl) rfl ?_
     refine SP.alloc (cs := [(.slice none 0 0), (.slice none 0 0), .int .u8 0, .bool false, .int .i64 0, .int .i64 0, .int .i64 0, (.slice none 0 0)]) inf41 rfl rfl (fun b566 => go ?_)
     refine QE.atT (fun w2 hw => (St.selO [1, 2, 3, 4, 5] rfl rfl hw)) ?_
     refine DT.next (by kernel_rfl) ?_
     refine DA.one 10 rfl (by kernel_rfl) ?_
     refine SP.have (fun w2 hw => slR.shape (St.pers 1 rfl see.sub see.dj hw)) (fun hs_v555 => ?_)
     refine SP.have (fun w2 hw => slR.shape (St.pers 2 rfl see.sub see.dj hw)) (fun hs_v557 => ?_)
     refine SP.have (fun w2 hw => slR.shape (St.pers 3 rfl see.sub see.dj hw)) (fun hs_v559 => ?_)
     refine SP.store (v := .agg #[v555, v557, .int .u8 x554.Result, .bool x554.Reads, .int .i64 x554.Fuel, .int .i64 x554.Stack, .int .i64 x554.Heap, v559]) (vs := [v555, v557, .int .u8 x554.Result, .bool x554.Reads, .int .i64 x554.Fuel, .int .i64 x554.Stack, .int .i64 x554.Heap, v559]) 0 (by rfl) sz41 (by rfl) (by rfl) (by rfl) (by rfl) (one_cons hs_v555 (one_cons hs_v557 (one_cons rfl (one_cons rfl (one_cons rfl (one_cons rfl (one_cons rfl (one_cons hs_v559 (rfl))))))))) (by rfl) (go ?_)
     refine QE.atA ?_
     refine DA.done (by kernel_rfl) (go ?_)
     refine CP.seq ?_
     refine CP.drawA (by kernel_rfl) (fun w2 k h => h.drawn k) ?_
     obtain ⟨x569, hx_x569, ho⟩ := elt_bind ho
     refine DA.ghost (fun w2 hw => let ⟨z, hz⟩ := ixC ((fun w2 hw => slD.flat (St.own 2 rfl see.sub see.dj hw) (Sub.refl _) (Sub.refl _)) w2 hw) hx_x569.1 hx_x569.2; ⟨z, hz, hw⟩) (fun p568 i_p568 => ?_)
     have h_p568 := i_p568.1
     obtain ⟨p570, h_p570⟩ := PtC.more h_p568 0
     obtain ⟨x573, hx, ho⟩ := elt_bind ho
     refine DA.ghost (fun w2 h => h.elem see 8 rfl hx.1 hx.2) (fun p571 h_p571 => ?_)
     clear hx
     refine DA.ghost (fun w2 h => h.openE see 0 rfl (fun (v574 : Value) => [v574]) (fun (v574 : Value) => [slP k_types_Row v574 x573]) (fun h cs ⟨v574, e, p0⟩ => ⟨v574, e, All.cons p0 (All.nil _)⟩)) (fun z_ _ => ?_)
     rename Value => v574
     obtain ⟨x578, hx_x578, ho⟩ := elt_bind ho
     refine DA.ghost (fun w2 hw => let ⟨z, hz⟩ := ixC ((fun w2 hw => slD.flat (St.own 2 rfl see.sub see.dj hw) (Sub.refl _) (Sub.refl _)) w2 hw) hx_x578.1 hx_x578.2; ⟨z, hz, hw⟩) (fun p577 i_p577 => ?_)
     have h_p577 := i_p577.1
     obtain ⟨p579, h_p579⟩ := PtC.more h_p577 1
     obtain ⟨x582, hx, ho⟩ := elt_bind ho
     refine DA.ghost (fun w2 h => h.elem see 1 rfl hx.1 hx.2) (fun p580 h_p580 => ?_)
     clear hx
     refine DA.ghost (fun w2 h => h.fieldE see 0 rfl k_types_Row.part_Kinds) (fun p583 h_p583 => ?_)
     refine DA.ghost (fun w2 h => h.openE see 0 rfl (fun (v585 : Value) => [v585]) (fun (v585 : Value) => [slP (kInt .u8) v585 x582.Kinds]) (fun h cs ⟨v585, e, p0⟩ => ⟨v585, e, All.cons p0 (All.nil _)⟩)) (fun z_ _ => ?_)
     rename Value => v585
     refine DA.ph 0 26 ?_
     refine DT.tk 0 ?_
     refine DT.tk 1 ?_
     refine DT.tk 2 ?_
     refine DT.tk 3 ?_
     refine DT.tk 4 ?_
     refine DT.tk 5 ?_
     refine DT.tk 6 ?_
     refine DT.tk 7 ?_
     refine DT.tk 8 ?_
     refine DT.tk 9 ?_
     refine DT.tk 10 ?_
     refine DT.tk 11 ?_
     refine DT.tv 12 rfl (Val.indexC' i_p568 Tryz.underlying68 sz67 rfl rfl) ?_
     refine DT.tv 13 rfl (Val.fieldC h_p568 h_p570 Tryz.underlying67 rfl rfl sz3 rfl) ?_
     refine DT.tv 14 rfl (Val.loadW1 (off := 0) (k := k_capstanlaw12_frame) (fun w2 hw => slD.flat (St.own 2 rfl see.sub see.dj hw) (Sub.refl _) (Sub.refl _)) hx_x569.2 h_p570 (fun _ _ ⟨_, e, _⟩ => by subst e; rfl) Tryz.underlying3 rfl rfl) ?_
     refine DT.tv 15 rfl (Val.indexE h_p571 Tryz.underlying28 sz63 rfl rfl) ?_
     refine DT.tv 16 rfl (Val.loadAt1 see 4 rfl Tryz.underlying63 rfl rfl) ?_
     refine DT.tk 17 ?_
     refine DT.tk 18 ?_
     refine DT.tv 19 rfl (Val.indexC' i_p577 Tryz.underlying68 sz67 rfl rfl) ?_
     refine DT.tv 20 rfl (Val.fieldC h_p577 h_p579 Tryz.underlying67 rfl rfl sz3 rfl) ?_
     refine DT.tv 21 rfl (Val.loadW1 (off := 1) (k := k_capstanlaw12_frame) (fun w2 hw => slD.flat (St.own 2 rfl see.sub see.dj hw) (Sub.refl _) (Sub.refl _)) hx_x578.2 h_p579 (fun _ _ ⟨_, e, _⟩ => by subst e; rfl) Tryz.underlying3 rfl rfl) ?_
     refine DT.tv 22 rfl (Val.indexE h_p580 Tryz.underlying63 sz73 rfl rfl) ?_
     refine DT.tv 23 rfl (Val.fieldE h_p583 Tryz.underlying73 rfl rfl sz38 rfl) ?_
     refine DT.tv 24 rfl (Val.loadAt1 see 0 rfl Tryz.underlying38 rfl rfl) ?_
     refine DT.tk 25 ?_
     refine DT.next (by kernel_rfl) ?_
     refine DA.one 26 rfl (by kernel_rfl) (go ?_)
     refine QE.atA ?_
     refine DA.one 27 rfl (by kernel_rfl) (go ?_)
     refine QE.atA ?_
     refine DA.done (by kernel_rfl) (go ?_)
     refine CP.ci ho (fun ho => ?_) fun ho => ?_
     ·refine CP.drawA (by kernel_rfl) (fun w2 k h => h.drawn k) ?_
      obtain ⟨x589, hx_x589, ho⟩ := elt_bind ho
      refine DA.ghost (fun w2 hw => let ⟨z, hz⟩ := ixC ((fun w2 hw => slD.flat (St.own 2 rfl see.sub see.dj hw) (Sub.refl _) (Sub.refl _)) w2 hw) hx_x589.1 hx_x589.2; ⟨z, hz, hw⟩) (fun p588 i_p588 => ?_)
      have h_p588 := i_p588.1
      obtain ⟨p590, h_p590⟩ := PtC.more h_p588 1
      obtain ⟨x593, hx, ho⟩ := elt_bind ho
      refine DA.ghost (fun w2 h => h.elem see 10 rfl hx.1 hx.2) (fun p591 h_p591 => ?_)
      clear hx
      refine DA.ghost (fun w2 h => h.fieldE see 0 rfl k_api_Instr.part_A) (fun p594 h_p594 => ?_)
      refine DA.ghost (fun w2 h => h.openE see 0 rfl (fun _ : Unit => [.int .i64 x593.A]) (fun _ => []) (fun h cs e => ⟨(), e, All.nil _⟩)) (fun _ _ => ?_)
      obtain ⟨x599, hx, ho⟩ := elt_bind ho
      refine DA.ghost (fun w2 h => h.elem see 17 rfl hx.1 hx.2) (fun p597 h_p597 => ?_)
      clear hx
      refine DA.ghost (fun w2 h => h.fieldE see 0 rfl k_api_Method.part_Args) (fun p600 h_p600 => ?_)
      refine DA.ghost (fun w2 h => h.openE see 0 rfl (fun (v602 : Value) => [v602]) (fun (v602 : Value) => [slP (kInt .u8) v602 x599.Args]) (fun h cs ⟨v602, e, p0⟩ => ⟨v602, e, All.cons p0 (All.nil _)⟩)) (fun z_ _ => ?_)
      rename Value => v602
      refine DA.ph 0 17 ?_
      refine DT.tk 0 ?_
      refine DT.tk 1 ?_
      refine DT.tk 2 ?_
      refine DT.tk 3 ?_
      refine DT.tk 4 ?_
      refine DT.tk 5 ?_
      refine DT.tk 6 ?_
      refine DT.tv 7 rfl (Val.indexC' i_p588 Tryz.underlying68 sz67 rfl rfl) ?_
      refine DT.tv 8 rfl (Val.fieldC h_p588 h_p590 Tryz.underlying67 rfl rfl sz3 rfl) ?_
      refine DT.tv 9 rfl (Val.loadW1 (off := 1) (k := k_capstanlaw12_frame) (fun w2 hw => slD.flat (St.own 2 rfl see.sub see.dj hw) (Sub.refl _) (Sub.refl _)) hx_x589.2 h_p590 (fun _ _ ⟨_, e, _⟩ => by subst e; rfl) Tryz.underlying3 rfl rfl) ?_
      refine DT.tv 10 rfl (Val.indexE h_p591 Tryz.underlying39 sz71 rfl rfl) ?_
      refine DT.tv 11 rfl (Val.fieldE h_p594 Tryz.underlying71 rfl rfl sz3 rfl) ?_
      refine DT.tv 12 rfl (Val.loadAt1 see 4 rfl Tryz.underlying3 rfl rfl) ?_
      refine DT.tv 13 rfl (Val.indexE h_p597 Tryz.underlying23 sz41 rfl rfl) ?_
      refine DT.tv 14 rfl (Val.fieldE h_p600 Tryz.underlying41 rfl rfl sz38 rfl) ?_
      refine DT.tv 15 rfl (Val.loadAt1 see 0 rfl Tryz.underlying38 rfl rfl) ?_
      refine DT.tk 16 ?_
      refine DT.next (by kernel_rfl) ?_
      refine DA.one 17 rfl (by kernel_rfl) (go ?_)
      refine QE.atA ?_
      refine DA.one 18 rfl (by kernel_rfl) (go ?_)
      refine QE.atA ?_
      refine DA.done (by kernel_rfl) (go ?_)
      exact QE.meet fun a w2 ha hw => ⟨(IntKind.i64.wrap ((IntKind.i64.wrap ((IntKind.i64.wrap ((IntKind.i64.wrap (x546 + (x554.Args.length : Int))) + (x554.Locals.length : Int))) + (x582.Kinds.length : Int))) - (x599.Args.length : Int))), m548, _, (by omega), ho, hr, ha.sub sb, (St.selP [19, 20, 21, 22, 23] rfl (St.selO [1, 2, 3, 4, 5] rfl rfl hw))⟩
     refine go ?_
     exact QE.meet fun a w2 ha hw => ⟨(IntKind.i64.wrap ((IntKind.i64.wrap ((IntKind.i64.wrap (x546 + (x554.Args.length : Int))) + (x554.Locals.length : Int))) + (x582.Kinds.length : Int))), m548, _, (by omega), ho, hr, ha.sub sb, (St.selP [12, 13, 14, 15, 16] rfl (St.selO [1, 2, 3, 4, 5] rfl rfl hw))⟩
    refine go ?_
    refine CP.join (fun a w2 => ∃ x607 : Int, ∃ (m608 : Nat) (o : (capstanlaw12_run.S ⊕ capstanlaw12_took)), m608 ≤ m548 ∧ capstanlaw12_run.j4 m_0 rows_1 k_2 ways_3 most_4 l349 x351 x352 x354 x357 x383 x607 = some o ∧ next (capstanlaw12_run.F m_0 rows_1 k_2 ways_3 most_4) m608 o = some r ∧ Env ⟨302, []⟩ [(1, v_rows_1), (3, v_ways_3), (4, .int .i64 most_4), (5, .pointer (some ⟨b6, 0, none⟩)), (10, .pointer (some ⟨b8, 0, none⟩)), (11, .pointer (some ⟨b10, 0, none⟩)), (12, v350), (13, .int .i64 x351), (14, .int .i64 (IntKind.i64.wrap ((l349.length : Int) - 1))), (15, p356), (16, .pointer (some ⟨b389, 0, none⟩))] a ∧ St w em hV [slP k_api_Value v_m_0_Globals m_0.Globals, slP k_api_Value v_m_0_Pool m_0.Pool, slP k_api_Method v_m_0_Methods m_0.Methods, slP (kSl k_types_Row) v_rows_1 rows_1, slP kBool v_ways_3 ways_3] [boxO b389 [.int .u8 x383.Op, .int .i64 x383.A, .int .i64 x383.B] 71, slD o_capstanlaw12_frame 67 v350 l349, boxO b10 [.int .i64 (IntKind.i64.wrap (x352 + 1)), .int .i64 x607, .int .i64 x354, .bool false] 33, boxO b8 [.int .i64 0, .int .i64 0, .int .i64 0, .bool false] 33, boxO b6 [v_m_0_Globals, v_m_0_Pool, v_m_0_Methods, .int .i64 m_0.Migrate] 25] w2) ?_ ?_
    ·rintro a w2 ⟨x607, m608, o, hm_m608, ho, hr, ha, hw⟩
     refine CP.app ha hw ?_
     clear ha hw a w2
     refine go ?_
     refine SP.val (Val.nilCheckC h_p356 rfl) rfl rfl rfl ?_
     refine SP.fieldO h_p356 Tryz.underlying67 rfl sz3 rfl rfl rfl (fun p609 h_p609 => ?_)
     refine SP.val (Val.loadW1 (off := 1) (k := k_capstanlaw12_frame) (fun w2 hw => slD.flat (St.own 1 rfl see.sub see.dj hw) (Sub.refl _) (Sub.refl _)) hx_x357.2 h_p609 (fun _ _ ⟨_, e, _⟩ => by subst e; rfl) Tryz.underlying3 rfl rfl) rfl rfl rfl (go ?_)
     refine CP.join (fun a w2 => ∃ l671 : List capstanlaw12_frame, ∃ x672 : Int, ∃ x673 : Int, ∃ x674 : Int, ∃ (m675 : Nat) (o : (capstanlaw12_run.S ⊕ capstanlaw12_took)), m675 ≤ m608 ∧ capstanlaw12_run.j5 m_0 rows_1 k_2 ways_3 most_4 l349 x352 x607 l671 x672 x673 x674 = some o ∧ next (capstanlaw12_run.F m_0 rows_1 k_2 ways_3 most_4) m675 o = some r ∧ Env ⟨302, []⟩ [(1, v_rows_1), (3, v_ways_3), (4, .int .i64 most_4), (5, .pointer (some ⟨b6, 0, none⟩)), (10, .pointer (some ⟨b8, 0, none⟩)), (11, .pointer (some ⟨b10, 0, none⟩)), (12, v350), (13, .int .i64 x672), (15, p356), (20, .int .i64 x673)] a ∧ St w em hV [slP k_api_Value v_m_0_Globals m_0.Globals, slP k_api_Value v_m_0_Pool m_0.Pool, slP k_api_Method v_m_0_Methods m_0.Methods, slP (kSl k_types_Row) v_rows_1 rows_1, slP kBool v_ways_3 ways_3] [slD o_capstanlaw12_frame 67 v350 l671, boxO b10 [.int .i64 (IntKind.i64.wrap (x352 + 1)), .int .i64 x607, .int .i64 x674, .bool false] 33, boxO b8 [.int .i64 0, .int .i64 0, .int .i64 0, .bool false] 33, boxO b6 [v_m_0_Globals, v_m_0_Pool, v_m_0_Methods, .int .i64 m_0.Migrate] 25] w2) ?_ ?_
     ·rintro a w2 ⟨l671, x672, x673, x674, m675, o, hm_m675, ho, hr, ha, hw⟩
      refine CP.app ha hw ?_
      clear ha hw a w2
      obtain ⟨x676, hx_x676, ho⟩ := elt_bind ho
      refine go ?_
      refine SP.val (Val.nilCheckC h_p356 rfl) rfl rfl rfl ?_
      refine SP.fieldO h_p356 Tryz.underlying67 rfl sz3 rfl rfl rfl (fun p677 h_p677 => ?_)
      refine SP.storeD (z0 := ({ x676 with at_ := x673 } : capstanlaw12_frame)) (off := 1) (vs := [.int .i64 x673]) see hx_x676.2 h_p677 rfl rfl sz3 rfl (fun a h c ⟨_, e, q⟩ => by subst e; exact ⟨_, rfl, q⟩) rfl rfl rfl ?_
      have hs678 := set_at ({ x676 with at_ := x673 } : capstanlaw12_frame) hx_x676.2
      refine go ?_
      obtain rfl := Option.some.inj ho
      exact QE.lower m675 (by omega) fun a w2 ha hw => ⟨(l671.set (IntKind.i64.wrap ((l349.length : Int) - 1)).toNat ({ x676 with at_ := x673 } : capstanlaw12_frame)), x672, (IntKind.i64.wrap (x352 + 1)), x607, x674, v350, (by omega), hr, ha.sub sb, hw⟩
     refine go ?_
     refine CP.ci ho (fun ho => ?_) fun ho => ?_
     ·refine go ?_
      refine SP.store (v := .bool true) (vs := [.bool true]) 2 (by rfl) sz4 (by rfl) (by rfl) (by rfl) (by rfl) (by rfl) (by rfl) (go ?_)
      refine SP.val (Val.loadA 2 rfl Tryz.underlying33 rfl sz33 rfl rfl rfl) rfl rfl rfl ?_
      refine SP.store (v := .agg #[.int .i64 (IntKind.i64.wrap (x352 + 1)), .int .i64 x607, .int .i64 x354, .bool true]) (vs := [.int .i64 (IntKind.i64.wrap (x352 + 1)), .int .i64 x607, .int .i64 x354, .bool true]) 3 (by rfl) sz33 (by rfl) (by rfl) (by rfl) (by rfl) (by rfl) (by rfl) (go ?_)
      obtain rfl := fin ho hr
      exact QE.rt (fun _ h => h) (rs := [.cell 10 33]) (vs := [.agg #[.int .i64 (IntKind.i64.wrap (x352 + 1)), .int .i64 x607, .int .i64 x354, .bool true]]) (hv := ⟨RVs.cellA 3 rfl rfl Tryz.underlying33 rfl sz33, trivial⟩)
     refine go ?_
     refine CP.ci ho (fun ho => ?_) fun ho => ?_
     ·refine go ?_
      refine SP.imp (fun w2 hw => St.selO [1, 0, 2, 3, 4] rfl rfl hw) ?_
      obtain ⟨hz, ho⟩ := must_some ho
      refine SP.takeD see Tryz.underlying68 sz67 rfl rfl hz rfl rfl (fun v610 => ?_)
      clear hz
      refine go ?_
      refine CP.seq (go ?_)
      refine CP.ci ho (fun ho => ?_) fun ho => ?_
      ·refine go ?_
       refine SP.store (v := .bool true) (vs := [.bool true]) 2 (by rfl) sz4 (by rfl) (by rfl) (by rfl) (by rfl) (by rfl) (by rfl) (go ?_)
       refine SP.val (Val.loadA 2 rfl Tryz.underlying33 rfl sz33 rfl rfl rfl) rfl rfl rfl ?_
       refine SP.store (v := .agg #[.int .i64 (IntKind.i64.wrap (x352 + 1)), .int .i64 x607, .int .i64 x354, .bool true]) (vs := [.int .i64 (IntKind.i64.wrap (x352 + 1)), .int .i64 x607, .int .i64 x354, .bool true]) 3 (by rfl) sz33 (by rfl) (by rfl) (by rfl) (by rfl) (by rfl) (by rfl) (go ?_)
       obtain rfl := fin ho hr
       exact QE.rt (fun _ h => h) (rs := [.cell 10 33]) (vs := [.agg #[.int .i64 (IntKind.i64.wrap (x352 + 1)), .int .i64 x607, .int .i64 x354, .bool true]]) (hv := ⟨RVs.cellA 3 rfl rfl Tryz.underlying33 rfl sz33, trivial⟩)
      refine go ?_
      obtain ⟨x613, hx_x613, ho⟩ := elt_bind ho
      refine SP.indexW (fun w2 hw => slD.flat (St.own 0 rfl see.sub see.dj hw) (Sub.refl _) (Sub.refl _)) Tryz.underlying68 sz67 hx_x613.1 hx_x613.2 rfl rfl rfl rfl (fun p612 h_p612 => ?_)
      refine SP.fieldO h_p612 Tryz.underlying67 rfl sz3 rfl rfl rfl (fun p614 h_p614 => ?_)
      refine SP.val (Val.loadW1 (off := 1) (k := k_capstanlaw12_frame) (fun w2 hw => slD.flat (St.own 0 rfl see.sub see.dj hw) (Sub.refl _) (Sub.refl _)) hx_x613.2 h_p614 (fun _ _ ⟨_, e, _⟩ => by subst e; rfl) Tryz.underlying3 rfl rfl) rfl rfl rfl (go ?_)
      obtain ⟨x616, hx_x616, ho⟩ := elt_bind ho
      refine SP.indexW (fun w2 hw => slD.flat (St.own 0 rfl see.sub see.dj hw) (Sub.refl _) (Sub.refl _)) Tryz.underlying68 sz67 hx_x616.1 hx_x616.2 rfl rfl rfl rfl (fun p615 h_p615 => ?_)
      refine SP.fieldO h_p615 Tryz.underlying67 rfl sz3 rfl rfl rfl (fun p617 h_p617 => ?_)
      refine SP.storeD (z0 := ({ x616 with at_ := IntKind.i64.wrap (x613.at_ + 1) } : capstanlaw12_frame)) (off := 1) (vs := [.int .i64 (IntKind.i64.wrap (x613.at_ + 1))]) see hx_x616.2 h_p617 rfl rfl sz3 rfl (fun a h c ⟨_, e, q⟩ => by subst e; exact ⟨_, rfl, q⟩) rfl rfl rfl ?_
      have hs618 := set_at ({ x616 with at_ := IntKind.i64.wrap (x613.at_ + 1) } : capstanlaw12_frame) hx_x616.2
      refine go ?_
      obtain rfl := Option.some.inj ho
      exact QE.lower m608 (by omega) fun a w2 ha hw => ⟨((l349.take (IntKind.i64.wrap ((l349.length : Int) - 1) : Int).toNat).set (IntKind.i64.wrap ((IntKind.i64.wrap ((l349.length : Int) - 1)) - 1)).toNat ({ x616 with at_ := IntKind.i64.wrap (x613.at_ + 1) } : capstanlaw12_frame)), x351, (IntKind.i64.wrap (x352 + 1)), x607, x354, v610, (by omega), hr, ha.sub sb, (St.selO [0, 2, 3, 4] rfl rfl hw)⟩
     refine go ?_
     refine CP.ci ho (fun ho => ?_) fun ho => ?_
     ·refine CP.seq ?_
      refine CP.drawA (by kernel_rfl) (fun w2 k h => h.drawn k) ?_
      obtain ⟨x621, hx, ho⟩ := elt_bind ho
      refine DA.ghost (fun w2 h => h.elem see 2 rfl hx.1 hx.2) (fun p619 h_p619 => ?_)
      clear hx
      refine DA.ghost (fun w2 h => h.fieldE see 0 rfl k_api_Method.part_Code) (fun p622 h_p622 => ?_)
      refine DA.ghost (fun w2 h => h.openE see 0 rfl (fun (v624 : Value) => [v624]) (fun (v624 : Value) => [slP k_api_Instr v624 x621.Code]) (fun h cs ⟨v624, e, p0⟩ => ⟨v624, e, All.cons p0 (All.nil _)⟩)) (fun z_ _ => ?_)
      rename Value => v624
      obtain ⟨hm627, ho⟩ := must_some ho
      refine DA.ph 0 14 ?_
      refine DT.tk 0 ?_
      refine DT.tk 1 ?_
      refine DT.tk 2 ?_
      refine DT.tk 3 ?_
      refine DT.tk 4 ?_
      refine DT.tk 5 ?_
      refine DT.tk 6 ?_
      refine DT.tv 7 rfl (Val.indexE h_p619 Tryz.underlying23 sz41 rfl rfl) ?_
      refine DT.tv 8 rfl (Val.fieldE h_p622 Tryz.underlying41 rfl rfl sz39 rfl) ?_
      refine DT.tv 9 rfl (Val.loadAt1 see 0 rfl Tryz.underlying39 rfl rfl) ?_
      refine DT.tk 10 ?_
      refine DT.one 11 rfl (by kernel_rfl) rfl ?_
      refine SP.makeO (k := (kInt .i64)) (z := 0) Tryz.underlying55 inf3 rfl (fun _ => rfl) rfl rfl rfl rfl hm627 (fun v630 => go ?_)
      refine QE.atT (fun w2 hw => (St.selO [1, 2, 3, 4, 5] rfl rfl hw)) ?_
      refine DT.one 12 rfl (by kernel_rfl) rfl ?_
      refine SP.have (fun w2 hw => slO.shape (St.own 0 rfl see.sub see.dj hw)) (fun hs_v630 => ?_)
      refine SP.val (Val.buildC (us := [(0, .int .i64 x383.A), (1, .int .i64 0), (2, v630)]) (ucs := [(0, [.int .i64 x383.A]), (1, [.int .i64 0]), (2, [v630])]) (cs := [.int .i64 x383.A, .int .i64 0, v630]) bt67 rfl rfl ⟨rfl, rfl, ⟨rfl, rfl, ⟨rfl, one_cells hs_v630, trivial⟩⟩⟩ (by rfl)) rfl rfl rfl (go ?_)
      refine QE.atT (fun w2 hw => (St.selO [1, 2, 3, 4, 5] rfl rfl hw)) ?_
      refine DT.one 13 rfl (by kernel_rfl) rfl ?_
      refine SP.have (fun w2 hw => slO.shape (St.own 0 rfl see.sub see.dj hw)) (fun hs_v630 => ?_)
      refine SP.lit (k := kRaw 3) (xs := [[.int .i64 x383.A, .int .i64 0, v630]]) (vs := [.agg #[.int .i64 x383.A, .int .i64 0, v630]]) (cells := [.int .i64 x383.A, .int .i64 0, v630]) Tryz.underlying68 inf67 rfl rfl rfl rfl rfl rfl rfl rfl (fun _ ap => ⟨[.int .i64 x383.A, .int .i64 0, v630], _, rfl, ⟨rfl, rfl, one_cons rfl (one_cons rfl (one_cons hs_v630 (rfl)))⟩, rfl⟩) rfl rfl rfl (fun v632 => ?_)
      refine SP.imp (fun w2 hw => St.litD (k := o_capstanlaw12_frame) (c := [.int .i64 x383.A, .int .i64 0, v630]) (x0 := (⟨x383.A, 0, (List.replicate ((x621.Code.length : Int) : Int).toNat 0 : List Int)⟩ : capstanlaw12_frame)) [slO (kInt .i64) 3 v630 (List.replicate ((x621.Code.length : Int) : Int).toNat 0 : List Int)] (St.selO [0, 1, 2, 3, 4, 5, 6] rfl rfl hw) (fun a b q => ⟨_, rfl, q⟩)) (go ?_)
      refine QE.atT (fun w2 hw => (St.selO [1, 2, 3, 4, 5] rfl rfl hw)) ?_
      refine DT.next (by kernel_rfl) ?_
      refine DA.one 14 rfl (by kernel_rfl) ?_
      refine SP.imp (fun w2 hw => St.selO [2, 0, 1, 3, 4, 5] rfl rfl hw) ?_
      obtain ⟨hb, ho⟩ := must_some ho
      refine SP.appendD see Tryz.underlying68 inf67 rfl rfl hb rfl rfl rfl rfl rfl (fun v634 => ?_)
      clear hb
      refine go ?_
      refine QE.atA ?_
      refine DA.one 15 rfl (by kernel_rfl) (go ?_)
      refine QE.atA ?_
      refine DA.done (by kernel_rfl) (go ?_)
      obtain rfl := Option.some.inj ho
      exact QE.lower m608 (by omega) fun a w2 ha hw => ⟨(l349 ++ [(⟨x383.A, 0, (List.replicate ((x621.Code.length : Int) : Int).toNat 0 : List Int)⟩ : capstanlaw12_frame)]), x351, (IntKind.i64.wrap (x352 + 1)), x607, x354, v634, (by omega), hr, ha.sub sb, (St.selP [4, 5, 6, 7, 8] rfl (St.selO [0, 2, 3, 4] rfl rfl hw))⟩
     refine go ?_
     refine CP.ci ho (fun ho => ?_) fun ho => ?_
     ·refine go ?_
      refine SP.store (v := .int .i64 (IntKind.i64.wrap (x354 + x383.A))) (vs := [.int .i64 (IntKind.i64.wrap (x354 + x383.A))]) 2 (by rfl) sz3 (by rfl) (by rfl) (by rfl) (by rfl) (by rfl) (by rfl) (go ?_)
      exact QE.meet fun a w2 ha hw => ⟨l349, x351, (IntKind.i64.wrap (x357.at_ + 1)), (IntKind.i64.wrap (x354 + x383.A)), m608, _, (by omega), ho, hr, ha.sub sb, (St.selO [1, 2, 3, 4] rfl rfl hw)⟩
     refine go ?_
     refine CP.ci ho (fun ho => ?_) fun ho => ?_
     ·refine CP.drawA (by kernel_rfl) (fun w2 k h => h.drawn k) ?_
      obtain ⟨p636, h_p636⟩ := PtC.more h_p356 2
      refine DA.imp (fun w2 hw => St.selO [1, 0, 2, 3, 4] rfl rfl hw) ?_
      refine DA.ghost (fun w2 hw => St.learnCn (off := 2) (j := IntKind.i64.wrap ((l349.length : Int) - 1)) o_capstanlaw12_frame.leaf2 hx_x357.2 hw) (fun v637 hl_v637 => ?_)
      obtain ⟨p640, h_p640⟩ := PtC.more h_p356 1
      refine DA.ph 0 10 ?_
      refine DT.tk 0 ?_
      refine DT.tv 1 rfl (Val.nilCheckC h_p356 rfl) ?_
      refine DT.tv 2 rfl (Val.fieldC h_p356 h_p636 Tryz.underlying67 rfl rfl sz55 rfl) ?_
      refine DT.tv 3 rfl (Val.loadC see 0 rfl h_p636 Tryz.underlying55 rfl) ?_
      refine DT.tk 4 ?_
      refine DT.tv 5 rfl (Val.nilCheckC h_p356 rfl) ?_
      refine DT.tv 6 rfl (Val.fieldC h_p356 h_p640 Tryz.underlying67 rfl rfl sz3 rfl) ?_
      refine DT.tv 7 rfl (Val.loadW1 (off := 1) (k := k_capstanlaw12_frame) (fun w2 hw => slDc.flat (St.own 0 rfl see.sub see.dj hw) (Sub.refl _) (Sub.refl _)) hx_x357.2 h_p640 (fun _ _ ⟨_, e, _⟩ => by subst e; rfl) Tryz.underlying3 rfl rfl) ?_
      refine DT.tk 8 ?_
      refine DT.tk 9 ?_
      refine DT.next (by kernel_rfl) ?_
      refine DA.imp (fun w2 hw => St.focusC o_capstanlaw12_frame.leaf2 hx_x357.2 hw) ?_
      refine DA.one 10 rfl (by kernel_rfl) ?_
      obtain ⟨x642, hx_x642, ho⟩ := elt_bind ho
      refine SP.indexW (fun w2 hw => slO.whole (St.own 0 rfl see.sub see.dj hw)) Tryz.underlying55 sz3 hx_x642.1 hx_x642.2 rfl rfl rfl rfl (fun p641 h_p641 => go ?_)
      refine QE.atA ?_
      refine DA.one 11 rfl (by kernel_rfl) ?_
      refine SP.storeO (z0 := x383.A) (off := 0) (vs := [.int .i64 x383.A]) see 0 rfl hx_x642.2 h_p641 rfl rfl sz3 rfl (fun a cs _ e => by subst e; rfl) rfl rfl rfl (go ?_)
      refine QE.atA ?_
      refine DA.done (by kernel_rfl) (go ?_)
      refine QE.imp (fun w2 hw => St.unfocus hw) ?_
      have hs643 := set_at (capstanlaw12_frame.set_left x357 (x357.left.set x357.at_.toNat x383.A)) hx_x357.2
      exact QE.meet fun a w2 ha hw => ⟨(l349.set (IntKind.i64.wrap ((l349.length : Int) - 1)).toNat (capstanlaw12_frame.set_left x357 (x357.left.set x357.at_.toNat x383.A))), x351, (IntKind.i64.wrap (x357.at_ + 1)), x354, m608, _, (by omega), ho, hr, ha.sub sb, (St.selO [0, 2, 3, 4] rfl rfl hw)⟩
     refine go ?_
     refine CP.ci ho (fun ho => ?_) fun ho => ?_
     ·refine CP.seq ?_
      refine CP.drawA (by kernel_rfl) (fun w2 k h => h.drawn k) ?_
      obtain ⟨p644, h_p644⟩ := PtC.more h_p356 2
      refine DA.imp (fun w2 hw => St.selO [1, 0, 2, 3, 4] rfl rfl hw) ?_
      refine DA.ghost (fun w2 hw => St.learnCn (off := 2) (j := IntKind.i64.wrap ((l349.length : Int) - 1)) o_capstanlaw12_frame.leaf2 hx_x357.2 hw) (fun v645 hl_v645 => ?_)
      refine DA.ph 0 6 ?_
      refine DT.tk 0 ?_
      refine DT.tv 1 rfl (Val.nilCheckC h_p356 rfl) ?_
      refine DT.tv 2 rfl (Val.fieldC h_p356 h_p644 Tryz.underlying67 rfl rfl sz55 rfl) ?_
      refine DT.tv 3 rfl (Val.loadC see 0 rfl h_p644 Tryz.underlying55 rfl) ?_
      refine DT.tk 4 ?_
      refine DT.tk 5 ?_
      refine DT.next (by kernel_rfl) ?_
      refine DA.imp (fun w2 hw => St.focusC o_capstanlaw12_frame.leaf2 hx_x357.2 hw) ?_
      refine DA.one 6 rfl (by kernel_rfl) ?_
      obtain ⟨x649, hx_x649, ho⟩ := elt_bind ho
      refine SP.indexW (fun w2 hw => slO.whole (St.own 0 rfl see.sub see.dj hw)) Tryz.underlying55 sz3 hx_x649.1 hx_x649.2 rfl rfl rfl rfl (fun p648 h_p648 => go ?_)
      refine QE.atA ?_
      refine DA.one 7 rfl (by kernel_rfl) ?_
      refine SP.val (Val.loadW1 (off := 0) (k := (kInt .i64)) (fun w2 hw => slO.whole (St.own 0 rfl see.sub see.dj hw)) hx_x649.2 h_p648 (fun _ _ e => by subst e; rfl) Tryz.underlying3 rfl rfl) rfl rfl rfl (go ?_)
      refine QE.atA ?_
      refine DA.one 8 rfl (by kernel_rfl) (go ?_)
      refine QE.atA ?_
      refine DA.one 9 rfl (by kernel_rfl) ?_
      obtain ⟨x651, hx_x651, ho⟩ := elt_bind ho
      refine SP.indexW (fun w2 hw => slO.whole (St.own 0 rfl see.sub see.dj hw)) Tryz.underlying55 sz3 hx_x651.1 hx_x651.2 rfl rfl rfl rfl (fun p650 h_p650 => go ?_)
      refine QE.atA ?_
      refine DA.one 10 rfl (by kernel_rfl) ?_
      refine SP.storeO (z0 := IntKind.i64.wrap (x649 - 1)) (off := 0) (vs := [.int .i64 (IntKind.i64.wrap (x649 - 1))]) see 0 rfl hx_x651.2 h_p650 rfl rfl sz3 rfl (fun a cs _ e => by subst e; rfl) rfl rfl rfl (go ?_)
      refine QE.atA ?_
      refine DA.done (by kernel_rfl) (go ?_)
      refine CP.seq ?_
      refine CP.drawA (by kernel_rfl) (fun w2 k h => h.drawn k) ?_
      obtain ⟨p652, h_p652⟩ := PtC.more h_p356 2
      refine (DA.phase (fun i => Nat.ble 0 i && Nat.blt i 6) (fun w2 => St w em hV [slP k_api_Value v_m_0_Globals m_0.Globals, slP k_api_Value v_m_0_Pool m_0.Pool, slP k_api_Method v_m_0_Methods m_0.Methods, slP (kSl k_types_Row) v_rows_1 rows_1, slP kBool v_ways_3 ways_3] [boxO b389 [.int .u8 x383.Op, .int .i64 x383.A, .int .i64 x383.B] 71, boxO b10 [.int .i64 (IntKind.i64.wrap (x352 + 1)), .int .i64 x607, .int .i64 x354, .bool false] 33, boxO b8 [.int .i64 0, .int .i64 0, .int .i64 0, .bool false] 33, boxO b6 [v_m_0_Globals, v_m_0_Pool, v_m_0_Methods, .int .i64 m_0.Migrate] 25] w2) ?_)
      refine DT.ts 0 rfl (Val.move rfl) (fun w2 hw => (St.selO [2, 3, 4, 5] rfl rfl hw)) ?_
      refine DT.ts 1 rfl (Val.nilCheckC h_p356 rfl) (fun w2 hw => (St.selO [2, 3, 4, 5] rfl rfl hw)) ?_
      refine DT.ts 2 rfl (Val.fieldC h_p356 h_p652 Tryz.underlying67 rfl rfl sz55 rfl) (fun w2 hw => (St.selO [2, 3, 4, 5] rfl rfl hw)) ?_
      refine DT.ts 4 rfl (Val.fieldAddr Tryz.underlying71 rfl sz3 rfl) (fun w2 hw => (St.selO [2, 3, 4, 5] rfl rfl hw)) ?_
      refine DT.ts 5 rfl (Val.load1 0 rfl Tryz.underlying3 rfl rfl rfl) (fun w2 hw => (St.selO [2, 3, 4, 5] rfl rfl hw)) ?_
      refine DT.one 3 rfl (by kernel_rfl) rfl ?_
      refine SP.imp (fun w2 hw => St.unfocus hw) ?_
      have hs657 := set_at (capstanlaw12_frame.set_left x357 (x357.left.set x383.A.toNat (IntKind.i64.wrap (x649 - 1)))) hx_x357.2
      refine SP.loadDS o_capstanlaw12_frame.leaf2 hs657 h_p652 Tryz.underlying55 rfl rfl rfl (fun v658 => go ?_)
      refine QE.atT (fun w2 hw => (St.selO [2, 3, 4, 5] rfl rfl hw)) ?_
      refine DT.next (by kernel_rfl) ?_
      refine DA.one 6 rfl (by kernel_rfl) ?_
      obtain ⟨x662, hx_x662, ho⟩ := elt_bind ho
      refine SP.indexW (fun w2 hw => slO.whole (St.own 0 rfl see.sub see.dj hw)) Tryz.underlying55 sz3 hx_x662.1 hx_x662.2 rfl rfl rfl rfl (fun p661 h_p661 => go ?_)
      refine QE.atA ?_
      refine DA.one 7 rfl (by kernel_rfl) ?_
      refine SP.val (Val.loadW1 (off := 0) (k := (kInt .i64)) (fun w2 hw => slO.whole (St.own 0 rfl see.sub see.dj hw)) hx_x662.2 h_p661 (fun _ _ e => by subst e; rfl) Tryz.underlying3 rfl rfl) rfl rfl rfl (go ?_)
      refine QE.atA ?_
      refine DA.one 8 rfl (by kernel_rfl) (go ?_)
      refine QE.atA ?_
      refine DA.done (by kernel_rfl) (go ?_)
      refine CP.ci ho (fun ho => ?_) fun ho => ?_
      ·refine go ?_
       refine QE.imp (fun w2 hw => St.unfocus0 hs657 rfl hw) ?_
       exact QE.meet fun a w2 ha hw => ⟨(l349.set (IntKind.i64.wrap ((l349.length : Int) - 1)).toNat (capstanlaw12_frame.set_left x357 (x357.left.set x383.A.toNat (IntKind.i64.wrap (x649 - 1))))), x351, (IntKind.i64.wrap (x383.A + 1)), x354, m608, _, (by omega), ho, hr, ha.sub sb, (St.selO [0, 2, 3, 4] rfl rfl hw)⟩
      refine go ?_
      refine QE.imp (fun w2 hw => St.unfocus0 hs657 rfl hw) ?_
      exact QE.meet fun a w2 ha hw => ⟨(l349.set (IntKind.i64.wrap ((l349.length : Int) - 1)).toNat (capstanlaw12_frame.set_left x357 (x357.left.set x383.A.toNat (IntKind.i64.wrap (x649 - 1))))), x351, (IntKind.i64.wrap (x357.at_ + 1)), x354, m608, _, (by omega), ho, hr, ha.sub sb, (St.selO [0, 2, 3, 4] rfl rfl hw)⟩
     refine go ?_
     refine CP.ci ho (fun ho => ?_) fun ho => ?_
     ·refine go ?_
      exact QE.meet fun a w2 ha hw => ⟨l349, x351, x383.A, x354, m608, _, (by omega), ho, hr, ha.sub sb, (St.selO [1, 2, 3, 4] rfl rfl hw)⟩
     refine go ?_
     refine CP.ci ho (fun ho => ?_) fun ho => ?_
     ·refine CP.join (fun a w2 => ∃ x669 : Int, ∃ (m670 : Nat) (o : (capstanlaw12_run.S ⊕ capstanlaw12_took)), m670 ≤ m608 ∧ capstanlaw12_run.j6 m_0 rows_1 k_2 ways_3 most_4 l349 x351 x352 x354 x357 x607 x669 = some o ∧ next (capstanlaw12_run.F m_0 rows_1 k_2 ways_3 most_4) m670 o = some r ∧ Env ⟨302, []⟩ [(1, v_rows_1), (3, v_ways_3), (4, .int .i64 most_4), (5, .pointer (some ⟨b6, 0, none⟩)), (10, .pointer (some ⟨b8, 0, none⟩)), (11, .pointer (some ⟨b10, 0, none⟩)), (12, v350), (13, .int .i64 x351), (15, p356), (20, .int .i64 x669)] a ∧ St w em hV [slP k_api_Value v_m_0_Globals m_0.Globals, slP k_api_Value v_m_0_Pool m_0.Pool, slP k_api_Method v_m_0_Methods m_0.Methods, slP (kSl k_types_Row) v_rows_1 rows_1, slP kBool v_ways_3 ways_3] [slD o_capstanlaw12_frame 67 v350 l349, boxO b10 [.int .i64 (IntKind.i64.wrap (x352 + 1)), .int .i64 x607, .int .i64 x354, .bool false] 33, boxO b8 [.int .i64 0, .int .i64 0, .int .i64 0, .bool false] 33, boxO b6 [v_m_0_Globals, v_m_0_Pool, v_m_0_Methods, .int .i64 m_0.Migrate] 25] w2) ?_ ?_
      ·rintro a w2 ⟨x669, m670, o, hm_m670, ho, hr, ha, hw⟩
       refine CP.app ha hw ?_
       clear ha hw a w2
       refine go ?_
       exact QE.meet fun a w2 ha hw => ⟨l349, (IntKind.i64.wrap (x351 + 1)), x669, x354, m670, _, (by omega), ho, hr, ha.sub sb, hw⟩
      refine go ?_
      obtain ⟨t668, hg_t668, ho⟩ := bind_some ho
      refine SP.jn 5 [1, 3, 4, 5, 10, 11, 12, 13, 15, 16, 20] 292 (.bool t668) ?_ ?_
      ·clear hg_t668
       refine go ?_
       refine CP.cb ho (fun ho => ?_) fun ho => ?_
       ·refine go ?_
        exact QE.meet fun a w2 ha hw => ⟨x383.A, m608, _, (by omega), ho, hr, ha.sub sb, (St.selO [1, 2, 3, 4] rfl rfl hw)⟩
       refine go ?_
       exact QE.meet fun a w2 ha hw => ⟨(IntKind.i64.wrap (x357.at_ + 1)), m608, _, (by omega), ho, hr, ha.sub sb, (St.selO [1, 2, 3, 4] rfl rfl hw)⟩
      refine SP.ci 287 hg_t668 (fun hq664 ho => ?_) fun hq664 ho => ?_
      ·refine go ?_
       obtain ⟨x667, hx, ho⟩ := elt_bind ho
       refine SP.indexP see 4 rfl Tryz.underlying26 sz4 hx.1 hx.2 rfl rfl rfl rfl (fun p665 => ?_)
       clear hx
       refine SP.val (Val.loadP1 see 0 rfl (fun _ _ e => e) Tryz.underlying4 rfl rfl) rfl rfl rfl (go ?_)
       obtain rfl := Option.some.inj ho
       exact QE.jn fun w2 hw => (St.selP [1, 2, 3, 4, 5] rfl hw)
      refine go ?_
      obtain rfl := Option.some.inj ho
      exact QE.jn fun w2 hw => hw
     refine go ?_
     exact QE.meet fun a w2 ha hw => ⟨l349, x351, (IntKind.i64.wrap (x357.at_ + 1)), x354, m608, _, (by omega), ho, hr, ha.sub sb, (St.selO [1, 2, 3, 4] rfl rfl hw)⟩
    refine go ?_
    refine CP.ci ho (fun ho => ?_) fun ho => ?_
    ·refine go ?_
     refine SP.store (v := .int .i64 x546) (vs := [.int .i64 x546]) 2 (by rfl) sz3 (by rfl) (by rfl) (by rfl) (by rfl) (by rfl) (by rfl) (go ?_)
     exact QE.meet fun a w2 ha hw => ⟨x546, m548, _, (by omega), ho, hr, ha.sub sb, hw⟩
    refine go ?_
    exact QE.meet fun a w2 ha hw => ⟨x353, m548, _, (by omega), ho, hr, ha.sub sb, hw⟩
   refine CP.drawA (by kernel_rfl) (fun w2 k h => h.drawn k) ?_
   refine DA.one 0 rfl (by kernel_rfl) (go ?_)
   refine QE.atA ?_
   refine DA.one 1 rfl (by kernel_rfl) (go ?_)
   refine QE.atA ?_
   refine DA.one 2 rfl (by kernel_rfl) (go ?_)
   refine QE.atA ?_
   refine DA.one 3 rfl (by kernel_rfl) (go ?_)
   refine QE.atA ?_
   rcases if_some ho with ⟨hc, ho⟩ | ⟨hc, ho⟩
   ·have hg391 := (decide_eq_true hc)
    clear hc
    refine DA.is (d := 81) (b := true) rfl hg391 ?_
    refine DA.one 4 rfl (by kernel_rfl) (go ?_)
    refine QE.atA ?_
    refine DA.one 5 rfl (by kernel_rfl) (go ?_)
    refine QE.atA ?_
    refine DA.one 6 rfl (by kernel_rfl) (go ?_)
    refine QE.atA ?_
    refine DA.one 7 rfl (by kernel_rfl) (go ?_)
    refine QE.atA ?_
    rcases if_some ho with ⟨hc, ho⟩ | ⟨hc, ho⟩
    ·have hg392 := (decide_eq_true hc)
     clear hc
     refine DA.ph 8 12 ?_
     refine DT.is (d := 85) (b := true) rfl hg392 ?_
     refine DT.tn 8 ?_
     refine DT.tn 9 ?_
     refine DT.tn 10 ?_
     refine DT.tn 11 ?_
     refine DT.next (by kernel_rfl) ?_
     refine DA.ph 12 13 ?_
     refine DT.tn 12 ?_
     refine DT.next (by kernel_rfl) ?_
     refine DA.one 13 rfl (by kernel_rfl) (go ?_)
     refine QE.atA ?_
     refine DA.one 14 rfl (by kernel_rfl) (go ?_)
     refine QE.atA ?_
     refine DA.one 15 rfl (by kernel_rfl) (go ?_)
     refine QE.atA ?_
     refine DA.ph 16 17 ?_
     refine DT.tn 16 ?_
     refine DT.next (by kernel_rfl) ?_
     refine DA.ph 17 18 ?_
     refine DT.tn 17 ?_
     refine DT.next (by kernel_rfl) ?_
     refine DA.ph 18 19 ?_
     refine DT.tn 18 ?_
     refine DT.next (by kernel_rfl) ?_
     refine DA.ph 19 20 ?_
     refine DT.tn 19 ?_
     refine DT.next (by kernel_rfl) ?_
     refine DA.ph 20 21 ?_
     refine DT.tn 20 ?_
     refine DT.next (by kernel_rfl) ?_
     refine DA.ph 21 22 ?_
     refine DT.tn 21 ?_
     refine DT.next (by kernel_rfl) ?_
     refine DA.ph 22 23 ?_
     refine DT.tn 22 ?_
     refine DT.next (by kernel_rfl) ?_
     refine DA.ph 23 24 ?_
     refine DT.tn 23 ?_
     refine DT.next (by kernel_rfl) ?_
     refine DA.ph 24 31 ?_
     refine DT.tn 24 ?_
     refine DT.tn 25 ?_
     refine DT.tn 26 ?_
     refine DT.tn 27 ?_
     refine DT.tn 28 ?_
     refine DT.tn 29 ?_
     refine DT.tn 30 ?_
     refine DT.next (by kernel_rfl) ?_
     refine DA.ph 31 32 ?_
     refine DT.tn 31 ?_
     refine DT.next (by kernel_rfl) ?_
     refine DA.ph 32 33 ?_
     refine DT.tn 32 ?_
     refine DT.next (by kernel_rfl) ?_
     refine DA.ph 33 34 ?_
     refine DT.tn 33 ?_
     refine DT.next (by kernel_rfl) ?_
     refine DA.one 34 rfl (by kernel_rfl) (go ?_)
     refine QE.atA ?_
     refine DA.done (by kernel_rfl) ?_
     exact QE.meet fun a w2 ha hw => ⟨true, m370, _, (by omega), ho, hr, ha.sub sb, (St.selP [6, 7, 8, 9, 10] rfl hw)⟩
    have hg393 := (decide_eq_false hc)
    clear hc
    refine DA.ph 8 12 ?_
    refine DT.is (d := 85) (b := false) rfl hg393 ?_
    refine DT.tk 8 ?_
    refine DT.tk 9 ?_
    refine DT.tk 10 ?_
    refine DT.tk 11 ?_
    refine DT.next (by kernel_rfl) ?_
    refine DA.one 12 rfl (by kernel_rfl) (go ?_)
    refine QE.atA ?_
    refine DA.one 13 rfl (by kernel_rfl) (go ?_)
    refine QE.atA ?_
    refine DA.one 14 rfl (by kernel_rfl) (go ?_)
    refine QE.atA ?_
    refine DA.one 15 rfl (by kernel_rfl) (go ?_)
    refine QE.atA ?_
    rcases if_some ho with ⟨hc, ho⟩ | ⟨hc, ho⟩
    ·have hg394 := (decide_eq_true hc)
     clear hc
     refine DA.is (d := 93) (b := true) rfl hg394 ?_
     refine DA.ph 16 17 ?_
     refine DT.tn 16 ?_
     refine DT.next (by kernel_rfl) ?_
     refine DA.ph 17 18 ?_
     refine DT.tn 17 ?_
     refine DT.next (by kernel_rfl) ?_
     refine DA.ph 18 19 ?_
     refine DT.tn 18 ?_
     refine DT.next (by kernel_rfl) ?_
     refine DA.ph 19 20 ?_
     refine DT.tn 19 ?_
     refine DT.next (by kernel_rfl) ?_
     refine DA.ph 20 21 ?_
     refine DT.tn 20 ?_
     refine DT.next (by kernel_rfl) ?_
     refine DA.ph 21 22 ?_
     refine DT.tn 21 ?_
     refine DT.next (by kernel_rfl) ?_
     refine DA.ph 22 23 ?_
     refine DT.tn 22 ?_
     refine DT.next (by kernel_rfl) ?_
     refine DA.ph 23 24 ?_
     refine DT.tn 23 ?_
     refine DT.next (by kernel_rfl) ?_
     refine DA.ph 24 31 ?_
     refine DT.tn 24 ?_
     refine DT.tn 25 ?_
     refine DT.tn 26 ?_
     refine DT.tn 27 ?_
     refine DT.tn 28 ?_
     refine DT.tn 29 ?_
     refine DT.tn 30 ?_
     refine DT.next (by kernel_rfl) ?_
     refine DA.ph 31 32 ?_
     refine DT.tn 31 ?_
     refine DT.next (by kernel_rfl) ?_
     refine DA.ph 32 33 ?_
     refine DT.tn 32 ?_
     refine DT.next (by kernel_rfl) ?_
     refine DA.ph 33 34 ?_
     refine DT.tn 33 ?_
     refine DT.next (by kernel_rfl) ?_
     refine DA.one 34 rfl (by kernel_rfl) (go ?_)
     refine QE.atA ?_
     refine DA.done (by kernel_rfl) ?_
     exact QE.meet fun a w2 ha hw => ⟨true, m370, _, (by omega), ho, hr, ha.sub sb, (St.selP [6, 7, 8, 9, 10] rfl hw)⟩
    have hg395 := (decide_eq_false hc)
    clear hc
    refine DA.is (d := 93) (b := false) rfl hg395 ?_
    refine DA.one 16 rfl (by kernel_rfl) (go ?_)
    refine QE.atA ?_
    refine DA.one 17 rfl (by kernel_rfl) (go ?_)
    refine QE.atA ?_
    refine DA.one 18 rfl (by kernel_rfl) (go ?_)
    refine QE.atA ?_
    refine DA.one 19 rfl (by kernel_rfl) (go ?_)
    refine QE.atA ?_
    rcases if_some ho with ⟨hc, ho⟩ | ⟨hc, ho⟩
    ·have hg396 := (decide_eq_true hc)
     clear hc
     refine DA.is (d := 97) (b := true) rfl hg396 ?_
     refine DA.one 20 rfl (by kernel_rfl) (go ?_)
     refine QE.atA ?_
     refine DA.one 21 rfl (by kernel_rfl) (go ?_)
     refine QE.atA ?_
     refine DA.one 22 rfl (by kernel_rfl) (go ?_)
     refine QE.atA ?_
     refine DA.one 23 rfl (by kernel_rfl) (go ?_)
     refine QE.atA ?_
     rcases if_some ho with ⟨hc, ho⟩ | ⟨hc, ho⟩
     ·have hg397 := (decide_eq_true hc)
      clear hc
      refine DA.ph 24 31 ?_
      refine DT.is (d := 101) (b := true) rfl hg397 ?_
      refine DT.tn 24 ?_
      refine DT.tn 25 ?_
      refine DT.tn 26 ?_
      refine DT.tn 27 ?_
      refine DT.tn 28 ?_
      refine DT.tn 29 ?_
      refine DT.tn 30 ?_
      refine DT.next (by kernel_rfl) ?_
      refine DA.ph 31 32 ?_
      refine DT.tn 31 ?_
      refine DT.next (by kernel_rfl) ?_
      refine DA.one 32 rfl (by kernel_rfl) (go ?_)
      refine QE.atA ?_
      refine DA.one 33 rfl (by kernel_rfl) (go ?_)
      refine QE.atA ?_
      refine DA.one 34 rfl (by kernel_rfl) (go ?_)
      refine QE.atA ?_
      refine DA.done (by kernel_rfl) ?_
      exact QE.meet fun a w2 ha hw => ⟨true, m370, _, (by omega), ho, hr, ha.sub sb, (St.selP [6, 7, 8, 9, 10] rfl hw)⟩
     have hg398 := (decide_eq_false hc)
     clear hc
     obtain ⟨p399, h_p399⟩ := PtC.more h_p356 2
     refine DA.imp (fun w2 hw => St.selO [1, 0, 2, 3, 4] rfl rfl hw) ?_
     refine DA.ghost (fun w2 hw => St.learnCn (off := 2) (j := IntKind.i64.wrap ((l349.length : Int) - 1)) o_capstanlaw12_frame.leaf2 hx_x357.2 hw) (fun v400 hl_v400 => ?_)
     refine DA.ph 24 31 ?_
     refine DT.is (d := 101) (b := false) rfl hg398 ?_
     refine DT.tk 24 ?_
     refine DT.tk 25 ?_
     refine DT.tk 26 ?_
     refine DT.tv 27 rfl (Val.nilCheckC h_p356 rfl) ?_
     refine DT.tv 28 rfl (Val.fieldC h_p356 h_p399 Tryz.underlying67 rfl rfl sz55 rfl) ?_
     refine DT.tv 29 rfl (Val.loadC see 0 rfl h_p399 Tryz.underlying55 rfl) ?_
     refine DT.tv 30 rfl (Val.lenF hl_v400 Tryz.underlying55 rfl) ?_
     refine DT.next (by kernel_rfl) ?_
     refine DA.imp (fun w2 hw => St.focusC o_capstanlaw12_frame.leaf2 hx_x357.2 hw) ?_
     refine DA.one 31 rfl (by kernel_rfl) (go ?_)
     refine QE.atA ?_
     refine DA.one 32 rfl (by kernel_rfl) (go ?_)
     refine QE.atA ?_
     refine DA.one 33 rfl (by kernel_rfl) (go ?_)
     refine QE.atA ?_
     refine DA.one 34 rfl (by kernel_rfl) (go ?_)
     refine QE.atA ?_
     refine DA.done (by kernel_rfl) ?_
     refine QE.imp (fun w2 hw => St.unfocus0 hx_x357.2 rfl hw) ?_
     exact QE.meet fun a w2 ha hw => ⟨(decide (x383.A ≥ (x357.left.length : Int))), m370, _, (by omega), ho, hr, ha.sub sb, (St.selP [6, 7, 8, 9, 10] rfl (St.selO [1, 0, 2, 3, 4] rfl rfl hw))⟩
    have hg403 := (decide_eq_false hc)
    clear hc
    refine DA.is (d := 97) (b := false) rfl hg403 ?_
    refine DA.ph 20 21 ?_
    refine DT.tn 20 ?_
    refine DT.next (by kernel_rfl) ?_
    refine DA.ph 21 22 ?_
    refine DT.tn 21 ?_
    refine DT.next (by kernel_rfl) ?_
    refine DA.ph 22 23 ?_
    refine DT.tn 22 ?_
    refine DT.next (by kernel_rfl) ?_
    refine DA.ph 23 24 ?_
    refine DT.tn 23 ?_
    refine DT.next (by kernel_rfl) ?_
    refine DA.ph 24 31 ?_
    refine DT.tn 24 ?_
    refine DT.tn 25 ?_
    refine DT.tn 26 ?_
    refine DT.tn 27 ?_
    refine DT.tn 28 ?_
    refine DT.tn 29 ?_
    refine DT.tn 30 ?_
    refine DT.next (by kernel_rfl) ?_
    refine DA.ph 31 32 ?_
    refine DT.tn 31 ?_
    refine DT.next (by kernel_rfl) ?_
    refine DA.ph 32 33 ?_
    refine DT.tn 32 ?_
    refine DT.next (by kernel_rfl) ?_
    refine DA.one 33 rfl (by kernel_rfl) (go ?_)
    refine QE.atA ?_
    refine DA.one 34 rfl (by kernel_rfl) (go ?_)
    refine QE.atA ?_
    refine DA.done (by kernel_rfl) ?_
    exact QE.meet fun a w2 ha hw => ⟨false, m370, _, (by omega), ho, hr, ha.sub sb, (St.selP [6, 7, 8, 9, 10] rfl hw)⟩
   have hg404 := (decide_eq_false hc)
   clear hc
   refine DA.is (d := 81) (b := false) rfl hg404 ?_
   refine DA.ph 4 5 ?_
   refine DT.tn 4 ?_
   refine DT.next (by kernel_rfl) ?_
   refine DA.ph 5 6 ?_
   refine DT.tn 5 ?_
   refine DT.next (by kernel_rfl) ?_
   refine DA.ph 6 7 ?_
   refine DT.tn 6 ?_
   refine DT.next (by kernel_rfl) ?_
   refine DA.ph 7 8 ?_
   refine DT.tn 7 ?_
   refine DT.next (by kernel_rfl) ?_
   refine DA.ph 8 12 ?_
   refine DT.tn 8 ?_
   refine DT.tn 9 ?_
   refine DT.tn 10 ?_
   refine DT.tn 11 ?_
   refine DT.next (by kernel_rfl) ?_
   refine DA.ph 12 13 ?_
   refine DT.tn 12 ?_
   refine DT.next (by kernel_rfl) ?_
   refine DA.ph 13 14 ?_
   refine DT.tn 13 ?_
   refine DT.next (by kernel_rfl) ?_
   refine DA.one 14 rfl (by kernel_rfl) (go ?_)
   refine QE.atA ?_
   refine DA.one 15 rfl (by kernel_rfl) (go ?_)
   refine QE.atA ?_
   refine DA.one 16 rfl (by kernel_rfl) (go ?_)
   refine QE.atA ?_
   refine DA.one 17 rfl (by kernel_rfl) (go ?_)
   refine QE.atA ?_
   refine DA.one 18 rfl (by kernel_rfl) (go ?_)
   refine QE.atA ?_
   refine DA.one 19 rfl (by kernel_rfl) (go ?_)
   refine QE.atA ?_
   rcases if_some ho with ⟨hc, ho⟩ | ⟨hc, ho⟩
   ·have hg405 := (decide_eq_true hc)
    clear hc
    refine DA.is (d := 97) (b := true) rfl hg405 ?_
    refine DA.one 20 rfl (by kernel_rfl) (go ?_)
    refine QE.atA ?_
    refine DA.one 21 rfl (by kernel_rfl) (go ?_)
    refine QE.atA ?_
    refine DA.one 22 rfl (by kernel_rfl) (go ?_)
    refine QE.atA ?_
    refine DA.one 23 rfl (by kernel_rfl) (go ?_)
    refine QE.atA ?_
    rcases if_some ho with ⟨hc, ho⟩ | ⟨hc, ho⟩
    ·have hg406 := (decide_eq_true hc)
     clear hc
     refine DA.ph 24 31 ?_
     refine DT.is (d := 101) (b := true) rfl hg406 ?_
     refine DT.tn 24 ?_
     refine DT.tn 25 ?_
     refine DT.tn 26 ?_
     refine DT.tn 27 ?_
     refine DT.tn 28 ?_
     refine DT.tn 29 ?_
     refine DT.tn 30 ?_
     refine DT.next (by kernel_rfl) ?_
     refine DA.ph 31 32 ?_
     refine DT.tn 31 ?_
     refine DT.next (by kernel_rfl) ?_
     refine DA.one 32 rfl (by kernel_rfl) (go ?_)
     refine QE.atA ?_
     refine DA.one 33 rfl (by kernel_rfl) (go ?_)
     refine QE.atA ?_
     refine DA.one 34 rfl (by kernel_rfl) (go ?_)
     refine QE.atA ?_
     refine DA.done (by kernel_rfl) ?_
     exact QE.meet fun a w2 ha hw => ⟨true, m370, _, (by omega), ho, hr, ha.sub sb, (St.selP [6, 7, 8, 9, 10] rfl hw)⟩
    have hg407 := (decide_eq_false hc)
    clear hc
    obtain ⟨p408, h_p408⟩ := PtC.more h_p356 2
    refine DA.imp (fun w2 hw => St.selO [1, 0, 2, 3, 4] rfl rfl hw) ?_
    refine DA.ghost (fun w2 hw => St.learnCn (off := 2) (j := IntKind.i64.wrap ((l349.length : Int) - 1)) o_capstanlaw12_frame.leaf2 hx_x357.2 hw) (fun v409 hl_v409 => ?_)
    refine DA.ph 24 31 ?_
    refine DT.is (d := 101) (b := false) rfl hg407 ?_
    refine DT.tk 24 ?_
    refine DT.tk 25 ?_
    refine DT.tk 26 ?_
    refine DT.tv 27 rfl (Val.nilCheckC h_p356 rfl) ?_
    refine DT.tv 28 rfl (Val.fieldC h_p356 h_p408 Tryz.underlying67 rfl rfl sz55 rfl) ?_
    refine DT.tv 29 rfl (Val.loadC see 0 rfl h_p408 Tryz.underlying55 rfl) ?_
    refine DT.tv 30 rfl (Val.lenF hl_v409 Tryz.underlying55 rfl) ?_
    refine DT.next (by kernel_rfl) ?_
    refine DA.imp (fun w2 hw => St.focusC o_capstanlaw12_frame.leaf2 hx_x357.2 hw) ?_
    refine DA.one 31 rfl (by kernel_rfl) (go ?_)
    refine QE.atA ?_
    refine DA.one 32 rfl (by kernel_rfl) (go ?_)
    refine QE.atA ?_
    refine DA.one 33 rfl (by kernel_rfl) (go ?_)
    refine QE.atA ?_
    refine DA.one 34 rfl (by kernel_rfl) (go ?_)
    refine QE.atA ?_
    refine DA.done (by kernel_rfl) ?_
    refine QE.imp (fun w2 hw => St.unfocus0 hx_x357.2 rfl hw) ?_
    exact QE.meet fun a w2 ha hw => ⟨(decide (x383.A ≥ (x357.left.length : Int))), m370, _, (by omega), ho, hr, ha.sub sb, (St.selP [6, 7, 8, 9, 10] rfl (St.selO [1, 0, 2, 3, 4] rfl rfl hw))⟩
   have hg412 := (decide_eq_false hc)
   clear hc
   refine DA.is (d := 97) (b := false) rfl hg412 ?_
   refine DA.ph 20 21 ?_
   refine DT.tn 20 ?_
   refine DT.next (by kernel_rfl) ?_
   refine DA.ph 21 22 ?_
   refine DT.tn 21 ?_
   refine DT.next (by kernel_rfl) ?_
   refine DA.ph 22 23 ?_
   refine DT.tn 22 ?_
   refine DT.next (by kernel_rfl) ?_
   refine DA.ph 23 24 ?_
   refine DT.tn 23 ?_
   refine DT.next (by kernel_rfl) ?_
   refine DA.ph 24 31 ?_
   refine DT.tn 24 ?_
   refine DT.tn 25 ?_
   refine DT.tn 26 ?_
   refine DT.tn 27 ?_
   refine DT.tn 28 ?_
   refine DT.tn 29 ?_
   refine DT.tn 30 ?_
   refine DT.next (by kernel_rfl) ?_
   refine DA.ph 31 32 ?_
   refine DT.tn 31 ?_
   refine DT.next (by kernel_rfl) ?_
   refine DA.ph 32 33 ?_
   refine DT.tn 32 ?_
   refine DT.next (by kernel_rfl) ?_
   refine DA.one 33 rfl (by kernel_rfl) (go ?_)
   refine QE.atA ?_
   refine DA.one 34 rfl (by kernel_rfl) (go ?_)
   refine QE.atA ?_
   refine DA.done (by kernel_rfl) ?_
   exact QE.meet fun a w2 ha hw => ⟨false, m370, _, (by omega), ho, hr, ha.sub sb, (St.selP [6, 7, 8, 9, 10] rfl hw)⟩
  refine CP.drawA (by kernel_rfl) (fun w2 k h => h.drawn k) ?_
  refine DA.one 0 rfl (by kernel_rfl) (go ?_)
  refine QE.atA ?_
  refine DA.one 1 rfl (by kernel_rfl) ?_
  refine SP.val (Val.nilCheckC h_p356 rfl) rfl rfl rfl (go ?_)
  refine QE.atA ?_
  refine DA.one 2 rfl (by kernel_rfl) ?_
  refine SP.fieldO h_p356 Tryz.underlying67 rfl sz3 rfl rfl rfl (fun p358 h_p358 => go ?_)
  refine QE.atA ?_
  refine DA.one 3 rfl (by kernel_rfl) ?_
  refine SP.val (Val.loadW1 (off := 1) (k := k_capstanlaw12_frame) (fun w2 hw => slD.flat (St.own 0 rfl see.sub see.dj hw) (Sub.refl _) (Sub.refl _)) hx_x357.2 h_p358 (fun _ _ ⟨_, e, _⟩ => by subst e; rfl) Tryz.underlying3 rfl rfl) rfl rfl rfl (go ?_)
  refine QE.atA ?_
  refine DA.one 4 rfl (by kernel_rfl) (go ?_)
  refine QE.atA ?_
  refine DA.one 5 rfl (by kernel_rfl) (go ?_)
  refine QE.atA ?_
  rcases if_some ho with ⟨hc, ho⟩ | ⟨hc, ho⟩
  ·have hg359 := (decide_eq_true hc)
   clear hc
   refine DA.ph 6 18 ?_
   refine DT.is (d := 47) (b := true) rfl hg359 ?_
   refine DT.tn 6 ?_
   refine DT.tn 7 ?_
   refine DT.tn 8 ?_
   refine DT.tn 9 ?_
   refine DT.tn 10 ?_
   refine DT.tn 11 ?_
   refine DT.tn 12 ?_
   refine DT.tn 13 ?_
   refine DT.tn 14 ?_
   refine DT.tn 15 ?_
   refine DT.tn 16 ?_
   refine DT.tn 17 ?_
   refine DT.next (by kernel_rfl) ?_
   refine DA.ph 18 19 ?_
   refine DT.tn 18 ?_
   refine DT.next (by kernel_rfl) ?_
   refine DA.one 19 rfl (by kernel_rfl) (go ?_)
   refine QE.atA ?_
   refine DA.done (by kernel_rfl) ?_
   exact QE.meet fun a w2 ha hw => ⟨true, m355, _, (by omega), ho, hr, ha.sub sb, hw⟩
  have hg360 := (decide_eq_false hc)
  clear hc
  obtain ⟨p361, h_p361⟩ := PtC.more h_p356 1
  obtain ⟨p362, h_p362⟩ := PtC.more h_p356 0
  obtain ⟨x365, hx, ho⟩ := elt_bind ho
  refine DA.ghost (fun w2 h => h.elem see 3 rfl hx.1 hx.2) (fun p363 h_p363 => ?_)
  clear hx
  refine DA.ghost (fun w2 h => h.openE see 0 rfl (fun (v366 : Value) => [v366]) (fun (v366 : Value) => [slP k_types_Row v366 x365]) (fun h cs ⟨v366, e, p0⟩ => ⟨v366, e, All.cons p0 (All.nil _)⟩)) (fun z_ _ => ?_)
  rename Value => v366
  refine DA.ph 6 18 ?_
  refine DT.is (d := 47) (b := false) rfl hg360 ?_
  refine DT.tk 6 ?_
  refine DT.tv 7 rfl (Val.nilCheckC h_p356 rfl) ?_
  refine DT.tv 8 rfl (Val.fieldC h_p356 h_p361 Tryz.underlying67 rfl rfl sz3 rfl) ?_
  refine DT.tv 9 rfl (Val.loadW1 (off := 1) (k := k_capstanlaw12_frame) (fun w2 hw => slD.flat (St.own 0 rfl see.sub see.dj hw) (Sub.refl _) (Sub.refl _)) hx_x357.2 h_p361 (fun _ _ ⟨_, e, _⟩ => by subst e; rfl) Tryz.underlying3 rfl rfl) ?_
  refine DT.tk 10 ?_
  refine DT.tk 11 ?_
  refine DT.tv 12 rfl (Val.nilCheckC h_p356 rfl) ?_
  refine DT.tv 13 rfl (Val.fieldC h_p356 h_p362 Tryz.underlying67 rfl rfl sz3 rfl) ?_
  refine DT.tv 14 rfl (Val.loadW1 (off := 0) (k := k_capstanlaw12_frame) (fun w2 hw => slD.flat (St.own 0 rfl see.sub see.dj hw) (Sub.refl _) (Sub.refl _)) hx_x357.2 h_p362 (fun _ _ ⟨_, e, _⟩ => by subst e; rfl) Tryz.underlying3 rfl rfl) ?_
  refine DT.tv 15 rfl (Val.indexE h_p363 Tryz.underlying28 sz63 rfl rfl) ?_
  refine DT.tv 16 rfl (Val.loadAt1 see 0 rfl Tryz.underlying63 rfl rfl) ?_
  refine DT.tk 17 ?_
  refine DT.next (by kernel_rfl) ?_
  refine DA.one 18 rfl (by kernel_rfl) (go ?_)
  refine QE.atA ?_
  refine DA.one 19 rfl (by kernel_rfl) (go ?_)
  refine QE.atA ?_
  refine DA.done (by kernel_rfl) ?_
  exact QE.meet fun a w2 ha hw => ⟨(decide (x357.at_ ≥ (x365.length : Int))), m355, _, (by omega), ho, hr, ha.sub sb, (St.selP [3, 4, 5, 6, 7] rfl hw)⟩
 refine go ?_
 refine SP.val (Val.loadA 1 rfl Tryz.underlying33 rfl sz33 rfl rfl rfl) rfl rfl rfl ?_
 refine SP.store (v := .agg #[.int .i64 x352, .int .i64 x353, .int .i64 x354, .bool false]) (vs := [.int .i64 x352, .int .i64 x353, .int .i64 x354, .bool false]) 2 (by rfl) sz33 (by rfl) (by rfl) (by rfl) (by rfl) (by rfl) (by rfl) (go ?_)
 obtain rfl := fin ho hr
 exact QE.rt (fun _ h => h) (rs := [.cell 10 33]) (vs := [.agg #[.int .i64 x352, .int .i64 x353, .int .i64 x354, .bool false]]) (hv := ⟨RVs.cellA 2 rfl rfl Tryz.underlying33 rfl sz33, trivial⟩)
inductive capstanlaw12_CostJust.S where
  | start
  | l1 (t7 : (List (List types_Row)) × (List api_Cert) × Bool) (t12 : (List Int) × Int) (x129 : Int)
def capstanlaw12_CostJust.j1 (m_0 : api_Module) (k_1 : Int) (t7 : (List (List types_Row)) × (List api_Cert) × Bool) (t12 : (List Int) × Int) (x129 : Int) (b140 : Bool) : Option (capstanlaw12_CostJust.S ⊕ Bool) :=
  if b140 = true then (some (.inr false)) else ((elt t12.1 x129).bind fun x144 => (elt m_0.Methods x144).bind fun x148 => (capstanlaw12_straight.f x148.Code).bind fun t153 => if (!t153) = true then (some (.inr true)) else (some (.inl (.l1 t7 t12 (IntKind.i64.wrap (x129 + 1))))))
def capstanlaw12_CostJust.j2 (m_0 : api_Module) (k_1 : Int) (b181 : Bool) : Option (capstanlaw12_CostJust.S ⊕ Bool) :=
  some (.inr b181)
def capstanlaw12_CostJust.F (m_0 : api_Module) (k_1 : Int) : capstanlaw12_CostJust.S → Option (capstanlaw12_CostJust.S ⊕ Bool)
  | .start => (capstanlaw12_awake.f ).bind fun t6 => if (!t6) = true then (some (.inr false)) else ((capstanlaw12_known.f m_0 k_1).bind fun t7 => if (!t7.2.2) = true then (some (.inr true)) else ((calls_Leads.f m_0 k_1).bind fun t12 => if t12.2 ≠ 0 then (some (.inr false)) else ((elt m_0.Methods k_1).bind fun x17 => (capstanlaw12_straight.f x17.Code).bind fun t22 => if (!t22) = true then (some (.inr true)) else (some (.inl (.l1 t7 t12 0))))))
  | .l1 t7 t12 x129 => if x129 < (t12.1.length : Int) then ((elt t12.1 x129).bind fun x133 => if x133 < 0 then (capstanlaw12_CostJust.j1 m_0 k_1 t7 t12 x129 true) else ((elt t12.1 x129).bind fun x138 => capstanlaw12_CostJust.j1 m_0 k_1 t7 t12 x129 (decide (x138 ≥ (m_0.Methods.length : Int))))) else ((capstanlaw12_run.f m_0 t7.1 k_1 [] 6000).bind fun t154 => if t154.over = true then ((elt t7.2.1 k_1).bind fun x160 => if t154.fuel = x160.Fuel then ((elt t7.2.1 k_1).bind fun x167 => if t154.heap = x167.Heap then ((elt t7.2.1 k_1).bind fun x174 => capstanlaw12_CostJust.j2 m_0 k_1 (decide (t154.stack ≤ x174.Stack))) else (capstanlaw12_CostJust.j2 m_0 k_1 false)) else (capstanlaw12_CostJust.j2 m_0 k_1 false)) else (capstanlaw12_CostJust.j2 m_0 k_1 false))
def capstanlaw12_CostJust.f (m_0 : api_Module) (k_1 : Int) : Option Bool := runF (capstanlaw12_CostJust.F m_0 k_1) .start
theorem capstanlaw12_CostJust.ok (m_0 : api_Module) (k_1 : Int) (v_m_0_Globals v_m_0_Pool v_m_0_Methods : Value)  (r : Bool) (H : capstanlaw12_CostJust.f m_0 k_1 = some r) (w : World) (hV : Hp) (sV : Sub hV (hp w)) (h0 : slR k_api_Value hV v_m_0_Globals m_0.Globals) (h1 : slR k_api_Value hV v_m_0_Pool m_0.Pool) (h2 : slR k_api_Method hV v_m_0_Methods m_0.Methods) (h3 : (arrP k_arr221 0 tab0).p hV) :
    Trip Tryz.prog 7 [.agg #[v_m_0_Globals, v_m_0_Pool, v_m_0_Methods, .int .i64 m_0.Migrate], .int .i64 k_1].toArray em hV w (fun v => HO.pure (v = .bool r)) := by
 refine Trip.go 107 Tryz.func7 sV (aS h0 (aS h1 (aS h2 (All.cons (x := arrP k_arr221 0 tab0) h3 (All.nil _))))) fun see => ?_
 obtain ⟨n0, hi⟩ := runF_iff.1 H
 obtain ⟨m0, o, hm0, ho, hr⟩ := iter_some hi
 clear hi
 refine go ?_
 refine SP.box rfl rfl rfl rfl fun b4 => go ?_
 refine CP.seq (go ?_)
 obtain ⟨t6, hc, ho⟩ := bind_some (x := capstanlaw12_awake.f ) ho
 refine SP.callV see (caps := []) (.bool t6) fn8 rfl rfl rfl rfl (fun w2 hP hs sub ap => capstanlaw12_awake.ok   _ hc w2 hP sub (ap.get 3 rfl)) ?_
 clear hc
 refine go ?_
 refine CP.cb ho (fun ho => ?_) fun ho => ?_
 ·refine go ?_
  obtain rfl := fin ho hr
  exact QE.rt (fun _ h => h)
 refine go ?_
 refine SP.val (Val.loadA 0 rfl Tryz.underlying25 rfl sz25 rfl rfl rfl) rfl rfl rfl (go ?_)
 obtain ⟨t7, hc, ho⟩ := bind_some ho
 refine SP.callK see (caps := []) _ fn9 rfl rfl rfl rfl (fun w2 hP hs sub ap => capstanlaw12_known.ok _ _ _ _ _ _ hc w2 hP sub (ap.get 0 rfl) (ap.get 1 rfl) (ap.get 2 rfl) (ap.get 3 rfl)) (SP.k2 fun v8 v9 => ?_)
 clear hc
 refine go ?_
 refine CP.seq (go ?_)
 refine CP.cb ho (fun ho => ?_) fun ho => ?_
 ·refine go ?_
  obtain rfl := fin ho hr
  exact QE.rt (fun _ h => h)
 refine go ?_
 refine SP.val (Val.loadA 2 rfl Tryz.underlying25 rfl sz25 rfl rfl rfl) rfl rfl rfl (go ?_)
 obtain ⟨t12, hc, ho⟩ := bind_some ho
 refine SP.callK see (caps := []) _ fn19 rfl rfl rfl rfl (fun w2 hP hs sub ap => calls_Leads.ok _ _ _ _ _ _ hc w2 hP sub (ap.get 0 rfl) (ap.get 1 rfl) (ap.get 2 rfl)) (SP.k1 fun v13 => ?_)
 clear hc
 refine go ?_
 refine CP.seq (go ?_)
 refine CP.ci ho (fun ho => ?_) fun ho => ?_
 ·refine go ?_
  obtain rfl := fin ho hr
  exact QE.rt (fun _ h => h)
 refine go ?_
 refine CP.seq (go ?_)
 obtain ⟨x17, hx, ho⟩ := elt_bind ho
 refine SP.indexP see 2 rfl Tryz.underlying23 sz41 hx.1 hx.2 rfl rfl rfl rfl (fun p15 => ?_)
 clear hx
 refine SP.fieldP see 0 rfl Tryz.underlying41 rfl sz39 k_api_Method.part_Code rfl rfl rfl (fun p18 => ?_)
 refine SP.loadPS see 0 rfl Tryz.underlying39 rfl rfl rfl (fun v20 => ?_)
 obtain ⟨t22, hc, ho⟩ := bind_some ho
 refine SP.callV see (caps := []) (.bool t22) fn20 rfl rfl rfl rfl (fun w2 hP hs sub ap => capstanlaw12_straight.ok _ _ _ hc w2 hP sub (ap.get 0 rfl)) ?_
 clear hc
 refine go ?_
 refine CP.cb ho (fun ho => ?_) fun ho => ?_
 ·refine go ?_
  obtain rfl := fin ho hr
  exact QE.rt (fun _ h => h)
 refine go ?_
 refine CP.seq (go ?_)
 refine CP.freezeS see 0 rfl ?_
 obtain rfl := Option.some.inj ho
 refine CP.loop (fun cl1 a w2 => ∃ x129 : Int, cl1 ≤ m0 ∧ iter (capstanlaw12_CostJust.F m_0 k_1) cl1 (.l1 t7 t12 x129) = some r ∧ Env ⟨107, []⟩ [(1, .int .i64 k_1), (2, .pointer (some ⟨b4, 0, none⟩)), (5, v8), (6, v9), (8, v13), (10, .int .i64 x129)] a ∧ St w em hV [slP (kInt .i64) v13 t12.1, slP k_api_Value v_m_0_Globals m_0.Globals, slP k_api_Value v_m_0_Pool m_0.Pool, slP k_api_Method v_m_0_Methods m_0.Methods, arrP k_arr221 0 tab0] [slO (kSl k_types_Row) 63 v8 t7.1, slO k_api_Cert 36 v9 t7.2.1, boxO b4 [v_m_0_Globals, v_m_0_Pool, v_m_0_Methods, .int .i64 m_0.Migrate] 25] w2) m0 (fun a w2 ha hw => ⟨0, Nat.le_refl _, hr, ha.sub sb, (St.selP [0, 4, 5, 6, 7] rfl hw)⟩) ?_
 clear hr
 rintro cl1 a w2 ⟨x129, hc_l1, hi, ha, hw⟩
 obtain ⟨m130, o, hm_m130, ho, hr⟩ := iter_some hi
 refine CP.app ha hw ?_
 clear ha hw a w2 hi
 refine CP.seq (go ?_)
 refine CP.ci ho (fun ho => ?_) fun ho => ?_
 ·refine go ?_
  refine CP.seq (go ?_)
  refine CP.seq ?_
  refine CP.join (fun a w2 => ∃ b140 : Bool, ∃ (m141 : Nat) (o : (capstanlaw12_CostJust.S ⊕ Bool)), m141 ≤ m130 ∧ capstanlaw12_CostJust.j1 m_0 k_1 t7 t12 x129 b140 = some o ∧ next (capstanlaw12_CostJust.F m_0 k_1) m141 o = some r ∧ Env ⟨107, []⟩ [(1, .int .i64 k_1), (2, .pointer (some ⟨b4, 0, none⟩)), (5, v8), (6, v9), (8, v13), (10, .int .i64 x129), (59, .bool b140)] a ∧ St w em hV [slP (kInt .i64) v13 t12.1, slP k_api_Value v_m_0_Globals m_0.Globals, slP k_api_Value v_m_0_Pool m_0.Pool, slP k_api_Method v_m_0_Methods m_0.Methods, arrP k_arr221 0 tab0] [slO (kSl k_types_Row) 63 v8 t7.1, slO k_api_Cert 36 v9 t7.2.1, boxO b4 [v_m_0_Globals, v_m_0_Pool, v_m_0_Methods, .int .i64 m_0.Migrate] 25] w2) ?_ ?_
  ·rintro a w2 ⟨b140, m141, o, hm_m141, ho, hr, ha, hw⟩
   refine CP.app ha hw ?_
   clear ha hw a w2
   refine CP.cb ho (fun ho => ?_) fun ho => ?_
   ·refine go ?_
    obtain rfl := fin ho hr
    exact QE.rt (fun _ h => h)
   refine go ?_
   refine CP.seq ?_
   refine CP.drawA (by kernel_rfl) (fun w2 k h => h.drawn k) ?_
   obtain ⟨x144, hx, ho⟩ := elt_bind ho
   refine DA.ghost (fun w2 h => h.elem see 0 rfl hx.1 hx.2) (fun p142 h_p142 => ?_)
   clear hx
   refine DA.ghost (fun w2 h => h.openE see 0 rfl (fun _ : Unit => [.int .i64 x144]) (fun _ => []) (fun h cs e => ⟨(), e, All.nil _⟩)) (fun _ _ => ?_)
   refine DA.ph 0 6 ?_
   refine DT.tk 0 ?_
   refine DT.tk 1 ?_
   refine DT.tk 2 ?_
   refine DT.tk 3 ?_
   refine DT.tv 4 rfl (Val.indexE h_p142 Tryz.underlying55 sz3 rfl rfl) ?_
   refine DT.tv 5 rfl (Val.loadAt1 see 0 rfl Tryz.underlying3 rfl rfl) ?_
   refine DT.next (by kernel_rfl) ?_
   refine DA.one 6 rfl (by kernel_rfl) ?_
   obtain ⟨x148, hx, ho⟩ := elt_bind ho
   refine SP.indexP see 5 rfl Tryz.underlying23 sz41 hx.1 hx.2 rfl rfl rfl rfl (fun p146 => ?_)
   clear hx
   refine go ?_
   refine QE.atA ?_
   refine DA.one 7 rfl (by kernel_rfl) ?_
   refine SP.fieldP see 0 rfl Tryz.underlying41 rfl sz39 k_api_Method.part_Code rfl rfl rfl (fun p149 => go ?_)
   refine QE.atA ?_
   refine DA.one 8 rfl (by kernel_rfl) ?_
   refine SP.loadPS see 0 rfl Tryz.underlying39 rfl rfl rfl (fun v151 => go ?_)
   refine QE.atA ?_
   refine DA.one 9 rfl (by kernel_rfl) ?_
   obtain ⟨t153, hc, ho⟩ := bind_some ho
   refine SP.callV see (caps := []) (.bool t153) fn20 rfl rfl rfl rfl (fun w2 hP hs sub ap => capstanlaw12_straight.ok _ _ _ hc w2 hP sub (ap.get 0 rfl)) ?_
   clear hc
   refine go ?_
   refine QE.atA ?_
   refine DA.one 10 rfl (by kernel_rfl) (go ?_)
   refine QE.atA ?_
   refine DA.done (by kernel_rfl) (go ?_)
   refine CP.cb ho (fun ho => ?_) fun ho => ?_
   ·refine go ?_
    obtain rfl := fin ho hr
    exact QE.rt (fun _ h => h)
   refine go ?_
   obtain rfl := Option.some.inj ho
   exact QE.lower m141 (by omega) fun a w2 ha hw => ⟨(IntKind.i64.wrap (x129 + 1)), (by omega), hr, ha.sub sb, (St.selP [5, 6, 7, 8, 9] rfl hw)⟩
  refine CP.drawA (by kernel_rfl) (fun w2 k h => h.drawn k) ?_
  refine DA.ph 0 2 ?_
  refine DT.tk 0 ?_
  refine DT.tk 1 ?_
  refine DT.next (by kernel_rfl) ?_
  refine DA.one 2 rfl (by kernel_rfl) ?_
  obtain ⟨x133, hx, ho⟩ := elt_bind ho
  refine SP.indexP see 0 rfl Tryz.underlying55 sz3 hx.1 hx.2 rfl rfl rfl rfl (fun p131 => ?_)
  clear hx
  refine go ?_
  refine QE.atA ?_
  refine DA.one 3 rfl (by kernel_rfl) ?_
  refine SP.val (Val.loadP1 see 0 rfl (fun _ _ e => e) Tryz.underlying3 rfl rfl) rfl rfl rfl (go ?_)
  refine QE.atA ?_
  refine DA.one 4 rfl (by kernel_rfl) (go ?_)
  refine QE.atA ?_
  refine DA.one 5 rfl (by kernel_rfl) (go ?_)
  refine QE.atA ?_
  rcases if_some ho with ⟨hc, ho⟩ | ⟨hc, ho⟩
  ·have hg134 := (decide_eq_true hc)
   clear hc
   refine DA.ph 6 13 ?_
   refine DT.is (d := 50) (b := true) rfl hg134 ?_
   refine DT.tn 6 ?_
   refine DT.tn 7 ?_
   refine DT.tn 8 ?_
   refine DT.tn 9 ?_
   refine DT.tn 10 ?_
   refine DT.tn 11 ?_
   refine DT.tn 12 ?_
   refine DT.next (by kernel_rfl) ?_
   refine DA.ph 13 14 ?_
   refine DT.tn 13 ?_
   refine DT.next (by kernel_rfl) ?_
   refine DA.one 14 rfl (by kernel_rfl) (go ?_)
   refine QE.atA ?_
   refine DA.done (by kernel_rfl) ?_
   exact QE.meet fun a w2 ha hw => ⟨true, m130, _, (by omega), ho, hr, ha.sub sb, (St.selP [1, 2, 3, 4, 5] rfl hw)⟩
  have hg135 := (decide_eq_false hc)
  clear hc
  obtain ⟨x138, hx, ho⟩ := elt_bind ho
  refine DA.ghost (fun w2 h => h.elem see 1 rfl hx.1 hx.2) (fun p136 h_p136 => ?_)
  clear hx
  refine DA.ghost (fun w2 h => h.openE see 0 rfl (fun _ : Unit => [.int .i64 x138]) (fun _ => []) (fun h cs e => ⟨(), e, All.nil _⟩)) (fun _ _ => ?_)
  refine DA.ph 6 13 ?_
  refine DT.is (d := 50) (b := false) rfl hg135 ?_
  refine DT.tk 6 ?_
  refine DT.tk 7 ?_
  refine DT.tv 8 rfl (Val.indexE h_p136 Tryz.underlying55 sz3 rfl rfl) ?_
  refine DT.tv 9 rfl (Val.loadAt1 see 0 rfl Tryz.underlying3 rfl rfl) ?_
  refine DT.tk 10 ?_
  refine DT.tk 11 ?_
  refine DT.tk 12 ?_
  refine DT.next (by kernel_rfl) ?_
  refine DA.one 13 rfl (by kernel_rfl) (go ?_)
  refine QE.atA ?_
  refine DA.one 14 rfl (by kernel_rfl) (go ?_)
  refine QE.atA ?_
  refine DA.done (by kernel_rfl) ?_
  exact QE.meet fun a w2 ha hw => ⟨(decide (x138 ≥ (m_0.Methods.length : Int))), m130, _, (by omega), ho, hr, ha.sub sb, (St.selP [3, 4, 5, 6, 7] rfl hw)⟩
 refine go ?_
 refine SP.val (Val.loadA 2 rfl Tryz.underlying25 rfl sz25 rfl rfl rfl) rfl rfl rfl (go ?_)
 obtain ⟨t154, hc, ho⟩ := bind_some ho
 refine SP.callVO see (caps := []) (.agg #[.int .i64 t154.fuel, .int .i64 t154.stack, .int .i64 t154.heap, .bool t154.over]) fn10 rfl rfl rfl rfl (fun w2 hs => capstanlaw12_run.ok _ _ _ _ _ _ _ _ _ _ _ hc w2 (hp w2) (Sub.refl _) ((St.pers 1 rfl see.sub see.dj hs)) ((St.pers 2 rfl see.sub see.dj hs)) ((St.pers 3 rfl see.sub see.dj hs)) (slO.read (St.own 0 rfl see.sub see.dj hs) (Sub.refl _) (Sub.refl _)) (slP.nil _ _)) ?_
 clear hc
 refine SP.alloc (cs := [.int .i64 0, .int .i64 0, .int .i64 0, .bool false]) inf33 rfl rfl (fun b155 => ?_)
 refine SP.store (v := .agg #[.int .i64 t154.fuel, .int .i64 t154.stack, .int .i64 t154.heap, .bool t154.over]) (vs := [.int .i64 t154.fuel, .int .i64 t154.stack, .int .i64 t154.heap, .bool t154.over]) 0 (by rfl) sz33 (by rfl) (by rfl) (by rfl) (by rfl) (by rfl) (by rfl) (go ?_)
 refine CP.join (fun a w2 => ∃ b181 : Bool, ∃ (m182 : Nat) (o : (capstanlaw12_CostJust.S ⊕ Bool)), m182 ≤ m130 ∧ capstanlaw12_CostJust.j2 m_0 k_1 b181 = some o ∧ next (capstanlaw12_CostJust.F m_0 k_1) m182 o = some r ∧ Env ⟨107, []⟩ [(4, .bool b181)] a ∧ St w em hV [arrP k_arr221 0 tab0] [] w2) ?_ ?_
 ·rintro a w2 ⟨b181, m182, o, hm_m182, ho, hr, ha, hw⟩
  refine CP.app ha hw ?_
  clear ha hw a w2
  refine go ?_
  obtain rfl := fin ho hr
  exact QE.rt (fun _ h => h)
 refine CP.freezeS see 2 rfl ?_
 refine CP.drawA (by kernel_rfl) (fun w2 k h => h.drawn k) ?_
 refine DA.one 0 rfl (by kernel_rfl) (go ?_)
 refine QE.atA ?_
 refine DA.one 1 rfl (by kernel_rfl) (go ?_)
 refine QE.atA ?_
 refine DA.one 2 rfl (by kernel_rfl) (go ?_)
 refine QE.atA ?_
 rcases if_some ho with ⟨hc, ho⟩ | ⟨hc, ho⟩
 ·have hg157 := hc
  clear hc
  obtain ⟨x160, hx, ho⟩ := elt_bind ho
  refine DA.ghost (fun w2 h => h.elem see 0 rfl hx.1 hx.2) (fun p158 h_p158 => ?_)
  clear hx
  refine DA.ghost (fun w2 h => h.fieldE see 0 rfl k_api_Cert.part_Fuel) (fun p161 h_p161 => ?_)
  refine DA.ghost (fun w2 h => h.openE see 0 rfl (fun _ : Unit => [.int .i64 x160.Fuel]) (fun _ => []) (fun h cs e => ⟨(), e, All.nil _⟩)) (fun _ _ => ?_)
  refine DA.ph 3 10 ?_
  refine DT.is (d := 77) (b := true) rfl hg157 ?_
  refine DT.tk 3 ?_
  refine DT.tk 4 ?_
  refine DT.tk 5 ?_
  refine DT.tk 6 ?_
  refine DT.tv 7 rfl (Val.indexE h_p158 Tryz.underlying29 sz36 rfl rfl) ?_
  refine DT.tv 8 rfl (Val.fieldE h_p161 Tryz.underlying36 rfl rfl sz3 rfl) ?_
  refine DT.tv 9 rfl (Val.loadAt1 see 0 rfl Tryz.underlying3 rfl rfl) ?_
  refine DT.next (by kernel_rfl) ?_
  refine DA.one 10 rfl (by kernel_rfl) (go ?_)
  refine QE.atA ?_
  refine DA.one 11 rfl (by kernel_rfl) (go ?_)
  refine QE.atA ?_
  refine DA.one 12 rfl (by kernel_rfl) (go ?_)
  refine QE.atA ?_
  rcases if_some ho with ⟨hc, ho⟩ | ⟨hc, ho⟩
  ·have hg164 := (decide_eq_true hc)
   clear hc
   obtain ⟨x167, hx, ho⟩ := elt_bind ho
   refine DA.ghost (fun w2 h => h.elem see 3 rfl hx.1 hx.2) (fun p165 h_p165 => ?_)
   clear hx
   refine DA.ghost (fun w2 h => h.fieldE see 0 rfl k_api_Cert.part_Heap) (fun p168 h_p168 => ?_)
   refine DA.ghost (fun w2 h => h.openE see 0 rfl (fun _ : Unit => [.int .i64 x167.Heap]) (fun _ => []) (fun h cs e => ⟨(), e, All.nil _⟩)) (fun _ _ => ?_)
   refine DA.ph 13 20 ?_
   refine DT.is (d := 87) (b := true) rfl hg164 ?_
   refine DT.tk 13 ?_
   refine DT.tk 14 ?_
   refine DT.tk 15 ?_
   refine DT.tk 16 ?_
   refine DT.tv 17 rfl (Val.indexE h_p165 Tryz.underlying29 sz36 rfl rfl) ?_
   refine DT.tv 18 rfl (Val.fieldE h_p168 Tryz.underlying36 rfl rfl sz3 rfl) ?_
   refine DT.tv 19 rfl (Val.loadAt1 see 0 rfl Tryz.underlying3 rfl rfl) ?_
   refine DT.next (by kernel_rfl) ?_
   refine DA.one 20 rfl (by kernel_rfl) (go ?_)
   refine QE.atA ?_
   refine DA.one 21 rfl (by kernel_rfl) (go ?_)
   refine QE.atA ?_
   refine DA.one 22 rfl (by kernel_rfl) (go ?_)
   refine QE.atA ?_
   rcases if_some ho with ⟨hc, ho⟩ | ⟨hc, ho⟩
   ·have hg171 := (decide_eq_true hc)
    clear hc
    obtain ⟨x174, hx, ho⟩ := elt_bind ho
    refine DA.ghost (fun w2 h => h.elem see 6 rfl hx.1 hx.2) (fun p172 h_p172 => ?_)
    clear hx
    refine DA.ghost (fun w2 h => h.fieldE see 0 rfl k_api_Cert.part_Stack) (fun p175 h_p175 => ?_)
    refine DA.ghost (fun w2 h => h.openE see 0 rfl (fun _ : Unit => [.int .i64 x174.Stack]) (fun _ => []) (fun h cs e => ⟨(), e, All.nil _⟩)) (fun _ _ => ?_)
    refine DA.ph 23 30 ?_
    refine DT.is (d := 97) (b := true) rfl hg171 ?_
    refine DT.tk 23 ?_
    refine DT.tk 24 ?_
    refine DT.tk 25 ?_
    refine DT.tk 26 ?_
    refine DT.tv 27 rfl (Val.indexE h_p172 Tryz.underlying29 sz36 rfl rfl) ?_
    refine DT.tv 28 rfl (Val.fieldE h_p175 Tryz.underlying36 rfl rfl sz3 rfl) ?_
    refine DT.tv 29 rfl (Val.loadAt1 see 0 rfl Tryz.underlying3 rfl rfl) ?_
    refine DT.next (by kernel_rfl) ?_
    refine DA.one 30 rfl (by kernel_rfl) (go ?_)
    refine QE.atA ?_
    refine DA.one 31 rfl (by kernel_rfl) (go ?_)
    refine QE.atA ?_
    refine DA.one 32 rfl (by kernel_rfl) (go ?_)
    refine QE.atA ?_
    refine DA.done (by kernel_rfl) ?_
    exact QE.meet fun a w2 ha hw => ⟨(decide (t154.stack ≤ x174.Stack)), m130, _, (by omega), ho, hr, ha.sub sb, (St.selP [14] rfl (St.selO [] rfl rfl hw))⟩
   have hg178 := (decide_eq_false hc)
   clear hc
   refine DA.ph 23 30 ?_
   refine DT.is (d := 97) (b := false) rfl hg178 ?_
   refine DT.tn 23 ?_
   refine DT.tn 24 ?_
   refine DT.tn 25 ?_
   refine DT.tn 26 ?_
   refine DT.tn 27 ?_
   refine DT.tn 28 ?_
   refine DT.tn 29 ?_
   refine DT.next (by kernel_rfl) ?_
   refine DA.ph 30 31 ?_
   refine DT.tn 30 ?_
   refine DT.next (by kernel_rfl) ?_
   refine DA.one 31 rfl (by kernel_rfl) (go ?_)
   refine QE.atA ?_
   refine DA.one 32 rfl (by kernel_rfl) (go ?_)
   refine QE.atA ?_
   refine DA.done (by kernel_rfl) ?_
   exact QE.meet fun a w2 ha hw => ⟨false, m130, _, (by omega), ho, hr, ha.sub sb, (St.selP [11] rfl (St.selO [] rfl rfl hw))⟩
  have hg179 := (decide_eq_false hc)
  clear hc
  refine DA.ph 13 20 ?_
  refine DT.is (d := 87) (b := false) rfl hg179 ?_
  refine DT.tn 13 ?_
  refine DT.tn 14 ?_
  refine DT.tn 15 ?_
  refine DT.tn 16 ?_
  refine DT.tn 17 ?_
  refine DT.tn 18 ?_
  refine DT.tn 19 ?_
  refine DT.next (by kernel_rfl) ?_
  refine DA.ph 20 21 ?_
  refine DT.tn 20 ?_
  refine DT.next (by kernel_rfl) ?_
  refine DA.one 21 rfl (by kernel_rfl) (go ?_)
  refine QE.atA ?_
  refine DA.one 22 rfl (by kernel_rfl) (go ?_)
  refine QE.atA ?_
  refine DA.ph 23 30 ?_
  refine DT.tn 23 ?_
  refine DT.tn 24 ?_
  refine DT.tn 25 ?_
  refine DT.tn 26 ?_
  refine DT.tn 27 ?_
  refine DT.tn 28 ?_
  refine DT.tn 29 ?_
  refine DT.next (by kernel_rfl) ?_
  refine DA.ph 30 31 ?_
  refine DT.tn 30 ?_
  refine DT.next (by kernel_rfl) ?_
  refine DA.one 31 rfl (by kernel_rfl) (go ?_)
  refine QE.atA ?_
  refine DA.one 32 rfl (by kernel_rfl) (go ?_)
  refine QE.atA ?_
  refine DA.done (by kernel_rfl) ?_
  exact QE.meet fun a w2 ha hw => ⟨false, m130, _, (by omega), ho, hr, ha.sub sb, (St.selP [8] rfl (St.selO [] rfl rfl hw))⟩
 have hg180 := (bf hc)
 clear hc
 refine DA.ph 3 10 ?_
 refine DT.is (d := 77) (b := false) rfl hg180 ?_
 refine DT.tn 3 ?_
 refine DT.tn 4 ?_
 refine DT.tn 5 ?_
 refine DT.tn 6 ?_
 refine DT.tn 7 ?_
 refine DT.tn 8 ?_
 refine DT.tn 9 ?_
 refine DT.next (by kernel_rfl) ?_
 refine DA.ph 10 11 ?_
 refine DT.tn 10 ?_
 refine DT.next (by kernel_rfl) ?_
 refine DA.one 11 rfl (by kernel_rfl) (go ?_)
 refine QE.atA ?_
 refine DA.one 12 rfl (by kernel_rfl) (go ?_)
 refine QE.atA ?_
 refine DA.ph 13 20 ?_
 refine DT.tn 13 ?_
 refine DT.tn 14 ?_
 refine DT.tn 15 ?_
 refine DT.tn 16 ?_
 refine DT.tn 17 ?_
 refine DT.tn 18 ?_
 refine DT.tn 19 ?_
 refine DT.next (by kernel_rfl) ?_
 refine DA.ph 20 21 ?_
 refine DT.tn 20 ?_
 refine DT.next (by kernel_rfl) ?_
 refine DA.one 21 rfl (by kernel_rfl) (go ?_)
 refine QE.atA ?_
 refine DA.one 22 rfl (by kernel_rfl) (go ?_)
 refine QE.atA ?_
 refine DA.ph 23 30 ?_
 refine DT.tn 23 ?_
 refine DT.tn 24 ?_
 refine DT.tn 25 ?_
 refine DT.tn 26 ?_
 refine DT.tn 27 ?_
 refine DT.tn 28 ?_
 refine DT.tn 29 ?_
 refine DT.next (by kernel_rfl) ?_
 refine DA.ph 30 31 ?_
 refine DT.tn 30 ?_
 refine DT.next (by kernel_rfl) ?_
 refine DA.one 31 rfl (by kernel_rfl) (go ?_)
 refine QE.atA ?_
 refine DA.one 32 rfl (by kernel_rfl) (go ?_)
 refine QE.atA ?_
 refine DA.done (by kernel_rfl) ?_
 exact QE.meet fun a w2 ha hw => ⟨false, m130, _, (by omega), ho, hr, ha.sub sb, (St.selP [5] rfl (St.selO [] rfl rfl hw))⟩
theorem cl5 : Tryz.prog.cellsOf 5 = 1 := by kernel_rfl
theorem cl2 : Tryz.prog.cellsOf 2 = 1 := by kernel_rfl
theorem cl62 : Tryz.prog.cellsOf 62 = 3 := by kernel_rfl
def wf_api_Value (x : api_Value) : Prop := (Lit.int .u8 x.Kind).wf = true ∧ (Lit.int .i64 x.A).wf = true ∧ (Lit.int .i64 x.B).wf = true
theorem opens_api_Value : Opens Tryz.prog 62 k_api_Value wf_api_Value := by
  intro H enc W fuel cs d ps h
  cases fuel with
  | zero => simp [DataW.trod] at h
  | succ n =>
    obtain ⟨hl, hf⟩ := trod_struct Tryz.underlying62 h
    rw [cl62] at hl
    obtain ⟨c0, c1, c2, rfl⟩ := len3 hl
    obtain ⟨d0, q0, h0⟩ := hf 0 _ rfl
    replace h0 : DataW.trod enc Tryz.prog W 0 (fun _ => true) true n 5 (List.take (Tryz.prog.cellsOf 5) [c0, c1, c2]) = some (d0, q0) := h0
    rw [cl5] at h0
    replace h0 : DataW.trod enc Tryz.prog W 0 (fun _ => true) true n 5 [c0] = some (d0, q0) := h0
    obtain ⟨x0, r0, w0⟩ := (Opens.int Tryz.underlying5) enc W n _ _ _ h0
    obtain ⟨rfl, -⟩ := List.cons.inj r0
    obtain ⟨d1, q1, h1⟩ := hf 1 _ rfl
    replace h1 : DataW.trod enc Tryz.prog W 0 (fun _ => true) true n 2 (List.take (Tryz.prog.cellsOf 2) [c1, c2]) = some (d1, q1) := h1
    rw [cl2] at h1
    replace h1 : DataW.trod enc Tryz.prog W 0 (fun _ => true) true n 2 [c1] = some (d1, q1) := h1
    obtain ⟨x1, r1, w1⟩ := (Opens.int Tryz.underlying2) enc W n _ _ _ h1
    obtain ⟨rfl, -⟩ := List.cons.inj r1
    obtain ⟨d2, q2, h2⟩ := hf 2 _ rfl
    replace h2 : DataW.trod enc Tryz.prog W 0 (fun _ => true) true n 2 (List.take (Tryz.prog.cellsOf 2) [c2]) = some (d2, q2) := h2
    rw [cl2] at h2
    replace h2 : DataW.trod enc Tryz.prog W 0 (fun _ => true) true n 2 [c2] = some (d2, q2) := h2
    obtain ⟨x2, r2, w2⟩ := (Opens.int Tryz.underlying2) enc W n _ _ _ h2
    obtain ⟨rfl, -⟩ := List.cons.inj r2
    exact ⟨⟨x0, x1, x2⟩, rfl, w0, w1, w2⟩
theorem cl3 : Tryz.prog.cellsOf 3 = 1 := by kernel_rfl
theorem cl71 : Tryz.prog.cellsOf 71 = 3 := by kernel_rfl
def wf_api_Instr (x : api_Instr) : Prop := (Lit.int .u8 x.Op).wf = true ∧ (Lit.int .i64 x.A).wf = true ∧ (Lit.int .i64 x.B).wf = true
theorem opens_api_Instr : Opens Tryz.prog 71 k_api_Instr wf_api_Instr := by
  intro H enc W fuel cs d ps h
  cases fuel with
  | zero => simp [DataW.trod] at h
  | succ n =>
    obtain ⟨hl, hf⟩ := trod_struct Tryz.underlying71 h
    rw [cl71] at hl
    obtain ⟨c0, c1, c2, rfl⟩ := len3 hl
    obtain ⟨d0, q0, h0⟩ := hf 0 _ rfl
    replace h0 : DataW.trod enc Tryz.prog W 0 (fun _ => true) true n 5 (List.take (Tryz.prog.cellsOf 5) [c0, c1, c2]) = some (d0, q0) := h0
    rw [cl5] at h0
    replace h0 : DataW.trod enc Tryz.prog W 0 (fun _ => true) true n 5 [c0] = some (d0, q0) := h0
    obtain ⟨x0, r0, w0⟩ := (Opens.int Tryz.underlying5) enc W n _ _ _ h0
    obtain ⟨rfl, -⟩ := List.cons.inj r0
    obtain ⟨d1, q1, h1⟩ := hf 1 _ rfl
    replace h1 : DataW.trod enc Tryz.prog W 0 (fun _ => true) true n 3 (List.take (Tryz.prog.cellsOf 3) [c1, c2]) = some (d1, q1) := h1
    rw [cl3] at h1
    replace h1 : DataW.trod enc Tryz.prog W 0 (fun _ => true) true n 3 [c1] = some (d1, q1) := h1
    obtain ⟨x1, r1, w1⟩ := (Opens.int Tryz.underlying3) enc W n _ _ _ h1
    obtain ⟨rfl, -⟩ := List.cons.inj r1
    obtain ⟨d2, q2, h2⟩ := hf 2 _ rfl
    replace h2 : DataW.trod enc Tryz.prog W 0 (fun _ => true) true n 3 (List.take (Tryz.prog.cellsOf 3) [c2]) = some (d2, q2) := h2
    rw [cl3] at h2
    replace h2 : DataW.trod enc Tryz.prog W 0 (fun _ => true) true n 3 [c2] = some (d2, q2) := h2
    obtain ⟨x2, r2, w2⟩ := (Opens.int Tryz.underlying3) enc W n _ _ _ h2
    obtain ⟨rfl, -⟩ := List.cons.inj r2
    exact ⟨⟨x0, x1, x2⟩, rfl, w0, w1, w2⟩
theorem cl38 : Tryz.prog.cellsOf 38 = 1 := by kernel_rfl
theorem cl4 : Tryz.prog.cellsOf 4 = 1 := by kernel_rfl
theorem cl39 : Tryz.prog.cellsOf 39 = 1 := by kernel_rfl
theorem cl41 : Tryz.prog.cellsOf 41 = 8 := by kernel_rfl
def wf_api_Method (x : api_Method) : Prop := (x.Args.length ≤ maxLen ∧ ∀ y ∈ x.Args, (Lit.int .u8 y).wf = true) ∧ (x.Locals.length ≤ maxLen ∧ ∀ y ∈ x.Locals, (Lit.int .u8 y).wf = true) ∧ (Lit.int .u8 x.Result).wf = true ∧ True ∧ (Lit.int .i64 x.Fuel).wf = true ∧ (Lit.int .i64 x.Stack).wf = true ∧ (Lit.int .i64 x.Heap).wf = true ∧ (x.Code.length ≤ maxLen ∧ ∀ y ∈ x.Code, wf_api_Instr y)
theorem opens_api_Method : Opens Tryz.prog 41 k_api_Method wf_api_Method := by
  intro H enc W fuel cs d ps h
  cases fuel with
  | zero => simp [DataW.trod] at h
  | succ n =>
    obtain ⟨hl, hf⟩ := trod_struct Tryz.underlying41 h
    rw [cl41] at hl
    obtain ⟨c0, c1, c2, c3, c4, c5, c6, c7, rfl⟩ := len8 hl
    obtain ⟨d0, q0, h0⟩ := hf 0 _ rfl
    replace h0 : DataW.trod enc Tryz.prog W 0 (fun _ => true) true n 38 (List.take (Tryz.prog.cellsOf 38) [c0, c1, c2, c3, c4, c5, c6, c7]) = some (d0, q0) := h0
    rw [cl38] at h0
    replace h0 : DataW.trod enc Tryz.prog W 0 (fun _ => true) true n 38 [c0] = some (d0, q0) := h0
    obtain ⟨x0, r0, w0⟩ := (Opens.slice Tryz.underlying38 (Opens.int Tryz.underlying5) cl5 (by decide)) enc W n _ _ _ h0
    obtain ⟨v0, e0, r0⟩ := r0
    obtain ⟨rfl, -⟩ := List.cons.inj e0
    obtain ⟨d1, q1, h1⟩ := hf 1 _ rfl
    replace h1 : DataW.trod enc Tryz.prog W 0 (fun _ => true) true n 38 (List.take (Tryz.prog.cellsOf 38) [c1, c2, c3, c4, c5, c6, c7]) = some (d1, q1) := h1
    rw [cl38] at h1
    replace h1 : DataW.trod enc Tryz.prog W 0 (fun _ => true) true n 38 [c1] = some (d1, q1) := h1
    obtain ⟨x1, r1, w1⟩ := (Opens.slice Tryz.underlying38 (Opens.int Tryz.underlying5) cl5 (by decide)) enc W n _ _ _ h1
    obtain ⟨v1, e1, r1⟩ := r1
    obtain ⟨rfl, -⟩ := List.cons.inj e1
    obtain ⟨d2, q2, h2⟩ := hf 2 _ rfl
    replace h2 : DataW.trod enc Tryz.prog W 0 (fun _ => true) true n 5 (List.take (Tryz.prog.cellsOf 5) [c2, c3, c4, c5, c6, c7]) = some (d2, q2) := h2
    rw [cl5] at h2
    replace h2 : DataW.trod enc Tryz.prog W 0 (fun _ => true) true n 5 [c2] = some (d2, q2) := h2
    obtain ⟨x2, r2, w2⟩ := (Opens.int Tryz.underlying5) enc W n _ _ _ h2
    obtain ⟨rfl, -⟩ := List.cons.inj r2
    obtain ⟨d3, q3, h3⟩ := hf 3 _ rfl
    replace h3 : DataW.trod enc Tryz.prog W 0 (fun _ => true) true n 4 (List.take (Tryz.prog.cellsOf 4) [c3, c4, c5, c6, c7]) = some (d3, q3) := h3
    rw [cl4] at h3
    replace h3 : DataW.trod enc Tryz.prog W 0 (fun _ => true) true n 4 [c3] = some (d3, q3) := h3
    obtain ⟨x3, r3, w3⟩ := (Opens.bool Tryz.underlying4) enc W n _ _ _ h3
    obtain ⟨rfl, -⟩ := List.cons.inj r3
    obtain ⟨d4, q4, h4⟩ := hf 4 _ rfl
    replace h4 : DataW.trod enc Tryz.prog W 0 (fun _ => true) true n 3 (List.take (Tryz.prog.cellsOf 3) [c4, c5, c6, c7]) = some (d4, q4) := h4
    rw [cl3] at h4
    replace h4 : DataW.trod enc Tryz.prog W 0 (fun _ => true) true n 3 [c4] = some (d4, q4) := h4
    obtain ⟨x4, r4, w4⟩ := (Opens.int Tryz.underlying3) enc W n _ _ _ h4
    obtain ⟨rfl, -⟩ := List.cons.inj r4
    obtain ⟨d5, q5, h5⟩ := hf 5 _ rfl
    replace h5 : DataW.trod enc Tryz.prog W 0 (fun _ => true) true n 3 (List.take (Tryz.prog.cellsOf 3) [c5, c6, c7]) = some (d5, q5) := h5
    rw [cl3] at h5
    replace h5 : DataW.trod enc Tryz.prog W 0 (fun _ => true) true n 3 [c5] = some (d5, q5) := h5
    obtain ⟨x5, r5, w5⟩ := (Opens.int Tryz.underlying3) enc W n _ _ _ h5
    obtain ⟨rfl, -⟩ := List.cons.inj r5
    obtain ⟨d6, q6, h6⟩ := hf 6 _ rfl
    replace h6 : DataW.trod enc Tryz.prog W 0 (fun _ => true) true n 3 (List.take (Tryz.prog.cellsOf 3) [c6, c7]) = some (d6, q6) := h6
    rw [cl3] at h6
    replace h6 : DataW.trod enc Tryz.prog W 0 (fun _ => true) true n 3 [c6] = some (d6, q6) := h6
    obtain ⟨x6, r6, w6⟩ := (Opens.int Tryz.underlying3) enc W n _ _ _ h6
    obtain ⟨rfl, -⟩ := List.cons.inj r6
    obtain ⟨d7, q7, h7⟩ := hf 7 _ rfl
    replace h7 : DataW.trod enc Tryz.prog W 0 (fun _ => true) true n 39 (List.take (Tryz.prog.cellsOf 39) [c7]) = some (d7, q7) := h7
    rw [cl39] at h7
    replace h7 : DataW.trod enc Tryz.prog W 0 (fun _ => true) true n 39 [c7] = some (d7, q7) := h7
    obtain ⟨x7, r7, w7⟩ := (Opens.slice Tryz.underlying39 opens_api_Instr cl71 (by decide)) enc W n _ _ _ h7
    obtain ⟨v7, e7, r7⟩ := r7
    obtain ⟨rfl, -⟩ := List.cons.inj e7
    exact ⟨⟨x0, x1, x2, x3, x4, x5, x6, x7⟩, ⟨_, _, _, rfl, r0, r1, r7⟩, w0, w1, w2, w3, w4, w5, w6, w7⟩
theorem cl22 : Tryz.prog.cellsOf 22 = 1 := by kernel_rfl
theorem cl23 : Tryz.prog.cellsOf 23 = 1 := by kernel_rfl
theorem cl25 : Tryz.prog.cellsOf 25 = 4 := by kernel_rfl
def wf_api_Module (x : api_Module) : Prop := (x.Globals.length ≤ maxLen ∧ ∀ y ∈ x.Globals, wf_api_Value y) ∧ (x.Pool.length ≤ maxLen ∧ ∀ y ∈ x.Pool, wf_api_Value y) ∧ (x.Methods.length ≤ maxLen ∧ ∀ y ∈ x.Methods, wf_api_Method y) ∧ (Lit.int .i64 x.Migrate).wf = true
theorem opens_api_Module : Opens Tryz.prog 25 k_api_Module wf_api_Module := by
  intro H enc W fuel cs d ps h
  cases fuel with
  | zero => simp [DataW.trod] at h
  | succ n =>
    obtain ⟨hl, hf⟩ := trod_struct Tryz.underlying25 h
    rw [cl25] at hl
    obtain ⟨c0, c1, c2, c3, rfl⟩ := len4 hl
    obtain ⟨d0, q0, h0⟩ := hf 0 _ rfl
    replace h0 : DataW.trod enc Tryz.prog W 0 (fun _ => true) true n 22 (List.take (Tryz.prog.cellsOf 22) [c0, c1, c2, c3]) = some (d0, q0) := h0
    rw [cl22] at h0
    replace h0 : DataW.trod enc Tryz.prog W 0 (fun _ => true) true n 22 [c0] = some (d0, q0) := h0
    obtain ⟨x0, r0, w0⟩ := (Opens.slice Tryz.underlying22 opens_api_Value cl62 (by decide)) enc W n _ _ _ h0
    obtain ⟨v0, e0, r0⟩ := r0
    obtain ⟨rfl, -⟩ := List.cons.inj e0
    obtain ⟨d1, q1, h1⟩ := hf 1 _ rfl
    replace h1 : DataW.trod enc Tryz.prog W 0 (fun _ => true) true n 22 (List.take (Tryz.prog.cellsOf 22) [c1, c2, c3]) = some (d1, q1) := h1
    rw [cl22] at h1
    replace h1 : DataW.trod enc Tryz.prog W 0 (fun _ => true) true n 22 [c1] = some (d1, q1) := h1
    obtain ⟨x1, r1, w1⟩ := (Opens.slice Tryz.underlying22 opens_api_Value cl62 (by decide)) enc W n _ _ _ h1
    obtain ⟨v1, e1, r1⟩ := r1
    obtain ⟨rfl, -⟩ := List.cons.inj e1
    obtain ⟨d2, q2, h2⟩ := hf 2 _ rfl
    replace h2 : DataW.trod enc Tryz.prog W 0 (fun _ => true) true n 23 (List.take (Tryz.prog.cellsOf 23) [c2, c3]) = some (d2, q2) := h2
    rw [cl23] at h2
    replace h2 : DataW.trod enc Tryz.prog W 0 (fun _ => true) true n 23 [c2] = some (d2, q2) := h2
    obtain ⟨x2, r2, w2⟩ := (Opens.slice Tryz.underlying23 opens_api_Method cl41 (by decide)) enc W n _ _ _ h2
    obtain ⟨v2, e2, r2⟩ := r2
    obtain ⟨rfl, -⟩ := List.cons.inj e2
    obtain ⟨d3, q3, h3⟩ := hf 3 _ rfl
    replace h3 : DataW.trod enc Tryz.prog W 0 (fun _ => true) true n 3 (List.take (Tryz.prog.cellsOf 3) [c3]) = some (d3, q3) := h3
    rw [cl3] at h3
    replace h3 : DataW.trod enc Tryz.prog W 0 (fun _ => true) true n 3 [c3] = some (d3, q3) := h3
    obtain ⟨x3, r3, w3⟩ := (Opens.int Tryz.underlying3) enc W n _ _ _ h3
    obtain ⟨rfl, -⟩ := List.cons.inj r3
    exact ⟨⟨x0, x1, x2, x3⟩, ⟨_, _, _, rfl, r0, r1, r2⟩, w0, w1, w2, w3⟩
def capstanlaw12_CostJust.Pure : Prop := ∀ (x0 : api_Module) (x1 : Int), wf_api_Module x0 → (Lit.int .i64 x1).wf = true → capstanlaw12_CostJust.f x0 x1 = some true
end Go.Proofs.YtmhkokkphgchlaaGreatDoor
end
