/- Functions of the program as plain functions, with the proof that the code computes them: printed by gen.py of this session. -/
import Derived.Test.YtikichjmjbbnbaaGreatDoorProg
import Derived.Test.YtikichjmjbbnbaaGreatDoorQ33xVerifyBack
import Derived.Test.YtikichjmjbbnbaaGreatDoorQ42xVerifyBack
import Derived.Ground.GgzProg
import Derived.Ground.Names8Prog
import Derived.Ground.NamesProg
import Derived.Ground.SlgcProg
import Derived.Ground.SlgmProg
import Derived.Ground.SlgnProg
import Derived.Ground.SlsfProg
import Derived.Shelf.Bits.Mul64
import Derived.Shelf.Lay
import Derived.Shelf.SlGeneric
import Derived.Shelf.SlIterI.Nil
import Derived.Shelf.SlSortCmp.WholeK
import Derived.Shelf.SlicesE.Reverse
import Derived.Shelf.SlicesG.Cmp
import Derived.Shelf.SlicesG.CompactI
import Derived.Shelf.Small.Bits
import Derived.Shelf.SortM.Plain
import Derived.Shelf.SortM.SortNone
import Derived.Shelf.Spec.SlicesGrow
import Derived.Test.YtikichjmjbbnbaaGreatDoorGVerifyBackp1
set_option linter.unusedVariables false
set_option linter.unusedSimpArgs false
set_option maxRecDepth 20000
set_option maxHeartbeats 2000000
set_option linter.defProp false
set_option warn.classDefReducibility false
noncomputable section
namespace Go.Proofs.YtikichjmjbbnbaaGreatDoor
open Go.Q
attribute [local irreducible] CP SP QE DA DT Val St
def types_look_shape_s1.j1 (k_0_2 k_0_4 : List api_Value) (k_0_6 : List api_Method) (k_0_8 : Int) (k_0_9 k_0_11 : List Int) (k_0_13 : Int) (k_0_14 : Bool) (k_0_15 k_0_16 k_0_17 : Int) (k_0_18 : List api_Instr) (k_0_20 : List Int) (l22 : List types_Row) (i_1 : api_Instr) (row_2 : List Int) (l5302 : List types_Row) (l5304 l5307 : List Int) : Option (op_Shape × (List types_Row)) :=
  some ((⟨l5304, l5307⟩ : op_Shape), l5302)
def types_look_shape_s1.j2 (k_0_2 k_0_4 : List api_Value) (k_0_6 : List api_Method) (k_0_8 : Int) (k_0_9 k_0_11 : List Int) (k_0_13 : Int) (k_0_14 : Bool) (k_0_15 k_0_16 k_0_17 : Int) (k_0_18 : List api_Instr) (k_0_20 : List Int) (l22 : List types_Row) (i_1 : api_Instr) (row_2 : List Int) (t28 : op_Shape × Bool) (l5300 : List Int) : Option (op_Shape × (List types_Row)) :=
  types_look_shape_s1.j1 k_0_2 k_0_4 k_0_6 k_0_8 k_0_9 k_0_11 k_0_13 k_0_14 k_0_15 k_0_16 k_0_17 k_0_18 k_0_20 l22 i_1 row_2 l22 [0] l5300
def types_look_shape_s1.j4 (k_0_2 k_0_4 : List api_Value) (k_0_6 : List api_Method) (k_0_8 : Int) (k_0_9 k_0_11 : List Int) (k_0_13 : Int) (k_0_14 : Bool) (k_0_15 k_0_16 k_0_17 : Int) (k_0_18 : List api_Instr) (k_0_20 : List Int) (l22 : List types_Row) (i_1 : api_Instr) (row_2 : List Int) (t28 : op_Shape × Bool) (t37 : List Int) (b46 : Bool) : Option (op_Shape × (List types_Row)) :=
  if b46 = true then ((types_look_named_s1.f k_0_2 k_0_4 k_0_6 k_0_8 k_0_9 k_0_11 k_0_13 k_0_14 k_0_15 k_0_16 k_0_17 k_0_18 k_0_20 l22 i_1).bind fun t47 => types_look_shape_s1.j1 k_0_2 k_0_4 k_0_6 k_0_8 k_0_9 k_0_11 k_0_13 k_0_14 k_0_15 k_0_16 k_0_17 k_0_18 k_0_20 l22 i_1 row_2 t47.2 [t47.1] t28.1.Gives) else (if i_1.Op = 30 then ((elt k_0_6 i_1.A).bind fun x52 => (elt k_0_6 i_1.A).bind fun x60 => types_look_shape_s1.j1 k_0_2 k_0_4 k_0_6 k_0_8 k_0_9 k_0_11 k_0_13 k_0_14 k_0_15 k_0_16 k_0_17 k_0_18 k_0_20 l22 i_1 row_2 l22 x52.Args [x60.Result]) else (if i_1.Op = 31 then (types_look_shape_s1.j1 k_0_2 k_0_4 k_0_6 k_0_8 k_0_9 k_0_11 k_0_13 k_0_14 k_0_15 k_0_16 k_0_17 k_0_18 k_0_20 l22 i_1 row_2 l22 [k_0_13] t28.1.Gives) else (if i_1.Op = 8 then (if t37.length < 4611686018427387904 then (if ([0].length + [0].length) * 1 ≤ 140737488355328 then (types_look_shape_s1.j1 k_0_2 k_0_4 k_0_6 k_0_8 k_0_9 k_0_11 k_0_13 k_0_14 k_0_15 k_0_16 k_0_17 k_0_18 k_0_20 l22 i_1 row_2 l22 ([0] ++ [0]) t37.reverse) else none) else none) else (if i_1.Op = 7 then (if (t37.length : Int) > 0 then (if (0 : Int) ≤ (IntKind.i64.wrap ((t37.length : Int) - 1)) ∧ (IntKind.i64.wrap ((t37.length : Int) - 1)) ≤ (t37.length : Int) then ((slices_Repeat_uint8_uint8.f (t37.drop (IntKind.i64.wrap ((t37.length : Int) - 1) : Int).toNat) 2).bind fun t5296 => types_look_shape_s1.j2 k_0_2 k_0_4 k_0_6 k_0_8 k_0_9 k_0_11 k_0_13 k_0_14 k_0_15 k_0_16 k_0_17 k_0_18 k_0_20 l22 i_1 row_2 t28 t5296) else none) else (types_look_shape_s1.j2 k_0_2 k_0_4 k_0_6 k_0_8 k_0_9 k_0_11 k_0_13 k_0_14 k_0_15 k_0_16 k_0_17 k_0_18 k_0_20 l22 i_1 row_2 t28 t28.1.Gives)) else (types_look_shape_s1.j2 k_0_2 k_0_4 k_0_6 k_0_8 k_0_9 k_0_11 k_0_13 k_0_14 k_0_15 k_0_16 k_0_17 k_0_18 k_0_20 l22 i_1 row_2 t28 t28.1.Gives)))))
def types_look_shape_s1.j3 (k_0_2 k_0_4 : List api_Value) (k_0_6 : List api_Method) (k_0_8 : Int) (k_0_9 k_0_11 : List Int) (k_0_13 : Int) (k_0_14 : Bool) (k_0_15 k_0_16 k_0_17 : Int) (k_0_18 : List api_Instr) (k_0_20 : List Int) (l22 : List types_Row) (i_1 : api_Instr) (row_2 : List Int) (t28 : op_Shape × Bool) (t37 : List Int) (b42 : Bool) : Option (op_Shape × (List types_Row)) :=
  if b42 = true then ((types_look_named_s1.f k_0_2 k_0_4 k_0_6 k_0_8 k_0_9 k_0_11 k_0_13 k_0_14 k_0_15 k_0_16 k_0_17 k_0_18 k_0_20 l22 i_1).bind fun t43 => types_look_shape_s1.j1 k_0_2 k_0_4 k_0_6 k_0_8 k_0_9 k_0_11 k_0_13 k_0_14 k_0_15 k_0_16 k_0_17 k_0_18 k_0_20 l22 i_1 row_2 t43.2 t28.1.Takes [t43.1]) else (if i_1.Op = 3 then (types_look_shape_s1.j4 k_0_2 k_0_4 k_0_6 k_0_8 k_0_9 k_0_11 k_0_13 k_0_14 k_0_15 k_0_16 k_0_17 k_0_18 k_0_20 l22 i_1 row_2 t28 t37 (decide (i_1.Op = 3))) else (types_look_shape_s1.j4 k_0_2 k_0_4 k_0_6 k_0_8 k_0_9 k_0_11 k_0_13 k_0_14 k_0_15 k_0_16 k_0_17 k_0_18 k_0_20 l22 i_1 row_2 t28 t37 (decide (i_1.Op = 5))))
def types_look_shape_s1.f (k_0_2 k_0_4 : List api_Value) (k_0_6 : List api_Method) (k_0_8 : Int) (k_0_9 k_0_11 : List Int) (k_0_13 : Int) (k_0_14 : Bool) (k_0_15 k_0_16 k_0_17 : Int) (k_0_18 : List api_Instr) (k_0_20 : List Int) (l22 : List types_Row) (i_1 : api_Instr) (row_2 : List Int) : Option (op_Shape × (List types_Row)) :=
  (op_Of.f i_1.Op).bind fun t28 => if t28.2 = true then (some (t28.1, l22)) else (if (0 : Int) ≤ (if (IntKind.i64.wrap ((row_2.length : Int) - 2)) > 0 then IntKind.i64.wrap ((row_2.length : Int) - 2) else 0) ∧ (if (IntKind.i64.wrap ((row_2.length : Int) - 2)) > 0 then IntKind.i64.wrap ((row_2.length : Int) - 2) else 0) ≤ (row_2.length : Int) then ((slices_Clone_uint8_uint8.f (row_2.drop (if (IntKind.i64.wrap ((row_2.length : Int) - 2)) > 0 then IntKind.i64.wrap ((row_2.length : Int) - 2) else 0 : Int).toNat)).bind fun t37 => if i_1.Op = 1 then (types_look_shape_s1.j3 k_0_2 k_0_4 k_0_6 k_0_8 k_0_9 k_0_11 k_0_13 k_0_14 k_0_15 k_0_16 k_0_17 k_0_18 k_0_20 l22 i_1 row_2 t28 t37 (decide (i_1.Op = 1))) else (if i_1.Op = 2 then (types_look_shape_s1.j3 k_0_2 k_0_4 k_0_6 k_0_8 k_0_9 k_0_11 k_0_13 k_0_14 k_0_15 k_0_16 k_0_17 k_0_18 k_0_20 l22 i_1 row_2 t28 t37 (decide (i_1.Op = 2))) else (types_look_shape_s1.j3 k_0_2 k_0_4 k_0_6 k_0_8 k_0_9 k_0_11 k_0_13 k_0_14 k_0_15 k_0_16 k_0_17 k_0_18 k_0_20 l22 i_1 row_2 t28 t37 (decide (i_1.Op = 4))))) else none)
theorem types_look_shape_s1.ok (k_0_2 k_0_4 : List api_Value) (k_0_6 : List api_Method) (k_0_8 : Int) (k_0_9 k_0_11 : List Int) (k_0_13 : Int) (k_0_14 : Bool) (k_0_15 k_0_16 k_0_17 : Int) (k_0_18 : List api_Instr) (k_0_20 : List Int) (l22 : List types_Row) (i_1 : api_Instr) (row_2 : List Int) (v_k_0_2 v_k_0_4 v_k_0_6 v_k_0_9 v_k_0_11 v_k_0_18 v_k_0_20 v_row_2 : Value) (r : op_Shape × (List types_Row)) (H : types_look_shape_s1.f k_0_2 k_0_4 k_0_6 k_0_8 k_0_9 k_0_11 k_0_13 k_0_14 k_0_15 k_0_16 k_0_17 k_0_18 k_0_20 l22 i_1 row_2 = some r) (w : World) (hV : Hp) (sV : Sub hV (hp w)) (h0 : slR k_api_Value hV v_k_0_2 k_0_2) (h1 : slR k_api_Value hV v_k_0_4 k_0_4) (h2 : slR k_api_Method hV v_k_0_6 k_0_6) (h3 : slR (kInt .u8) hV v_k_0_9 k_0_9) (h4 : slR (kInt .u8) hV v_k_0_11 k_0_11) (h5 : slR k_api_Instr hV v_k_0_18 k_0_18) (h6 : slR (kInt .u8) hV v_k_0_20 k_0_20) (h7 : slR (kInt .u8) hV v_row_2 row_2) (b1 : Nat) (hA : Hp) (sA : Sub hA (hp w)) (dA : Dj hV hA) (hI : (arrK k_types_Row b1 [v_k_0_2, v_k_0_4, v_k_0_6, .int .i64 k_0_8, v_k_0_9, v_k_0_11, .int .u8 k_0_13, .bool k_0_14, .int .i64 k_0_15, .int .i64 k_0_16, .int .i64 k_0_17, v_k_0_18, v_k_0_20] 200 l22 [] 131).p hV hA) :
    Trip Tryz.prog 152 [.pointer (some ⟨b1, 0, none⟩), .agg #[.int .u8 i_1.Op, .int .i64 i_1.A, .int .i64 i_1.B], v_row_2].toArray hA hV w (fun v => HO.ex fun u0 : Value => HO.ex fun u1 : Value => HO.pand (v = .agg #[u0, u1]) (HO.seps [HO.ofP (slP (kInt .u8) u0 r.1.Takes), slO (kInt .u8) 5 u1 r.1.Gives, arrK k_types_Row b1 [v_k_0_2, v_k_0_4, v_k_0_6, .int .i64 k_0_8, v_k_0_9, v_k_0_11, .int .u8 k_0_13, .bool k_0_14, .int .i64 k_0_15, .int .i64 k_0_16, .int .i64 k_0_17, v_k_0_18, v_k_0_20] 200 r.2 [] 131])) := by
 have see : Sees w hA hV := ⟨sV, dA⟩
 refine Trip.of (P := Tryz.prog) (n := ⟨106, []⟩) Tryz.func152 rfl ⟨rfl, rfl⟩ rfl (St.beginA (os := [arrK k_types_Row b1 [v_k_0_2, v_k_0_4, v_k_0_6, .int .i64 k_0_8, v_k_0_9, v_k_0_11, .int .u8 k_0_13, .bool k_0_14, .int .i64 k_0_15, .int .i64 k_0_16, .int .i64 k_0_17, v_k_0_18, v_k_0_20] 200 l22 [] 131]) sA (aS h0 (aS h1 (aS h2 (aS h3 (aS h4 (aS h5 (aS h6 (aS h7 (All.nil _))))))))) ⟨hA, em, Dj.em_right _, Sub.refl _, Sub.em _, hI, trivial⟩) ?_
 have ho := H
 refine gg ?_
 refine SP.box rfl rfl rfl rfl fun b24 => ?_
 refine al fun b26 => ?_
 refine k2 op_Of.ok ho fun t28 ho v29 v30 => ?_
 refine al fun b33 => ?_
 refine sh 1 fun hs_v29 => ?_
 refine sh 2 fun hs_v30 => ?_
 refine st 0 ?_
 refine cb ho (fun ho => ?_) fun ho => ?_
 ·refine sh 1 fun hs_v29 => ?_
  refine sh 2 fun hs_v30 => ?_
  refine st 3 ?_
  exact Option.some.inj ho ▸ rt (fun _ h => St.selO [1, 4] rfl rfl (St.freezeS h 1 rfl see)) (rs := [.cell 6 219]) (vs := [.agg #[v29, v30]]) (hv := ⟨RVs.cellA 3 rfl rfl Tryz.underlying219 rfl sz219.h, trivial⟩) (hk := fun a b p s => ⟨_, _, rfl, ⟨em, _, Dj.em_left _, Sub.em _, Sub.refl _, p.get 0 rfl, s⟩⟩)
 refine SP.val (Val.max2 rfl rfl) rfl rfl rfl ?_
 obtain ⟨hz, ho⟩ := must_some ho
 refine SP.sliceFromP see 7 rfl Tryz.underlying26 sz5.h rfl rfl hz rfl rfl (fun v35 => ?_)
 clear hz
 refine k1 slices_Clone_uint8_uint8.ok ho fun t37 ho v38 => ?_
 refine li (h := fun _ => id) (kInt .u8) [0] fun v40 => ?_
 refine go ?_
 refine CP.join (fun a w2 => ∃ l5302 : List types_Row, ∃ l5304 : List Int, ∃ l5307 : List Int, ∃ v5305 : Value, ∃ v5308 : Value, types_look_shape_s1.j1 k_0_2 k_0_4 k_0_6 k_0_8 k_0_9 k_0_11 k_0_13 k_0_14 k_0_15 k_0_16 k_0_17 k_0_18 k_0_20 l22 i_1 row_2 l5302 l5304 l5307 = some r ∧ Env ⟨106, []⟩ [(6, .pointer (some ⟨b26, 0, none⟩)), (7, .pointer (some ⟨b33, 0, none⟩))] a ∧ St w hA hV [slP (kInt .u8) v5305 l5304, slP k_api_Value v_k_0_2 k_0_2, slP k_api_Value v_k_0_4 k_0_4, slP k_api_Method v_k_0_6 k_0_6, slP (kInt .u8) v_k_0_9 k_0_9, slP (kInt .u8) v_k_0_11 k_0_11, slP k_api_Instr v_k_0_18 k_0_18, slP (kInt .u8) v_k_0_20 k_0_20] [slO (kInt .u8) 5 v5308 l5307, arrK k_types_Row b1 [v_k_0_2, v_k_0_4, v_k_0_6, .int .i64 k_0_8, v_k_0_9, v_k_0_11, .int .u8 k_0_13, .bool k_0_14, .int .i64 k_0_15, .int .i64 k_0_16, .int .i64 k_0_17, v_k_0_18, v_k_0_20] 200 l5302 [] 131, boxO b33 [v5305, v5308] 219, boxO b26 [(.slice none 0 0), (.slice none 0 0)] 219] w2) ?_ ?_
 ·rintro a w2 ⟨l5302, l5304, l5307, v5305, v5308, ho, ha, hw⟩
  refine CP.app ha hw ?_
  clear ha hw a w2
  refine gg ?_
  refine sp 0 fun hs_v5305 => ?_
  refine sh 0 fun hs_v5308 => ?_
  refine st 3 ?_
  exact Option.some.inj ho ▸ rt (sO [0, 1]) (rs := [.cell 6 219]) (vs := [.agg #[v5305, v5308]]) (hv := ⟨RVs.cellA 3 rfl rfl Tryz.underlying219 rfl sz219.h, trivial⟩) (hk := fun a b p s => ⟨_, _, rfl, ⟨em, _, Dj.em_left _, Sub.em _, Sub.refl _, p.get 0 rfl, s⟩⟩)
 refine go ?_
 refine CP.join (fun a w2 => ∃ l5300 : List Int, ∃ v5301 : Value, types_look_shape_s1.j2 k_0_2 k_0_4 k_0_6 k_0_8 k_0_9 k_0_11 k_0_13 k_0_14 k_0_15 k_0_16 k_0_17 k_0_18 k_0_20 l22 i_1 row_2 t28 l5300 = some r ∧ Env ⟨106, []⟩ [(6, .pointer (some ⟨b26, 0, none⟩)), (7, .pointer (some ⟨b33, 0, none⟩)), (10, v40)] a ∧ St w hA hV [slP k_api_Value v_k_0_2 k_0_2, slP k_api_Value v_k_0_4 k_0_4, slP k_api_Method v_k_0_6 k_0_6, slP (kInt .u8) v_k_0_9 k_0_9, slP (kInt .u8) v_k_0_11 k_0_11, slP k_api_Instr v_k_0_18 k_0_18, slP (kInt .u8) v_k_0_20 k_0_20] [slO (kInt .u8) 5 v5301 l5300, slO (kInt .u8) 5 v40 [0], boxO b33 [v29, v5301] 219, slO (kInt .u8) 5 v29 t28.1.Takes, boxO b26 [(.slice none 0 0), (.slice none 0 0)] 219, arrK k_types_Row b1 [v_k_0_2, v_k_0_4, v_k_0_6, .int .i64 k_0_8, v_k_0_9, v_k_0_11, .int .u8 k_0_13, .bool k_0_14, .int .i64 k_0_15, .int .i64 k_0_16, .int .i64 k_0_17, v_k_0_18, v_k_0_20] 200 l22 [] 131] w2) ?_ ?_
 ·rintro a w2 ⟨l5300, v5301, ho, ha, hw⟩
  refine CP.app ha hw ?_
  clear ha hw a w2
  refine gg ?_
  refine sh 1 fun hs_v40 => ?_
  refine st 2 ?_
  exact QE.meet fun a w2 ha hw => ⟨l22, [0], l5300, v40, v5301, ho, ha.sub sb, (St.selO [0, 4, 1, 3] rfl rfl (St.freezeS hw 1 rfl see))⟩
 refine go ?_
 refine CP.seq ?_
 refine go ?_
 refine CP.seq ?_
 refine go ?_
 refine CP.seq ?_
 refine go ?_
 refine CP.seq ?_
 refine go ?_
 refine CP.seq ?_
 refine go ?_
 refine CP.seq ?_
 refine go ?_
 refine CP.seq ?_
 refine CP.seq ?_
 refine CP.join (fun a w2 => ∃ b42 : Bool, types_look_shape_s1.j3 k_0_2 k_0_4 k_0_6 k_0_8 k_0_9 k_0_11 k_0_13 k_0_14 k_0_15 k_0_16 k_0_17 k_0_18 k_0_20 l22 i_1 row_2 t28 t37 b42 = some r ∧ Env ⟨106, []⟩ [(0, .pointer (some ⟨b1, 0, none⟩)), (4, .pointer (some ⟨b24, 0, none⟩)), (6, .pointer (some ⟨b26, 0, none⟩)), (7, .pointer (some ⟨b33, 0, none⟩)), (9, v38), (10, v40), (28, .int .u8 i_1.Op), (29, .bool b42)] a ∧ St w hA hV [slP k_api_Value v_k_0_2 k_0_2, slP k_api_Value v_k_0_4 k_0_4, slP k_api_Method v_k_0_6 k_0_6, slP (kInt .u8) v_k_0_9 k_0_9, slP (kInt .u8) v_k_0_11 k_0_11, slP k_api_Instr v_k_0_18 k_0_18, slP (kInt .u8) v_k_0_20 k_0_20] [slO (kInt .u8) 5 v40 [0], slO (kInt .u8) 5 v38 t37, boxO b33 [v29, v30] 219, slO (kInt .u8) 5 v29 t28.1.Takes, slO (kInt .u8) 5 v30 t28.1.Gives, boxO b26 [(.slice none 0 0), (.slice none 0 0)] 219, boxO b24 [.int .u8 i_1.Op, .int .i64 i_1.A, .int .i64 i_1.B] 57, arrK k_types_Row b1 [v_k_0_2, v_k_0_4, v_k_0_6, .int .i64 k_0_8, v_k_0_9, v_k_0_11, .int .u8 k_0_13, .bool k_0_14, .int .i64 k_0_15, .int .i64 k_0_16, .int .i64 k_0_17, v_k_0_18, v_k_0_20] 200 l22 [] 131] w2) ?_ ?_
 ·rintro a w2 ⟨b42, ho, ha, hw⟩
  refine CP.app ha hw ?_
  clear ha hw a w2
  refine cb (hf := id) ho (fun ho => ?_) fun ho => ?_
  ·refine SP.imp (fun w2 hw => St.selO [7, 0, 1, 2, 3, 4, 5, 6] rfl rfl hw) ?_
   obtain ⟨t43, hc, ho⟩ := bind_some ho
   refine SP.callA see (caps := []) _ fn170.h rfl rfl rfl rfl (fun w2 hP h1 sub s1 d1 ap hI => types_look_named_s1.ok _ _ _ _ _ _ _ _ _ _ _ _ _ _ _ _ _ _ _ _ _ _ _ hc w2 hP sub (ap.get 0 rfl) (ap.get 1 rfl) (ap.get 2 rfl) (ap.get 3 rfl) (ap.get 4 rfl) (ap.get 5 rfl) (ap.get 6 rfl) _ h1 s1 d1 hI) (SP.k0 ?_)
   clear hc
   refine li (kInt .u8) [t43.1] fun v44 => ?_
   refine sh 0 fun hs_v44 => ?_
   refine st 4 ?_
   exact QE.meet fun a w2 ha hw => ⟨t43.2, t28.1.Takes, [t43.1], v29, v44, ho, ha.sub sb, (St.selO [0, 1, 4, 6] rfl rfl (St.freezeS hw 5 rfl see))⟩
  refine go ?_
  refine CP.seq ?_
  refine CP.join (fun a w2 => ∃ b46 : Bool, types_look_shape_s1.j4 k_0_2 k_0_4 k_0_6 k_0_8 k_0_9 k_0_11 k_0_13 k_0_14 k_0_15 k_0_16 k_0_17 k_0_18 k_0_20 l22 i_1 row_2 t28 t37 b46 = some r ∧ Env ⟨106, []⟩ [(0, .pointer (some ⟨b1, 0, none⟩)), (4, .pointer (some ⟨b24, 0, none⟩)), (6, .pointer (some ⟨b26, 0, none⟩)), (7, .pointer (some ⟨b33, 0, none⟩)), (9, v38), (10, v40), (28, .int .u8 i_1.Op), (33, .bool b46)] a ∧ St w hA hV [slP k_api_Value v_k_0_2 k_0_2, slP k_api_Value v_k_0_4 k_0_4, slP k_api_Method v_k_0_6 k_0_6, slP (kInt .u8) v_k_0_9 k_0_9, slP (kInt .u8) v_k_0_11 k_0_11, slP k_api_Instr v_k_0_18 k_0_18, slP (kInt .u8) v_k_0_20 k_0_20] [slO (kInt .u8) 5 v40 [0], slO (kInt .u8) 5 v38 t37, boxO b33 [v29, v30] 219, slO (kInt .u8) 5 v29 t28.1.Takes, slO (kInt .u8) 5 v30 t28.1.Gives, boxO b26 [(.slice none 0 0), (.slice none 0 0)] 219, boxO b24 [.int .u8 i_1.Op, .int .i64 i_1.A, .int .i64 i_1.B] 57, arrK k_types_Row b1 [v_k_0_2, v_k_0_4, v_k_0_6, .int .i64 k_0_8, v_k_0_9, v_k_0_11, .int .u8 k_0_13, .bool k_0_14, .int .i64 k_0_15, .int .i64 k_0_16, .int .i64 k_0_17, v_k_0_18, v_k_0_20] 200 l22 [] 131] w2) ?_ ?_
  ·rintro a w2 ⟨b46, ho, ha, hw⟩
   refine CP.app ha hw ?_
   clear ha hw a w2
   refine cb ho (fun ho => ?_) fun ho => ?_
   ·refine SP.imp (fun w2 hw => St.selO [7, 0, 1, 2, 3, 4, 5, 6] rfl rfl hw) ?_
    obtain ⟨t47, hc, ho⟩ := bind_some ho
    refine SP.callA see (caps := []) _ fn170.h rfl rfl rfl rfl (fun w2 hP h1 sub s1 d1 ap hI => types_look_named_s1.ok _ _ _ _ _ _ _ _ _ _ _ _ _ _ _ _ _ _ _ _ _ _ _ hc w2 hP sub (ap.get 0 rfl) (ap.get 1 rfl) (ap.get 2 rfl) (ap.get 3 rfl) (ap.get 4 rfl) (ap.get 5 rfl) (ap.get 6 rfl) _ h1 s1 d1 hI) (SP.k0 ?_)
    clear hc
    refine li (kInt .u8) [t47.1] fun v48 => ?_
    refine sh 0 fun hs_v48 => ?_
    refine st 4 ?_
    exact QE.meet fun a w2 ha hw => ⟨t47.2, [t47.1], t28.1.Gives, v48, v30, ho, ha.sub sb, (St.selO [5, 0, 3, 6] rfl rfl (St.freezeS hw 0 rfl see))⟩
   refine ci ho (fun ho => ?_) fun ho => ?_
   ·refine CP.drawA (by kernel_rfl) (fun w2 k h => h.drawn k) ?_
    obtain ⟨x52, hx, ho⟩ := elt_bind ho
    refine DA.ghost (fun w2 h => h.elem see 2 rfl hx.1 hx.2) (fun p50 h_p50 => ?_)
    clear hx
    refine DA.ghost (fun w2 h => h.fieldE see 0 rfl k_api_Method.part_Args) (fun p53 h_p53 => ?_)
    refine DA.ghost (fun w2 h => h.openE see 0 rfl (fun (v55 : Value) => [v55]) (fun (v55 : Value) => [slP (kInt .u8) v55 x52.Args]) (fun h cs ⟨v55, e, p0⟩ => ⟨v55, e, All.cons p0 (All.nil _)⟩)) (fun z_ _ => ?_)
    rename Value => v55
    obtain ⟨x60, hx, ho⟩ := elt_bind ho
    refine DA.ghost (fun w2 h => h.elem see 6 rfl hx.1 hx.2) (fun p58 h_p58 => ?_)
    clear hx
    refine DA.ghost (fun w2 h => h.fieldE see 0 rfl k_api_Method.part_Result) (fun p61 h_p61 => ?_)
    refine DA.ghost (fun w2 h => h.openE see 0 rfl (fun _ : Unit => [.int .u8 x60.Result]) (fun _ => []) (fun h cs e => ⟨(), e, All.nil _⟩)) (fun _ _ => ?_)
    refine (DA.phase (fun i => Nat.ble 0 i && Nat.blt i 23) (fun w2 => St w hA hV [atP p61 [.int .u8 x60.Result], elP (kInt .u8) p61 x60.Result, elP k_api_Method p58 x60, atP p53 [v55], slP (kInt .u8) v55 x52.Args, elP (kSl (kInt .u8)) p53 x52.Args, elP k_api_Method p50 x52, slP k_api_Value v_k_0_2 k_0_2, slP k_api_Value v_k_0_4 k_0_4, slP k_api_Method v_k_0_6 k_0_6, slP (kInt .u8) v_k_0_9 k_0_9, slP (kInt .u8) v_k_0_11 k_0_11, slP k_api_Instr v_k_0_18 k_0_18, slP (kInt .u8) v_k_0_20 k_0_20] [slO (kInt .u8) 5 v40 [0], slO (kInt .u8) 5 v38 t37, slO (kInt .u8) 5 v29 t28.1.Takes, slO (kInt .u8) 5 v30 t28.1.Gives, boxO b26 [(.slice none 0 0), (.slice none 0 0)] 219, boxO b24 [.int .u8 i_1.Op, .int .i64 i_1.A, .int .i64 i_1.B] 57, arrK k_types_Row b1 [v_k_0_2, v_k_0_4, v_k_0_6, .int .i64 k_0_8, v_k_0_9, v_k_0_11, .int .u8 k_0_13, .bool k_0_14, .int .i64 k_0_15, .int .i64 k_0_16, .int .i64 k_0_17, v_k_0_18, v_k_0_20] 200 l22 [] 131] w2) ?_)
    refine DT.ts 0 rfl (Val.move rfl) (fun w2 hw => (St.selO [0, 1, 3, 4, 5, 6, 7] rfl rfl hw)) ?_
    refine DT.ts 1 rfl (Val.nilCheck rfl) (fun w2 hw => (St.selO [0, 1, 3, 4, 5, 6, 7] rfl rfl hw)) ?_
    refine DT.ts 2 rfl (Val.fieldAddr Tryz.underlying131 rfl sz25.h rfl) (fun w2 hw => (St.selO [0, 1, 3, 4, 5, 6, 7] rfl rfl hw)) ?_
    refine DT.ts 3 rfl (Val.fieldAddr Tryz.underlying25 rfl sz23.h rfl) (fun w2 hw => (St.selO [0, 1, 3, 4, 5, 6, 7] rfl rfl hw)) ?_
    refine DT.ts 4 rfl (Val.loadKPre1 see 6 rfl Tryz.underlying23 rfl rfl rfl) (fun w2 hw => (St.selO [0, 1, 3, 4, 5, 6, 7] rfl rfl hw)) ?_
    refine DT.ts 5 rfl (Val.fieldAddr Tryz.underlying57 rfl sz3.h rfl) (fun w2 hw => (St.selO [0, 1, 3, 4, 5, 6, 7] rfl rfl hw)) ?_
    refine DT.ts 6 rfl (Val.load1 5 rfl Tryz.underlying3 rfl rfl rfl) (fun w2 hw => (St.selO [0, 1, 3, 4, 5, 6, 7] rfl rfl hw)) ?_
    refine DT.ts 7 rfl (Val.indexE h_p50 Tryz.underlying23 sz43.h rfl rfl) (fun w2 hw => (St.selO [0, 1, 3, 4, 5, 6, 7] rfl rfl hw)) ?_
    refine DT.ts 8 rfl (Val.fieldE h_p53 Tryz.underlying43 rfl rfl sz26.h rfl) (fun w2 hw => (St.selO [0, 1, 3, 4, 5, 6, 7] rfl rfl hw)) ?_
    refine DT.ts 9 rfl (Val.loadAt1 see 3 rfl Tryz.underlying26 rfl rfl) (fun w2 hw => (St.selO [0, 1, 3, 4, 5, 6, 7] rfl rfl hw)) ?_
    refine DT.ts 10 rfl (Val.move rfl) (fun w2 hw => (St.selO [0, 1, 3, 4, 5, 6, 7] rfl rfl hw)) ?_
    refine DT.ts 11 rfl (Val.nilCheck rfl) (fun w2 hw => (St.selO [0, 1, 3, 4, 5, 6, 7] rfl rfl hw)) ?_
    refine DT.ts 12 rfl (Val.fieldAddr Tryz.underlying131 rfl sz25.h rfl) (fun w2 hw => (St.selO [0, 1, 3, 4, 5, 6, 7] rfl rfl hw)) ?_
    refine DT.ts 13 rfl (Val.fieldAddr Tryz.underlying25 rfl sz23.h rfl) (fun w2 hw => (St.selO [0, 1, 3, 4, 5, 6, 7] rfl rfl hw)) ?_
    refine DT.ts 14 rfl (Val.loadKPre1 see 6 rfl Tryz.underlying23 rfl rfl rfl) (fun w2 hw => (St.selO [0, 1, 3, 4, 5, 6, 7] rfl rfl hw)) ?_
    refine DT.ts 15 rfl (Val.fieldAddr Tryz.underlying57 rfl sz3.h rfl) (fun w2 hw => (St.selO [0, 1, 3, 4, 5, 6, 7] rfl rfl hw)) ?_
    refine DT.ts 16 rfl (Val.load1 5 rfl Tryz.underlying3 rfl rfl rfl) (fun w2 hw => (St.selO [0, 1, 3, 4, 5, 6, 7] rfl rfl hw)) ?_
    refine DT.ts 17 rfl (Val.indexE h_p58 Tryz.underlying23 sz43.h rfl rfl) (fun w2 hw => (St.selO [0, 1, 3, 4, 5, 6, 7] rfl rfl hw)) ?_
    refine DT.ts 18 rfl (Val.fieldE h_p61 Tryz.underlying43 rfl rfl sz5.h rfl) (fun w2 hw => (St.selO [0, 1, 3, 4, 5, 6, 7] rfl rfl hw)) ?_
    refine DT.ts 19 rfl (Val.loadAt1 see 0 rfl Tryz.underlying5 rfl rfl) (fun w2 hw => (St.selO [0, 1, 3, 4, 5, 6, 7] rfl rfl hw)) ?_
    refine DT.ts 21 rfl (Val.fieldAddr Tryz.underlying219 rfl sz26.h rfl) (fun w2 hw => (St.selO [0, 1, 3, 4, 5, 6, 7] rfl rfl hw)) ?_
    refine DT.list (l2 := #[true, true, true, true, true, true, true, true, true, true, true, true, true, true, true, true, true, true, true, true, false, true, false, false, false]) (by kernel_rfl) ?_
    refine DT.cut (ι := Value) (fun z => [(6, .pointer (some ⟨b26, 0, none⟩)), (7, .pointer (some ⟨b33, 0, none⟩)), (74, z)]) (fun z w2 => St w hA hV [atP p61 [.int .u8 x60.Result], elP (kInt .u8) p61 x60.Result, elP k_api_Method p58 x60, atP p53 [v55], slP (kInt .u8) v55 x52.Args, elP (kSl (kInt .u8)) p53 x52.Args, elP k_api_Method p50 x52, slP k_api_Value v_k_0_2 k_0_2, slP k_api_Value v_k_0_4 k_0_4, slP k_api_Method v_k_0_6 k_0_6, slP (kInt .u8) v_k_0_9 k_0_9, slP (kInt .u8) v_k_0_11 k_0_11, slP k_api_Instr v_k_0_18 k_0_18, slP (kInt .u8) v_k_0_20 k_0_20] [slO (kInt .u8) 5 z [x60.Result], slO (kInt .u8) 5 v40 [0], slO (kInt .u8) 5 v38 t37, boxO b33 [v55, v30] 219, slO (kInt .u8) 5 v29 t28.1.Takes, slO (kInt .u8) 5 v30 t28.1.Gives, boxO b26 [(.slice none 0 0), (.slice none 0 0)] 219, boxO b24 [.int .u8 i_1.Op, .int .i64 i_1.A, .int .i64 i_1.B] 57, arrK k_types_Row b1 [v_k_0_2, v_k_0_4, v_k_0_6, .int .i64 k_0_8, v_k_0_9, v_k_0_11, .int .u8 k_0_13, .bool k_0_14, .int .i64 k_0_15, .int .i64 k_0_16, .int .i64 k_0_17, v_k_0_18, v_k_0_20] 200 l22 [] 131] w2) 2 #[true, true, true, true, true, true, true, true, true, true, true, true, true, true, true, true, true, true, true, true, true, true, true, false, false] (fun z => ?_) (fun J5282 => ?_)
    ·rename Value => v4270
     refine DT.next (by kernel_rfl) ?_
     refine DA.one 23 rfl (by kernel_rfl) (gg ?_)
     refine QE.atA ?_
     refine DA.one 24 rfl (by kernel_rfl) ?_
     refine sh 0 fun hs_v4270 => ?_
     refine st 3 ?_
     refine QE.atA ?_
     refine DA.done (by kernel_rfl) (gg ?_)
     exact QE.meet fun a w2 ha hw => ⟨l22, x52.Args, [x60.Result], v55, v4270, ho, ha.sub sb, (St.selP [4, 7, 8, 9, 10, 11, 12, 13] rfl (St.selO [0, 8, 3, 6] rfl rfl hw))⟩
    refine DT.cut (ι := Value) (fun z => [(6, .pointer (some ⟨b26, 0, none⟩)), (7, .pointer (some ⟨b33, 0, none⟩)), (63, v55), (74, z), (75, .pointer (some ⟨b33, 0, none⟩))]) (fun z w2 => St w hA hV [atP p61 [.int .u8 x60.Result], elP (kInt .u8) p61 x60.Result, elP k_api_Method p58 x60, atP p53 [v55], slP (kInt .u8) v55 x52.Args, elP (kSl (kInt .u8)) p53 x52.Args, elP k_api_Method p50 x52, slP k_api_Value v_k_0_2 k_0_2, slP k_api_Value v_k_0_4 k_0_4, slP k_api_Method v_k_0_6 k_0_6, slP (kInt .u8) v_k_0_9 k_0_9, slP (kInt .u8) v_k_0_11 k_0_11, slP k_api_Instr v_k_0_18 k_0_18, slP (kInt .u8) v_k_0_20 k_0_20] [slO (kInt .u8) 5 z [x60.Result], slO (kInt .u8) 5 v40 [0], slO (kInt .u8) 5 v38 t37, boxO b33 [v29, v30] 219, slO (kInt .u8) 5 v29 t28.1.Takes, slO (kInt .u8) 5 v30 t28.1.Gives, boxO b26 [(.slice none 0 0), (.slice none 0 0)] 219, boxO b24 [.int .u8 i_1.Op, .int .i64 i_1.A, .int .i64 i_1.B] 57, arrK k_types_Row b1 [v_k_0_2, v_k_0_4, v_k_0_6, .int .i64 k_0_8, v_k_0_9, v_k_0_11, .int .u8 k_0_13, .bool k_0_14, .int .i64 k_0_15, .int .i64 k_0_16, .int .i64 k_0_17, v_k_0_18, v_k_0_20] 200 l22 [] 131] w2) 3 #[true, true, true, true, true, true, true, true, true, true, true, true, true, true, true, true, true, true, true, true, true, true, false, false, false] (fun z => ?_) (fun J5283 => ?_)
    ·rename Value => v4270
     refine DT.one 22 rfl (by kernel_rfl) rfl ?_
     refine sp 4 fun hs_v55 => ?_
     refine st 3 ?_
     refine QE.atT (fun w2 hw => (St.selO [1, 2, 4, 5, 6, 7, 8] rfl rfl hw)) ?_
     refine DT.list (l2 := #[true, true, true, true, true, true, true, true, true, true, true, true, true, true, true, true, true, true, true, true, true, true, true, false, false]) (by kernel_rfl) ?_
     exact DT.weak (by exact ⟨rfl, rfl, rfl, trivial⟩) (by exact fun w2 hw => hw) (J5282 v4270)
    refine DT.cut (ι := Unit) (fun z => [(6, .pointer (some ⟨b26, 0, none⟩)), (7, .pointer (some ⟨b33, 0, none⟩)), (73, .int .u8 x60.Result)]) (fun z w2 => St w hA hV [atP p61 [.int .u8 x60.Result], elP (kInt .u8) p61 x60.Result, elP k_api_Method p58 x60, atP p53 [v55], slP (kInt .u8) v55 x52.Args, elP (kSl (kInt .u8)) p53 x52.Args, elP k_api_Method p50 x52, slP k_api_Value v_k_0_2 k_0_2, slP k_api_Value v_k_0_4 k_0_4, slP k_api_Method v_k_0_6 k_0_6, slP (kInt .u8) v_k_0_9 k_0_9, slP (kInt .u8) v_k_0_11 k_0_11, slP k_api_Instr v_k_0_18 k_0_18, slP (kInt .u8) v_k_0_20 k_0_20] [slO (kInt .u8) 5 v40 [0], slO (kInt .u8) 5 v38 t37, boxO b33 [v55, v30] 219, slO (kInt .u8) 5 v29 t28.1.Takes, slO (kInt .u8) 5 v30 t28.1.Gives, boxO b26 [(.slice none 0 0), (.slice none 0 0)] 219, boxO b24 [.int .u8 i_1.Op, .int .i64 i_1.A, .int .i64 i_1.B] 57, arrK k_types_Row b1 [v_k_0_2, v_k_0_4, v_k_0_6, .int .i64 k_0_8, v_k_0_9, v_k_0_11, .int .u8 k_0_13, .bool k_0_14, .int .i64 k_0_15, .int .i64 k_0_16, .int .i64 k_0_17, v_k_0_18, v_k_0_20] 200 l22 [] 131] w2) 3 #[true, true, true, true, true, true, true, true, true, true, true, true, true, true, true, true, true, true, true, true, false, true, true, false, false] (fun z => ?_) (fun J5284 => ?_)
    ·refine DT.one 20 rfl (by kernel_rfl) rfl ?_
     refine li (kInt .u8) [x60.Result] fun v4270 => ?_
     refine QE.atT (fun w2 hw => (St.selO [1, 2, 4, 5, 6, 7, 8] rfl rfl hw)) ?_
     refine DT.list (l2 := #[true, true, true, true, true, true, true, true, true, true, true, true, true, true, true, true, true, true, true, true, true, true, true, false, false]) (by kernel_rfl) ?_
     exact DT.weak (by exact ⟨rfl, rfl, rfl, trivial⟩) (by exact fun w2 hw => hw) (J5282 v4270)
    refine DT.any 20 [22] (by kernel_rfl) ⟨⟨_, rfl, rfl, ?_⟩, ⟨_, rfl, rfl, ?_⟩, trivial⟩
    ·refine li (kInt .u8) [x60.Result] fun v4270 => ?_
     refine QE.atT (fun w2 hw => (St.selO [1, 2, 4, 5, 6, 7, 8] rfl rfl hw)) ?_
     refine DT.list (l2 := #[true, true, true, true, true, true, true, true, true, true, true, true, true, true, true, true, true, true, true, true, true, true, false, false, false]) (by kernel_rfl) ?_
     exact DT.weak (by exact ⟨rfl, rfl, rfl, rfl, rfl, trivial⟩) (by exact fun w2 hw => hw) (J5283 v4270)
    refine sp 4 fun hs_v55 => ?_
    refine st 2 ?_
    refine QE.atT (fun w2 hw => (St.selO [0, 1, 3, 4, 5, 6, 7] rfl rfl hw)) ?_
    refine DT.list (l2 := #[true, true, true, true, true, true, true, true, true, true, true, true, true, true, true, true, true, true, true, true, false, true, true, false, false]) (by kernel_rfl) ?_
    exact DT.weak (by exact ⟨rfl, rfl, rfl, trivial⟩) (by exact fun w2 hw => hw) (J5284 ())
   refine ci ho (fun ho => ?_) fun ho => ?_
   ·refine SP.val (Val.loadKPre1 see 7 rfl Tryz.underlying5 rfl rfl rfl) rfl rfl rfl ?_
    refine li (kInt .u8) [k_0_13] fun v5287 => ?_
    refine sh 0 fun hs_v5287 => ?_
    refine st 3 ?_
    exact QE.meet fun a w2 ha hw => ⟨l22, [k_0_13], t28.1.Gives, v5287, v30, ho, ha.sub sb, (St.selO [4, 7, 2, 5] rfl rfl (St.freezeS hw 0 rfl see))⟩
   refine ci ho (fun ho => ?_) fun ho => ?_
   ·refine sh 1 fun hs_v38 => ?_
    refine st 2 ?_
    refine SP.imp (fun w2 hw => St.selO [1, 0, 2, 3, 4, 5, 6, 7] rfl rfl hw) ?_
    obtain ⟨hb, ho⟩ := must_some ho
    refine SP.callA see (caps := []) (fun r => HO.pand (r = .tuple #[]) (HO.seps [slO (kInt .u8) 5 v38 t37.reverse])) fn171.h rfl rfl rfl rfl (fun w2 hP h1 sub s1 d1 ap hI => reverse171_trip hb sub s1 d1 hI) (SP.k0 ?_)
    clear hb
    refine gg ?_
    refine li (kInt .u8) [0] fun v5290 => ?_
    refine SP.freezeS see 0 rfl ?_
    refine ap 1 0 ho fun v5292 ho => ?_
    refine sh 1 fun hs_v5292 => ?_
    refine st 2 ?_
    exact QE.meet fun a w2 ha hw => ⟨l22, ([0] ++ [0]), t37.reverse, v5292, v38, ho, ha.sub sb, (St.selP [0, 2, 3, 4, 5, 6, 7, 8] rfl (St.selO [0, 6, 1, 4] rfl rfl (St.freezeS hw 1 rfl see)))⟩
   refine ci ho (fun ho => ?_) fun ho => ?_
   ·refine ci ho (fun ho => ?_) fun ho => ?_
    ·refine SP.freezeS see 1 rfl ?_
     obtain ⟨hz, ho⟩ := must_some ho
     refine SP.sliceFromP see 0 rfl Tryz.underlying26 sz5.h rfl rfl hz rfl rfl (fun v5294 => ?_)
     clear hz
     refine k1 slices_Repeat_uint8_uint8.ok ho fun t5296 ho v5297 => ?_
     refine sh 0 fun hs_v5297 => ?_
     refine st 2 ?_
     exact QE.meet fun a w2 ha hw => ⟨t5296, v5297, ho, ha.sub sb, (St.selP [2, 3, 4, 5, 6, 7, 8] rfl (St.selO [0, 1, 2, 3, 5, 7] rfl rfl hw))⟩
    exact QE.meet fun a w2 ha hw => ⟨t28.1.Gives, v30, ho, ha.sub sb, (St.selO [4, 0, 2, 3, 5, 7] rfl rfl hw)⟩
   exact QE.meet fun a w2 ha hw => ⟨t28.1.Gives, v30, ho, ha.sub sb, (St.selO [4, 0, 2, 3, 5, 7] rfl rfl hw)⟩
  refine gg ?_
  refine ci ho (fun ho => ?_) fun ho => ?_
  ·exact QE.meet fun a w2 ha hw => ⟨(decide (i_1.Op = 3)), ho, ha.sub sb, hw⟩
  exact QE.meet fun a w2 ha hw => ⟨(decide (i_1.Op = 5)), ho, ha.sub sb, hw⟩
 refine gg ?_
 refine ci ho (fun ho => ?_) fun ho => ?_
 ·exact QE.meet fun a w2 ha hw => ⟨(decide (i_1.Op = 1)), ho, ha.sub sb, (St.selP [1, 2, 3, 4, 5, 6, 7] rfl hw)⟩
 refine ci ho (fun ho => ?_) fun ho => ?_
 ·exact QE.meet fun a w2 ha hw => ⟨(decide (i_1.Op = 2)), ho, ha.sub sb, (St.selP [1, 2, 3, 4, 5, 6, 7] rfl hw)⟩
 exact QE.meet fun a w2 ha hw => ⟨(decide (i_1.Op = 4)), ho, ha.sub sb, (St.selP [1, 2, 3, 4, 5, 6, 7] rfl hw)⟩
inductive types_look_after_s1.S where
  | start
  | l1 (t26 : op_Shape × (List types_Row)) (x60 : Int)
def types_look_after_s1.F (k_0_2 k_0_4 : List api_Value) (k_0_6 : List api_Method) (k_0_8 : Int) (k_0_9 k_0_11 : List Int) (k_0_13 : Int) (k_0_14 : Bool) (k_0_15 k_0_16 k_0_17 : Int) (k_0_18 : List api_Instr) (k_0_20 : List Int) (l22 : List types_Row) (i_1 : api_Instr) (row_2 : List Int) : types_look_after_s1.S → Option (types_look_after_s1.S ⊕ (((List Int) × Int) × (List types_Row)))
  | .start => (types_look_shape_s1.f k_0_2 k_0_4 k_0_6 k_0_8 k_0_9 k_0_11 k_0_13 k_0_14 k_0_15 k_0_16 k_0_17 k_0_18 k_0_20 l22 i_1 row_2).bind fun t26 => if (IntKind.i64.wrap ((row_2.length : Int) - (t26.1.Takes.length : Int))) < 0 then (some (.inr (([], 101), t26.2))) else (some (.inl (.l1 t26 0)))
  | .l1 t26 x60 => if x60 < (t26.1.Takes.length : Int) then ((elt t26.1.Takes x60).bind fun x64 => (if x64 ≠ 0 then ((elt row_2 (IntKind.i64.wrap ((IntKind.i64.wrap ((row_2.length : Int) - (t26.1.Takes.length : Int))) + x60))).bind fun x69 => some (decide (x64 ≠ x69))) else (some false)).bind fun t70 => if t70 = true then (some (.inr (([], 100), t26.2))) else (some (.inl (.l1 t26 (IntKind.i64.wrap (x60 + 1)))))) else (if (0 : Int) ≤ (IntKind.i64.wrap ((row_2.length : Int) - (t26.1.Takes.length : Int))) ∧ (IntKind.i64.wrap ((row_2.length : Int) - (t26.1.Takes.length : Int))) ≤ (row_2.length : Int) then ((slices_Concat_uint8_uint8.f [(row_2.take (IntKind.i64.wrap ((row_2.length : Int) - (t26.1.Takes.length : Int)) : Int).toNat), t26.1.Gives]).bind fun t84 => some (.inr ((t84, 0), t26.2))) else none)
def types_look_after_s1.f (k_0_2 k_0_4 : List api_Value) (k_0_6 : List api_Method) (k_0_8 : Int) (k_0_9 k_0_11 : List Int) (k_0_13 : Int) (k_0_14 : Bool) (k_0_15 k_0_16 k_0_17 : Int) (k_0_18 : List api_Instr) (k_0_20 : List Int) (l22 : List types_Row) (i_1 : api_Instr) (row_2 : List Int) : Option (((List Int) × Int) × (List types_Row)) := runF (types_look_after_s1.F k_0_2 k_0_4 k_0_6 k_0_8 k_0_9 k_0_11 k_0_13 k_0_14 k_0_15 k_0_16 k_0_17 k_0_18 k_0_20 l22 i_1 row_2) .start
theorem types_look_after_s1.ok (k_0_2 k_0_4 : List api_Value) (k_0_6 : List api_Method) (k_0_8 : Int) (k_0_9 k_0_11 : List Int) (k_0_13 : Int) (k_0_14 : Bool) (k_0_15 k_0_16 k_0_17 : Int) (k_0_18 : List api_Instr) (k_0_20 : List Int) (l22 : List types_Row) (i_1 : api_Instr) (row_2 : List Int) (v_k_0_2 v_k_0_4 v_k_0_6 v_k_0_9 v_k_0_11 v_k_0_18 v_k_0_20 v_row_2 : Value) (r : ((List Int) × Int) × (List types_Row)) (H : types_look_after_s1.f k_0_2 k_0_4 k_0_6 k_0_8 k_0_9 k_0_11 k_0_13 k_0_14 k_0_15 k_0_16 k_0_17 k_0_18 k_0_20 l22 i_1 row_2 = some r) (w : World) (hV : Hp) (sV : Sub hV (hp w)) (h0 : slR k_api_Value hV v_k_0_2 k_0_2) (h1 : slR k_api_Value hV v_k_0_4 k_0_4) (h2 : slR k_api_Method hV v_k_0_6 k_0_6) (h3 : slR (kInt .u8) hV v_k_0_9 k_0_9) (h4 : slR (kInt .u8) hV v_k_0_11 k_0_11) (h5 : slR k_api_Instr hV v_k_0_18 k_0_18) (h6 : slR (kInt .u8) hV v_k_0_20 k_0_20) (h7 : slR (kInt .u8) hV v_row_2 row_2) (b1 : Nat) (hA : Hp) (sA : Sub hA (hp w)) (dA : Dj hV hA) (hI : (arrK k_types_Row b1 [v_k_0_2, v_k_0_4, v_k_0_6, .int .i64 k_0_8, v_k_0_9, v_k_0_11, .int .u8 k_0_13, .bool k_0_14, .int .i64 k_0_15, .int .i64 k_0_16, .int .i64 k_0_17, v_k_0_18, v_k_0_20] 200 l22 [] 131).p hV hA) :
    Trip Tryz.prog 120 [.pointer (some ⟨b1, 0, none⟩), .agg #[.int .u8 i_1.Op, .int .i64 i_1.A, .int .i64 i_1.B], v_row_2].toArray hA hV w (fun v => HO.ex fun u0 : Value => HO.pand (v = .tuple #[u0, .int .i64 r.1.2]) (HO.seps [slO (kInt .u8) 5 u0 r.1.1, arrK k_types_Row b1 [v_k_0_2, v_k_0_4, v_k_0_6, .int .i64 k_0_8, v_k_0_9, v_k_0_11, .int .u8 k_0_13, .bool k_0_14, .int .i64 k_0_15, .int .i64 k_0_16, .int .i64 k_0_17, v_k_0_18, v_k_0_20] 200 r.2 [] 131])) := by
 have see : Sees w hA hV := ⟨sV, dA⟩
 refine Trip.of (P := Tryz.prog) (n := ⟨52, []⟩) Tryz.func120 rfl ⟨rfl, rfl⟩ rfl (St.beginA (os := [arrK k_types_Row b1 [v_k_0_2, v_k_0_4, v_k_0_6, .int .i64 k_0_8, v_k_0_9, v_k_0_11, .int .u8 k_0_13, .bool k_0_14, .int .i64 k_0_15, .int .i64 k_0_16, .int .i64 k_0_17, v_k_0_18, v_k_0_20] 200 l22 [] 131]) sA (aS h0 (aS h1 (aS h2 (aS h3 (aS h4 (aS h5 (aS h6 (aS h7 (All.nil _))))))))) ⟨hA, em, Dj.em_right _, Sub.refl _, Sub.em _, hI, trivial⟩) ?_
 obtain ⟨m0, o, ho, hr⟩ := rn H
 refine gg ?_
 refine SP.box rfl rfl rfl rfl fun b24 => gg ?_
 refine SP.imp (fun w2 hw => St.selO [1, 0] rfl rfl hw) ?_
 obtain ⟨t26, hc, ho⟩ := bind_some ho
 refine SP.callA see (caps := []) _ fn152.h rfl rfl rfl rfl (fun w2 hP h1 sub s1 d1 ap hI => types_look_shape_s1.ok _ _ _ _ _ _ _ _ _ _ _ _ _ _ _ _ _ _ _ _ _ _ _ _ _ hc w2 hP sub (ap.get 0 rfl) (ap.get 1 rfl) (ap.get 2 rfl) (ap.get 3 rfl) (ap.get 4 rfl) (ap.get 5 rfl) (ap.get 6 rfl) (ap.get 7 rfl) _ h1 s1 d1 hI) (SP.k2 fun v27 v28 => ?_)
 refine SP.imp (fun w2 h => St.toP 0 rfl h) ?_
 clear hc
 refine al fun b31 => ?_
 refine sp 0 fun hs_v27 => ?_
 refine sh 1 fun hs_v28 => ?_
 refine st 0 ?_
 refine ci ho (fun ho => ?_) fun ho => ?_
 ·exact fin ho hr ▸ rt (fun _ h => St.selO [0, 3] rfl rfl (St.addO (slO.nil (kInt .u8) 5) h))
 refine lo ho hr (fun z => ∃ x60, z (.l1 t26 x60) [(2, v_row_2), (8, .pointer (some ⟨b31, 0, none⟩)), (9, .int .i64 (IntKind.i64.wrap ((row_2.length : Int) - (t26.1.Takes.length : Int)))), (25, v27), (26, .int .i64 (t26.1.Takes.length : Int)), (27, .int .i64 x60)] [boxO b31 [v27, v28] 219, slO (kInt .u8) 5 v28 t26.1.Gives, arrK k_types_Row b1 [v_k_0_2, v_k_0_4, v_k_0_6, .int .i64 k_0_8, v_k_0_9, v_k_0_11, .int .u8 k_0_13, .bool k_0_14, .int .i64 k_0_15, .int .i64 k_0_16, .int .i64 k_0_17, v_k_0_18, v_k_0_20] 200 t26.2 [] 131]) (fun _ z => ⟨0, z⟩) ?_ (sO [0, 1, 2]) (hb := pe [slP (kInt .u8) v27 t26.1.Takes, slP k_api_Value v_k_0_2 k_0_2, slP k_api_Value v_k_0_4 k_0_4, slP k_api_Method v_k_0_6 k_0_6, slP (kInt .u8) v_k_0_9 k_0_9, slP (kInt .u8) v_k_0_11 k_0_11, slP k_api_Instr v_k_0_18 k_0_18, slP (kInt .u8) v_k_0_20 k_0_20, slP (kInt .u8) v_row_2 row_2])
 rintro _ _ _ ⟨x60, m61, o, _, _, ho, hr, h⟩
 refine en h ?_
 refine ci ho (fun ho => ?_) fun ho => ?_
 ·obtain ⟨x64, hx, ho⟩ := elt_bind ho
  refine SP.indexP see 0 rfl Tryz.underlying26 sz5.h hx.1 hx.2 rfl rfl rfl rfl (fun p62 => ?_)
  clear hx
  refine SP.val (Val.loadP1 see 0 rfl (fun _ _ e => e) Tryz.underlying5 rfl rfl) rfl rfl rfl (gg ?_)
  obtain ⟨t70, hg_t70, ho⟩ := bind_some ho
  refine SP.jn 9 [2, 8, 9, 25, 26, 27] 43 (.bool t70) ?_ ?_
  ·clear hg_t70
   refine gg ?_
   refine cb ho (fun ho => ?_) fun ho => ?_
   ·exact fin ho hr ▸ rt (fun _ h => St.selO [0, 3] rfl rfl (St.addO (slO.nil (kInt .u8) 5) h))
   exact lw ho hr (fun _ z => ⟨(IntKind.i64.wrap (x60 + 1)), z⟩)
  refine SP.ci 34 hg_t70 (fun hq66 ho => ?_) fun hq66 ho => ?_
  ·refine gg ?_
   obtain ⟨x69, hx, ho⟩ := elt_bind ho
   refine SP.indexP see 9 rfl Tryz.underlying26 sz5.h hx.1 hx.2 rfl rfl rfl rfl (fun p67 => ?_)
   clear hx
   refine SP.val (Val.loadP1 see 0 rfl (fun _ _ e => e) Tryz.underlying5 rfl rfl) rfl rfl rfl (gg ?_)
   obtain rfl := Option.some.inj ho
   exact QE.jn fun w2 hw => (St.selP [1, 2, 3, 4, 5, 6, 7, 8, 9, 10] rfl hw)
  refine gg ?_
  obtain rfl := Option.some.inj ho
  exact QE.jn fun w2 hw => hw
 refine CP.drawA (by kernel_rfl) (fun w2 k h => h.drawn k) ?_
 refine DA.ph 0 5 ?_
 refine DT.tk 0 ?_
 refine DT.tk 1 ?_
 refine DT.tk 3 ?_
 refine DT.tk 4 ?_
 refine DT.one 2 rfl (by kernel_rfl) rfl ?_
 obtain ⟨hz, ho⟩ := must_some ho
 refine SP.sliceToP see 8 rfl Tryz.underlying26 sz5.h rfl rfl hz rfl rfl (fun v80 => ?_)
 clear hz
 refine gg ?_
 refine QE.atT (fun w2 hw => (St.selP [1, 2, 3, 4, 5, 6, 7, 8, 9] rfl hw)) ?_
 refine DT.next (by kernel_rfl) ?_
 refine DA.one 5 rfl (by kernel_rfl) ?_
 refine SP.freezeS see 1 rfl ?_
 refine SP.litS (k := (kSl (kInt .u8))) (xs := [(row_2.take (IntKind.i64.wrap ((row_2.length : Int) - (t26.1.Takes.length : Int)) : Int).toNat), t26.1.Gives]) (vs := [v80, v28]) Tryz.underlying182 inf26.h rfl rfl rfl rfl rfl rfl (fun _ ap => ⟨slR.cells1 (ap.get 1 rfl), slR.cells1 (ap.get 0 rfl), trivial⟩) (fun _ ap => ⟨[v80], _, rfl, ⟨_, rfl, ap.get 1 rfl⟩, ⟨[v28], _, rfl, ⟨_, rfl, ap.get 0 rfl⟩, rfl⟩⟩) rfl rfl rfl (fun v82 => gg ?_)
 refine QE.atA ?_
 refine DA.one 6 rfl (by kernel_rfl) ?_
 obtain ⟨t84, hc, ho⟩ := bind_some ho
 refine SP.callKO see (caps := []) _ fn77.h rfl rfl rfl rfl (fun w2 hs => slices_Concat_uint8_uint8.ok _ hc w2 (hp w2) (Sub.refl _) (aS (slO.read (St.own 0 rfl see.sub see.dj hs) (Sub.refl _) (Sub.refl _)) (All.nil _))) (fun v a a2 b ⟨v85, e, h⟩ => ⟨v85, e, (Sep.fcons (fun _ => slO.flip (fun _ _ _ _ h => h)) (fun _ => Sep.fnil)) h⟩) (SP.k1 fun v85 => ?_)
 clear hc
 refine gg ?_
 refine QE.atA ?_
 refine DA.one 7 rfl (by kernel_rfl) (gg ?_)
 refine QE.atA ?_
 refine DA.one 8 rfl (by kernel_rfl) (gg ?_)
 refine QE.atA ?_
 refine DA.done (by kernel_rfl) (gg ?_)
 exact fin ho hr ▸ rt (sO [0, 3])
def op_Goes.f (op_0 : Int) : Option Bool :=
  (op_Known.f op_0).bind fun t1 => some (((t1 && (decide (op_0 ≠ 26))) && (decide (op_0 ≠ 31))) && (decide (op_0 ≠ 32)))
theorem op_Goes.ok {op_0} (r) (ho : op_Goes.f op_0 = some r) : Ok Tryz.prog 153 [.int .u8 op_0] [] fun v => HO.pure (v = .bool r) := by
 refine oq 17 Tryz.func153 fun w hV see pb => ?_
 refine kv op_Known.ok ho fun t1 ho => ?_
 refine SP.jn 3 [0] 8 (.bool (t1 && (decide (op_0 ≠ 26)))) ?_ ?_
 ·refine gg ?_
  refine SP.jn 3 [0] 12 (.bool ((t1 && (decide (op_0 ≠ 26))) && (decide (op_0 ≠ 31)))) ?_ ?_
  ·refine gg ?_
   refine SP.jn 3 [] 16 (.bool (((t1 && (decide (op_0 ≠ 26))) && (decide (op_0 ≠ 31))) && (decide (op_0 ≠ 32)))) ?_ ?_
   ·refine gg ?_
    exact Option.some.inj ho ▸ rt
   refine SP.bb 13 (fun hq7 => ?_) fun hq7 => ?_
   ·refine gg ?_
    exact QE.jb (and_t hq7 rfl) fun w2 hw => hw
   refine gg ?_
   exact QE.jb (and_f hq7) fun w2 hw => hw
  refine SP.bb 9 (fun hq5 => ?_) fun hq5 => ?_
  ·refine gg ?_
   exact QE.jb (and_t hq5 rfl) fun w2 hw => hw
  refine gg ?_
  exact QE.jb (and_f hq5) fun w2 hw => hw
 refine SP.bb 5 (fun hq3 => ?_) fun hq3 => ?_
 ·refine gg ?_
  exact QE.jb (and_t hq3 rfl) fun w2 hw => hw
 refine gg ?_
 exact QE.jb (and_f hq3) fun w2 hw => hw
def op_Leads.f (op_0 : Int) : Option Bool :=
  (op_sign.f op_0).bind fun t1 => some (decide (t1 = 5))
theorem op_Leads.ok {op_0} (r) (ho : op_Leads.f op_0 = some r) : Ok Tryz.prog 154 [.int .u8 op_0] [] fun v => HO.pure (v = .bool r) := by
 refine oq 6 Tryz.func154 fun w hV see pb => ?_
 refine kv op_sign.ok ho fun t1 ho => ?_
 exact Option.some.inj ho ▸ rt
shelf_lay_g SlLaysM.n5 Slgm 5 at Tryz 73 as Tryz.sorti73
theorem srti73_trip {v : Value} {l : List Int} (hll : l.length < 4611686018427387904) {w : World} {hP h1 : Hp} (sub : Sub hP (hp w)) (s1 : Sub h1 (hp w)) (dj : Dj hP h1) (hI : (slO (kInt .i64) 3 v l).p hP h1) :
    Trip Tryz.prog 73 #[v] h1 hP w (fun r => HO.pand (r = .tuple #[]) (HO.seps [slO (kInt .i64) 3 v (l.mergeSort fun x y => decide (x ≤ y))])) := by
  have h := slO.rowTrip (P := Tryz.prog) (f := 73) (fun v => #[v]) (fun _ => .tuple #[]) (fun x => [Value.int .i64 x]) (fun h cs x => Iff.rfl) (fun d : Array Int => (d.toList.mergeSort fun x y => decide (x ≤ y)).toArray) (fun d => by simp) (fun blk cap d w hH hb hsz _ _ => ?_) (fun _ w hV sV => ?_) hll sub s1 dj hI
  · simpa using h
  · have := AnyM.slices_Sort_int Tryz.sorti73 blk 0 cap d.toList w (holdsOne.1 hH) hb (by simpa using hsz)
    refine this.mono fun e w' ⟨h1, n, os, h2⟩ => ⟨h1, n, os, h2.trans (Eq.symm sortOne)⟩
  · refine (AnyM.slices_Sort_int_none Tryz.sorti73 none 0 w).mono fun e w' ⟨he, hw⟩ => ?_
    subst hw
    exact ⟨_, he, Met.refl _, fun _ _ e _ => e, em, em, fun _ _ _ => rfl, fun _ _ _ => rfl, Dj.em_left _, Sub.em _, Sub.em _, rfl⟩
shelf_lay_g SlLaysN.n43 Slgn 43 at Tryz 114 as Tryz.compacti114
theorem compacti114_trip {v : Value} {l : List Int} (hll : l.length < 4611686018427387904) {w : World} {hP h1 : Hp} (sub : Sub hP (hp w)) (s1 : Sub h1 (hp w)) (dj : Dj hP h1) (hI : (slO (kInt .i64) 3 v l).p hP h1) :
    Trip Tryz.prog 114 #[v] h1 hP w (fun r => HO.ex fun u : Value => HO.pand (r = u) (HO.seps [slO (kInt .i64) 3 u (Lib.compact l)])) := by
  have hle : (Lib.compact l).length ≤ l.length := compact_le l
  have h := slO.rowTrip (P := Tryz.prog) (f := 114) (fun v => #[v]) (fun v => shrinkV v (Lib.compact l).length) (fun x => [Value.int .i64 x]) (fun h cs x => Iff.rfl) (fun d : Array Int => (Lib.compact d.toList ++ List.replicate (d.size - (Lib.compact d.toList).length) 0).toArray) (fun d => by have := compact_le d.toList; simp at this ⊢; omega) (fun blk cap d w hH hb hsz hcap hd => ?_) (fun h0 w hV sV => ?_) hll sub s1 dj hI
  · exact slO.shrinkT (by simp only [List.length_append]; omega) (by simp) h
  · have := AnyG.slices_Compact_int Tryz.compacti114 blk 0 cap d.toList w (holdsOne.1 hH) (by simp; omega) (by simpa using hcap)
    refine this.mono fun e w' ⟨h1, n, h2⟩ => ⟨?_, n, #[], h2.trans (Eq.trans ?_ (Eq.symm sortOne))⟩
    · rw [h1, hd]; rfl
    · rw [grow_none]; simp
  · refine (AnyG.slices_Compact_int_empty Tryz.compacti114 none 0 w).mono fun e w' ⟨he, hw⟩ => ?_
    subst hw
    exact ⟨_, he, Met.refl _, fun _ _ e _ => e, em, em, fun _ _ _ => rfl, fun _ _ _ => rfl, Dj.em_left _, Sub.em _, Sub.em _, rfl⟩
def flow_Ways.j2 (l_0 : List api_Instr) (a1 : Int) (l31 : List Int) : Option ((List Int) × Int) :=
  if l31.length < 4611686018427387904 then (if (l31.mergeSort fun x y => decide (x ≤ y)).length < 4611686018427387904 then (some ((Lib.compact (l31.mergeSort fun x y => decide (x ≤ y))), 0)) else none) else none
def flow_Ways.j1 (l_0 : List api_Instr) (a1 : Int) (x9 : api_Instr) (l19 : List Int) : Option ((List Int) × Int) :=
  if x9.Op = 29 then (if (l19.length + [IntKind.i64.wrap (x9.A + 1)].length) * 8 ≤ 140737488355328 then (flow_Ways.j2 l_0 a1 (l19 ++ [IntKind.i64.wrap (x9.A + 1)])) else none) else ((op_Leads.f x9.Op).bind fun t25 => if t25 = true then (if (l19.length + [x9.A].length) * 8 ≤ 140737488355328 then (flow_Ways.j2 l_0 a1 (l19 ++ [x9.A])) else none) else (flow_Ways.j2 l_0 a1 l19))
def flow_Ways.f (l_0 : List api_Instr) (a1 : Int) : Option ((List Int) × Int) :=
  (flow_Check.f l_0).bind fun t2 => if t2 ≠ 0 then (some ([], t2)) else (if ((decide (a1 < 0)) || (decide (a1 ≥ (l_0.length : Int)))) = true then (some ([], 2)) else ((elt l_0 a1).bind fun x9 => (op_Goes.f x9.Op).bind fun t12 => if t12 = true then (if (([] : List Int).length + [IntKind.i64.wrap (a1 + 1)].length) * 8 ≤ 140737488355328 then (flow_Ways.j1 l_0 a1 x9 (([] : List Int) ++ [IntKind.i64.wrap (a1 + 1)])) else none) else (flow_Ways.j1 l_0 a1 x9 [])))
theorem flow_Ways.ok {l_0 a1 v_l_0} (r) (ho : flow_Ways.f l_0 a1 = some r) : Ok Tryz.prog 121 [v_l_0, .int .i64 a1] [slP k_api_Instr v_l_0 l_0, arrP k_arr199 1 tab1] fun v => HO.ex fun u0 : Value => HO.pand (v = .tuple #[u0, .int .i64 r.2]) (HO.seps [slO (kInt .i64) 3 u0 r.1]) := by
 refine oq 57 Tryz.func121 fun w hV see pb => ?_
 refine kv flow_Check.ok ho fun t2 ho => ?_
 refine ci ho (fun ho => ?_) fun ho => ?_
 ·exact Option.some.inj ho ▸ rt (fun _ h => St.selO [0] rfl rfl (St.addO (slO.nil (kInt .i64) 3) h))
 refine SP.jn 5 [0, 1] 21 (.bool ((decide (a1 < 0)) || (decide (a1 ≥ (l_0.length : Int))))) ?_ ?_
 ·refine gg ?_
  refine cb ho (fun ho => ?_) fun ho => ?_
  ·exact Option.some.inj ho ▸ rt (fun _ h => St.selO [0] rfl rfl (St.addO (slO.nil (kInt .i64) 3) h))
  obtain ⟨x9, hx, ho⟩ := elt_bind ho
  refine SP.indexP see 0 rfl Tryz.underlying41 sz57.h hx.1 hx.2 rfl rfl rfl rfl (fun p7 => ?_)
  clear hx
  refine k_api_Instr.load see 0 rfl Tryz.underlying57 rfl sz57.h rfl rfl rfl ?_
  refine al fun b10 => ?_
  refine st (h := id) 0 ?_
  refine go ?_
  refine oi r (fun z => ∃ l19 v20, z (flow_Ways.j1 l_0 a1 x9 l19) [(7, v20), (8, .pointer (some ⟨b10, 0, none⟩))] [slO (kInt .i64) 3 v20 l19, boxO b10 [.int .u8 x9.Op, .int .i64 x9.A, .int .i64 x9.B] 57]) ?_ ?_ (hb := pe [arrP k_arr199 1 tab1])
  ·rintro _ _ ⟨l19, v20, ho, h⟩
   refine en (g := id) h ?_
   refine oi r (fun z => ∃ l31 v32, z (flow_Ways.j2 l_0 a1 l31) [(7, v32)] [slO (kInt .i64) 3 v32 l31]) ?_ ?_ (hb := pe [arrP k_arr199 1 tab1])
   ·rintro _ _ ⟨l31, v32, ho, h⟩
    refine en h ?_
    obtain ⟨hb, ho⟩ := must_some ho
    refine SP.callA see (caps := []) (fun r => HO.pand (r = .tuple #[]) (HO.seps [slO (kInt .i64) 3 v32 (l31.mergeSort fun x y => decide (x ≤ y))])) fn73.h rfl rfl rfl rfl (fun w2 hP h1 sub s1 d1 ap hI => srti73_trip hb sub s1 d1 hI) (SP.k0 ?_)
    clear hb
    refine gg ?_
    obtain ⟨hb, ho⟩ := must_some ho
    refine SP.callA see (caps := []) (fun r => HO.ex fun u : Value => HO.pand (r = u) (HO.seps [slO (kInt .i64) 3 u (Lib.compact (l31.mergeSort fun x y => decide (x ≤ y)))])) fn114.h rfl rfl rfl rfl (fun w2 hP h1 sub s1 d1 ap hI => compacti114_trip hb sub s1 d1 hI) (SP.k1 fun v35 => ?_)
    clear hb
    refine gg ?_
    exact Option.some.inj ho ▸ rt (sO [0])
   refine gg ?_
   refine ci ho (fun ho => ?_) fun ho => ?_
   ·refine li (kInt .i64) [IntKind.i64.wrap (x9.A + 1)] fun v21 => ?_
    refine SP.freezeS see 0 rfl ?_
    refine ap 0 0 ho fun v23 ho => ?_
    exact mo ho (fun _ z => ⟨(l19 ++ [IntKind.i64.wrap (x9.A + 1)]), v23, z⟩) (sO [0])
   refine kv op_Leads.ok ho fun t25 ho => ?_
   refine cb ho (fun ho => ?_) fun ho => ?_
   ·refine li (kInt .i64) [x9.A] fun v26 => ?_
    refine SP.freezeS see 0 rfl ?_
    refine ap 0 0 ho fun v28 ho => ?_
    exact mo ho (fun _ z => ⟨(l19 ++ [x9.A]), v28, z⟩) (sO [0])
   exact mo ho (fun _ z => ⟨l19, v20, z⟩) (sO [0])
  refine gg ?_
  refine kv op_Goes.ok ho fun t12 ho => ?_
  refine cb ho (fun ho => ?_) fun ho => ?_
  ·refine li (kInt .i64) [IntKind.i64.wrap (a1 + 1)] fun v13 => ?_
   refine SP.imp (fun w2 hw => St.addO (slO.nil (kInt .i64) 3) hw) ?_
   refine SP.freezeS see 1 rfl ?_
   refine ap 0 0 ho fun v16 ho => ?_
   exact mo ho (fun _ z => ⟨(([] : List Int) ++ [IntKind.i64.wrap (a1 + 1)]), v16, z⟩)
  exact mo ho (fun _ z => ⟨[], (.slice none 0 0), z⟩) (fun _ hw => (St.addO (slO.nil (kInt .i64) 3) hw))
 refine SP.bb 16 (fun hq5 => ?_) fun hq5 => ?_
 ·refine gg ?_
  exact QE.jb (or_t hq5) fun w2 hw => hw
 refine gg ?_
 exact QE.jb (or_f hq5 rfl) fun w2 hw => hw
inductive slices_Equal_uint8_uint8.S where
  | start
  | l1 (x12 : Int)
def slices_Equal_uint8_uint8.F (s1_0 s2_1 : List Int) : slices_Equal_uint8_uint8.S → Option (slices_Equal_uint8_uint8.S ⊕ Bool)
  | .start => if (s1_0.length : Int) ≠ (s2_1.length : Int) then (some (.inr false)) else (some (.inl (.l1 0)))
  | .l1 x12 => if x12 < (s1_0.length : Int) then ((elt s1_0 x12).bind fun x16 => (elt s2_1 x12).bind fun x20 => if x16 ≠ x20 then (some (.inr false)) else (some (.inl (.l1 (IntKind.i64.wrap (x12 + 1)))))) else (some (.inr true))
def slices_Equal_uint8_uint8.f (s1_0 s2_1 : List Int) : Option Bool := runF (slices_Equal_uint8_uint8.F s1_0 s2_1) .start
theorem slices_Equal_uint8_uint8.ok {s1_0 s2_1 v_s1_0 v_s2_1} (r) (H : slices_Equal_uint8_uint8.f s1_0 s2_1 = some r) : Ok Tryz.prog 122 [v_s1_0, v_s2_1] [slP (kInt .u8) v_s1_0 s1_0, slP (kInt .u8) v_s2_1 s2_1] fun v => HO.pure (v = .bool r) := by
 refine oq 26 Tryz.func122 fun w hV see pb => ?_
 obtain ⟨m0, o, ho, hr⟩ := rn H
 refine ci ho (fun ho => ?_) fun ho => ?_
 ·exact fin ho hr ▸ rt
 refine lo ho hr (fun z => ∃ x12, z (.l1 x12) [(0, v_s1_0), (1, v_s2_1), (12, .int .i64 (s1_0.length : Int)), (13, .int .i64 x12)] []) (fun _ z => ⟨0, z⟩) ?_
 rintro _ _ _ ⟨x12, m13, o, _, _, ho, hr, h⟩
 refine en h ?_
 refine ci ho (fun ho => ?_) fun ho => ?_
 ·refine CP.drawA (by kernel_rfl) (fun w2 k h => h.drawn k) ?_
  obtain ⟨x16, hx, ho⟩ := elt_bind ho
  refine DA.ghost (fun w2 h => h.elem see 0 rfl hx.1 hx.2) (fun p14 h_p14 => ?_)
  clear hx
  refine DA.ghost (fun w2 h => h.openE see 0 rfl (fun _ : Unit => [.int .u8 x16]) (fun _ => []) (fun h cs e => ⟨(), e, All.nil _⟩)) (fun _ _ => ?_)
  obtain ⟨x20, hx, ho⟩ := elt_bind ho
  refine DA.ghost (fun w2 h => h.elem see 3 rfl hx.1 hx.2) (fun p18 h_p18 => ?_)
  clear hx
  refine DA.ghost (fun w2 h => h.openE see 0 rfl (fun _ : Unit => [.int .u8 x20]) (fun _ => []) (fun h cs e => ⟨(), e, All.nil _⟩)) (fun _ _ => ?_)
  refine DA.ph 0 8 ?_
  refine DT.tk 0 ?_
  refine DT.tk 1 ?_
  refine DT.tv 2 rfl (Val.indexE h_p14 Tryz.underlying26 sz5.h rfl rfl) ?_
  refine DT.tv 3 rfl (Val.loadAt1 see 2 rfl Tryz.underlying5 rfl rfl) ?_
  refine DT.tk 4 ?_
  refine DT.tk 5 ?_
  refine DT.tv 6 rfl (Val.indexE h_p18 Tryz.underlying26 sz5.h rfl rfl) ?_
  refine DT.tv 7 rfl (Val.loadAt1 see 0 rfl Tryz.underlying5 rfl rfl) ?_
  refine DT.next (by kernel_rfl) ?_
  refine DA.one 8 rfl (by kernel_rfl) (gg ?_)
  refine QE.atA ?_
  refine DA.done (by kernel_rfl) (gg ?_)
  refine ci ho (fun ho => ?_) fun ho => ?_
  ·exact fin ho hr ▸ rt
  exact lw ho hr (fun _ z => ⟨(IntKind.i64.wrap (x12 + 1)), z⟩)
 exact fin ho hr ▸ rt
inductive types_look_place_s1.S where
  | start
  | l1 (t32 : ((List Int) × Int) × (List types_Row)) (t35 : (List Int) × Int) (l58 : List types_Row) (x59 : Int)
def types_look_place_s1.F (k_0_2 k_0_4 : List api_Value) (k_0_6 : List api_Method) (k_0_8 : Int) (k_0_9 k_0_11 : List Int) (k_0_13 : Int) (k_0_14 : Bool) (k_0_15 k_0_16 k_0_17 : Int) (k_0_18 : List api_Instr) (k_0_20 : List Int) (l22 : List types_Row) (a1 : Int) : types_look_place_s1.S → Option (types_look_place_s1.S ⊕ (Int × (List types_Row)))
  | .start => (elt l22 a1).bind fun x23 => if (!x23.Reached) = true then (some (.inr (0, l22))) else ((elt k_0_18 a1).bind fun x30 => (types_look_after_s1.f k_0_2 k_0_4 k_0_6 k_0_8 k_0_9 k_0_11 k_0_13 k_0_14 k_0_15 k_0_16 k_0_17 k_0_18 k_0_20 l22 x30 x23.Kinds).bind fun t32 => if t32.1.2 ≠ 0 then (some (.inr (t32.1.2, t32.2))) else ((flow_Ways.f k_0_18 a1).bind fun t35 => some (.inl (.l1 t32 t35 t32.2 0))))
  | .l1 t32 t35 l58 x59 => if x59 < (t35.1.length : Int) then ((elt t35.1 x59).bind fun x62 => (elt l58 x62).bind fun x63 => (if x63.Reached = true then ((slices_Equal_uint8_uint8.f x63.Kinds t32.1.1).bind fun t68 => some (!t68)) else (some false)).bind fun t69 => if t69 = true then (some (.inr (100, l58))) else (some (.inl (.l1 t32 t35 (l58.set x62.toNat (⟨true, t32.1.1⟩ : types_Row)) (IntKind.i64.wrap (x59 + 1)))))) else (some (.inr (0, l58)))
def types_look_place_s1.f (k_0_2 k_0_4 : List api_Value) (k_0_6 : List api_Method) (k_0_8 : Int) (k_0_9 k_0_11 : List Int) (k_0_13 : Int) (k_0_14 : Bool) (k_0_15 k_0_16 k_0_17 : Int) (k_0_18 : List api_Instr) (k_0_20 : List Int) (l22 : List types_Row) (a1 : Int) : Option (Int × (List types_Row)) := runF (types_look_place_s1.F k_0_2 k_0_4 k_0_6 k_0_8 k_0_9 k_0_11 k_0_13 k_0_14 k_0_15 k_0_16 k_0_17 k_0_18 k_0_20 l22 a1) .start
theorem types_look_place_s1.ok (k_0_2 k_0_4 : List api_Value) (k_0_6 : List api_Method) (k_0_8 : Int) (k_0_9 k_0_11 : List Int) (k_0_13 : Int) (k_0_14 : Bool) (k_0_15 k_0_16 k_0_17 : Int) (k_0_18 : List api_Instr) (k_0_20 : List Int) (l22 : List types_Row) (a1 : Int) (v_k_0_2 v_k_0_4 v_k_0_6 v_k_0_9 v_k_0_11 v_k_0_18 v_k_0_20 : Value)  (r : Int × (List types_Row)) (H : types_look_place_s1.f k_0_2 k_0_4 k_0_6 k_0_8 k_0_9 k_0_11 k_0_13 k_0_14 k_0_15 k_0_16 k_0_17 k_0_18 k_0_20 l22 a1 = some r) (w : World) (hV : Hp) (sV : Sub hV (hp w)) (h0 : slR k_api_Value hV v_k_0_2 k_0_2) (h1 : slR k_api_Value hV v_k_0_4 k_0_4) (h2 : slR k_api_Method hV v_k_0_6 k_0_6) (h3 : slR (kInt .u8) hV v_k_0_9 k_0_9) (h4 : slR (kInt .u8) hV v_k_0_11 k_0_11) (h5 : slR k_api_Instr hV v_k_0_18 k_0_18) (h6 : slR (kInt .u8) hV v_k_0_20 k_0_20) (h7 : (arrP k_arr199 1 tab1).p hV) (b1 : Nat) (hA : Hp) (sA : Sub hA (hp w)) (dA : Dj hV hA) (hI : (arrK k_types_Row b1 [v_k_0_2, v_k_0_4, v_k_0_6, .int .i64 k_0_8, v_k_0_9, v_k_0_11, .int .u8 k_0_13, .bool k_0_14, .int .i64 k_0_15, .int .i64 k_0_16, .int .i64 k_0_17, v_k_0_18, v_k_0_20] 200 l22 [] 131).p hV hA) :
    Trip Tryz.prog 81 [.pointer (some ⟨b1, 0, none⟩), .int .i64 a1].toArray hA hV w (fun v => HO.pand (v = .int .i64 r.1) (HO.seps [arrK k_types_Row b1 [v_k_0_2, v_k_0_4, v_k_0_6, .int .i64 k_0_8, v_k_0_9, v_k_0_11, .int .u8 k_0_13, .bool k_0_14, .int .i64 k_0_15, .int .i64 k_0_16, .int .i64 k_0_17, v_k_0_18, v_k_0_20] 200 r.2 [] 131])) := by
 have see : Sees w hA hV := ⟨sV, dA⟩
 refine Trip.of (P := Tryz.prog) (n := ⟨79, []⟩) Tryz.func81 rfl ⟨rfl, rfl⟩ rfl (St.beginA (os := [arrK k_types_Row b1 [v_k_0_2, v_k_0_4, v_k_0_6, .int .i64 k_0_8, v_k_0_9, v_k_0_11, .int .u8 k_0_13, .bool k_0_14, .int .i64 k_0_15, .int .i64 k_0_16, .int .i64 k_0_17, v_k_0_18, v_k_0_20] 200 l22 [] 131]) sA (aS h0 (aS h1 (aS h2 (aS h3 (aS h4 (aS h5 (aS h6 (All.cons (x := arrP k_arr199 1 tab1) h7 (All.nil _))))))))) ⟨hA, em, Dj.em_right _, Sub.refl _, Sub.em _, hI, trivial⟩) ?_
 obtain ⟨m0, o, ho, hr⟩ := rn H
 refine gg ?_
 obtain ⟨x23, hx_x23, ho⟩ := elt_bind ho
 refine SP.val (Val.indexK see 0 rfl Tryz.underlying129 sz128.h hx_x23.1 hx_x23.2 rfl rfl) rfl rfl rfl ?_
 refine SP.loadKO (j := a1) see 0 (fun (v24 : Value) => [.bool x23.Reached, v24]) (fun (v24 : Value) => [slP (kInt .u8) v24 x23.Kinds]) rfl hx_x23.2 (fun a cs ⟨v24, e, p0⟩ => ⟨v24, e, All.cons p0 (All.nil _)⟩) Tryz.underlying128 rfl sz128.h rfl rfl rfl (fun z_ => ?_)
 rename Value => v24
 refine al fun b26 => ?_
 refine sp 0 fun hs_v24 => ?_
 refine st 0 ?_
 refine cb ho (fun ho => ?_) fun ho => ?_
 ·exact fin ho hr ▸ rt (sO [1])
 refine CP.drawA (by kernel_rfl) (fun w2 k h => h.drawn k) ?_
 obtain ⟨x30, hx, ho⟩ := elt_bind ho
 refine DA.ghost (fun w2 h => h.elem see 6 rfl hx.1 hx.2) (fun p28 h_p28 => ?_)
 clear hx
 refine DA.ghost (fun w2 h => h.openE see 0 rfl (fun _ : Unit => [.int .u8 x30.Op, .int .i64 x30.A, .int .i64 x30.B]) (fun _ => []) (fun h cs e => ⟨(), e, All.nil _⟩)) (fun _ _ => ?_)
 refine DA.ph 0 11 ?_
 refine DT.tk 0 ?_
 refine DT.tk 1 ?_
 refine DT.tk 2 ?_
 refine DT.tk 3 ?_
 refine DT.tk 4 ?_
 refine DT.tv 5 rfl (Val.loadKPre1 see 1 rfl Tryz.underlying41 rfl rfl rfl) ?_
 refine DT.tk 6 ?_
 refine DT.tv 7 rfl (Val.indexE h_p28 Tryz.underlying41 sz57.h rfl rfl) ?_
 refine DT.tv 8 rfl (Val.loadAtA see 0 rfl Tryz.underlying57 rfl sz57.h rfl) ?_
 refine DT.tk 9 ?_
 refine DT.tk 10 ?_
 refine DT.next (by kernel_rfl) ?_
 refine DA.one 11 rfl (by kernel_rfl) ?_
 refine SP.imp (fun w2 hw => St.selO [1, 0] rfl rfl hw) ?_
 obtain ⟨t32, hc, ho⟩ := bind_some ho
 refine SP.callA see (caps := []) _ fn120.h rfl rfl rfl rfl (fun w2 hP h1 sub s1 d1 ap hI => types_look_after_s1.ok _ _ _ _ _ _ _ _ _ _ _ _ _ _ _ _ _ _ _ _ _ _ _ _ _ hc w2 hP sub (ap.get 3 rfl) (ap.get 4 rfl) (ap.get 5 rfl) (ap.get 6 rfl) (ap.get 7 rfl) (ap.get 8 rfl) (ap.get 9 rfl) (ap.get 2 rfl) _ h1 s1 d1 hI) (SP.k1 fun v33 => ?_)
 clear hc
 refine gg ?_
 refine QE.atA ?_
 refine DA.one 12 rfl (by kernel_rfl) (gg ?_)
 refine QE.atA ?_
 refine DA.ph 13 16 ?_
 refine DT.tk 13 ?_
 refine DT.tk 14 ?_
 refine DT.tk 15 ?_
 refine DT.next (by kernel_rfl) ?_
 refine DA.one 16 rfl (by kernel_rfl) (gg ?_)
 refine QE.atA ?_
 refine DA.done (by kernel_rfl) (gg ?_)
 refine ci ho (fun ho => ?_) fun ho => ?_
 ·exact fin ho hr ▸ rt (sO [1])
 refine SP.val (Val.loadKPre1 see 1 rfl Tryz.underlying41 rfl rfl rfl) rfl rfl rfl (gg ?_)
 refine k1 flow_Ways.ok ho fun t35 ho v36 => ?_
 refine CP.freezeS see 1 rfl ?_
 refine lo ho hr (fun z => ∃ l58 x59, z (.l1 t32 t35 l58 x59) [(0, .pointer (some ⟨b1, 0, none⟩)), (6, v33), (50, v36), (51, .int .i64 (t35.1.length : Int)), (52, .int .i64 x59)] [slO (kInt .i64) 3 v36 t35.1, arrK k_types_Row b1 [v_k_0_2, v_k_0_4, v_k_0_6, .int .i64 k_0_8, v_k_0_9, v_k_0_11, .int .u8 k_0_13, .bool k_0_14, .int .i64 k_0_15, .int .i64 k_0_16, .int .i64 k_0_17, v_k_0_18, v_k_0_20] 200 l58 [] 131]) (fun _ z => ⟨t32.2, 0, z⟩) ?_ (sO [0, 1]) (hb := pe [slP (kInt .u8) v33 t32.1.1, slP k_api_Value v_k_0_2 k_0_2, slP k_api_Value v_k_0_4 k_0_4, slP k_api_Method v_k_0_6 k_0_6, slP (kInt .u8) v_k_0_9 k_0_9, slP (kInt .u8) v_k_0_11 k_0_11, slP k_api_Instr v_k_0_18 k_0_18, slP (kInt .u8) v_k_0_20 k_0_20, arrP k_arr199 1 tab1])
 rintro _ _ _ ⟨l58, x59, m60, o, _, _, ho, hr, h⟩
 refine en h ?_
 refine ci ho (fun ho => ?_) fun ho => ?_
 ·obtain ⟨x62, hx_x62, ho⟩ := elt_bind ho
  refine SP.indexW (fun w2 hw => slO.whole (St.own 0 rfl see.sub see.dj hw)) Tryz.underlying60 sz3.h hx_x62.1 hx_x62.2 rfl rfl rfl rfl (fun p61 h_p61 => ?_)
  refine SP.val (Val.loadW1 (off := 0) (k := (kInt .i64)) (fun w2 hw => slO.whole (St.own 0 rfl see.sub see.dj hw)) hx_x62.2 h_p61 (fun _ _ e => by subst e; rfl) Tryz.underlying3 rfl rfl) rfl rfl rfl (gg ?_)
  obtain ⟨x63, hx_x63, ho⟩ := elt_bind ho
  refine SP.val (Val.indexK see 1 rfl Tryz.underlying129 sz128.h hx_x63.1 hx_x63.2 rfl rfl) rfl rfl rfl ?_
  refine SP.val (Val.assign rfl) rfl rfl rfl ?_
  refine SP.nil ?_
  refine QE.then ?_
  refine (CP.seq ?_)
  refine CP.seq ?_
  refine CP.region ?_
  refine SP.val (Val.move rfl) rfl rfl rfl ?_
  refine SP.val (Val.nilCheck rfl) rfl rfl rfl ?_
  refine SP.val (Val.fieldX Tryz.underlying128 rfl sz4.h rfl) rfl rfl rfl ?_
  refine SP.val (Val.loadK1 (j := x62) see 1 0 rfl hx_x63.2 (fun _ _ ⟨v0_, e, p0_⟩ => by subst e; rfl) Tryz.underlying4 rfl rfl) rfl rfl rfl (gg ?_)
  obtain ⟨t69, hg_t69, ho⟩ := bind_some ho
  refine SP.jn 8 [0, 6, 50, 51, 52, 12] 73 (.bool t69) ?_ ?_
  ·clear hg_t69
   refine gg ?_
   refine cb ho (fun ho => ?_) fun ho => ?_
   ·exact fin ho hr ▸ rt (sO [1])
   refine sp 0 fun hs_v33 => ?_
   refine bd [.bool true, v33] ?_
   refine sp 0 fun hs_v33 => ?_
   refine SP.storeK (j := x62) (z0 := (⟨true, t32.1.1⟩ : types_Row)) (vs := [.bool true, v33]) see 1 0 rfl hx_x63.2 rfl (one_cons rfl (one_cons hs_v33 (rfl))) sz128.h rfl (fun a cs ap r => by obtain ⟨_, e, _⟩ := r; subst e; exact ⟨v33, rfl, (ap.get 0 rfl)⟩) rfl rfl rfl (gg ?_)
   exact lw ho hr (fun _ z => ⟨(l58.set x62.toNat (⟨true, t32.1.1⟩ : types_Row)), (IntKind.i64.wrap (x59 + 1)), z⟩)
  refine SP.cb 65 hg_t69 (fun hq65 ho => ?_) fun hq65 ho => ?_
  ·refine SP.val (Val.move rfl) rfl rfl rfl ?_
   refine SP.val (Val.nilCheck rfl) rfl rfl rfl ?_
   refine SP.val (Val.fieldX Tryz.underlying128 rfl sz26.h rfl) rfl rfl rfl ?_
   refine SP.loadKS (j := x62) see 1 1 rfl hx_x63.2 (fun _ _ ⟨v0_, e, p0_⟩ => ⟨v0_, by subst e; rfl, p0_⟩) Tryz.underlying26 rfl rfl rfl (fun v66 => gg ?_)
   refine kv slices_Equal_uint8_uint8.ok ho fun t68 ho => ?_
   obtain rfl := Option.some.inj ho
   exact QE.jn fun w2 hw => (St.selP [1, 2, 3, 4, 5, 6, 7, 8, 9] rfl hw)
  refine gg ?_
  obtain rfl := Option.some.inj ho
  exact QE.jn fun w2 hw => hw
 exact fin ho hr ▸ rt (sO [1])
def slices_Clone_types_Row_types_Row.f (s_0 : List types_Row) : Option (List types_Row) :=
  nilOr s_0 (some []) (if (([] : List types_Row).length + s_0.length) * 32 ≤ 140737488355328 then (some (([] : List types_Row) ++ s_0)) else none)
theorem slices_Clone_types_Row_types_Row.ok {s_0 v_s_0} (r) (ho : slices_Clone_types_Row_types_Row.f s_0 = some r) : Ok Tryz.prog 82 [v_s_0] [slP k_types_Row v_s_0 s_0] fun v => HO.ex fun u0 : Value => HO.pand (v = u0) (HO.seps [slO k_types_Row 128 u0 r]) := by
 refine oq 8 Tryz.func82 fun w hV see pb => ?_
 refine SP.val (Val.eqlNP see 0 rfl Tryz.underlying92 rfl rfl) rfl rfl rfl (gg ?_)
 refine CP.have (fun w2 hw => slR.isNil (v := v_s_0) (St.pers 0 rfl see.sub see.dj hw)) (fun hnil => ?_)
 rcases Bool.eq_false_or_eq_true (nilB v_s_0) with hc | hc
 ·replace ho := nilOr_t ho (hnil hc)
  refine CP.condT rfl hc (gg ?_)
  exact Option.some.inj ho ▸ rt (fun _ h => St.selO [0] rfl rfl (St.addO (slO.nil k_types_Row 128) h))
 replace ho := nilOr_f ho
 refine CP.condF rfl hc (gg ?_)
 refine SP.lit0 (k := k_types_Row) Tryz.underlying92 inf128.h rfl rfl (fun v3 => gg ?_)
 refine ap 0 0 ho fun v5 ho => ?_
 exact Option.some.inj ho ▸ rt (sO [0])
inductive types_Rows.S where
  | start
  | l1 (x11 : api_Method) (t1828 : List Int) (l2826 : List types_Row) (x2827 : Int)
  | l2 (t2833 l2848 : List types_Row) (x2850 : Int)
def types_Rows.F (m_0 : api_Module) (k_1 : Int) : types_Rows.S → Option (types_Rows.S ⊕ ((List types_Row) × Int))
  | .start => if ((decide (k_1 < 0)) || (decide (k_1 ≥ (m_0.Methods.length : Int)))) = true then (some (.inr ([], 2))) else ((elt m_0.Methods k_1).bind fun x11 => (flow_Check.f x11.Code).bind fun t20 => if t20 ≠ 0 then (some (.inr ([], t20))) else ((slices_Concat_uint8_uint8.f [x11.Args, x11.Locals]).bind fun t1828 => (slices_ContainsFunc_api_Instr_api_Instr_s3.f x11.Code m_0.Globals m_0.Pool m_0.Methods m_0.Migrate x11.Args x11.Locals x11.Result x11.Reads x11.Fuel x11.Stack x11.Heap x11.Code t1828).bind fun t2747 => if t2747 = true then (some (.inr ([], 100))) else ((elt (List.replicate 200 types_Row.zero : List types_Row) 0).bind fun x2749 => some (.inl (.l1 x11 t1828 ((List.replicate 200 types_Row.zero : List types_Row).set (0 : Int).toNat ({ x2749 with Reached := true } : types_Row)) 0)))))
  | .l1 x11 t1828 l2826 x2827 => if x2827 < (x11.Code.length : Int) then ((types_look_place_s1.f m_0.Globals m_0.Pool m_0.Methods m_0.Migrate x11.Args x11.Locals x11.Result x11.Reads x11.Fuel x11.Stack x11.Heap x11.Code t1828 l2826 x2827).bind fun t2829 => if t2829.1 ≠ 0 then (some (.inr ([], t2829.1))) else (some (.inl (.l1 x11 t1828 t2829.2 (IntKind.i64.wrap (x2827 + 1)))))) else (if (0 : Int) ≤ (x11.Code.length : Int) ∧ (x11.Code.length : Int) ≤ (200 : Nat) then ((slices_Clone_types_Row_types_Row.f (l2826.take ((x11.Code.length : Int) : Int).toNat)).bind fun t2833 => some (.inl (.l2 t2833 t2833 0))) else none)
  | .l2 t2833 l2848 x2850 => if x2850 < (t2833.length : Int) then ((elt l2848 x2850).bind fun x2853 => (slices_Clone_uint8_uint8.f x2853.Kinds).bind fun t2857 => (elt l2848 x2850).bind fun x2861 => some (.inl (.l2 t2833 (l2848.set x2850.toNat ({ x2861 with Kinds := t2857 } : types_Row)) (IntKind.i64.wrap (x2850 + 1))))) else (some (.inr (l2848, 0)))
def types_Rows.f (m_0 : api_Module) (k_1 : Int) : Option ((List types_Row) × Int) := runF (types_Rows.F m_0 k_1) .start
theorem types_Rows.ok {m_0 k_1 v_m_0_Globals v_m_0_Pool v_m_0_Methods} (r) (H : types_Rows.f m_0 k_1 = some r) : Ok Tryz.prog 46 [.agg #[v_m_0_Globals, v_m_0_Pool, v_m_0_Methods, .int .i64 m_0.Migrate], .int .i64 k_1] [slP k_api_Value v_m_0_Globals m_0.Globals, slP k_api_Value v_m_0_Pool m_0.Pool, slP k_api_Method v_m_0_Methods m_0.Methods, arrP k_arr199 1 tab1] fun v => HO.ex fun u0 : Value => HO.pand (v = .tuple #[u0, .int .i64 r.2]) (HO.seps [slO k_types_Row 128 u0 r.1]) := by
 refine oq 90 Tryz.func46 fun w hV see pb => ?_
 obtain ⟨m0, o, ho, hr⟩ := rn H
 refine SP.box rfl rfl rfl rfl fun b4 => gg ?_
 refine SP.jn 6 [1, 2] 21 (.bool ((decide (k_1 < 0)) || (decide (k_1 ≥ (m_0.Methods.length : Int))))) ?_ ?_
 ·refine gg ?_
  refine cb ho (fun ho => ?_) fun ho => ?_
  ·exact fin ho hr ▸ rt (fun _ h => St.selO [0] rfl rfl (St.addO (slO.nil k_types_Row 128) h))
  obtain ⟨x11, hx, ho⟩ := elt_bind ho
  refine SP.indexP see 2 rfl Tryz.underlying23 sz43.h hx.1 hx.2 rfl rfl rfl rfl (fun p9 => ?_)
  clear hx
  refine k_api_Method.load see 0 rfl Tryz.underlying43 rfl sz43.h rfl rfl rfl (fun v12 v14 v16 => ?_)
  refine al fun b18 => ?_
  refine sp 0 fun hs_v12 => ?_
  refine sp 1 fun hs_v14 => ?_
  refine sp 2 fun hs_v16 => ?_
  refine st 0 ?_
  refine kv flow_Check.ok ho fun t20 ho => ?_
  refine ci ho (fun ho => ?_) fun ho => ?_
  ·exact fin ho hr ▸ rt (fun _ h => St.selO [0] rfl rfl (St.addO (slO.nil k_types_Row 128) h))
  refine CP.drawA (by kernel_rfl) (fun w2 k h => h.drawn k) ?_
  refine DA.ph 0 11 ?_
  refine DT.tv 0 rfl (Val.loadA 1 rfl Tryz.underlying25 rfl sz25.h rfl rfl rfl) ?_
  refine DT.tv 1 rfl (Val.loadA 0 rfl Tryz.underlying43 rfl sz43.h rfl rfl rfl) ?_
  refine DT.tk 2 ?_
  refine DT.tk 3 ?_
  refine DT.tk 4 ?_
  refine DT.tk 5 ?_
  obtain ⟨t1828, hc_t1828, ho⟩ := bind_some ho
  refine DT.list (l2 := #[true, true, true, true, true, true, false, false, false, false, false, false]) (by kernel_rfl) ?_
  refine DT.cut (ι := Value × Value × Nat × Nat) (fun z => [(6, .pointer (some ⟨b18, 0, none⟩)), (8, .pointer (some ⟨z.2.2.2, 0, none⟩)), (42, .pointer (some ⟨z.2.2.1, 0, none⟩))]) (fun z w2 => St w em hV [slP (kInt .u8) v12 x11.Args, slP (kInt .u8) v14 x11.Locals, slP k_api_Instr v16 x11.Code, elP k_api_Method p9 x11, slP k_api_Value v_m_0_Globals m_0.Globals, slP k_api_Value v_m_0_Pool m_0.Pool, slP k_api_Method v_m_0_Methods m_0.Methods, arrP k_arr199 1 tab1] [boxO z.2.2.2 [.pointer none] 125, arrK k_types_Row z.2.2.1 [v_m_0_Globals, v_m_0_Pool, v_m_0_Methods, .int .i64 m_0.Migrate, v12, v14, .int .u8 x11.Result, .bool x11.Reads, .int .i64 x11.Fuel, .int .i64 x11.Stack, .int .i64 x11.Heap, v16, z.2.1] 200 (List.replicate 200 types_Row.zero : List types_Row) [] 131, slO (kInt .u8) 5 z.2.1 t1828, slO (kSl (kInt .u8)) 26 z.1 [x11.Args, x11.Locals], boxO b18 [v12, v14, .int .u8 x11.Result, .bool x11.Reads, .int .i64 x11.Fuel, .int .i64 x11.Stack, .int .i64 x11.Heap, v16] 43, boxO b4 [v_m_0_Globals, v_m_0_Pool, v_m_0_Methods, .int .i64 m_0.Migrate] 25] w2) 1 #[true, true, true, true, true, true, true, true, true, true, true, false] (fun z => ?_) (fun J2746 => ?_)
  ·obtain ⟨v1430, v1630, b2030, b2230⟩ := z
   refine DT.next (by kernel_rfl) ?_
   refine DA.one 11 rfl (by kernel_rfl) ?_
   refine st 0 ?_
   refine QE.atA ?_
   refine DA.done (by kernel_rfl) (gg ?_)
   refine SP.val (Val.makeFunc (us := []) (vs := [.pointer (some ⟨b2230, 0, none⟩)]) rfl rfl) rfl rfl rfl ?_
   obtain ⟨t2747, hc, ho⟩ := bind_some ho
   refine SP.callVO see (caps := []) (.bool t2747) fn78.h rfl rfl rfl rfl (fun w2 hs => slices_ContainsFunc_api_Instr_api_Instr_s3.ok _ hc w2 (hp w2) (Sub.refl _) (aS ((St.pers 2 rfl see.sub see.dj hs)) (aS ((St.pers 4 rfl see.sub see.dj hs)) (aS ((St.pers 5 rfl see.sub see.dj hs)) (aS ((St.pers 6 rfl see.sub see.dj hs)) (aS ((St.pers 0 rfl see.sub see.dj hs)) (aS ((St.pers 1 rfl see.sub see.dj hs)) (aS ((St.pers 2 rfl see.sub see.dj hs)) (aS (slO.read (St.own 2 rfl see.sub see.dj hs) (Sub.refl _) (Sub.refl _)) (All.cons (arrK.preP (St.own 1 rfl see.sub see.dj hs)) (All.cons (St.own 0 rfl see.sub see.dj hs) (All.nil _)))))))))))) ?_
   clear hc
   refine gg ?_
   refine cb ho (fun ho => ?_) fun ho => ?_
   ·exact fin ho hr ▸ rt (fun _ h => St.selO [0] rfl rfl (St.addO (slO.nil k_types_Row 128) h))
   obtain ⟨x2749, hx_x2749, ho⟩ := elt_bind ho
   refine SP.val (Val.indexK see 1 rfl Tryz.underlying129 sz128.h hx_x2749.1 hx_x2749.2 rfl rfl) rfl rfl rfl ?_
   refine SP.val (Val.fieldX Tryz.underlying128 rfl sz4.h rfl) rfl rfl rfl ?_
   refine SP.storeK (j := 0) (z0 := ({ x2749 with Reached := true } : types_Row)) (vs := [.bool true]) see 1 0 rfl hx_x2749.2 rfl (by rfl) sz4.h rfl (fun a cs ap r => by obtain ⟨v0_, e, p0_⟩ := r; subst e; exact ⟨v0_, rfl, p0_⟩) rfl rfl rfl (gg ?_)
   refine CP.freezeS see 2 rfl ?_
   refine lo ho hr (fun z => ∃ l2826 x2827, z (.l1 x11 t1828 l2826 x2827) [(6, .pointer (some ⟨b18, 0, none⟩)), (8, .pointer (some ⟨b2230, 0, none⟩)), (54, .int .i64 (x11.Code.length : Int)), (55, .int .i64 x2827)] [boxO b2230 [.pointer (some ⟨b2030, 0, none⟩)] 125, arrK k_types_Row b2030 [v_m_0_Globals, v_m_0_Pool, v_m_0_Methods, .int .i64 m_0.Migrate, v12, v14, .int .u8 x11.Result, .bool x11.Reads, .int .i64 x11.Fuel, .int .i64 x11.Stack, .int .i64 x11.Heap, v16, v1630] 200 l2826 [] 131, boxO b18 [v12, v14, .int .u8 x11.Result, .bool x11.Reads, .int .i64 x11.Fuel, .int .i64 x11.Stack, .int .i64 x11.Heap, v16] 43]) (fun _ z => ⟨((List.replicate 200 types_Row.zero : List types_Row).set (0 : Int).toNat ({ x2749 with Reached := true } : types_Row)), 0, z⟩) ?_ (sO [0, 1, 3]) (hb := pe [slP (kInt .u8) v1630 t1828, slP (kInt .u8) v12 x11.Args, slP (kInt .u8) v14 x11.Locals, slP k_api_Instr v16 x11.Code, slP k_api_Value v_m_0_Globals m_0.Globals, slP k_api_Value v_m_0_Pool m_0.Pool, slP k_api_Method v_m_0_Methods m_0.Methods, arrP k_arr199 1 tab1])
   rintro _ _ _ ⟨l2826, x2827, m2828, o, _, _, ho, hr, h⟩
   refine en h ?_
   refine ci ho (fun ho => ?_) fun ho => ?_
   ·refine SP.imp (fun w2 hw => St.selO [1, 0, 2] rfl rfl hw) ?_
    obtain ⟨t2829, hc, ho⟩ := bind_some ho
    refine SP.callA see (caps := []) _ fn81.h rfl rfl rfl rfl (fun w2 hP h1 sub s1 d1 ap hI => types_look_place_s1.ok _ _ _ _ _ _ _ _ _ _ _ _ _ _ _ _ _ _ _ _ _ _ _ hc w2 hP sub (ap.get 4 rfl) (ap.get 5 rfl) (ap.get 6 rfl) (ap.get 1 rfl) (ap.get 2 rfl) (ap.get 3 rfl) (ap.get 0 rfl) (ap.get 7 rfl) _ h1 s1 d1 hI) (SP.k0 ?_)
    clear hc
    refine gg ?_
    refine ci ho (fun ho => ?_) fun ho => ?_
    ·exact fin ho hr ▸ rt (fun _ h => St.selO [0] rfl rfl (St.addO (slO.nil k_types_Row 128) h))
    exact lw ho hr (fun _ z => ⟨t2829.2, (IntKind.i64.wrap (x2827 + 1)), z⟩) (sO [1, 0, 2])
   refine CP.drawA (by kernel_rfl) (fun w2 k h => h.drawn k) ?_
   refine DA.ph 0 6 ?_
   refine DT.tk 0 ?_
   refine DT.tk 1 ?_
   refine DT.tk 2 ?_
   refine DT.tk 3 ?_
   refine DT.tk 4 ?_
   refine DT.tk 5 ?_
   refine DT.next (by kernel_rfl) ?_
   refine DA.one 6 rfl (by kernel_rfl) ?_
   obtain ⟨hz, ho⟩ := must_some ho
   refine SP.sliceK see 1 rfl Tryz.underlying129 sz128.h rfl rfl rfl hz rfl rfl (fun v2831 => ?_)
   clear hz
   refine gg ?_
   refine QE.atA ?_
   refine DA.one 7 rfl (by kernel_rfl) ?_
   refine k1 slices_Clone_types_Row_types_Row.ok ho fun t2833 ho v2834 => ?_
   refine QE.atA ?_
   refine DA.one 8 rfl (by kernel_rfl) (gg ?_)
   refine QE.atA ?_
   refine DA.done (by kernel_rfl) (gg ?_)
   refine lo ho hr (fun z => ∃ l2848 x2850 v2849, z (.l2 t2833 l2848 x2850) [(11, v2849), (74, .int .i64 (t2833.length : Int)), (75, .int .i64 x2850)] [slO k_types_Row 128 v2849 l2848]) (fun _ z => ⟨t2833, 0, v2834, z⟩) ?_ (sO [0]) (hb := pe [arrP k_arr199 1 tab1])
   rintro _ _ _ ⟨l2848, x2850, v2849, m2851, o, _, _, ho, hr, h⟩
   refine en h ?_
   refine ci ho (fun ho => ?_) fun ho => ?_
   ·obtain ⟨x2853, hx_x2853, ho⟩ := elt_bind ho
    refine SP.indexW (fun w2 hw => slO.whole (St.own 0 rfl see.sub see.dj hw)) Tryz.underlying92 sz128.h hx_x2853.1 hx_x2853.2 rfl rfl rfl rfl (fun p2852 h_p2852 => ?_)
    refine SP.fieldO h_p2852 Tryz.underlying128 rfl sz26.h rfl rfl rfl (fun p2854 h_p2854 => ?_)
    refine SP.loadOS (j := x2850) see 0 1 rfl hx_x2853.2 h_p2854 (fun _ _ ⟨v0_, e, p0_⟩ => ⟨v0_, by subst e; rfl, p0_⟩) Tryz.underlying26 rfl rfl rfl (fun v2855 => ?_)
    refine k1 slices_Clone_uint8_uint8.ok ho fun t2857 ho v2858 => ?_
    obtain ⟨x2861, hx_x2861, ho⟩ := elt_bind ho
    refine SP.indexW (fun w2 hw => slO.whole (St.own 1 rfl see.sub see.dj hw)) Tryz.underlying92 sz128.h hx_x2861.1 hx_x2861.2 rfl rfl rfl rfl (fun p2860 h_p2860 => ?_)
    refine SP.fieldO h_p2860 Tryz.underlying128 rfl sz26.h rfl rfl rfl (fun p2862 h_p2862 => ?_)
    refine SP.freezeS see 0 rfl ?_
    refine sp 0 fun hs_v2858 => ?_
    refine SP.storeO (z0 := ({ x2861 with Kinds := t2857 } : types_Row)) (off := 1) (vs := [v2858]) see 0 rfl hx_x2861.2 h_p2862 (one_cells hs_v2858) (one_cons hs_v2858 (rfl)) sz26.h rfl (fun a cs ap r => by obtain ⟨v0_, e, p0_⟩ := r; subst e; exact ⟨v2858, rfl, ap.get 0 rfl⟩) rfl rfl rfl (gg ?_)
    exact lw ho hr (fun _ z => ⟨(l2848.set x2850.toNat ({ x2861 with Kinds := t2857 } : types_Row)), (IntKind.i64.wrap (x2850 + 1)), v2849, z⟩)
   exact fin ho hr ▸ rt (sO [0])
  refine DT.cut (ι := Value × Value × Nat) (fun z => [(6, .pointer (some ⟨b18, 0, none⟩)), (42, .pointer (some ⟨z.2.2, 0, none⟩))]) (fun z w2 => St w em hV [slP (kInt .u8) v12 x11.Args, slP (kInt .u8) v14 x11.Locals, slP k_api_Instr v16 x11.Code, elP k_api_Method p9 x11, slP k_api_Value v_m_0_Globals m_0.Globals, slP k_api_Value v_m_0_Pool m_0.Pool, slP k_api_Method v_m_0_Methods m_0.Methods, arrP k_arr199 1 tab1] [arrK k_types_Row z.2.2 [v_m_0_Globals, v_m_0_Pool, v_m_0_Methods, .int .i64 m_0.Migrate, v12, v14, .int .u8 x11.Result, .bool x11.Reads, .int .i64 x11.Fuel, .int .i64 x11.Stack, .int .i64 x11.Heap, v16, z.2.1] 200 (List.replicate 200 types_Row.zero : List types_Row) [] 131, slO (kInt .u8) 5 z.2.1 t1828, slO (kSl (kInt .u8)) 26 z.1 [x11.Args, x11.Locals], boxO b18 [v12, v14, .int .u8 x11.Result, .bool x11.Reads, .int .i64 x11.Fuel, .int .i64 x11.Stack, .int .i64 x11.Heap, v16] 43, boxO b4 [v_m_0_Globals, v_m_0_Pool, v_m_0_Methods, .int .i64 m_0.Migrate] 25] w2) 2 #[true, true, true, true, true, true, true, true, true, true, false, false] (fun z => ?_) (fun J2868 => ?_)
  ·obtain ⟨v1430, v1630, b2030⟩ := z
   refine DT.one 10 rfl (by kernel_rfl) rfl ?_
   refine al fun b2230 => ?_
   refine QE.atT (fun w2 hw => (St.selO [4, 5] rfl rfl hw)) ?_
   refine DT.list (l2 := #[true, true, true, true, true, true, true, true, true, true, true, false]) (by kernel_rfl) ?_
   exact DT.weak (by exact ⟨rfl, rfl, rfl, trivial⟩) (by exact fun w2 hw => hw) (J2746 (v1430, v1630, b2030, b2230))
  refine DT.cut (ι := Value × Value × Nat) (fun z => [(6, .pointer (some ⟨b18, 0, none⟩)), (8, .pointer (some ⟨z.2.2, 0, none⟩)), (41, .agg (([v_m_0_Globals, v_m_0_Pool, v_m_0_Methods, .int .i64 m_0.Migrate, v12, v14, .int .u8 x11.Result, .bool x11.Reads, .int .i64 x11.Fuel, .int .i64 x11.Stack, .int .i64 x11.Heap, v16, z.2.1] ++ zz200_2384)).toArray)]) (fun z w2 => St w em hV [slP (kInt .u8) v12 x11.Args, slP (kInt .u8) v14 x11.Locals, slP k_api_Instr v16 x11.Code, elP k_api_Method p9 x11, slP k_api_Value v_m_0_Globals m_0.Globals, slP k_api_Value v_m_0_Pool m_0.Pool, slP k_api_Method v_m_0_Methods m_0.Methods, arrP k_arr199 1 tab1] [boxO z.2.2 [.pointer none] 125, slO (kInt .u8) 5 z.2.1 t1828, slO (kSl (kInt .u8)) 26 z.1 [x11.Args, x11.Locals], boxO b18 [v12, v14, .int .u8 x11.Result, .bool x11.Reads, .int .i64 x11.Fuel, .int .i64 x11.Stack, .int .i64 x11.Heap, v16] 43, boxO b4 [v_m_0_Globals, v_m_0_Pool, v_m_0_Methods, .int .i64 m_0.Migrate] 25] w2) 2 #[true, true, true, true, true, true, true, true, true, false, true, false] (fun z => ?_) (fun J2869 => ?_)
  ·obtain ⟨v1430, v1630, b2230⟩ := z
   refine DT.one 9 rfl (by kernel_rfl) rfl ?_
   refine SP.box rfl rfl rfl rfl fun b2030 => ?_
   refine SP.imp (fun w2 hw => St.arrK (k := k_types_Row) 0 rfl (List.replicate 200 types_Row.zero : List types_Row) [v_m_0_Globals, v_m_0_Pool, v_m_0_Methods, .int .i64 m_0.Migrate, v12, v14, .int .u8 x11.Result, .bool x11.Reads, .int .i64 x11.Fuel, .int .i64 x11.Stack, .int .i64 x11.Heap, v16, v1630] zz200_2384 [] (Flat.rep (k := k_types_Row) (z := [.bool false, (.slice none 0 0)]) (x := types_Row.zero) ⟨_, rfl, slP.nil _ _⟩ 200) (congrArg _ (List.append_nil _).symm) List.length_replicate hw) (gg ?_)
   refine QE.atT (fun w2 hw => (St.selO [4, 5] rfl rfl hw)) ?_
   refine DT.list (l2 := #[true, true, true, true, true, true, true, true, true, true, true, false]) (by kernel_rfl) ?_
   exact DT.weak (by exact ⟨rfl, rfl, rfl, trivial⟩) (by exact fun w2 hw => (St.selO [1, 0, 2, 3, 4, 5] rfl rfl hw)) (J2746 (v1430, v1630, b2030, b2230))
  refine DT.cut (ι := Value × Value) (fun z => [(6, .pointer (some ⟨b18, 0, none⟩)), (41, .agg (([v_m_0_Globals, v_m_0_Pool, v_m_0_Methods, .int .i64 m_0.Migrate, v12, v14, .int .u8 x11.Result, .bool x11.Reads, .int .i64 x11.Fuel, .int .i64 x11.Stack, .int .i64 x11.Heap, v16, z.2] ++ zz200_2384)).toArray)]) (fun z w2 => St w em hV [slP (kInt .u8) v12 x11.Args, slP (kInt .u8) v14 x11.Locals, slP k_api_Instr v16 x11.Code, elP k_api_Method p9 x11, slP k_api_Value v_m_0_Globals m_0.Globals, slP k_api_Value v_m_0_Pool m_0.Pool, slP k_api_Method v_m_0_Methods m_0.Methods, arrP k_arr199 1 tab1] [slO (kInt .u8) 5 z.2 t1828, slO (kSl (kInt .u8)) 26 z.1 [x11.Args, x11.Locals], boxO b18 [v12, v14, .int .u8 x11.Result, .bool x11.Reads, .int .i64 x11.Fuel, .int .i64 x11.Stack, .int .i64 x11.Heap, v16] 43, boxO b4 [v_m_0_Globals, v_m_0_Pool, v_m_0_Methods, .int .i64 m_0.Migrate] 25] w2) 3 #[true, true, true, true, true, true, true, true, true, false, false, false] (fun z => ?_) (fun J2870 => ?_)
  ·obtain ⟨v1430, v1630⟩ := z
   refine DT.any 9 [10] (by kernel_rfl) ⟨⟨_, rfl, rfl, ?_⟩, ⟨_, rfl, rfl, ?_⟩, trivial⟩
   ·refine SP.box rfl rfl rfl rfl fun b2030 => ?_
    refine SP.imp (fun w2 hw => St.arrK (k := k_types_Row) 0 rfl (List.replicate 200 types_Row.zero : List types_Row) [v_m_0_Globals, v_m_0_Pool, v_m_0_Methods, .int .i64 m_0.Migrate, v12, v14, .int .u8 x11.Result, .bool x11.Reads, .int .i64 x11.Fuel, .int .i64 x11.Stack, .int .i64 x11.Heap, v16, v1630] zz200_2384 [] (Flat.rep (k := k_types_Row) (z := [.bool false, (.slice none 0 0)]) (x := types_Row.zero) ⟨_, rfl, slP.nil _ _⟩ 200) (congrArg _ (List.append_nil _).symm) List.length_replicate hw) (gg ?_)
    refine QE.atT (fun w2 hw => (St.selO [3, 4] rfl rfl hw)) ?_
    refine DT.list (l2 := #[true, true, true, true, true, true, true, true, true, true, false, false]) (by kernel_rfl) ?_
    exact DT.weak (by exact ⟨rfl, rfl, trivial⟩) (by exact fun w2 hw => hw) (J2868 (v1430, v1630, b2030))
   refine al fun b2230 => ?_
   refine QE.atT (fun w2 hw => (St.selO [3, 4] rfl rfl hw)) ?_
   refine DT.list (l2 := #[true, true, true, true, true, true, true, true, true, false, true, false]) (by kernel_rfl) ?_
   exact DT.weak (by exact ⟨rfl, rfl, rfl, trivial⟩) (by exact fun w2 hw => hw) (J2869 (v1430, v1630, b2230))
  refine DT.cut (ι := Value × Value × Nat) (fun z => [(6, .pointer (some ⟨b18, 0, none⟩)), (8, .pointer (some ⟨z.2.2, 0, none⟩)), (33, .agg #[v_m_0_Globals, v_m_0_Pool, v_m_0_Methods, .int .i64 m_0.Migrate]), (34, .agg #[v12, v14, .int .u8 x11.Result, .bool x11.Reads, .int .i64 x11.Fuel, .int .i64 x11.Stack, .int .i64 x11.Heap, v16]), (40, z.2.1)]) (fun z w2 => St w em hV [slP (kInt .u8) v12 x11.Args, slP (kInt .u8) v14 x11.Locals, slP k_api_Instr v16 x11.Code, elP k_api_Method p9 x11, slP k_api_Value v_m_0_Globals m_0.Globals, slP k_api_Value v_m_0_Pool m_0.Pool, slP k_api_Method v_m_0_Methods m_0.Methods, arrP k_arr199 1 tab1] [boxO z.2.2 [.pointer none] 125, slO (kInt .u8) 5 z.2.1 t1828, slO (kSl (kInt .u8)) 26 z.1 [x11.Args, x11.Locals], boxO b18 [v12, v14, .int .u8 x11.Result, .bool x11.Reads, .int .i64 x11.Fuel, .int .i64 x11.Stack, .int .i64 x11.Heap, v16] 43, boxO b4 [v_m_0_Globals, v_m_0_Pool, v_m_0_Methods, .int .i64 m_0.Migrate] 25] w2) 3 #[true, true, true, true, true, true, true, true, false, false, true, false] (fun z => ?_) (fun J2875 => ?_)
  ·obtain ⟨v1430, v1630, b2230⟩ := z
   refine DT.one 8 rfl (by kernel_rfl) rfl ?_
   refine sh 1 fun hs_v1630 => ?_
   refine bd ([v_m_0_Globals, v_m_0_Pool, v_m_0_Methods, .int .i64 m_0.Migrate, v12, v14, .int .u8 x11.Result, .bool x11.Reads, .int .i64 x11.Fuel, .int .i64 x11.Stack, .int .i64 x11.Heap, v16, v1630] ++ zz200_2384) ?_
   refine QE.atT (fun w2 hw => (St.selO [3, 4] rfl rfl hw)) ?_
   refine DT.list (l2 := #[true, true, true, true, true, true, true, true, true, false, true, false]) (by kernel_rfl) ?_
   exact DT.weak (by exact ⟨rfl, rfl, rfl, trivial⟩) (by exact fun w2 hw => hw) (J2869 (v1430, v1630, b2230))
  refine DT.cut (ι := Value × Value) (fun z => [(6, .pointer (some ⟨b18, 0, none⟩)), (33, .agg #[v_m_0_Globals, v_m_0_Pool, v_m_0_Methods, .int .i64 m_0.Migrate]), (34, .agg #[v12, v14, .int .u8 x11.Result, .bool x11.Reads, .int .i64 x11.Fuel, .int .i64 x11.Stack, .int .i64 x11.Heap, v16]), (40, z.2)]) (fun z w2 => St w em hV [slP (kInt .u8) v12 x11.Args, slP (kInt .u8) v14 x11.Locals, slP k_api_Instr v16 x11.Code, elP k_api_Method p9 x11, slP k_api_Value v_m_0_Globals m_0.Globals, slP k_api_Value v_m_0_Pool m_0.Pool, slP k_api_Method v_m_0_Methods m_0.Methods, arrP k_arr199 1 tab1] [slO (kInt .u8) 5 z.2 t1828, slO (kSl (kInt .u8)) 26 z.1 [x11.Args, x11.Locals], boxO b18 [v12, v14, .int .u8 x11.Result, .bool x11.Reads, .int .i64 x11.Fuel, .int .i64 x11.Stack, .int .i64 x11.Heap, v16] 43, boxO b4 [v_m_0_Globals, v_m_0_Pool, v_m_0_Methods, .int .i64 m_0.Migrate] 25] w2) 4 #[true, true, true, true, true, true, true, true, false, false, false, false] (fun z => ?_) (fun J2878 => ?_)
  ·obtain ⟨v1430, v1630⟩ := z
   refine DT.any 8 [10] (by kernel_rfl) ⟨⟨_, rfl, rfl, ?_⟩, ⟨_, rfl, rfl, ?_⟩, trivial⟩
   ·refine sh 0 fun hs_v1630 => ?_
    refine bd ([v_m_0_Globals, v_m_0_Pool, v_m_0_Methods, .int .i64 m_0.Migrate, v12, v14, .int .u8 x11.Result, .bool x11.Reads, .int .i64 x11.Fuel, .int .i64 x11.Stack, .int .i64 x11.Heap, v16, v1630] ++ zz200_2384) ?_
    refine QE.atT (fun w2 hw => (St.selO [2, 3] rfl rfl hw)) ?_
    refine DT.list (l2 := #[true, true, true, true, true, true, true, true, true, false, false, false]) (by kernel_rfl) ?_
    exact DT.weak (by exact ⟨rfl, rfl, trivial⟩) (by exact fun w2 hw => hw) (J2870 (v1430, v1630))
   refine al fun b2230 => ?_
   refine QE.atT (fun w2 hw => (St.selO [3, 4] rfl rfl hw)) ?_
   refine DT.list (l2 := #[true, true, true, true, true, true, true, true, false, false, true, false]) (by kernel_rfl) ?_
   exact DT.weak (by exact ⟨rfl, rfl, rfl, rfl, rfl, trivial⟩) (by exact fun w2 hw => hw) (J2875 (v1430, v1630, b2230))
  refine DT.cut (ι := Value × Nat) (fun z => [(6, .pointer (some ⟨b18, 0, none⟩)), (8, .pointer (some ⟨z.2, 0, none⟩)), (33, .agg #[v_m_0_Globals, v_m_0_Pool, v_m_0_Methods, .int .i64 m_0.Migrate]), (34, .agg #[v12, v14, .int .u8 x11.Result, .bool x11.Reads, .int .i64 x11.Fuel, .int .i64 x11.Stack, .int .i64 x11.Heap, v16]), (39, z.1)]) (fun z w2 => St w em hV [slP (kInt .u8) v12 x11.Args, slP (kInt .u8) v14 x11.Locals, slP k_api_Instr v16 x11.Code, elP k_api_Method p9 x11, slP k_api_Value v_m_0_Globals m_0.Globals, slP k_api_Value v_m_0_Pool m_0.Pool, slP k_api_Method v_m_0_Methods m_0.Methods, arrP k_arr199 1 tab1] [boxO z.2 [.pointer none] 125, slO (kSl (kInt .u8)) 26 z.1 [x11.Args, x11.Locals], boxO b18 [v12, v14, .int .u8 x11.Result, .bool x11.Reads, .int .i64 x11.Fuel, .int .i64 x11.Stack, .int .i64 x11.Heap, v16] 43, boxO b4 [v_m_0_Globals, v_m_0_Pool, v_m_0_Methods, .int .i64 m_0.Migrate] 25] w2) 4 #[true, true, true, true, true, true, true, false, false, false, true, false] (fun z => ?_) (fun J2883 => ?_)
  ·obtain ⟨v1430, b2230⟩ := z
   refine DT.one 7 rfl (by kernel_rfl) rfl ?_
   refine SP.callKO see (caps := []) _ fn77.h rfl rfl rfl rfl (fun w2 hs => slices_Concat_uint8_uint8.ok (slices_0 := [x11.Args, x11.Locals]) _ hc_t1828 w2 (hp w2) (Sub.refl _) (aS (slO.read (St.own 1 rfl see.sub see.dj hs) (Sub.refl _) (Sub.refl _)) (All.nil _))) (fun v a a2 b ⟨v1630, e, h⟩ => ⟨v1630, e, (Sep.fcons (fun _ => slO.flip (fun _ _ _ _ h => h)) (fun _ => Sep.fnil)) h⟩) (SP.k1 fun v1630 => gg ?_)
   refine QE.atT (fun w2 hw => (St.selO [3, 4] rfl rfl hw)) ?_
   refine DT.list (l2 := #[true, true, true, true, true, true, true, true, false, false, true, false]) (by kernel_rfl) ?_
   exact DT.weak (by exact ⟨rfl, rfl, rfl, rfl, rfl, trivial⟩) (by exact fun w2 hw => (St.selO [1, 0, 2, 3, 4] rfl rfl hw)) (J2875 (v1430, v1630, b2230))
  refine DT.cut (ι := Value) (fun z => [(6, .pointer (some ⟨b18, 0, none⟩)), (33, .agg #[v_m_0_Globals, v_m_0_Pool, v_m_0_Methods, .int .i64 m_0.Migrate]), (34, .agg #[v12, v14, .int .u8 x11.Result, .bool x11.Reads, .int .i64 x11.Fuel, .int .i64 x11.Stack, .int .i64 x11.Heap, v16]), (39, z)]) (fun z w2 => St w em hV [slP (kInt .u8) v12 x11.Args, slP (kInt .u8) v14 x11.Locals, slP k_api_Instr v16 x11.Code, elP k_api_Method p9 x11, slP k_api_Value v_m_0_Globals m_0.Globals, slP k_api_Value v_m_0_Pool m_0.Pool, slP k_api_Method v_m_0_Methods m_0.Methods, arrP k_arr199 1 tab1] [slO (kSl (kInt .u8)) 26 z [x11.Args, x11.Locals], boxO b18 [v12, v14, .int .u8 x11.Result, .bool x11.Reads, .int .i64 x11.Fuel, .int .i64 x11.Stack, .int .i64 x11.Heap, v16] 43, boxO b4 [v_m_0_Globals, v_m_0_Pool, v_m_0_Methods, .int .i64 m_0.Migrate] 25] w2) 5 #[true, true, true, true, true, true, true, false, false, false, false, false] (fun z => ?_) (fun J2884 => ?_)
  ·rename Value => v1430
   refine DT.any 7 [10] (by kernel_rfl) ⟨⟨_, rfl, rfl, ?_⟩, ⟨_, rfl, rfl, ?_⟩, trivial⟩
   ·refine SP.callKO see (caps := []) _ fn77.h rfl rfl rfl rfl (fun w2 hs => slices_Concat_uint8_uint8.ok (slices_0 := [x11.Args, x11.Locals]) _ hc_t1828 w2 (hp w2) (Sub.refl _) (aS (slO.read (St.own 0 rfl see.sub see.dj hs) (Sub.refl _) (Sub.refl _)) (All.nil _))) (fun v a a2 b ⟨v1630, e, h⟩ => ⟨v1630, e, (Sep.fcons (fun _ => slO.flip (fun _ _ _ _ h => h)) (fun _ => Sep.fnil)) h⟩) (SP.k1 fun v1630 => gg ?_)
    refine QE.atT (fun w2 hw => (St.selO [2, 3] rfl rfl hw)) ?_
    refine DT.list (l2 := #[true, true, true, true, true, true, true, true, false, false, false, false]) (by kernel_rfl) ?_
    exact DT.weak (by exact ⟨rfl, rfl, rfl, rfl, trivial⟩) (by exact fun w2 hw => hw) (J2878 (v1430, v1630))
   refine al fun b2230 => ?_
   refine QE.atT (fun w2 hw => (St.selO [2, 3] rfl rfl hw)) ?_
   refine DT.list (l2 := #[true, true, true, true, true, true, true, false, false, false, true, false]) (by kernel_rfl) ?_
   exact DT.weak (by exact ⟨rfl, rfl, rfl, rfl, rfl, trivial⟩) (by exact fun w2 hw => hw) (J2883 (v1430, b2230))
  refine DT.cut (ι := Nat) (fun z => [(6, .pointer (some ⟨b18, 0, none⟩)), (8, .pointer (some ⟨z, 0, none⟩)), (33, .agg #[v_m_0_Globals, v_m_0_Pool, v_m_0_Methods, .int .i64 m_0.Migrate]), (34, .agg #[v12, v14, .int .u8 x11.Result, .bool x11.Reads, .int .i64 x11.Fuel, .int .i64 x11.Stack, .int .i64 x11.Heap, v16]), (36, v12), (38, v14)]) (fun z w2 => St w em hV [slP (kInt .u8) v12 x11.Args, slP (kInt .u8) v14 x11.Locals, slP k_api_Instr v16 x11.Code, elP k_api_Method p9 x11, slP k_api_Value v_m_0_Globals m_0.Globals, slP k_api_Value v_m_0_Pool m_0.Pool, slP k_api_Method v_m_0_Methods m_0.Methods, arrP k_arr199 1 tab1] [boxO z [.pointer none] 125, boxO b18 [v12, v14, .int .u8 x11.Result, .bool x11.Reads, .int .i64 x11.Fuel, .int .i64 x11.Stack, .int .i64 x11.Heap, v16] 43, boxO b4 [v_m_0_Globals, v_m_0_Pool, v_m_0_Methods, .int .i64 m_0.Migrate] 25] w2) 5 #[true, true, true, true, true, true, false, false, false, false, true, false] (fun z => ?_) (fun J2888 => ?_)
  ·rename Nat => b2230
   refine DT.one 6 rfl (by kernel_rfl) rfl ?_
   refine SP.litS (k := (kSl (kInt .u8))) (xs := [x11.Args, x11.Locals]) (vs := [v12, v14]) Tryz.underlying182 inf26.h rfl rfl rfl rfl rfl rfl (fun _ ap => ⟨slR.cells1 (ap.get 0 rfl), slR.cells1 (ap.get 1 rfl), trivial⟩) (fun _ ap => ⟨[v12], _, rfl, ⟨_, rfl, ap.get 0 rfl⟩, ⟨[v14], _, rfl, ⟨_, rfl, ap.get 1 rfl⟩, rfl⟩⟩) rfl rfl rfl (fun v1430 => gg ?_)
   refine QE.atT (fun w2 hw => (St.selO [2, 3] rfl rfl hw)) ?_
   refine DT.list (l2 := #[true, true, true, true, true, true, true, false, false, false, true, false]) (by kernel_rfl) ?_
   exact DT.weak (by exact ⟨rfl, rfl, rfl, rfl, rfl, trivial⟩) (by exact fun w2 hw => (St.selO [1, 0, 2, 3] rfl rfl hw)) (J2883 (v1430, b2230))
  refine DT.any 6 [10] (by kernel_rfl) ⟨⟨_, rfl, rfl, ?_⟩, ⟨_, rfl, rfl, ?_⟩, trivial⟩
  ·refine SP.litS (k := (kSl (kInt .u8))) (xs := [x11.Args, x11.Locals]) (vs := [v12, v14]) Tryz.underlying182 inf26.h rfl rfl rfl rfl rfl rfl (fun _ ap => ⟨slR.cells1 (ap.get 0 rfl), slR.cells1 (ap.get 1 rfl), trivial⟩) (fun _ ap => ⟨[v12], _, rfl, ⟨_, rfl, ap.get 0 rfl⟩, ⟨[v14], _, rfl, ⟨_, rfl, ap.get 1 rfl⟩, rfl⟩⟩) rfl rfl rfl (fun v1430 => gg ?_)
   refine QE.atT (fun w2 hw => (St.selO [1, 2] rfl rfl hw)) ?_
   refine DT.list (l2 := #[true, true, true, true, true, true, true, false, false, false, false, false]) (by kernel_rfl) ?_
   exact DT.weak (by exact ⟨rfl, rfl, rfl, rfl, trivial⟩) (by exact fun w2 hw => hw) (J2884 v1430)
  refine al fun b2230 => ?_
  refine QE.atT (fun w2 hw => (St.selO [1, 2] rfl rfl hw)) ?_
  refine DT.list (l2 := #[true, true, true, true, true, true, false, false, false, false, true, false]) (by kernel_rfl) ?_
  exact DT.weak (by exact ⟨rfl, rfl, rfl, rfl, rfl, rfl, trivial⟩) (by exact fun w2 hw => hw) (J2888 b2230)
 refine SP.bb 15 (fun hq7 => ?_) fun hq7 => ?_
 ·refine gg ?_
  exact QE.jb (or_t hq7) fun w2 hw => hw
 refine gg ?_
 exact QE.jb (or_f hq7 rfl) fun w2 hw => hw
def types_Check.f (m_0 : api_Module) (k_1 : Int) : Option Int :=
  (types_Rows.f m_0 k_1).bind fun t6 => some t6.2
theorem types_Check.ok {m_0 k_1 v_m_0_Globals v_m_0_Pool v_m_0_Methods} (r) (ho : types_Check.f m_0 k_1 = some r) : Ok Tryz.prog 24 [.agg #[v_m_0_Globals, v_m_0_Pool, v_m_0_Methods, .int .i64 m_0.Migrate], .int .i64 k_1] [slP k_api_Value v_m_0_Globals m_0.Globals, slP k_api_Value v_m_0_Pool m_0.Pool, slP k_api_Method v_m_0_Methods m_0.Methods, arrP k_arr199 1 tab1] fun v => HO.pure (v = .int .i64 r) := by
 refine oq 14 Tryz.func24 fun w hV see pb => ?_
 refine SP.box rfl rfl rfl rfl fun b4 => gg ?_
 refine k1 types_Rows.ok ho fun t6 ho v7 => ?_
 exact Option.some.inj ho ▸ rt
inductive verify_first.S where
  | start
  | l1 (x8 : Int)
def verify_first.F (m_0 : api_Module) : verify_first.S → Option (verify_first.S ⊕ (Int × Int))
  | .start => some (.inl (.l1 0))
  | .l1 x8 => if x8 < (m_0.Methods.length : Int) then ((types_Check.f m_0 x8).bind fun t10 => if t10 ≠ 0 then (some (.inr (x8, t10))) else (some (.inl (.l1 (IntKind.i64.wrap (x8 + 1)))))) else (some (.inr ((-1), 0)))
def verify_first.f (m_0 : api_Module) : Option (Int × Int) := runF (verify_first.F m_0) .start
theorem verify_first.ok {m_0 v_m_0_Globals v_m_0_Pool v_m_0_Methods} (r) (H : verify_first.f m_0 = some r) : Ok Tryz.prog 22 [.agg #[v_m_0_Globals, v_m_0_Pool, v_m_0_Methods, .int .i64 m_0.Migrate]] [slP k_api_Value v_m_0_Globals m_0.Globals, slP k_api_Value v_m_0_Pool m_0.Pool, slP k_api_Method v_m_0_Methods m_0.Methods, arrP k_arr199 1 tab1] fun v => HO.pure (v = .tuple #[.int .i64 r.1, .int .i64 r.2]) := by
 refine oq 20 Tryz.func22 fun w hV see pb => ?_
 obtain ⟨m0, o, ho, hr⟩ := rn H
 refine SP.box rfl rfl rfl rfl fun b4 => gg ?_
 refine lo ho hr (fun z => ∃ x8, z (.l1 x8) [(1, .pointer (some ⟨b4, 0, none⟩)), (8, .int .i64 (m_0.Methods.length : Int)), (9, .int .i64 x8)] [boxO b4 [v_m_0_Globals, v_m_0_Pool, v_m_0_Methods, .int .i64 m_0.Migrate] 25]) (fun _ z => ⟨0, z⟩) ?_
 rintro _ _ _ ⟨x8, m9, o, _, _, ho, hr, h⟩
 refine en h ?_
 refine ci ho (fun ho => ?_) fun ho => ?_
 ·refine kv types_Check.ok ho fun t10 ho => ?_
  refine ci ho (fun ho => ?_) fun ho => ?_
  ·exact fin ho hr ▸ rt
  exact lw ho hr (fun _ z => ⟨(IntKind.i64.wrap (x8 + 1)), z⟩)
 exact fin ho hr ▸ rt
def verify_kinds.f (m_0 : api_Module) : Option Int :=
  (verify_first.f m_0).bind fun t6 => some t6.2
theorem verify_kinds.ok {m_0 v_m_0_Globals v_m_0_Pool v_m_0_Methods} (r) (ho : verify_kinds.f m_0 = some r) : Ok Tryz.prog 67 [.agg #[v_m_0_Globals, v_m_0_Pool, v_m_0_Methods, .int .i64 m_0.Migrate]] [slP k_api_Value v_m_0_Globals m_0.Globals, slP k_api_Value v_m_0_Pool m_0.Pool, slP k_api_Method v_m_0_Methods m_0.Methods, arrP k_arr199 1 tab1] fun v => HO.pure (v = .int .i64 r) := by
 refine oq 11 Tryz.func67 fun w hV see pb => ?_
 refine SP.box rfl rfl rfl rfl fun b4 => gg ?_
 refine kv verify_first.ok ho fun t6 ho => ?_
 exact Option.some.inj ho ▸ rt
def calls_named.f (m_0 : api_Module) (k_1 : Int) : Option Unit :=
  some ()
theorem calls_named.ok {m_0 k_1 v_m_0_Globals v_m_0_Pool v_m_0_Methods} (r) (ho : calls_named.f m_0 k_1 = some r) : Ok Tryz.prog 113 [.agg #[v_m_0_Globals, v_m_0_Pool, v_m_0_Methods, .int .i64 m_0.Migrate], .int .i64 k_1] [slP k_api_Value v_m_0_Globals m_0.Globals, slP k_api_Value v_m_0_Pool m_0.Pool, slP k_api_Method v_m_0_Methods m_0.Methods] fun v => HO.ex fun b0_ : Nat => HO.ex fun b1_ : Nat => HO.pand (v = .func (.func 140) #[] #[.pointer (some ⟨b0_, 0, none⟩), .pointer (some ⟨b1_, 0, none⟩)]) (HO.seps [HO.ofP (boxP b0_ [v_m_0_Globals, v_m_0_Pool, v_m_0_Methods, .int .i64 m_0.Migrate] 25), HO.ofP (boxP b1_ [.int .i64 k_1] 3)]) := by
 refine oq 6 Tryz.func113 fun w hV see pb => ?_
 refine SP.box rfl rfl rfl rfl fun b4 => ?_
 refine SP.box rfl rfl rfl rfl fun b6 => gg ?_
 refine SP.val (Val.makeFunc (us := []) (vs := [.pointer (some ⟨b4, 0, none⟩), .pointer (some ⟨b6, 0, none⟩)]) rfl rfl) rfl rfl rfl (gg ?_)
 refine QE.freezeB see 1 rfl ?_
 refine QE.freezeB see 0 rfl ?_
 exact QE.rt (fun _ h => h) (hk := fun a b p s => ⟨_, _, rfl, ⟨em, em, Dj.em_left _, Sub.em _, Sub.em _, p.get 1 rfl, ⟨em, em, Dj.em_left _, Sub.em _, Sub.em _, p.get 0 rfl, trivial⟩⟩⟩)
inductive calls_named_1_s1.S (S_ : Type) where
  | start
  | l1 (x15 : api_Method) (s30 : S_) (x31 : Int)
def calls_named_1_s1.F {S_ : Type} (Y : S_ → Int → Option (S_ × Bool)) (y0 : S_) (c0_1 c0_3 : List api_Value) (c0_5 : List api_Method) (c0_7 c1_10 : Int) : calls_named_1_s1.S S_ → Option (calls_named_1_s1.S S_ ⊕ S_)
  | .start => (elt c0_5 c1_10).bind fun x15 => some (.inl (.l1 x15 y0 0))
  | .l1 x15 s30 x31 => if x31 < (x15.Code.length : Int) then ((elt x15.Code x31).bind fun x35 => (if x35.Op = 30 then ((Y s30 x35.A).bind fun y40 => some (!y40.2, y40.1)) else (some (false, s30))).bind fun t41 => if t41.1 = true then (some (.inr t41.2)) else (some (.inl (.l1 x15 t41.2 (IntKind.i64.wrap (x31 + 1)))))) else (some (.inr s30))
def calls_named_1_s1.f {S_ : Type} (Y : S_ → Int → Option (S_ × Bool)) (y0 : S_) (c0_1 c0_3 : List api_Value) (c0_5 : List api_Method) (c0_7 c1_10 : Int) : Option S_ := runF (calls_named_1_s1.F Y y0 c0_1 c0_3 c0_5 c0_7 c1_10) .start
theorem calls_named_1_s1.ok {S_ : Type} (Y : S_ → Int → Option (S_ × Bool)) (y0 : S_) (c0_1 c0_3 : List api_Value) (c0_5 : List api_Method) (c0_7 c1_10 : Int) (v_c0_1 v_c0_3 v_c0_5 : Value) (b8 b11 : Nat) (r : S_) (H : calls_named_1_s1.f Y y0 c0_1 c0_3 c0_5 c0_7 c1_10 = some r) (w : World) (hV : Hp) (sV : Sub hV (hp w)) (h0 : slR k_api_Value hV v_c0_1 c0_1) (h1 : slR k_api_Value hV v_c0_3 c0_3) (h2 : slR k_api_Method hV v_c0_5 c0_5) (h3 : (boxP b8 [v_c0_1, v_c0_3, v_c0_5, .int .i64 c0_7] 25).p hV) (h4 : (boxP b11 [.int .i64 c1_10] 3).p hV) (lY : Nat) (I : S_ → HO) (hA : Hp) (sA : Sub hA (hp w)) (dA : Dj hV hA) (hI : (I y0).p hV hA) (hY : Go.Q.Yields Tryz.prog lY hV Y I (E1 (kInt .i64) false)) :
    Trip Tryz.prog 140 [.func (.yield lY) #[] #[], .pointer (some ⟨b8, 0, none⟩), .pointer (some ⟨b11, 0, none⟩)].toArray hA hV w (fun v => HO.pand (v = .tuple #[]) (HO.seps [I r])) := by
 have see : Sees w hA hV := ⟨sV, dA⟩
 refine Trip.of (P := Tryz.prog) (n := ⟨28, []⟩) Tryz.func140 rfl ⟨rfl, rfl⟩ rfl (St.beginA (os := [I y0]) sA (aS h0 (aS h1 (aS h2 (All.cons (x := boxP b8 [v_c0_1, v_c0_3, v_c0_5, .int .i64 c0_7] 25) h3 (All.cons (x := boxP b11 [.int .i64 c1_10] 3) h4 (All.nil _)))))) ⟨hA, em, Dj.em_right _, Sub.refl _, Sub.em _, hI, trivial⟩) ?_
 obtain ⟨m0, o, ho, hr⟩ := rn H
 refine CP.seq ?_
 refine CP.region ?_
 refine SP.val (Val.fieldAddr Tryz.underlying25 rfl sz23.h rfl) rfl rfl rfl ?_
 refine SP.val (Val.loadB1 see 3 rfl Tryz.underlying23 rfl rfl rfl) rfl rfl rfl ?_
 refine SP.val (Val.loadB1 see 4 rfl Tryz.underlying3 rfl rfl rfl) rfl rfl rfl ?_
 obtain ⟨x15, hx, ho⟩ := elt_bind ho
 refine SP.indexP see 2 rfl Tryz.underlying23 sz43.h hx.1 hx.2 rfl rfl rfl rfl (fun p13 => ?_)
 clear hx
 refine SP.fieldP see 0 rfl Tryz.underlying43 rfl sz41.h k_api_Method.part_Code rfl rfl rfl (fun p16 => ?_)
 refine SP.loadPS see 0 rfl Tryz.underlying41 rfl rfl rfl (fun v18 => gg ?_)
 refine lo ho hr (fun z => ∃ s30 x31, z (.l1 x15 s30 x31) [(0, .func (.yield lY) #[] #[]), (11, v18), (12, .int .i64 (x15.Code.length : Int)), (13, .int .i64 x31)] [I s30]) (fun _ z => ⟨y0, 0, z⟩) ?_ (hb := pe [slP k_api_Instr v18 x15.Code])
 rintro _ _ _ ⟨s30, x31, m32, o, _, _, ho, hr, h⟩
 refine en h ?_
 refine ci ho (fun ho => ?_) fun ho => ?_
 ·obtain ⟨x35, hx, ho⟩ := elt_bind ho
  refine SP.indexP see 0 rfl Tryz.underlying41 sz57.h hx.1 hx.2 rfl rfl rfl rfl (fun p33 => ?_)
  clear hx
  refine k_api_Instr.load see 0 rfl Tryz.underlying57 rfl sz57.h rfl rfl rfl ?_
  refine al fun b36 => ?_
  refine st 0 ?_
  obtain ⟨t41, hg_t41, ho⟩ := bind_some ho
  refine SP.js 6 [0, 11, 12, 13] 26 (.bool t41.1) (fun w2 => St w hA hV [elP k_api_Instr p33 x35, slP k_api_Instr v18 x15.Code] [boxO b36 [.int .u8 x35.Op, .int .i64 x35.A, .int .i64 x35.B] 57, I t41.2] w2) ?_ ?_
  ·clear hg_t41
   refine gg ?_
   refine cb ho (fun ho => ?_) fun ho => ?_
   ·exact fin ho hr ▸ rt (sO [1])
   exact lw ho hr (fun _ z => ⟨t41.2, (IntKind.i64.wrap (x31 + 1)), z⟩) (sO [1])
  refine SP.ci 20 hg_t41 (fun hq39 ho => ?_) fun hq39 ho => ?_
  ·refine gg ?_
   refine SP.imp (fun w2 hw => St.selO [1, 0] rfl rfl hw) ?_
   obtain ⟨y40, hc, ho⟩ := bind_some ho
   refine SP.callY see hY (t := y40.1) (b := y40.2) hc rfl rfl rfl rfl (fun hP ap => ⟨_, rfl, ⟨_, rfl, rfl⟩⟩) ?_
   clear hc
   refine gg ?_
   obtain rfl := Option.some.inj ho
   exact QE.jn fun w2 hw => (St.selO [1, 0] rfl rfl hw)
  refine gg ?_
  obtain rfl := Option.some.inj ho
  exact QE.jn fun w2 hw => hw
 obtain rfl := fin ho hr
 exact QE.over (rs := []) (vs := []) Tryz.results140 rfl trivial (fun w2 h => St.done (fun a b p s => ⟨rfl, s⟩) (St.selO [0] rfl rfl h))
def calls_Whom.y1 (m_0 : api_Module) (k_1 : Int) (l39 : List Int) (x41 x42 : Int) : Option ((((List Int) × Int) × Bool) × Bool) :=
  if ((decide (x42 < 0)) || (decide (x42 ≥ (m_0.Methods.length : Int)))) = true then (some (((l39, 2), true), false)) else (if (l39.length + [x42].length) * 8 ≤ 140737488355328 then (some (((l39 ++ [x42], x41), false), true)) else none)
def calls_Whom.f (m_0 : api_Module) (k_1 : Int) : Option ((List Int) × Int) :=
  if ((decide (k_1 < 0)) || (decide (k_1 ≥ (m_0.Methods.length : Int)))) = true then (some ([], 2)) else ((calls_named.f m_0 k_1).bind fun t15 => (calls_named_1_s1.f (fun s x => bif s.2 then none else calls_Whom.y1 m_0 k_1 s.1.1 s.1.2 x) (([], 0), false) m_0.Globals m_0.Pool m_0.Methods m_0.Migrate k_1).bind fun s55 => match s55 with | ((l39, x41), lf57) => if lf57 = true then (some ([], x41)) else (if l39.length < 4611686018427387904 then (if (l39.mergeSort fun x y => decide (x ≤ y)).length < 4611686018427387904 then (some ((Lib.compact (l39.mergeSort fun x y => decide (x ≤ y))), 0)) else none) else none))
theorem calls_Whom.ok (m_0 : api_Module) (k_1 : Int) (v_m_0_Globals v_m_0_Pool v_m_0_Methods : Value) (r : (List Int) × Int) (H : calls_Whom.f m_0 k_1 = some r) (w : World) (hV : Hp) (sV : Sub hV (hp w)) (h0 : slR k_api_Value hV v_m_0_Globals m_0.Globals) (h1 : slR k_api_Value hV v_m_0_Pool m_0.Pool) (h2 : slR k_api_Method hV v_m_0_Methods m_0.Methods) :
    Trip Tryz.prog 71 [.agg #[v_m_0_Globals, v_m_0_Pool, v_m_0_Methods, .int .i64 m_0.Migrate], .int .i64 k_1].toArray em hV w (fun v => HO.ex fun u0 : Value => HO.pand (v = .tuple #[u0, .int .i64 r.2]) (HO.seps [slO (kInt .i64) 3 u0 r.1])) := by
 have see : Sees w em hV := ⟨sV, Dj.em_right _⟩
 refine Trip.ofM (P := Tryz.prog) (n := ⟨38, []⟩) Tryz.func71 rfl ⟨rfl, rfl⟩ rfl (St.begin (aS h0 (aS h1 (aS h2 (All.nil _))))) ?_
 have ho := H
 refine gg ?_
 refine SP.box rfl rfl rfl rfl fun b4 => ?_
 refine al fun b6 => ?_
 refine al fun b8 => ?_
 refine SP.jn 6 [1, 2, 4, 5] 16 (.bool ((decide (k_1 < 0)) || (decide (k_1 ≥ (m_0.Methods.length : Int))))) ?_ ?_
 ·refine gg ?_
  refine cb ho (fun ho => ?_) fun ho => ?_
  ·refine st 1 ?_
   refine st 0 ?_
   obtain rfl := Option.some.inj ho
   exact QE.retsM 3 rfl (rs := [.cell 4 60, .cell 5 30]) (vs := [(.slice none 0 0), .int .i64 2]) Tryz.results71 ⟨RVs.cell1 1 rfl rfl Tryz.underlying60 rfl, RVs.cell1 0 rfl rfl Tryz.underlying30 rfl, trivial⟩ (fun w2 h => St.done (fun a b p s => ⟨_, rfl, s⟩) (St.selO [0] rfl rfl (St.addO (slO.nil (kInt .i64) 3) h)))
  refine al fun b13 => ?_
  obtain ⟨t15, hc, ho⟩ := bind_some ho
  refine SP.callK see (caps := []) _ fn113.h rfl rfl rfl rfl (fun w2 hP hs sub ap => calls_named.ok _ hc w2 hP sub (aS (ap.get 0 rfl) (aS (ap.get 1 rfl) (aS (ap.get 2 rfl) (All.nil _))))) (SP.k2 fun b16 b17 => ?_)
  refine SP.imp (fun w2 h => St.toP 0 rfl h) ?_
  refine SP.imp (fun w2 h => St.toP 0 rfl h) ?_
  clear hc
  refine gg ?_
  obtain ⟨s55, hc, ho⟩ := bind_some ho
  obtain ⟨⟨l39, x41⟩, lf57⟩ := s55
  refine CP.imp (A' := fun w2 => St w em hV [boxP b17 [.int .i64 k_1] 3, boxP b16 [v_m_0_Globals, v_m_0_Pool, v_m_0_Methods, .int .i64 m_0.Migrate] 25, slP k_api_Value v_m_0_Globals m_0.Globals, slP k_api_Value v_m_0_Pool m_0.Pool, slP k_api_Method v_m_0_Methods m_0.Methods] [(fun s : (List Int) × Int => (fun (l39 : List Int) (x41 : Int) => HO.ex fun v40 : Value => HO.seps [slO (kInt .i64) 3 v40 l39, boxO b13 [v40] 60, boxO b8 [.int .i64 x41] 30, boxO b6 [(.slice none 0 0)] 60, boxO b4 [v_m_0_Globals, v_m_0_Pool, v_m_0_Methods, .int .i64 m_0.Migrate] 25]) s.1 s.2) ([], 0), marksO []] w2) (fun w2 hw => St.shut (.slice none 0 0) (St.group _ (St.addO (slO.nil (kInt .i64) 3) hw))) ?_
  refine CP.rangeR see (J := fun s : (List Int) × Int => (fun (l39 : List Int) (x41 : Int) => HO.ex fun v40 : Value => HO.seps [slO (kInt .i64) 3 v40 l39, boxO b13 [v40] 60, boxO b8 [.int .i64 x41] 30, boxO b6 [(.slice none 0 0)] 60, boxO b4 [v_m_0_Globals, v_m_0_Pool, v_m_0_Methods, .int .i64 m_0.Migrate] 25]) s.1 s.2) (Y := fun s x => bif s.2 then none else calls_Whom.y1 m_0 k_1 s.1.1 s.1.2 x) (s0 := ([], 0)) (sf := (l39, x41)) (E := (E1 (kInt .i64) false)) (caps := [.pointer (some ⟨b16, 0, none⟩), .pointer (some ⟨b17, 0, none⟩)]) fn140.h rfl (σ1 := [(2, .pointer (some ⟨b4, 0, none⟩)), (4, .pointer (some ⟨b6, 0, none⟩)), (5, .pointer (some ⟨b8, 0, none⟩)), (6, .pointer (some ⟨b13, 0, none⟩))]) ⟨rfl, rfl, rfl, rfl, trivial⟩ rfl (E1.len rfl) (fun _ _ => rfl) (fun lY I w2 hP h1 sub s1 d1 ap hI hY => calls_named_1_s1.ok (fun s x => bif s.2 then none else calls_Whom.y1 m_0 k_1 s.1.1 s.1.2 x) (([], 0), false) m_0.Globals m_0.Pool m_0.Methods m_0.Migrate k_1 _ _ _ _ _ _ hc w2 hP sub (ap.get 2 rfl) (ap.get 3 rfl) (ap.get 4 rfl) (ap.get 1 rfl) (ap.get 0 rfl) lY I h1 s1 d1 hI hY) ?_ ho (fun D56 ho => ?_) (fun D56 ho => ?_)
  ·rintro lY LO hLO s_ x42 t l b vals ho w3 hP3 h3 sub3 s3 d3 ap3 hE
   obtain ⟨l39, x41⟩ := s_
   obtain ⟨q43, rfl, cs0, hk0, e0⟩ := hE
   replace e0 : [q43] = cs0 := e0
   subst e0
   obtain rfl : q43 = .int .i64 x42 := (List.cons.inj hk0).1
   have see : Sees w3 h3 hP3 := ⟨sub3, d3⟩
   refine CP.weak (σ' := [(2, .pointer (some ⟨b4, 0, none⟩)), (4, .pointer (some ⟨b6, 0, none⟩)), (5, .pointer (some ⟨b8, 0, none⟩)), (6, .pointer (some ⟨b13, 0, none⟩)), (20, .int .i64 x42)]) ⟨rfl, rfl, rfl, rfl, rfl, trivial⟩ (fun _ h => h) ?_
   refine CP.ex (fun w2 h => St.open h) (fun v40 => ?_)
   refine CP.imp (fun w2 h => St.seps h) (gg ?_)
   refine QE.beginR hLO 5 rfl (gg ?_)
   refine SP.jn 6 [4, 5, 6, 7] 29 (.bool ((decide (x42 < 0)) || (decide (x42 ≥ (m_0.Methods.length : Int))))) ?_ ?_
   ·refine gg ?_
    refine cb ho (fun ho => ?_) fun ho => ?_
    ·refine st 3 ?_
     refine st 2 ?_
     obtain ⟨h_, rfl⟩ := Prod.mk.inj (Option.some.inj ho)
     obtain ⟨rfl, rfl⟩ := Prod.mk.inj h_
     exact QE.overR hLO 5 rfl fun w2 hw => St.shut v40 (St.group _ (St.selP [] rfl hw))
    refine li (kInt .i64) [x42] fun v46 => ?_
    refine SP.freezeS see 0 rfl ?_
    refine ap 0 0 ho fun v48 ho => ?_
    refine sh 0 fun hs_v48 => ?_
    refine st 1 ?_
    obtain ⟨h_, rfl⟩ := Prod.mk.inj (Option.some.inj ho)
    obtain ⟨rfl, rfl⟩ := Prod.mk.inj h_
    exact QE.overN hLO 5 rfl fun w2 hw => St.shut v48 (St.group _ (St.selP [] rfl hw))
   refine SP.bb 23 (fun hq45 => ?_) fun hq45 => ?_
   ·refine gg ?_
    exact QE.jb (or_t hq45) fun w2 hw => hw
   refine gg ?_
   exact QE.jb (or_f hq45 rfl) fun w2 hw => hw
  ·refine QE.ex (fun w2 h => St.open h) (fun v40 => ?_)
   refine QE.imp (fun w2 h => St.seps h) (gg ?_)
   obtain rfl := Option.some.inj ho
   exact QE.retsM 5 rfl (rs := [.cell 4 60, .cell 5 30]) (vs := [(.slice none 0 0), .int .i64 x41]) Tryz.results71 ⟨RVs.cell1 3 rfl rfl Tryz.underlying60 rfl, RVs.cell1 2 rfl rfl Tryz.underlying30 rfl, trivial⟩ (fun w2 h => St.done (fun a b p s => ⟨_, rfl, s⟩) (St.selO [0] rfl rfl (St.addO (slO.nil (kInt .i64) 3) h)))
  refine QE.ex (fun w2 h => St.open h) (fun v40 => ?_)
  refine QE.imp (fun w2 h => St.seps h) (gg ?_)
  obtain ⟨hb, ho⟩ := must_some ho
  refine SP.callA see (caps := []) (fun r => HO.pand (r = .tuple #[]) (HO.seps [slO (kInt .i64) 3 v40 (l39.mergeSort fun x y => decide (x ≤ y))])) fn73.h rfl rfl rfl rfl (fun w2 hP h1 sub s1 d1 ap hI => srti73_trip hb sub s1 d1 hI) (SP.k0 ?_)
  clear hb
  refine gg ?_
  obtain ⟨hb, ho⟩ := must_some ho
  refine SP.callA see (caps := []) (fun r => HO.ex fun u : Value => HO.pand (r = u) (HO.seps [slO (kInt .i64) 3 u (Lib.compact (l39.mergeSort fun x y => decide (x ≤ y)))])) fn114.h rfl rfl rfl rfl (fun w2 hP h1 sub s1 d1 ap hI => compacti114_trip hb sub s1 d1 hI) (SP.k1 fun v61 => ?_)
  clear hb
  refine sh 0 fun hs_v61 => ?_
  refine st 3 ?_
  refine st 2 ?_
  obtain rfl := Option.some.inj ho
  exact QE.retsM 5 rfl (rs := [.cell 4 60, .cell 5 30]) (vs := [v61, .int .i64 0]) Tryz.results71 ⟨RVs.cell1 3 rfl rfl Tryz.underlying60 rfl, RVs.cell1 2 rfl rfl Tryz.underlying30 rfl, trivial⟩ (fun w2 h => St.done (fun a b p s => ⟨_, rfl, s⟩) (St.selO [0] rfl rfl h))
 refine SP.bb 10 (fun hq11 => ?_) fun hq11 => ?_
 ·refine gg ?_
  exact QE.jb (or_t hq11) fun w2 hw => hw
 refine gg ?_
 exact QE.jb (or_f hq11 rfl) fun w2 hw => hw
inductive calls_all.S where
  | start
  | l1 (l18 : List (List Int)) (x20 : Int)
def calls_all.F (m_0 : api_Module) : calls_all.S → Option (calls_all.S ⊕ ((List (List Int)) × Int))
  | .start => some (.inl (.l1 [] 0))
  | .l1 l18 x20 => if x20 < (m_0.Methods.length : Int) then ((calls_Whom.f m_0 x20).bind fun t22 => if t22.2 ≠ 0 then (some (.inr ([], t22.2))) else (if (l18.length + [t22.1].length) * 24 ≤ 140737488355328 then (some (.inl (.l1 (l18 ++ [t22.1]) (IntKind.i64.wrap (x20 + 1))))) else none)) else (some (.inr (l18, 0)))
def calls_all.f (m_0 : api_Module) : Option ((List (List Int)) × Int) := runF (calls_all.F m_0) .start
theorem calls_all.ok {m_0 v_m_0_Globals v_m_0_Pool v_m_0_Methods} (r) (H : calls_all.f m_0 = some r) : Ok Tryz.prog 42 [.agg #[v_m_0_Globals, v_m_0_Pool, v_m_0_Methods, .int .i64 m_0.Migrate]] [slP k_api_Value v_m_0_Globals m_0.Globals, slP k_api_Value v_m_0_Pool m_0.Pool, slP k_api_Method v_m_0_Methods m_0.Methods] fun v => HO.ex fun u0 : Value => HO.pand (v = .tuple #[u0, .int .i64 r.2]) (HO.seps [slO (kSl (kInt .i64)) 60 u0 r.1]) := by
 refine oq 29 Tryz.func42 fun w hV see pb => ?_
 obtain ⟨m0, o, ho, hr⟩ := rn H
 refine SP.box rfl rfl rfl rfl fun b4 => gg ?_
 refine lo ho hr (fun z => ∃ l18 x20 v19, z (.l1 l18 x20) [(1, .pointer (some ⟨b4, 0, none⟩)), (4, v19), (10, .int .i64 (m_0.Methods.length : Int)), (11, .int .i64 x20)] [slO (kSl (kInt .i64)) 60 v19 l18, boxO b4 [v_m_0_Globals, v_m_0_Pool, v_m_0_Methods, .int .i64 m_0.Migrate] 25]) (fun _ z => ⟨[], 0, (.slice none 0 0), z⟩) ?_ (fun _ hw => (St.addO (slO.nil (kSl (kInt .i64)) 60) hw))
 rintro _ _ _ ⟨l18, x20, v19, m21, o, _, _, ho, hr, h⟩
 refine en h ?_
 refine ci ho (fun ho => ?_) fun ho => ?_
 ·obtain ⟨t22, hc, ho⟩ := bind_some ho
  refine SP.callK see (caps := []) _ fn71.h rfl rfl rfl rfl (fun w2 hP hs sub ap => calls_Whom.ok _ _ _ _ _ _ hc w2 hP sub (ap.get 0 rfl) (ap.get 1 rfl) (ap.get 2 rfl)) (SP.k1 fun v23 => ?_)
  clear hc
  refine gg ?_
  refine ci ho (fun ho => ?_) fun ho => ?_
  ·exact fin ho hr ▸ rt (fun _ h => St.selO [0] rfl rfl (St.addO (slO.nil (kSl (kInt .i64)) 60) h))
  refine SP.freezeS see 0 rfl ?_
  refine SP.litS (k := (kSl (kInt .i64))) (xs := [t22.1]) (vs := [v23]) Tryz.underlying83 inf60.h rfl rfl rfl rfl rfl rfl (fun _ ap => ⟨slR.cells1 (ap.get 0 rfl), trivial⟩) (fun _ ap => ⟨[v23], _, rfl, ⟨_, rfl, ap.get 0 rfl⟩, rfl⟩) rfl rfl rfl (fun v26 => ?_)
  refine SP.freezeS see 0 rfl ?_
  refine ap 0 0 ho fun v28 ho => ?_
  exact lw ho hr (fun _ z => ⟨(l18 ++ [t22.1]), (IntKind.i64.wrap (x20 + 1)), v28, z⟩)
 exact fin ho hr ▸ rt (sO [0])
shelf_lay_g SlLaysZI.n7 Ggz 7 at Tryz 44 as Tryz.keys44
shelf_lay_g SlLaysZI.n6 Ggz 6 at Tryz 43 as Tryz.sorted43
open Go.RowKit Go.Maps Go.Sort Go.Shelf in
theorem sorts43 (m : Nat) : AnyZI.SortsIn Tryz.prog Tryz.sorted43_ren Fence.wide m :=
  ⟨fun blk off cap ss W hH hblk hsz => callsIn_wide.2 (AnyM.slices_Sort_int Tryz.sorti73 blk off cap ss W hH hblk hsz),
   fun p cap W => callsIn_wide.2 (AnyM.slices_Sort_int_none Tryz.sorti73 p cap W)⟩
theorem keys44_trip (b : Nat) (w : World) (hV : Hp) : Trip Tryz.prog 44 #[.map (some b)] em hV w (fun v => HO.ex fun c : Nat => HO.pand (v = .func (.func 74) #[] #[.pointer (some ⟨c, 0, none⟩)]) (HO.seps [boxO c [.map (some b)] 86])) := by
  have cK : CallsIn Fence.wide 5 Tryz.prog 44 #[.map (some b)] w fun e w' => e = .returned (.func (.func 74) #[] #[.pointer (some ⟨w.heap.size, 0, none⟩)]) ∧ w' = w.alloc (.cells #[.map (some b)] 86) := AnyZI.keys_in Tryz.keys44 Fence.wide 5 trivial rfl (some b) w
  refine ((callsIn_wide (n := 5)).1 cK).mono fun e w' ⟨he, hw⟩ => ?_
  subst he; subst hw
  exact St.done (os := [boxO w.heap.size [.map (some b)] 86]) (fun a b p s => ⟨_, rfl, s⟩) ((St.begin (All.nil hV)).box [.map (some b)] 86)
open Go.RowKit Go.Maps Go.Sort Go.Shelf in
theorem sorted43_trip {β : Type} {kv : β → Value} {m : List (Int × β)} {b c : Nat} (ok : okKeys m = true) (w : World) (h1 : (boxO c [.map (some b)] 86).p (hp w) (hp w)) (h2 : (mapO b .i64 kv m).p (hp w) (hp w)) :
    Trip Tryz.prog 43 #[.func (.func 74) #[] #[.pointer (some ⟨c, 0, none⟩)]] em (hp w) w (fun r => HO.ex fun u : Value => HO.pand (r = u) (HO.seps [slO (kInt .i64) 3 u (sortedKeys m)])) := by
  obtain ⟨D0, hown, hperm, hsize⟩ := ownsOf Tryz.underlying3 h2 ok
  have hcell : w.heap[c]? = some (.cells #[.map (some b)] 86 (0, 0)) := h1
  have hlen : m.length ≤ 1000000 := by simp only [okKeys, Bool.and_eq_true, decide_eq_true_eq] at ok; exact ok.2
  have hseq : SeqGives Fence.wide 2 Tryz.prog 74 #[.pointer (some ⟨c, 0, none⟩)] encZ (fun ss => ss.Perm (intKeys D0)) (Maps.size D0) w :=
    AnyZI.keys_gives (ρ := Tryz.keys44_ren) { Tryz.keys44 with } Fence.wide _ trivial rfl (by omega) c b m.length D0 _ (Array.getElem?_eq_some_iff.1 hcell).1 (by simp [World.cell?, hcell]) hown
  have cS := AnyZI.sorted_in Tryz.sorted43 Fence.wide 5 trivial trivial trivial trivial rfl (by omega) (sorts43 _) (enters_of Tryz.func73 (by kernel_rfl) rfl) 74 #[.pointer (some ⟨c, 0, none⟩)] trivial (enters_of Tryz.func74 (by kernel_rfl) rfl) _ _ (by rw [hsize]; simp only [maxLen]; omega) (by rw [hsize]; omega) _ hseq
  change CallsIn _ _ Tryz.prog 43 _ _ _ at cS
  refine ((callsIn_wide (n := 5)).1 cS).mono fun e w' ⟨v, ss, he, hS, hrow, hnil, hb⟩ => ?_
  subst he
  have e1 : (ss.mergeSort fun x y => decide (x ≤ y)) = sortedKeys m := mergeSort_of_perm_i (hS.trans hperm)
  have e2 : ss.length = (sortedKeys m).length := by rw [← e1, List.length_mergeSort]
  rw [e1, e2] at hrow
  exact owned_trip (k := kInt .i64) hrow hb (flat_ints _)
inductive slices_Index_int_int.S where
  | start
  | l1 (x6 : Int)
def slices_Index_int_int.F (s_0 : List Int) (v_1 : Int) : slices_Index_int_int.S → Option (slices_Index_int_int.S ⊕ Int)
  | .start => some (.inl (.l1 0))
  | .l1 x6 => if x6 < (s_0.length : Int) then ((elt s_0 x6).bind fun x10 => if v_1 = x10 then (some (.inr x6)) else (some (.inl (.l1 (IntKind.i64.wrap (x6 + 1)))))) else (some (.inr (-1)))
def slices_Index_int_int.f (s_0 : List Int) (v_1 : Int) : Option Int := runF (slices_Index_int_int.F s_0 v_1) .start
theorem slices_Index_int_int.ok {s_0 v_1 v_s_0} (r) (H : slices_Index_int_int.f s_0 v_1 = some r) : Ok Tryz.prog 75 [v_s_0, .int .i64 v_1] [slP (kInt .i64) v_s_0 s_0] fun v => HO.pure (v = .int .i64 r) := by
 refine oq 19 Tryz.func75 fun w hV see pb => ?_
 obtain ⟨m0, o, ho, hr⟩ := rn H
 refine lo ho hr (fun z => ∃ x6, z (.l1 x6) [(0, v_s_0), (1, .int .i64 v_1), (7, .int .i64 (s_0.length : Int)), (8, .int .i64 x6)] []) (fun _ z => ⟨0, z⟩) ?_
 rintro _ _ _ ⟨x6, m7, o, _, _, ho, hr, h⟩
 refine en h ?_
 refine ci ho (fun ho => ?_) fun ho => ?_
 ·obtain ⟨x10, hx, ho⟩ := elt_bind ho
  refine SP.indexP see 0 rfl Tryz.underlying60 sz3.h hx.1 hx.2 rfl rfl rfl rfl (fun p8 => ?_)
  clear hx
  refine SP.val (Val.loadP1 see 0 rfl (fun _ _ e => e) Tryz.underlying3 rfl rfl) rfl rfl rfl (gg ?_)
  refine ci ho (fun ho => ?_) fun ho => ?_
  ·exact fin ho hr ▸ rt
  exact lw ho hr (fun _ z => ⟨(IntKind.i64.wrap (x6 + 1)), z⟩)
 exact fin ho hr ▸ rt
def slices_Contains_int_int.f (s_0 : List Int) (v_1 : Int) : Option Bool :=
  (slices_Index_int_int.f s_0 v_1).bind fun t2 => some (decide (t2 ≥ 0))
theorem slices_Contains_int_int.ok {s_0 v_1 v_s_0} (r) (ho : slices_Contains_int_int.f s_0 v_1 = some r) : Ok Tryz.prog 45 [v_s_0, .int .i64 v_1] [slP (kInt .i64) v_s_0 s_0] fun v => HO.pure (v = .bool r) := by
 refine oq 9 Tryz.func45 fun w hV see pb => ?_
 refine kv slices_Index_int_int.ok ho fun t2 ho => ?_
 exact Option.some.inj ho ▸ rt
inductive calls_Order.S where
  | start
  | l1 (t6 : (List (List Int)) × Int) (l131 : List (Int × Int)) (x132 : Int)
  | l2 (t6 : (List (List Int)) × Int) (l192 : List (Int × Int)) (l194 : List Int)
  | l3 (t6 : (List (List Int)) × Int) (l192 : List (Int × Int)) (l194 : List Int) (x206 : Int)
  | l4 (t6 : (List (List Int)) × Int) (l194 : List Int) (x211 : Int) (l229 l230 : List (Int × Int))
  | p5 (t6 : (List (List Int)) × Int) (l194 : List Int) (x211 : Int) (l229 : List (Int × Int)) (k236 x237 : Int) (l238 : List (Int × Int))
def calls_Order.j1 (m_0 : api_Module) (t6 : (List (List Int)) × Int) (l192 : List (Int × Int)) (l194 : List Int) (x211 : Int) : Option (List calls_Order.S ⊕ ((List Int) × Int)) :=
  if x211 < 0 then (some (.inr ([], 110))) else (some (.inl [.l4 t6 l194 x211 (mdel l192 x211) (mdel l192 x211)]))
def calls_Order.F (m_0 : api_Module) : calls_Order.S → Option (List calls_Order.S ⊕ ((List Int) × Int))
  | .start => (calls_all.f m_0).bind fun t6 => if t6.2 ≠ 0 then (some (.inr ([], t6.2))) else (some (.inl [.l1 t6 ([] : List (Int × Int)) 0]))
  | .l1 t6 l131 x132 => if x132 < (t6.1.length : Int) then ((elt t6.1 x132).bind fun x135 => some (.inl [.l1 t6 (mset l131 x132 (x135.length : Int)) (IntKind.i64.wrap (x132 + 1))])) else (some (.inl [.l2 t6 l131 []]))
  | .l2 t6 l192 l194 => if (l192.length : Int) > 0 then (if okKeys l192 = true then (some (.inl [.l3 t6 l192 l194 0])) else none) else (some (.inr (l194, 0)))
  | .l3 t6 l192 l194 x206 => if x206 < ((sortedKeys l192).length : Int) then ((elt (sortedKeys l192) x206).bind fun x209 => if ((mget l192 x209).getD 0) = 0 then (calls_Order.j1 m_0 t6 l192 l194 x209) else (some (.inl [.l3 t6 l192 l194 (IntKind.i64.wrap (x206 + 1))]))) else (calls_Order.j1 m_0 t6 l192 l194 (-1))
  | .l4 t6 l194 x211 l229 l230 => if l230.isEmpty = true then (if (l194.length + [x211].length) * 8 ≤ 140737488355328 then (some (.inl [.l2 t6 l229 (l194 ++ [x211])])) else none) else some (.inl ((picks l230).map (fun z => .p5 t6 l194 x211 l229 z.1.1 z.1.2 z.2)))
  | .p5 t6 l194 x211 l229 k236 x237 l238 => (elt t6.1 k236).bind fun x241 => (slices_Contains_int_int.f x241 x211).bind fun t244 => if t244 = true then (if (l229.map (fun p => p.1)).Nodup ∧ (mget l229 k236).isSome = true then (some (.inl [.l4 t6 l194 x211 (mup l229 k236 (IntKind.i64.wrap (((mget l229 k236).getD 0) - 1))) (mup l238 k236 (IntKind.i64.wrap (((mget l229 k236).getD 0) - 1)))])) else none) else (some (.inl [.l4 t6 l194 x211 l229 l238]))
def calls_Order.f (m_0 : api_Module) : Option ((List Int) × Int) := runD (calls_Order.F m_0) .start
theorem calls_Order.ok {m_0 v_m_0_Globals v_m_0_Pool v_m_0_Methods} (r) (H : calls_Order.f m_0 = some r) : Ok Tryz.prog 23 [.agg #[v_m_0_Globals, v_m_0_Pool, v_m_0_Methods, .int .i64 m_0.Migrate]] [slP k_api_Value v_m_0_Globals m_0.Globals, slP k_api_Value v_m_0_Pool m_0.Pool, slP k_api_Method v_m_0_Methods m_0.Methods] fun v => HO.ex fun u0 : Value => HO.pand (v = .tuple #[u0, .int .i64 r.2]) (HO.seps [slO (kInt .i64) 3 u0 r.1]) := by
 refine oq 77 Tryz.func23 fun w hV see pb => ?_
 obtain ⟨n0, hi⟩ := runD_iff.1 H
 obtain ⟨m0, o, hm0, ho, hr⟩ := stepsD_some hi
 clear hi
 refine gg ?_
 refine SP.box rfl rfl rfl rfl fun b4 => gg ?_
 refine k1 calls_all.ok ho fun t6 ho v7 => ?_
 refine ci ho (fun ho => ?_) fun ho => ?_
 ·obtain rfl := Option.some.inj ho
  obtain rfl : _ = r := hr
  exact QE.rt (fun _ h => St.selO [0] rfl rfl (St.addO (slO.nil (kInt .i64) 3) h))
 refine SP.makeMap .i64 (fun z : Int => Value.int .i64 z) rfl rfl (fun b10 => gg ?_)
 obtain rfl := Option.some.inj ho
 refine CP.loop (fun cl1 a w2 => ∃ l131 : List (Int × Int), ∃ x132 : Int, cl1 ≤ m0 ∧ stepsD (calls_Order.F m_0) cl1 (.l1 t6 l131 x132) r ∧ Env ⟨77, []⟩ [(4, v7), (6, .map (some b10)), (23, v7), (24, .int .i64 (t6.1.length : Int)), (25, .int .i64 x132)] a ∧ St w em hV [] [mapO b10 .i64 (fun z : Int => Value.int .i64 z) l131, slO (kSl (kInt .i64)) 60 v7 t6.1] w2) m0 (fun a w2 ha hw => ⟨([] : List (Int × Int)), 0, Nat.le_refl _, (nextD_one hr), ha.sub sb, (St.selP [] rfl (St.selO [0, 1] rfl rfl hw))⟩) ?_
 clear hr
 rintro cl1 a w2 ⟨l131, x132, hc_l1, hi, ha, hw⟩
 obtain ⟨m133, o, hm_m133, ho, hr⟩ := stepsD_some hi
 refine CP.app ha hw ?_
 clear ha hw a w2 hi
 refine gg ?_
 refine ci ho (fun ho => ?_) fun ho => ?_
 ·obtain ⟨x135, hx_x135, ho⟩ := elt_bind ho
  refine SP.indexW (fun w2 hw => slO.whole (St.own 1 rfl see.sub see.dj hw)) Tryz.underlying83 sz60.h hx_x135.1 hx_x135.2 rfl rfl rfl rfl (fun p134 h_p134 => ?_)
  refine SP.loadOS (j := x132) see 1 0 rfl hx_x135.2 h_p134 (fun _ _ ⟨v0_, e, p0_⟩ => ⟨v0_, by subst e; rfl, p0_⟩) Tryz.underlying60 rfl rfl rfl (fun v136 => gg ?_)
  refine SP.mapUpdate see 0 rfl Tryz.underlying86 Tryz.underlying3 rfl rfl rfl rfl (gg ?_)
  obtain rfl := Option.some.inj ho
  exact QE.lower m133 (by omega) fun a w2 ha hw => ⟨(mset l131 x132 (x135.length : Int)), (IntKind.i64.wrap (x132 + 1)), (by omega), (nextD_one hr), ha.sub sb, (St.selP [] rfl hw)⟩
 obtain rfl := Option.some.inj ho
 refine CP.loop (fun cl2 a w2 => ∃ l192 : List (Int × Int), ∃ l194 : List Int, ∃ v195 : Value, cl2 ≤ m133 ∧ stepsD (calls_Order.F m_0) cl2 (.l2 t6 l192 l194) r ∧ Env ⟨77, []⟩ [(4, v7), (6, .map (some b10)), (9, v195)] a ∧ St w em hV [] [slO (kInt .i64) 3 v195 l194, mapO b10 .i64 (fun z : Int => Value.int .i64 z) l192, slO (kSl (kInt .i64)) 60 v7 t6.1] w2) m133 (fun a w2 ha hw => ⟨l131, [], (.slice none 0 0), Nat.le_refl _, (nextD_one hr), ha.sub sb, (St.addO (slO.nil (kInt .i64) 3) hw)⟩) ?_
 clear hr
 rintro cl2 a w2 ⟨l192, l194, v195, hc_l2, hi, ha, hw⟩
 obtain ⟨m196, o, hm_m196, ho, hr⟩ := stepsD_some hi
 refine CP.app ha hw ?_
 clear ha hw a w2 hi
 refine gg ?_
 refine SP.val (Val.lenM see 1 rfl Tryz.underlying86 rfl) rfl rfl rfl (gg ?_)
 refine ci (ht := id) ho (fun ho => ?_) fun ho => ?_
 ·refine go ?_
  refine CP.join (fun a w2 => ∃ x211 : Int, ∃ (m212 : Nat) (o : (List calls_Order.S ⊕ ((List Int) × Int))), m212 ≤ m196 ∧ calls_Order.j1 m_0 t6 l192 l194 x211 = some o ∧ nextD (calls_Order.F m_0) m212 r o ∧ Env ⟨77, []⟩ [(4, v7), (6, .map (some b10)), (9, v195), (10, .int .i64 x211)] a ∧ St w em hV [] [slO (kInt .i64) 3 v195 l194, mapO b10 .i64 (fun z : Int => Value.int .i64 z) l192, slO (kSl (kInt .i64)) 60 v7 t6.1] w2) ?_ ?_
  ·rintro a w2 ⟨x211, m212, o, hm_m212, ho, hr, ha, hw⟩
   refine CP.app ha hw ?_
   clear ha hw a w2
   refine gg ?_
   refine ci ho (fun ho => ?_) fun ho => ?_
   ·obtain rfl := Option.some.inj ho
    obtain rfl : _ = r := hr
    exact QE.rt (fun _ h => St.selO [0] rfl rfl (St.addO (slO.nil (kInt .i64) 3) h))
   refine SP.delete see 1 rfl Tryz.underlying86 Tryz.underlying3 rfl rfl rfl (gg ?_)
   refine SP.imp (fun w2 hw => St.selO [1, 0, 2] rfl rfl hw) ?_
   refine SP.range see Tryz.underlying86 rfl rfl rfl (fun r214 => gg ?_)
   obtain rfl := Option.some.inj ho
   refine CP.loop (fun cl4 a w2 => ∃ l229 : List (Int × Int), ∃ l230 : List (Int × Int), cl4 ≤ m212 ∧ stepsD (calls_Order.F m_0) cl4 (.l4 t6 l194 x211 l229 l230) r ∧ Env ⟨77, []⟩ [(4, v7), (6, .map (some b10)), (9, v195), (10, .int .i64 x211), (57, .pointer (some ⟨r214, 0, none⟩))] a ∧ St w em hV [] [rangeO r214 b10 .i64 (fun z : Int => Value.int .i64 z) l229 l230 none, slO (kInt .i64) 3 v195 l194, slO (kSl (kInt .i64)) 60 v7 t6.1] w2) m212 (fun a w2 ha hw => ⟨(mdel l192 x211), (mdel l192 x211), Nat.le_refl _, (nextD_one hr), ha.sub sb, hw⟩) ?_
   clear hr
   rintro cl4 a w2 ⟨l229, l230, hc_l4, hi, ha, hw⟩
   obtain ⟨m231, o, hm_m231, ho, hr⟩ := stepsD_some hi
   refine CP.app ha hw ?_
   clear ha hw a w2 hi
   refine gg ?_
   rcases if_some ho with ⟨hc, ho⟩ | ⟨hc, ho⟩
   ·refine SP.next see 0 rfl rfl rfl rfl (fun _ => gg ?_) (fun j k v hj => by rw [List.isEmpty_iff.1 hc] at hj; simp at hj)
    refine CP.condF rfl rfl (gg ?_)
    refine li (kInt .i64) [x211] fun v232 => ?_
    refine SP.freezeS see 0 rfl ?_
    refine ap 1 0 ho fun v234 ho => ?_
    obtain rfl := Option.some.inj ho
    exact QE.lower m231 (by omega) fun a w2 ha hw => ⟨l229, (l194 ++ [x211]), v234, (by omega), (nextD_one hr), ha.sub sb, (St.selP [] rfl (St.selO [1, 0, 2] rfl rfl (St.weakO 0 rfl rangeO.toMap hw)))⟩
   refine SP.next see 0 rfl rfl rfl rfl (fun h0 => absurd (by rw [h0]; rfl) hc) (fun j k236 x237 hj => ?_)
   obtain rfl := Option.some.inj ho
   replace hr := hr.2 _ (List.mem_map_of_mem (mem_picks hj))
   obtain ⟨m239, o, hm_m239, ho, hr⟩ := stepsD_some hr
   clear hj hc
   generalize List.eraseIdx l230 j = l238 at ho ⊢
   refine gg ?_
   refine CP.condT rfl rfl (gg ?_)
   refine SP.val (Val.entry see 0 (p := (k236, x237)) rfl rfl) rfl rfl rfl (gg ?_)
   obtain ⟨x241, hx_x241, ho⟩ := elt_bind ho
   refine SP.indexW (fun w2 hw => slO.whole (St.own 2 rfl see.sub see.dj hw)) Tryz.underlying83 sz60.h hx_x241.1 hx_x241.2 rfl rfl rfl rfl (fun p240 h_p240 => ?_)
   refine SP.loadOS (j := k236) see 2 0 rfl hx_x241.2 h_p240 (fun _ _ ⟨v0_, e, p0_⟩ => ⟨v0_, by subst e; rfl, p0_⟩) Tryz.underlying60 rfl rfl rfl (fun v242 => gg ?_)
   refine kv slices_Contains_int_int.ok ho fun t244 ho => ?_
   refine cb ho (fun ho => ?_) fun ho => ?_
   ·refine SP.val (Val.lookupR (z0 := 0) see 0 rfl Tryz.underlying86 Tryz.underlying3 inf3.h (by kernel_rfl) rfl rfl) rfl rfl rfl (gg ?_)
    obtain ⟨hb, ho⟩ := must_some ho
    refine SP.mapUpdateR see 0 rfl Tryz.underlying86 Tryz.underlying3 hb rfl rfl rfl rfl ?_
    clear hb
    refine gg ?_
    obtain rfl := Option.some.inj ho
    exact QE.lower m239 (by omega) fun a w2 ha hw => ⟨(mup l229 k236 (IntKind.i64.wrap (((mget l229 k236).getD 0) - 1))), (mup l238 k236 (IntKind.i64.wrap (((mget l229 k236).getD 0) - 1))), (by omega), (nextD_one hr), ha.sub sb, (St.selP [] rfl hw)⟩
   obtain rfl := Option.some.inj ho
   exact QE.lower m239 (by omega) fun a w2 ha hw => ⟨l229, l238, (by omega), (nextD_one hr), ha.sub sb, (St.selP [] rfl (St.weakO 0 rfl rangeO.forget hw))⟩
  refine gg ?_
  refine SP.callK see (caps := []) _ fn44.h rfl rfl rfl rfl (fun w2 hP hs sub ap => keys44_trip _ w2 hP) (SP.k1 fun b198 => ?_)
  obtain ⟨hb, ho⟩ := must_some ho
  refine SP.callKO see (caps := []) _ fn43.h rfl rfl rfl rfl (fun w2 hs => sorted43_trip hb w2 (St.own 0 rfl see.sub see.dj hs) (St.own 2 rfl see.sub see.dj hs)) (fun v a a2 b ⟨v201, e, h⟩ => ⟨v201, e, (Sep.fcons (fun _ => slO.flip (fun _ _ _ _ h => h)) (fun _ => Sep.fnil)) h⟩) (SP.k1 fun v201 => ?_)
  clear hb
  refine gg ?_
  obtain rfl := Option.some.inj ho
  refine CP.loop (fun cl3 a w2 => ∃ x206 : Int, cl3 ≤ m196 ∧ stepsD (calls_Order.F m_0) cl3 (.l3 t6 l192 l194 x206) r ∧ Env ⟨77, []⟩ [(4, v7), (6, .map (some b10)), (9, v195), (10, .int .i64 (-1)), (40, v201), (41, .int .i64 ((sortedKeys l192).length : Int)), (42, .int .i64 x206)] a ∧ St w em hV [] [slO (kInt .i64) 3 v201 (sortedKeys l192), slO (kInt .i64) 3 v195 l194, mapO b10 .i64 (fun z : Int => Value.int .i64 z) l192, slO (kSl (kInt .i64)) 60 v7 t6.1] w2) m196 (fun a w2 ha hw => ⟨0, Nat.le_refl _, (nextD_one hr), ha.sub sb, (St.selO [0, 2, 3, 4] rfl rfl hw)⟩) ?_
  clear hr
  rintro cl3 a w2 ⟨x206, hc_l3, hi, ha, hw⟩
  obtain ⟨m207, o, hm_m207, ho, hr⟩ := stepsD_some hi
  refine CP.app ha hw ?_
  clear ha hw a w2 hi
  refine gg ?_
  refine ci ho (fun ho => ?_) fun ho => ?_
  ·obtain ⟨x209, hx_x209, ho⟩ := elt_bind ho
   refine SP.indexW (fun w2 hw => slO.whole (St.own 0 rfl see.sub see.dj hw)) Tryz.underlying60 sz3.h hx_x209.1 hx_x209.2 rfl rfl rfl rfl (fun p208 h_p208 => ?_)
   refine SP.val (Val.loadW1 (off := 0) (k := (kInt .i64)) (fun w2 hw => slO.whole (St.own 0 rfl see.sub see.dj hw)) hx_x209.2 h_p208 (fun _ _ e => by subst e; rfl) Tryz.underlying3 rfl rfl) rfl rfl rfl (gg ?_)
   refine SP.val (Val.lookup (z0 := 0) see 2 rfl Tryz.underlying86 Tryz.underlying3 inf3.h (by kernel_rfl) rfl rfl) rfl rfl rfl (gg ?_)
   refine ci ho (fun ho => ?_) fun ho => ?_
   ·exact QE.meet fun a w2 ha hw => ⟨x209, m207, _, (by omega), ho, hr, ha.sub sb, (St.selO [1, 2, 3] rfl rfl hw)⟩
   obtain rfl := Option.some.inj ho
   exact QE.lower m207 (by omega) fun a w2 ha hw => ⟨(IntKind.i64.wrap (x206 + 1)), (by omega), (nextD_one hr), ha.sub sb, hw⟩
  exact QE.meet fun a w2 ha hw => ⟨(-1), m207, _, (by omega), ho, hr, ha.sub sb, (St.selO [1, 2, 3] rfl rfl hw)⟩
 obtain rfl := Option.some.inj ho
 obtain rfl : _ = r := hr
 exact QE.rt (fun _ h => St.selO [0] rfl rfl h)
def calls_Check.f (m_0 : api_Module) : Option Int :=
  (calls_Order.f m_0).bind fun t6 => some t6.2
theorem calls_Check.ok {m_0 v_m_0_Globals v_m_0_Pool v_m_0_Methods} (r) (ho : calls_Check.f m_0 = some r) : Ok Tryz.prog 68 [.agg #[v_m_0_Globals, v_m_0_Pool, v_m_0_Methods, .int .i64 m_0.Migrate]] [slP k_api_Value v_m_0_Globals m_0.Globals, slP k_api_Value v_m_0_Pool m_0.Pool, slP k_api_Method v_m_0_Methods m_0.Methods] fun v => HO.pure (v = .int .i64 r) := by
 refine oq 11 Tryz.func68 fun w hV see pb => ?_
 refine SP.box rfl rfl rfl rfl fun b4 => gg ?_
 refine k1 calls_Order.ok ho fun t6 ho v7 => ?_
 exact Option.some.inj ho ▸ rt
inductive slices_Repeat_int_int.S where
  | start
  | l1 (l12 : List Int) (x14 : Int)
def slices_Repeat_int_int.j2 (x_0 : List Int) (count_1 : Int) (t3 : Int × Int) : Option (slices_Repeat_int_int.S ⊕ (List Int)) :=
  if (0 : Int) ≤ (IntKind.i64.wrap t3.2) ∧ (8 : Int) * (IntKind.i64.wrap t3.2) ≤ 281474976710656 ∧ ((IntKind.i64.wrap t3.2) : Int) ≤ 9223372036854775807 then (some (.inl (.l1 (x_0.take (List.replicate (IntKind.i64.wrap t3.2 : Int).toNat 0 : List Int).length ++ (List.replicate (IntKind.i64.wrap t3.2 : Int).toNat 0 : List Int).drop x_0.length) ((min x_0.length (List.replicate (IntKind.i64.wrap t3.2 : Int).toNat 0 : List Int).length : Nat) : Int)))) else none
def slices_Repeat_int_int.j1 (x_0 : List Int) (count_1 : Int)  : Option (slices_Repeat_int_int.S ⊕ (List Int)) :=
  (math_bits_Mul.f (IntKind.u64.wrap (x_0.length : Int)) (IntKind.u64.wrap count_1)).bind fun t3 => if ((decide (t3.1 > 0)) || (decide (t3.2 > 9223372036854775807))) = true then (none) else (slices_Repeat_int_int.j2 x_0 count_1 t3)
def slices_Repeat_int_int.F (x_0 : List Int) (count_1 : Int) : slices_Repeat_int_int.S → Option (slices_Repeat_int_int.S ⊕ (List Int))
  | .start => if count_1 < 0 then (none) else (slices_Repeat_int_int.j1 x_0 count_1)
  | .l1 l12 x14 => if x14 < (l12.length : Int) then (if (0 : Int) ≤ x14 ∧ x14 ≤ (l12.length : Int) then (if (0 : Int) ≤ x14 ∧ x14 ≤ (l12.length : Int) then (some (.inl (.l1 (l12.take (x14 : Int).toNat ++ l12.take (min (x14 : Int).toNat (l12.length - (x14 : Int).toNat)) ++ l12.drop ((x14 : Int).toNat + min (x14 : Int).toNat (l12.length - (x14 : Int).toNat))) (IntKind.i64.wrap (x14 + ((min (x14 : Int).toNat (l12.length - (x14 : Int).toNat) : Nat) : Int)))))) else none) else none) else (some (.inr l12))
def slices_Repeat_int_int.f (x_0 : List Int) (count_1 : Int) : Option (List Int) := runF (slices_Repeat_int_int.F x_0 count_1) .start
theorem slices_Repeat_int_int.ok {x_0 count_1 v_x_0} (r) (H : slices_Repeat_int_int.f x_0 count_1 = some r) : Ok Tryz.prog 85 [v_x_0, .int .i64 count_1] [slP (kInt .i64) v_x_0 x_0] fun v => HO.ex fun u0 : Value => HO.pand (v = u0) (HO.seps [slO (kInt .i64) 3 u0 r]) := by
 refine oq (h := fun _ _ _ => id) 48 Tryz.func85 fun w hV see pb => ?_
 obtain ⟨m0, o, ho, hr⟩ := rn H
 refine go ?_
 refine ji hr (fun z => z (slices_Repeat_int_int.j1 x_0 count_1) [(0, v_x_0), (1, .int .i64 count_1)] []) ?_ ?_
 ·rintro _ _ ⟨m2, o, _, ho, hr, h⟩
  refine en h ?_
  obtain ⟨t3, hc, ho⟩ := bind_some ho
  refine SP.callV see (caps := []) (.tuple #[.int .u64 t3.1, .int .u64 t3.2]) fn131.h rfl rfl rfl rfl (fun w2 hP hs sub ap => math_bits_Mul.ok _ _  _ hc w2 hP sub ) ?_
  clear hc
  refine go ?_
  refine ji hr (fun z => z (slices_Repeat_int_int.j2 x_0 count_1 t3) [(0, v_x_0), (6, .int .u64 t3.2)] []) ?_ ?_
  ·rintro _ _ ⟨m6, o, _, ho, hr, h⟩
   refine en h ?_
   obtain ⟨hb, ho⟩ := must_some ho
   refine SP.makeO (k := (kInt .i64)) (z := 0) Tryz.underlying60 inf3.h rfl (fun _ => rfl) rfl rfl rfl rfl hb (fun v7 => ?_)
   clear hb
   refine gg ?_
   refine SP.copyIn see 0 rfl 0 rfl Tryz.underlying60 sz3.h rfl rfl rfl rfl rfl (gg ?_)
   refine lo ho hr (fun z => ∃ l12 x14 v13, z (.l1 l12 x14) [(7, v13), (8, .int .i64 x14)] [slO (kInt .i64) 3 v13 l12]) (fun _ z => ⟨(x_0.take (List.replicate (IntKind.i64.wrap t3.2 : Int).toNat 0 : List Int).length ++ (List.replicate (IntKind.i64.wrap t3.2 : Int).toNat 0 : List Int).drop x_0.length), ((min x_0.length (List.replicate (IntKind.i64.wrap t3.2 : Int).toNat 0 : List Int).length : Nat) : Int), v7, z⟩) ?_ (hb := pe [])
   rintro _ _ _ ⟨l12, x14, v13, m15, o, _, _, ho, hr, h⟩
   refine en h ?_
   refine ci ho (fun ho => ?_) fun ho => ?_
   ·refine CP.drawA (by kernel_rfl) (fun w2 k h => h.drawn k) ?_
    refine DA.phase (fun _ => true) (fun _ => True) ?_
    refine DT.take 0 rfl rfl rfl rfl (by kernel_rfl) (fun _ _ _ h => h) (Val.move rfl) (fun _ _ => trivial) ?_
    refine DT.take 1 rfl rfl rfl rfl (by kernel_rfl) (fun _ _ _ h => h) (Val.move rfl) (fun _ _ => trivial) ?_
    refine DT.take 2 rfl rfl rfl rfl (by kernel_rfl) (fun _ _ _ h => h) (Val.move rfl) (fun _ _ => trivial) ?_
    refine DT.take 4 rfl rfl rfl rfl (by kernel_rfl) (fun _ _ _ h => h) (Val.move rfl) (fun _ _ => trivial) ?_
    refine DT.take 5 rfl rfl rfl rfl (by kernel_rfl) (fun _ _ _ h => h) (Val.move rfl) (fun _ _ => trivial) ?_
    refine DT.list (l2 := #[true, true, true, false, true, true, false, false, false, false]) (by kernel_rfl) ?_
    refine DT.free ?_
    obtain ⟨hz16, ho⟩ := must_some ho
    obtain ⟨hz17, ho⟩ := must_some ho
    refine DA.ph 0 7 ?_
    refine DT.tv 3 rfl (Val.sliceFrom see 0 rfl Tryz.underlying60 sz3.h rfl rfl hz16) ?_
    refine DT.tv 6 rfl (Val.sliceTo see 0 rfl Tryz.underlying60 sz3.h rfl rfl hz17) ?_
    refine DT.next (by kernel_rfl) ?_
    refine DA.one 7 rfl (by kernel_rfl) ?_
    refine SP.copyOver see 0 rfl Tryz.underlying60 sz3.h rfl (by omega) rfl rfl rfl rfl (gg ?_)
    refine QE.atA ?_
    refine DA.one 8 rfl (by kernel_rfl) (gg ?_)
    refine QE.atA ?_
    refine DA.one 9 rfl (by kernel_rfl) (gg ?_)
    refine QE.atA ?_
    refine DA.done (by kernel_rfl) (gg ?_)
    exact lw ho hr (fun _ z => ⟨(l12.take (x14 : Int).toNat ++ l12.take (min (x14 : Int).toNat (l12.length - (x14 : Int).toNat)) ++ l12.drop ((x14 : Int).toNat + min (x14 : Int).toNat (l12.length - (x14 : Int).toNat))), (IntKind.i64.wrap (x14 + ((min (x14 : Int).toNat (l12.length - (x14 : Int).toNat) : Nat) : Int))), v13, z⟩)
   exact fin ho hr ▸ rt (sO [0])
  refine gg ?_
  refine SP.jn 3 [0, 6] 26 (.bool ((decide (t3.1 > 0)) || (decide (t3.2 > 9223372036854775807)))) ?_ ?_
  ·refine gg ?_
   refine cb ho (fun ho => ?_) fun ho => ?_
   ·cases ho
   exact mi ho hr (fun _ z => z)
  refine SP.bb 23 (fun hq5 => ?_) fun hq5 => ?_
  ·refine gg ?_
   exact QE.jb (or_t hq5) fun w2 hw => hw
  refine gg ?_
  exact QE.jb (or_f hq5 rfl) fun w2 hw => hw
 refine gg ?_
 refine ci ho (fun ho => ?_) fun ho => ?_
 ·cases ho
 exact mi ho hr (fun _ z => z)
inductive flow_Times.S where
  | start
  | l1 (t2 : (List flow_Loop) × Int) (l32 : List Int) (x34 : Int)
  | l2 (t2 : (List flow_Loop) × Int) (x34 : Int) (x37 : flow_Loop) (l45 : List Int) (x47 : Int)
def flow_Times.F (l_0 : List api_Instr) : flow_Times.S → Option (flow_Times.S ⊕ ((List Int) × Int))
  | .start => (flow_Loops.f l_0).bind fun t2 => if t2.2 ≠ 0 then (some (.inr ([], t2.2))) else ((slices_Repeat_int_int.f [1] (l_0.length : Int)).bind fun t8 => some (.inl (.l1 t2 t8 0)))
  | .l1 t2 l32 x34 => if x34 < (t2.1.length : Int) then ((elt t2.1 x34).bind fun x37 => some (.inl (.l2 t2 x34 x37 l32 (IntKind.i64.wrap (x37.From + 1))))) else (some (.inr (l32, 0)))
  | .l2 t2 x34 x37 l45 x47 => if x47 ≤ x37.To then ((elt l45 x47).bind fun x50 => (elt l45 x47).bind fun x52 => some (.inl (.l2 t2 x34 x37 (l45.set x47.toNat (IntKind.i64.wrap (x50 * x37.Turns))) (IntKind.i64.wrap (x47 + 1))))) else (some (.inl (.l1 t2 l45 (IntKind.i64.wrap (x34 + 1)))))
def flow_Times.f (l_0 : List api_Instr) : Option ((List Int) × Int) := runF (flow_Times.F l_0) .start
theorem flow_Times.ok {l_0 v_l_0} (r) (H : flow_Times.f l_0 = some r) : Ok Tryz.prog 47 [v_l_0] [slP k_api_Instr v_l_0 l_0, arrP k_arr199 1 tab1] fun v => HO.ex fun u0 : Value => HO.pand (v = .tuple #[u0, .int .i64 r.2]) (HO.seps [slO (kInt .i64) 3 u0 r.1]) := by
 refine oq 47 Tryz.func47 fun w hV see pb => ?_
 obtain ⟨m0, o, ho, hr⟩ := rn H
 refine k1 flow_Loops.ok ho fun t2 ho v3 => ?_
 refine ci ho (fun ho => ?_) fun ho => ?_
 ·exact fin ho hr ▸ rt (fun _ h => St.selO [0] rfl rfl (St.addO (slO.nil (kInt .i64) 3) h))
 refine li (kInt .i64) [1] fun v6 => ?_
 obtain ⟨t8, hc, ho⟩ := bind_some ho
 refine SP.callKO see (caps := []) _ fn85.h rfl rfl rfl rfl (fun w2 hs => slices_Repeat_int_int.ok _ hc w2 (hp w2) (Sub.refl _) (aS (slO.read (St.own 0 rfl see.sub see.dj hs) (Sub.refl _) (Sub.refl _)) (All.nil _))) (fun v a a2 b ⟨v9, e, h⟩ => ⟨v9, e, (Sep.fcons (fun _ => slO.flip (fun _ _ _ _ h => h)) (fun _ => Sep.fnil)) h⟩) (SP.k1 fun v9 => ?_)
 clear hc
 refine gg ?_
 refine lo ho hr (fun z => ∃ l32 x34 v33, z (.l1 t2 l32 x34) [(6, v33), (22, v3), (23, .int .i64 (t2.1.length : Int)), (24, .int .i64 x34)] [slO (kInt .i64) 3 v33 l32, slO k_flow_Loop 142 v3 t2.1]) (fun _ z => ⟨t8, 0, v9, z⟩) ?_ (sO [0, 2]) (hb := pe [arrP k_arr199 1 tab1])
 rintro _ _ _ ⟨l32, x34, v33, m35, o, _, _, ho, hr, h⟩
 refine en h ?_
 refine ci ho (fun ho => ?_) fun ho => ?_
 ·obtain ⟨x37, hx_x37, ho⟩ := elt_bind ho
  refine SP.indexW (fun w2 hw => slO.whole (St.own 1 rfl see.sub see.dj hw)) Tryz.underlying137 sz142.h hx_x37.1 hx_x37.2 rfl rfl rfl rfl (fun p36 h_p36 => ?_)
  refine SP.val (Val.loadOA see 1 rfl hx_x37.2 h_p36 (fun _ _ e => e) Tryz.underlying142 rfl sz142.h rfl) rfl rfl rfl ?_
  refine al fun b38 => ?_
  refine st 0 ?_
  refine lo ho hr (fun z => ∃ l45 x47 v46, z (.l2 t2 x34 x37 l45 x47) [(6, v46), (8, .pointer (some ⟨b38, 0, none⟩)), (9, .int .i64 x47), (22, v3), (23, .int .i64 (t2.1.length : Int)), (24, .int .i64 x34)] [boxO b38 [.int .i64 x37.From, .int .i64 x37.To, .int .i64 x37.Turns] 142, slO (kInt .i64) 3 v46 l45, slO k_flow_Loop 142 v3 t2.1]) (fun _ z => ⟨l32, (IntKind.i64.wrap (x37.From + 1)), v33, z⟩) ?_ (hb := pe [arrP k_arr199 1 tab1])
  rintro _ _ _ ⟨l45, x47, v46, m48, o, _, _, ho, hr, h⟩
  refine en h ?_
  refine ci ho (fun ho => ?_) fun ho => ?_
  ·refine CP.drawA (by kernel_rfl) (fun w2 k h => h.drawn k) ?_
   obtain ⟨x50, hx_x50, ho⟩ := elt_bind ho
   refine DA.ghost (fun w2 hw => let ⟨z, hz⟩ := ixC ((fun w2 hw => slO.whole (St.own 1 rfl see.sub see.dj hw)) w2 hw) hx_x50.1 hx_x50.2; ⟨z, hz, hw⟩) (fun p49 i_p49 => ?_)
   have h_p49 := i_p49.1
   refine DA.ph 0 6 ?_
   refine DT.tk 0 ?_
   refine DT.tk 1 ?_
   refine DT.tv 2 rfl (Val.indexC' i_p49 Tryz.underlying60 sz3.h rfl rfl) ?_
   refine DT.tv 3 rfl (Val.loadW1 (off := 0) (k := (kInt .i64)) (fun w2 hw => slO.whole (St.own 1 rfl see.sub see.dj hw)) hx_x50.2 h_p49 (fun _ _ e => by subst e; rfl) Tryz.underlying3 rfl rfl) ?_
   refine DT.tk 4 ?_
   refine DT.tk 5 ?_
   refine DT.next (by kernel_rfl) ?_
   refine DA.one 6 rfl (by kernel_rfl) (gg ?_)
   refine QE.atA ?_
   refine DA.one 7 rfl (by kernel_rfl) ?_
   obtain ⟨x52, hx_x52, ho⟩ := elt_bind ho
   refine SP.indexW (fun w2 hw => slO.whole (St.own 1 rfl see.sub see.dj hw)) Tryz.underlying60 sz3.h hx_x52.1 hx_x52.2 rfl rfl rfl rfl (fun p51 h_p51 => gg ?_)
   refine QE.atA ?_
   refine DA.one 8 rfl (by kernel_rfl) ?_
   refine SP.storeO (z0 := IntKind.i64.wrap (x50 * x37.Turns)) (off := 0) (vs := [.int .i64 (IntKind.i64.wrap (x50 * x37.Turns))]) see 1 rfl hx_x52.2 h_p51 rfl rfl sz3.h rfl (fun a cs _ e => by subst e; rfl) rfl rfl rfl (gg ?_)
   refine QE.atA ?_
   refine DA.done (by kernel_rfl) (gg ?_)
   exact lw ho hr (fun _ z => ⟨(l45.set x47.toNat (IntKind.i64.wrap (x50 * x37.Turns))), (IntKind.i64.wrap (x47 + 1)), v46, z⟩)
  exact lw ho hr (fun _ z => ⟨l45, (IntKind.i64.wrap (x34 + 1)), v46, z⟩) (sO [1, 2])
 exact fin ho hr ▸ rt (sO [0])
inductive types_Height.S where
  | start
  | l1 (x10 x11 : Int)
def types_Height.F (rows_0 : List types_Row) : types_Height.S → Option (types_Height.S ⊕ Int)
  | .start => some (.inl (.l1 0 0))
  | .l1 x10 x11 => if x11 < (rows_0.length : Int) then ((elt rows_0 x11).bind fun x15 => some (.inl (.l1 (if (x15.Kinds.length : Int) > x10 then (x15.Kinds.length : Int) else x10) (IntKind.i64.wrap (x11 + 1))))) else (some (.inr x10))
def types_Height.f (rows_0 : List types_Row) : Option Int := runF (types_Height.F rows_0) .start
theorem types_Height.ok {rows_0 v_rows_0} (r) (H : types_Height.f rows_0 = some r) : Ok Tryz.prog 49 [v_rows_0] [slP k_types_Row v_rows_0 rows_0] fun v => HO.pure (v = .int .i64 r) := by
 refine oq 19 Tryz.func49 fun w hV see pb => ?_
 obtain ⟨m0, o, ho, hr⟩ := rn H
 refine lo ho hr (fun z => ∃ x10 x11, z (.l1 x10 x11) [(3, .int .i64 x10), (6, v_rows_0), (7, .int .i64 (rows_0.length : Int)), (8, .int .i64 x11)] []) (fun _ z => ⟨0, 0, z⟩) ?_
 rintro _ _ _ ⟨x10, x11, m12, o, _, _, ho, hr, h⟩
 refine en h ?_
 refine ci ho (fun ho => ?_) fun ho => ?_
 ·obtain ⟨x15, hx, ho⟩ := elt_bind ho
  refine SP.indexP see 0 rfl Tryz.underlying92 sz128.h hx.1 hx.2 rfl rfl rfl rfl (fun p13 => ?_)
  clear hx
  refine k_types_Row.load see 0 rfl Tryz.underlying128 rfl sz128.h rfl rfl rfl (fun v16 => ?_)
  refine al fun b18 => ?_
  refine sp 0 fun hs_v16 => ?_
  refine st 0 ?_
  refine SP.val (Val.max2 rfl rfl) rfl rfl rfl (gg ?_)
  exact lw ho hr (fun _ z => ⟨(if (x15.Kinds.length : Int) > x10 then (x15.Kinds.length : Int) else x10), (IntKind.i64.wrap (x11 + 1)), z⟩) (sO [])
 exact fin ho hr ▸ rt
def cost_sum_high_s2.f (s_0_2 s_0_3 s_0_4 : Int) (s_0_5 s_0_7 : List Int) (s_0_9 : Int) (s_0_10 : Bool) (s_0_11 s_0_12 s_0_13 : Int) (s_0_14 : List api_Instr) (s_0_16 : List types_Row) (n_1 : Int) : Option (Int × Int × Int × Int × Bool × Int × Int × Int × (List types_Row)) :=
  some (s_0_2, if n_1 > s_0_3 then n_1 else s_0_3, s_0_4, s_0_9, s_0_10, s_0_11, s_0_12, s_0_13, s_0_16)
theorem cost_sum_high_s2.ok (s_0_2 s_0_3 s_0_4 : Int) (s_0_5 s_0_7 : List Int) (s_0_9 : Int) (s_0_10 : Bool) (s_0_11 s_0_12 s_0_13 : Int) (s_0_14 : List api_Instr) (s_0_16 : List types_Row) (n_1 : Int) (v_s_0_5 v_s_0_7 v_s_0_14 v_s_0_16 : Value) (r : Int × Int × Int × Int × Bool × Int × Int × Int × (List types_Row)) (H : cost_sum_high_s2.f s_0_2 s_0_3 s_0_4 s_0_5 s_0_7 s_0_9 s_0_10 s_0_11 s_0_12 s_0_13 s_0_14 s_0_16 n_1 = some r) (w : World) (hV : Hp) (sV : Sub hV (hp w)) (h0 : slR (kInt .u8) hV v_s_0_5 s_0_5) (h1 : slR (kInt .u8) hV v_s_0_7 s_0_7) (h2 : slR k_api_Instr hV v_s_0_14 s_0_14) (h3 : anyP.p hV) (b1 : Nat) (hA : Hp) (sA : Sub hA (hp w)) (dA : Dj hV hA) (hI : (HO.seps [boxO b1 [.int .i64 s_0_2, .int .i64 s_0_3, .int .i64 s_0_4, v_s_0_5, v_s_0_7, .int .u8 s_0_9, .bool s_0_10, .int .i64 s_0_11, .int .i64 s_0_12, .int .i64 s_0_13, v_s_0_14, v_s_0_16] 100, slO k_types_Row 128 v_s_0_16 s_0_16]).p hV hA) :
    Trip Tryz.prog 48 [.pointer (some ⟨b1, 0, none⟩), .int .i64 n_1].toArray hA hV w (fun v => HO.pand (v = .tuple #[]) (HO.seps [HO.ex fun v19 : Value => HO.seps [boxO b1 [.int .i64 r.1, .int .i64 r.2.1, .int .i64 r.2.2.1, v_s_0_5, v_s_0_7, .int .u8 r.2.2.2.1, .bool r.2.2.2.2.1, .int .i64 r.2.2.2.2.2.1, .int .i64 r.2.2.2.2.2.2.1, .int .i64 r.2.2.2.2.2.2.2.1, v_s_0_14, v19] 100, slO k_types_Row 128 v19 r.2.2.2.2.2.2.2.2]])) := by
 have see : Sees w hA hV := ⟨sV, dA⟩
 refine Trip.of (P := Tryz.prog) (n := ⟨15, []⟩) Tryz.func48 rfl ⟨rfl, rfl⟩ rfl (St.beginA (os := [boxO b1 [.int .i64 s_0_2, .int .i64 s_0_3, .int .i64 s_0_4, v_s_0_5, v_s_0_7, .int .u8 s_0_9, .bool s_0_10, .int .i64 s_0_11, .int .i64 s_0_12, .int .i64 s_0_13, v_s_0_14, v_s_0_16] 100, slO k_types_Row 128 v_s_0_16 s_0_16]) sA (aS h0 (aS h1 (aS h2 (All.cons (x := anyP) h3 (All.nil _))))) hI) ?_
 have ho := H
 refine gg ?_
 refine SP.val (Val.max2 rfl rfl) rfl rfl rfl (gg ?_)
 refine st 0 ?_
 obtain rfl := Option.some.inj ho
 exact QE.over (rs := []) (vs := []) Tryz.results48 rfl trivial (fun w2 h => St.done (fun a b p s => ⟨rfl, s⟩) (St.shut v_s_0_16 (St.group [boxO b1 [.int .i64 s_0_2, .int .i64 (if n_1 > s_0_3 then n_1 else s_0_3), .int .i64 s_0_4, v_s_0_5, v_s_0_7, .int .u8 s_0_9, .bool s_0_10, .int .i64 s_0_11, .int .i64 s_0_12, .int .i64 s_0_13, v_s_0_14, v_s_0_16] 100, slO k_types_Row 128 v_s_0_16 s_0_16] (St.selO [0, 1] rfl rfl h))))
def cost_sum_often_s2.f (s_0_2 s_0_3 s_0_4 : Int) (s_0_5 s_0_7 : List Int) (s_0_9 : Int) (s_0_10 : Bool) (s_0_11 s_0_12 s_0_13 : Int) (s_0_14 : List api_Instr) (s_0_16 : List types_Row) (times_1 fuel_2 heap_3 : Int) : Option (Int × Int × Int × Int × Bool × Int × Int × Int × (List types_Row)) :=
  some (IntKind.i64.wrap (s_0_2 + (IntKind.i64.wrap (times_1 * fuel_2))), s_0_3, IntKind.i64.wrap (s_0_4 + (IntKind.i64.wrap (times_1 * heap_3))), s_0_9, s_0_10, s_0_11, s_0_12, s_0_13, s_0_16)
theorem cost_sum_often_s2.ok (s_0_2 s_0_3 s_0_4 : Int) (s_0_5 s_0_7 : List Int) (s_0_9 : Int) (s_0_10 : Bool) (s_0_11 s_0_12 s_0_13 : Int) (s_0_14 : List api_Instr) (s_0_16 : List types_Row) (times_1 fuel_2 heap_3 : Int) (v_s_0_5 v_s_0_7 v_s_0_14 v_s_0_16 : Value) (r : Int × Int × Int × Int × Bool × Int × Int × Int × (List types_Row)) (H : cost_sum_often_s2.f s_0_2 s_0_3 s_0_4 s_0_5 s_0_7 s_0_9 s_0_10 s_0_11 s_0_12 s_0_13 s_0_14 s_0_16 times_1 fuel_2 heap_3 = some r) (w : World) (hV : Hp) (sV : Sub hV (hp w)) (h0 : slR (kInt .u8) hV v_s_0_5 s_0_5) (h1 : slR (kInt .u8) hV v_s_0_7 s_0_7) (h2 : slR k_api_Instr hV v_s_0_14 s_0_14) (h3 : anyP.p hV) (b1 : Nat) (hA : Hp) (sA : Sub hA (hp w)) (dA : Dj hV hA) (hI : (HO.seps [boxO b1 [.int .i64 s_0_2, .int .i64 s_0_3, .int .i64 s_0_4, v_s_0_5, v_s_0_7, .int .u8 s_0_9, .bool s_0_10, .int .i64 s_0_11, .int .i64 s_0_12, .int .i64 s_0_13, v_s_0_14, v_s_0_16] 100, slO k_types_Row 128 v_s_0_16 s_0_16]).p hV hA) :
    Trip Tryz.prog 50 [.pointer (some ⟨b1, 0, none⟩), .int .i64 times_1, .int .i64 fuel_2, .int .i64 heap_3].toArray hA hV w (fun v => HO.pand (v = .tuple #[]) (HO.seps [HO.ex fun v19 : Value => HO.seps [boxO b1 [.int .i64 r.1, .int .i64 r.2.1, .int .i64 r.2.2.1, v_s_0_5, v_s_0_7, .int .u8 r.2.2.2.1, .bool r.2.2.2.2.1, .int .i64 r.2.2.2.2.2.1, .int .i64 r.2.2.2.2.2.2.1, .int .i64 r.2.2.2.2.2.2.2.1, v_s_0_14, v19] 100, slO k_types_Row 128 v19 r.2.2.2.2.2.2.2.2]])) := by
 have see : Sees w hA hV := ⟨sV, dA⟩
 refine Trip.of (P := Tryz.prog) (n := ⟨32, []⟩) Tryz.func50 rfl ⟨rfl, rfl⟩ rfl (St.beginA (os := [boxO b1 [.int .i64 s_0_2, .int .i64 s_0_3, .int .i64 s_0_4, v_s_0_5, v_s_0_7, .int .u8 s_0_9, .bool s_0_10, .int .i64 s_0_11, .int .i64 s_0_12, .int .i64 s_0_13, v_s_0_14, v_s_0_16] 100, slO k_types_Row 128 v_s_0_16 s_0_16]) sA (aS h0 (aS h1 (aS h2 (All.cons (x := anyP) h3 (All.nil _))))) hI) ?_
 have ho := H
 refine gg ?_
 refine st 0 ?_
 refine st 0 ?_
 obtain rfl := Option.some.inj ho
 exact QE.over (rs := []) (vs := []) Tryz.results50 rfl trivial (fun w2 h => St.done (fun a b p s => ⟨rfl, s⟩) (St.shut v_s_0_16 (St.group [boxO b1 [.int .i64 (IntKind.i64.wrap (s_0_2 + (IntKind.i64.wrap (times_1 * fuel_2)))), .int .i64 s_0_3, .int .i64 (IntKind.i64.wrap (s_0_4 + (IntKind.i64.wrap (times_1 * heap_3)))), v_s_0_5, v_s_0_7, .int .u8 s_0_9, .bool s_0_10, .int .i64 s_0_11, .int .i64 s_0_12, .int .i64 s_0_13, v_s_0_14, v_s_0_16] 100, slO k_types_Row 128 v_s_0_16 s_0_16] (St.selO [0, 1] rfl rfl h))))
def cost_sum_often_s3.f (s_0_2 s_0_3 s_0_4 : Int) (s_0_5 s_0_7 : List Int) (s_0_9 : Int) (s_0_10 : Bool) (s_0_11 s_0_12 s_0_13 : Int) (s_0_14 : List api_Instr) (s_0_16 : List types_Row) (times_1 fuel_2 heap_3 : Int) : Option (Int × Int × Int × Int × Bool × Int × Int × Int) :=
  some (IntKind.i64.wrap (s_0_2 + (IntKind.i64.wrap (times_1 * fuel_2))), s_0_3, IntKind.i64.wrap (s_0_4 + (IntKind.i64.wrap (times_1 * heap_3))), s_0_9, s_0_10, s_0_11, s_0_12, s_0_13)
theorem cost_sum_often_s3.ok (s_0_2 s_0_3 s_0_4 : Int) (s_0_5 s_0_7 : List Int) (s_0_9 : Int) (s_0_10 : Bool) (s_0_11 s_0_12 s_0_13 : Int) (s_0_14 : List api_Instr) (s_0_16 : List types_Row) (times_1 fuel_2 heap_3 : Int) (v_s_0_5 v_s_0_7 v_s_0_14 v_s_0_16 : Value) (r : Int × Int × Int × Int × Bool × Int × Int × Int) (H : cost_sum_often_s3.f s_0_2 s_0_3 s_0_4 s_0_5 s_0_7 s_0_9 s_0_10 s_0_11 s_0_12 s_0_13 s_0_14 s_0_16 times_1 fuel_2 heap_3 = some r) (w : World) (hV : Hp) (sV : Sub hV (hp w)) (h0 : slR (kInt .u8) hV v_s_0_5 s_0_5) (h1 : slR (kInt .u8) hV v_s_0_7 s_0_7) (h2 : slR k_api_Instr hV v_s_0_14 s_0_14) (h3 : slR k_types_Row hV v_s_0_16 s_0_16) (b1 : Nat) (hA : Hp) (sA : Sub hA (hp w)) (dA : Dj hV hA) (hI : (boxO b1 [.int .i64 s_0_2, .int .i64 s_0_3, .int .i64 s_0_4, v_s_0_5, v_s_0_7, .int .u8 s_0_9, .bool s_0_10, .int .i64 s_0_11, .int .i64 s_0_12, .int .i64 s_0_13, v_s_0_14, v_s_0_16] 100).p hV hA) :
    Trip Tryz.prog 50 [.pointer (some ⟨b1, 0, none⟩), .int .i64 times_1, .int .i64 fuel_2, .int .i64 heap_3].toArray hA hV w (fun v => HO.pand (v = .tuple #[]) (HO.seps [boxO b1 [.int .i64 r.1, .int .i64 r.2.1, .int .i64 r.2.2.1, v_s_0_5, v_s_0_7, .int .u8 r.2.2.2.1, .bool r.2.2.2.2.1, .int .i64 r.2.2.2.2.2.1, .int .i64 r.2.2.2.2.2.2.1, .int .i64 r.2.2.2.2.2.2.2, v_s_0_14, v_s_0_16] 100])) := by
 have see : Sees w hA hV := ⟨sV, dA⟩
 refine Trip.of (P := Tryz.prog) (n := ⟨32, []⟩) Tryz.func50 rfl ⟨rfl, rfl⟩ rfl (St.beginA (os := [boxO b1 [.int .i64 s_0_2, .int .i64 s_0_3, .int .i64 s_0_4, v_s_0_5, v_s_0_7, .int .u8 s_0_9, .bool s_0_10, .int .i64 s_0_11, .int .i64 s_0_12, .int .i64 s_0_13, v_s_0_14, v_s_0_16] 100]) sA (aS h0 (aS h1 (aS h2 (aS h3 (All.nil _))))) ⟨hA, em, Dj.em_right _, Sub.refl _, Sub.em _, hI, trivial⟩) ?_
 have ho := H
 refine gg ?_
 refine st 0 ?_
 refine st 0 ?_
 obtain rfl := Option.some.inj ho
 exact QE.over (rs := []) (vs := []) Tryz.results50 rfl trivial (fun w2 h => St.done (fun a b p s => ⟨rfl, s⟩) (St.selO [0] rfl rfl h))
def cost_sum_high_s3.f (s_0_2 s_0_3 s_0_4 : Int) (s_0_5 s_0_7 : List Int) (s_0_9 : Int) (s_0_10 : Bool) (s_0_11 s_0_12 s_0_13 : Int) (s_0_14 : List api_Instr) (s_0_16 : List types_Row) (n_1 : Int) : Option (Int × Int × Int × Int × Bool × Int × Int × Int) :=
  some (s_0_2, if n_1 > s_0_3 then n_1 else s_0_3, s_0_4, s_0_9, s_0_10, s_0_11, s_0_12, s_0_13)
theorem cost_sum_high_s3.ok (s_0_2 s_0_3 s_0_4 : Int) (s_0_5 s_0_7 : List Int) (s_0_9 : Int) (s_0_10 : Bool) (s_0_11 s_0_12 s_0_13 : Int) (s_0_14 : List api_Instr) (s_0_16 : List types_Row) (n_1 : Int) (v_s_0_5 v_s_0_7 v_s_0_14 v_s_0_16 : Value) (r : Int × Int × Int × Int × Bool × Int × Int × Int) (H : cost_sum_high_s3.f s_0_2 s_0_3 s_0_4 s_0_5 s_0_7 s_0_9 s_0_10 s_0_11 s_0_12 s_0_13 s_0_14 s_0_16 n_1 = some r) (w : World) (hV : Hp) (sV : Sub hV (hp w)) (h0 : slR (kInt .u8) hV v_s_0_5 s_0_5) (h1 : slR (kInt .u8) hV v_s_0_7 s_0_7) (h2 : slR k_api_Instr hV v_s_0_14 s_0_14) (h3 : slR k_types_Row hV v_s_0_16 s_0_16) (b1 : Nat) (hA : Hp) (sA : Sub hA (hp w)) (dA : Dj hV hA) (hI : (boxO b1 [.int .i64 s_0_2, .int .i64 s_0_3, .int .i64 s_0_4, v_s_0_5, v_s_0_7, .int .u8 s_0_9, .bool s_0_10, .int .i64 s_0_11, .int .i64 s_0_12, .int .i64 s_0_13, v_s_0_14, v_s_0_16] 100).p hV hA) :
    Trip Tryz.prog 48 [.pointer (some ⟨b1, 0, none⟩), .int .i64 n_1].toArray hA hV w (fun v => HO.pand (v = .tuple #[]) (HO.seps [boxO b1 [.int .i64 r.1, .int .i64 r.2.1, .int .i64 r.2.2.1, v_s_0_5, v_s_0_7, .int .u8 r.2.2.2.1, .bool r.2.2.2.2.1, .int .i64 r.2.2.2.2.2.1, .int .i64 r.2.2.2.2.2.2.1, .int .i64 r.2.2.2.2.2.2.2, v_s_0_14, v_s_0_16] 100])) := by
 have see : Sees w hA hV := ⟨sV, dA⟩
 refine Trip.of (P := Tryz.prog) (n := ⟨15, []⟩) Tryz.func48 rfl ⟨rfl, rfl⟩ rfl (St.beginA (os := [boxO b1 [.int .i64 s_0_2, .int .i64 s_0_3, .int .i64 s_0_4, v_s_0_5, v_s_0_7, .int .u8 s_0_9, .bool s_0_10, .int .i64 s_0_11, .int .i64 s_0_12, .int .i64 s_0_13, v_s_0_14, v_s_0_16] 100]) sA (aS h0 (aS h1 (aS h2 (aS h3 (All.nil _))))) ⟨hA, em, Dj.em_right _, Sub.refl _, Sub.em _, hI, trivial⟩) ?_
 have ho := H
 refine gg ?_
 refine SP.val (Val.max2 rfl rfl) rfl rfl rfl (gg ?_)
 refine st 0 ?_
 obtain rfl := Option.some.inj ho
 exact QE.over (rs := []) (vs := []) Tryz.results48 rfl trivial (fun w2 h => St.done (fun a b p s => ⟨rfl, s⟩) (St.selO [0] rfl rfl h))
def cost_taker_call_s3.f (t_0_2 t_0_3 t_0_4 : Int) (t_0_5 t_0_7 : List Int) (t_0_9 : Int) (t_0_10 : Bool) (t_0_11 t_0_12 t_0_13 : Int) (t_0_14 : List api_Instr) (t_0_16 : List types_Row) (a1 times_2 : Int) (other_3 : api_Method) (known_4 : api_Cert) : Option (Int × Int × Int × Int × Bool × Int × Int × Int) :=
  (cost_sum_often_s3.f t_0_2 t_0_3 t_0_4 t_0_5 t_0_7 t_0_9 t_0_10 t_0_11 t_0_12 t_0_13 t_0_14 t_0_16 times_2 known_4.Fuel known_4.Heap).bind fun t25 => (elt t_0_16 a1).bind fun x28 => if x28.Reached = true then ((cost_sum_high_s3.f t25.1 t25.2.1 t25.2.2.1 t_0_5 t_0_7 t25.2.2.2.1 t25.2.2.2.2.1 t25.2.2.2.2.2.1 t25.2.2.2.2.2.2.1 t25.2.2.2.2.2.2.2 t_0_14 t_0_16 (IntKind.i64.wrap ((IntKind.i64.wrap ((IntKind.i64.wrap ((IntKind.i64.wrap ((t_0_5.length : Int) + (t_0_7.length : Int))) + (x28.Kinds.length : Int))) - (other_3.Args.length : Int))) + known_4.Stack))).bind fun t33 => some (t33.1, t33.2.1, t33.2.2.1, t33.2.2.2.1, t33.2.2.2.2.1, t33.2.2.2.2.2.1, t33.2.2.2.2.2.2.1, t33.2.2.2.2.2.2.2)) else (some (t25.1, t25.2.1, t25.2.2.1, t25.2.2.2.1, t25.2.2.2.2.1, t25.2.2.2.2.2.1, t25.2.2.2.2.2.2.1, t25.2.2.2.2.2.2.2))
theorem cost_taker_call_s3.ok (t_0_2 t_0_3 t_0_4 : Int) (t_0_5 t_0_7 : List Int) (t_0_9 : Int) (t_0_10 : Bool) (t_0_11 t_0_12 t_0_13 : Int) (t_0_14 : List api_Instr) (t_0_16 : List types_Row) (a1 times_2 : Int) (other_3 : api_Method) (known_4 : api_Cert) (v_t_0_5 v_t_0_7 v_t_0_14 v_t_0_16 v_other_3_Args v_other_3_Locals v_other_3_Code : Value) (r : Int × Int × Int × Int × Bool × Int × Int × Int) (H : cost_taker_call_s3.f t_0_2 t_0_3 t_0_4 t_0_5 t_0_7 t_0_9 t_0_10 t_0_11 t_0_12 t_0_13 t_0_14 t_0_16 a1 times_2 other_3 known_4 = some r) (w : World) (hV : Hp) (sV : Sub hV (hp w)) (h0 : slR (kInt .u8) hV v_t_0_5 t_0_5) (h1 : slR (kInt .u8) hV v_t_0_7 t_0_7) (h2 : slR k_api_Instr hV v_t_0_14 t_0_14) (h3 : slR k_types_Row hV v_t_0_16 t_0_16) (h4 : slR (kInt .u8) hV v_other_3_Args other_3.Args) (h5 : slR (kInt .u8) hV v_other_3_Locals other_3.Locals) (h6 : slR k_api_Instr hV v_other_3_Code other_3.Code) (b1 : Nat) (hA : Hp) (sA : Sub hA (hp w)) (dA : Dj hV hA) (hI : (boxO b1 [.int .i64 t_0_2, .int .i64 t_0_3, .int .i64 t_0_4, v_t_0_5, v_t_0_7, .int .u8 t_0_9, .bool t_0_10, .int .i64 t_0_11, .int .i64 t_0_12, .int .i64 t_0_13, v_t_0_14, v_t_0_16] 100).p hV hA) :
    Trip Tryz.prog 51 [.pointer (some ⟨b1, 0, none⟩), .int .i64 a1, .int .i64 times_2, .agg #[v_other_3_Args, v_other_3_Locals, .int .u8 other_3.Result, .bool other_3.Reads, .int .i64 other_3.Fuel, .int .i64 other_3.Stack, .int .i64 other_3.Heap, v_other_3_Code], .agg #[.int .i64 known_4.Fuel, .int .i64 known_4.Stack, .int .i64 known_4.Heap]].toArray hA hV w (fun v => HO.pand (v = .tuple #[]) (HO.seps [boxO b1 [.int .i64 r.1, .int .i64 r.2.1, .int .i64 r.2.2.1, v_t_0_5, v_t_0_7, .int .u8 r.2.2.2.1, .bool r.2.2.2.2.1, .int .i64 r.2.2.2.2.2.1, .int .i64 r.2.2.2.2.2.2.1, .int .i64 r.2.2.2.2.2.2.2, v_t_0_14, v_t_0_16] 100])) := by
 have see : Sees w hA hV := ⟨sV, dA⟩
 refine Trip.of (P := Tryz.prog) (n := ⟨57, []⟩) Tryz.func51 rfl ⟨rfl, rfl⟩ rfl (St.beginA (os := [boxO b1 [.int .i64 t_0_2, .int .i64 t_0_3, .int .i64 t_0_4, v_t_0_5, v_t_0_7, .int .u8 t_0_9, .bool t_0_10, .int .i64 t_0_11, .int .i64 t_0_12, .int .i64 t_0_13, v_t_0_14, v_t_0_16] 100]) sA (aS h0 (aS h1 (aS h2 (aS h3 (aS h4 (aS h5 (aS h6 (All.nil _)))))))) ⟨hA, em, Dj.em_right _, Sub.refl _, Sub.em _, hI, trivial⟩) ?_
 have ho := H
 refine gg ?_
 refine SP.box rfl rfl rfl rfl fun b21 => ?_
 refine SP.box rfl rfl rfl rfl fun b23 => gg ?_
 refine CP.drawA (by kernel_rfl) (fun w2 k h => h.drawn k) ?_
 refine DA.ph 0 8 ?_
 refine DT.tk 0 ?_
 refine DT.tk 1 ?_
 refine DT.tk 2 ?_
 refine DT.tk 3 ?_
 refine DT.tk 4 ?_
 refine DT.tk 5 ?_
 refine DT.tk 6 ?_
 refine DT.tk 7 ?_
 refine DT.next (by kernel_rfl) ?_
 refine DA.one 8 rfl (by kernel_rfl) ?_
 refine SP.imp (fun w2 hw => St.selO [2, 0, 1] rfl rfl hw) ?_
 obtain ⟨t25, hc, ho⟩ := bind_some ho
 refine SP.callA see (caps := []) _ fn50.h rfl rfl rfl rfl (fun w2 hP h1 sub s1 d1 ap hI => cost_sum_often_s3.ok _ _ _ _ _ _ _ _ _ _ _ _ _ _ _ _ _ _ _ _ hc w2 hP sub (ap.get 0 rfl) (ap.get 1 rfl) (ap.get 2 rfl) (ap.get 3 rfl) _ h1 s1 d1 hI) (SP.k0 ?_)
 clear hc
 refine gg ?_
 refine QE.atA ?_
 refine DA.done (by kernel_rfl) (gg ?_)
 obtain ⟨x28, hx, ho⟩ := elt_bind ho
 refine SP.indexP see 3 rfl Tryz.underlying92 sz128.h hx.1 hx.2 rfl rfl rfl rfl (fun p26 => ?_)
 clear hx
 refine k_types_Row.load see 0 rfl Tryz.underlying128 rfl sz128.h rfl rfl rfl (fun v29 => ?_)
 refine al fun b31 => ?_
 refine sp 0 fun hs_v29 => ?_
 refine st 0 ?_
 refine cb ho (fun ho => ?_) fun ho => ?_
 ·refine CP.drawA (by kernel_rfl) (fun w2 k h => h.drawn k) ?_
  refine DA.ph 0 27 ?_
  refine DT.tk 0 ?_
  refine DT.tk 1 ?_
  refine DT.tk 2 ?_
  refine DT.tk 3 ?_
  refine DT.tk 4 ?_
  refine DT.tk 5 ?_
  refine DT.tk 6 ?_
  refine DT.tk 7 ?_
  refine DT.tk 8 ?_
  refine DT.tk 9 ?_
  refine DT.tk 10 ?_
  refine DT.tk 11 ?_
  refine DT.tk 12 ?_
  refine DT.tk 13 ?_
  refine DT.tk 14 ?_
  refine DT.tk 15 ?_
  refine DT.tk 16 ?_
  refine DT.tk 17 ?_
  refine DT.tk 18 ?_
  refine DT.tk 19 ?_
  refine DT.tk 20 ?_
  refine DT.tk 21 ?_
  refine DT.tk 22 ?_
  refine DT.tk 23 ?_
  refine DT.tk 24 ?_
  refine DT.tk 25 ?_
  refine DT.tk 26 ?_
  refine DT.next (by kernel_rfl) ?_
  refine DA.one 27 rfl (by kernel_rfl) ?_
  refine SP.imp (fun w2 hw => St.selO [1, 0, 2, 3] rfl rfl hw) ?_
  obtain ⟨t33, hc, ho⟩ := bind_some ho
  refine SP.callA see (caps := []) _ fn48.h rfl rfl rfl rfl (fun w2 hP h1 sub s1 d1 ap hI => cost_sum_high_s3.ok _ _ _ _ _ _ _ _ _ _ _ _ _ _ _ _ _ _ hc w2 hP sub (ap.get 2 rfl) (ap.get 3 rfl) (ap.get 4 rfl) (ap.get 5 rfl) _ h1 s1 d1 hI) (SP.k0 ?_)
  clear hc
  refine gg ?_
  refine QE.atA ?_
  refine DA.done (by kernel_rfl) ?_
  obtain rfl := Option.some.inj ho
  exact QE.over (rs := []) (vs := []) Tryz.results51 rfl trivial (fun w2 h => St.done (fun a b p s => ⟨rfl, s⟩) (St.selO [0] rfl rfl h))
 obtain rfl := Option.some.inj ho
 exact QE.over (rs := []) (vs := []) Tryz.results51 rfl trivial (fun w2 h => St.done (fun a b p s => ⟨rfl, s⟩) (St.selO [1] rfl rfl h))
inductive cost_one.S where
  | start
  | l1 (x11 : api_Method) (t23 : (List Int) × Int) (x125 x126 x127 x128 x129 : Int) (b130 : Bool) (x131 x132 x133 : Int) (l135 : List types_Row)
def cost_one.j1 (m_0 : api_Module) (k_1 : Int) (known_2 : List api_Cert) (x11 : api_Method) (t23 : (List Int) × Int) (x125 : Int) (l135 : List types_Row) (x169 x170 x171 x172 : Int) (b173 : Bool) (x174 x175 x176 : Int) : Option (cost_one.S ⊕ api_Cert) :=
  some (.inl (.l1 x11 t23 (IntKind.i64.wrap (x125 + 1)) x169 x170 x171 x172 b173 x174 x175 x176 l135))
def cost_one.j2 (m_0 : api_Module) (k_1 : Int) (known_2 : List api_Cert) (x11 : api_Method) (t23 : (List Int) × Int) (x125 x126 x127 x128 x129 : Int) (b130 : Bool) (x131 x132 x133 : Int) (l135 : List types_Row) (x140 : api_Instr) (x143 : Int) : Option (cost_one.S ⊕ api_Cert) :=
  (elt t23.1 x125).bind fun x147 => (cost_sum_often_s3.f x126 x127 x128 x11.Args x11.Locals x129 b130 x131 x132 x133 x11.Code l135 x147 1 x143).bind fun t149 => if x140.Op = 30 then ((elt t23.1 x125).bind fun x152 => (elt m_0.Methods x140.A).bind fun x156 => (elt known_2 x140.A).bind fun x166 => (cost_taker_call_s3.f t149.1 t149.2.1 t149.2.2.1 x11.Args x11.Locals t149.2.2.2.1 t149.2.2.2.2.1 t149.2.2.2.2.2.1 t149.2.2.2.2.2.2.1 t149.2.2.2.2.2.2.2 x11.Code l135 x125 x152 x156 x166).bind fun t168 => cost_one.j1 m_0 k_1 known_2 x11 t23 x125 l135 t168.1 t168.2.1 t168.2.2.1 t168.2.2.2.1 t168.2.2.2.2.1 t168.2.2.2.2.2.1 t168.2.2.2.2.2.2.1 t168.2.2.2.2.2.2.2) else (cost_one.j1 m_0 k_1 known_2 x11 t23 x125 l135 t149.1 t149.2.1 t149.2.2.1 t149.2.2.2.1 t149.2.2.2.2.1 t149.2.2.2.2.2.1 t149.2.2.2.2.2.2.1 t149.2.2.2.2.2.2.2)
def cost_one.F (m_0 : api_Module) (k_1 : Int) (known_2 : List api_Cert) : cost_one.S → Option (cost_one.S ⊕ api_Cert)
  | .start => (elt m_0.Methods k_1).bind fun x11 => (types_Rows.f m_0 k_1).bind fun t20 => (flow_Times.f x11.Code).bind fun t23 => (types_Height.f t20.1).bind fun t28 => (cost_sum_high_s2.f 0 0 0 x11.Args x11.Locals x11.Result x11.Reads x11.Fuel x11.Stack x11.Heap x11.Code t20.1 (IntKind.i64.wrap ((IntKind.i64.wrap ((x11.Args.length : Int) + (x11.Locals.length : Int))) + t28))).bind fun t30 => some (.inl (.l1 x11 t23 0 t30.1 t30.2.1 t30.2.2.1 t30.2.2.2.1 t30.2.2.2.2.1 t30.2.2.2.2.2.1 t30.2.2.2.2.2.2.1 t30.2.2.2.2.2.2.2.1 t30.2.2.2.2.2.2.2.2))
  | .l1 x11 t23 x125 x126 x127 x128 x129 b130 x131 x132 x133 l135 => if x125 < (x11.Code.length : Int) then ((elt x11.Code x125).bind fun x140 => if x140.Op = 22 then (cost_one.j2 m_0 k_1 known_2 x11 t23 x125 x126 x127 x128 x129 b130 x131 x132 x133 l135 x140 x140.A) else (cost_one.j2 m_0 k_1 known_2 x11 t23 x125 x126 x127 x128 x129 b130 x131 x132 x133 l135 x140 0)) else (some (.inr (⟨x126, x127, x128⟩ : api_Cert)))
def cost_one.f (m_0 : api_Module) (k_1 : Int) (known_2 : List api_Cert) : Option api_Cert := runF (cost_one.F m_0 k_1 known_2) .start
theorem cost_one.ok {m_0 k_1 known_2 v_m_0_Globals v_m_0_Pool v_m_0_Methods v_known_2} (r) (H : cost_one.f m_0 k_1 known_2 = some r) : Ok Tryz.prog 25 [.agg #[v_m_0_Globals, v_m_0_Pool, v_m_0_Methods, .int .i64 m_0.Migrate], .int .i64 k_1, v_known_2] [slP k_api_Value v_m_0_Globals m_0.Globals, slP k_api_Value v_m_0_Pool m_0.Pool, slP k_api_Method v_m_0_Methods m_0.Methods, slP k_api_Cert v_known_2 known_2, arrP k_arr199 1 tab1] fun v => HO.pure (v = .agg #[.int .i64 r.Fuel, .int .i64 r.Stack, .int .i64 r.Heap]) := by
 refine oq 100 Tryz.func25 fun w hV see pb => ?_
 obtain ⟨m0, o, ho, hr⟩ := rn H
 refine SP.box rfl rfl rfl rfl fun b5 => ?_
 refine al fun b7 => ?_
 obtain ⟨x11, hx, ho⟩ := elt_bind ho
 refine SP.indexP see 2 rfl Tryz.underlying23 sz43.h hx.1 hx.2 rfl rfl rfl rfl (fun p9 => ?_)
 clear hx
 refine k_api_Method.load see 0 rfl Tryz.underlying43 rfl sz43.h rfl rfl rfl (fun v12 v14 v16 => ?_)
 refine al fun b18 => ?_
 refine sp 0 fun hs_v12 => ?_
 refine sp 1 fun hs_v14 => ?_
 refine sp 2 fun hs_v16 => ?_
 refine st 0 ?_
 refine k1 types_Rows.ok ho fun t20 ho v21 => ?_
 refine k1 flow_Times.ok ho fun t23 ho v24 => ?_
 refine sh 1 fun hs_v21 => ?_
 refine bd [.int .i64 0, .int .i64 0, .int .i64 0, v12, v14, .int .u8 x11.Result, .bool x11.Reads, .int .i64 x11.Fuel, .int .i64 x11.Stack, .int .i64 x11.Heap, v16, v21] ?_
 refine SP.box rfl rfl rfl rfl fun b26 => gg ?_
 refine CP.drawA (by kernel_rfl) (fun w2 k h => h.drawn k) ?_
 obtain ⟨t28, hc29, ho⟩ := bind_some ho
 refine DA.ph 0 13 ?_
 refine DT.tk 0 ?_
 refine DT.tk 1 ?_
 refine DT.tk 2 ?_
 refine DT.tk 3 ?_
 refine DT.tk 4 ?_
 refine DT.tk 5 ?_
 refine DT.tk 6 ?_
 refine DT.tk 7 ?_
 refine DT.tk 8 ?_
 refine DT.tk 9 ?_
 refine DT.tk 10 ?_
 refine DT.one 11 rfl (by kernel_rfl) rfl ?_
 refine SP.callVO see (caps := []) (.int .i64 t28) fn49.h rfl rfl rfl rfl (fun w2 hs => types_Height.ok (rows_0 := t20.1) _ hc29 w2 (hp w2) (Sub.refl _) (aS (slO.read (St.own 2 rfl see.sub see.dj hs) (Sub.refl _) (Sub.refl _)) (All.nil _))) (gg ?_)
 refine QE.atT (fun w2 hw => hw) ?_
 refine DT.tk 12 ?_
 refine DT.next (by kernel_rfl) ?_
 refine DA.one 13 rfl (by kernel_rfl) ?_
 refine SP.imp (fun w2 hw => St.selO [0, 2, 1, 3, 4, 5] rfl rfl hw) ?_
 refine SP.imp (fun w2 hw => St.group [boxO b26 [.int .i64 0, .int .i64 0, .int .i64 0, v12, v14, .int .u8 x11.Result, .bool x11.Reads, .int .i64 x11.Fuel, .int .i64 x11.Stack, .int .i64 x11.Heap, v16, v21] 100, slO k_types_Row 128 v21 t20.1] hw) ?_
 obtain ⟨t30, hc, ho⟩ := bind_some ho
 refine SP.callA see (caps := []) _ fn48.h rfl rfl rfl rfl (fun w2 hP h1 sub s1 d1 ap hI => cost_sum_high_s2.ok _ _ _ _ _ _ _ _ _ _ _ _ _ _ _ _ v21 _ hc w2 hP sub (ap.get 0 rfl) (ap.get 1 rfl) (ap.get 2 rfl) trivial _ h1 s1 d1 hI) (SP.k0 ?_)
 refine SP.ex (fun w2 h => St.open h) (fun v32 => ?_)
 refine SP.imp (fun w2 h => St.seps h) ?_
 clear hc
 refine gg ?_
 refine QE.atA ?_
 refine DA.done (by kernel_rfl) (gg ?_)
 refine CP.freezeS see 2 rfl ?_
 obtain rfl := Option.some.inj ho
 refine CP.loop (fun cl1 a w2 => ∃ x125 : Int, ∃ x126 : Int, ∃ x127 : Int, ∃ x128 : Int, ∃ x129 : Int, ∃ b130 : Bool, ∃ x131 : Int, ∃ x132 : Int, ∃ x133 : Int, ∃ l135 : List types_Row, ∃ v136 : Value, cl1 ≤ m0 ∧ iter (cost_one.F m_0 k_1 known_2) cl1 (.l1 x11 t23 x125 x126 x127 x128 x129 b130 x131 x132 x133 l135) = some r ∧ Env ⟨100, []⟩ [(2, v_known_2), (3, .pointer (some ⟨b5, 0, none⟩)), (6, .pointer (some ⟨b7, 0, none⟩)), (10, v24), (12, .pointer (some ⟨b26, 0, none⟩)), (52, v16), (53, .int .i64 (x11.Code.length : Int)), (54, .int .i64 x125)] a ∧ St w em hV [slP k_types_Row v136 l135, slP (kInt .i64) v24 t23.1, slP (kInt .u8) v12 x11.Args, slP (kInt .u8) v14 x11.Locals, slP k_api_Instr v16 x11.Code, slP k_api_Value v_m_0_Globals m_0.Globals, slP k_api_Value v_m_0_Pool m_0.Pool, slP k_api_Method v_m_0_Methods m_0.Methods, slP k_api_Cert v_known_2 known_2, arrP k_arr199 1 tab1] [boxO b26 [.int .i64 x126, .int .i64 x127, .int .i64 x128, v12, v14, .int .u8 x129, .bool b130, .int .i64 x131, .int .i64 x132, .int .i64 x133, v16, v136] 100, boxO b7 [.int .i64 0, .int .i64 0, .int .i64 0] 45, boxO b5 [v_m_0_Globals, v_m_0_Pool, v_m_0_Methods, .int .i64 m_0.Migrate] 25] w2) m0 (fun a w2 ha hw => ⟨0, t30.1, t30.2.1, t30.2.2.1, t30.2.2.2.1, t30.2.2.2.2.1, t30.2.2.2.2.2.1, t30.2.2.2.2.2.2.1, t30.2.2.2.2.2.2.2.1, t30.2.2.2.2.2.2.2.2, v32, Nat.le_refl _, hr, ha.sub sb, (St.selP [0, 1, 2, 3, 4, 6, 7, 8, 9, 10] rfl (St.selO [0, 2, 3] rfl rfl (St.freezeS hw 1 rfl see)))⟩) ?_
 clear hr
 rintro cl1 a w2 ⟨x125, x126, x127, x128, x129, b130, x131, x132, x133, l135, v136, hc_l1, hi, ha, hw⟩
 obtain ⟨m137, o, hm_m137, ho, hr⟩ := iter_some hi
 refine CP.app ha hw ?_
 clear ha hw a w2 hi
 refine gg ?_
 refine ci (ht := id) ho (fun ho => ?_) fun ho => ?_
 ·refine go ?_
  refine ji hr (fun z => ∃ x169 x170 x171 x172 b173 x174 x175 x176, z (cost_one.j1 m_0 k_1 known_2 x11 t23 x125 l135 x169 x170 x171 x172 b173 x174 x175 x176) [(2, v_known_2), (3, .pointer (some ⟨b5, 0, none⟩)), (6, .pointer (some ⟨b7, 0, none⟩)), (10, v24), (12, .pointer (some ⟨b26, 0, none⟩)), (52, v16), (53, .int .i64 (x11.Code.length : Int)), (54, .int .i64 x125)] [boxO b26 [.int .i64 x169, .int .i64 x170, .int .i64 x171, v12, v14, .int .u8 x172, .bool b173, .int .i64 x174, .int .i64 x175, .int .i64 x176, v16, v136] 100, boxO b7 [.int .i64 0, .int .i64 0, .int .i64 0] 45, boxO b5 [v_m_0_Globals, v_m_0_Pool, v_m_0_Methods, .int .i64 m_0.Migrate] 25]) ?_ ?_ (hb := pe [slP k_types_Row v136 l135, slP (kInt .i64) v24 t23.1, slP (kInt .u8) v12 x11.Args, slP (kInt .u8) v14 x11.Locals, slP k_api_Instr v16 x11.Code, slP k_api_Value v_m_0_Globals m_0.Globals, slP k_api_Value v_m_0_Pool m_0.Pool, slP k_api_Method v_m_0_Methods m_0.Methods, slP k_api_Cert v_known_2 known_2, arrP k_arr199 1 tab1])
  ·rintro _ _ ⟨x169, x170, x171, x172, b173, x174, x175, x176, m177, o, _, ho, hr, h⟩
   refine en h ?_
   obtain rfl := Option.some.inj ho
   exact QE.lower m177 (by omega) fun a w2 ha hw => ⟨(IntKind.i64.wrap (x125 + 1)), x169, x170, x171, x172, b173, x174, x175, x176, l135, v136, (by omega), hr, ha.sub sb, hw⟩
  refine gg ?_
  obtain ⟨x140, hx, ho⟩ := elt_bind ho
  refine SP.indexP see 4 rfl Tryz.underlying41 sz57.h hx.1 hx.2 rfl rfl rfl rfl (fun p138 => ?_)
  clear hx
  refine k_api_Instr.load see 0 rfl Tryz.underlying57 rfl sz57.h rfl rfl rfl ?_
  refine al fun b141 => ?_
  refine st (h := id) 0 ?_
  refine go ?_
  refine ji hr (fun z => ∃ x143, z (cost_one.j2 m_0 k_1 known_2 x11 t23 x125 x126 x127 x128 x129 b130 x131 x132 x133 l135 x140 x143) [(2, v_known_2), (3, .pointer (some ⟨b5, 0, none⟩)), (6, .pointer (some ⟨b7, 0, none⟩)), (10, v24), (12, .pointer (some ⟨b26, 0, none⟩)), (13, .int .i64 x125), (14, .pointer (some ⟨b141, 0, none⟩)), (15, .int .i64 x143), (52, v16), (53, .int .i64 (x11.Code.length : Int)), (54, .int .i64 x125)] [boxO b141 [.int .u8 x140.Op, .int .i64 x140.A, .int .i64 x140.B] 57, boxO b26 [.int .i64 x126, .int .i64 x127, .int .i64 x128, v12, v14, .int .u8 x129, .bool b130, .int .i64 x131, .int .i64 x132, .int .i64 x133, v16, v136] 100, boxO b7 [.int .i64 0, .int .i64 0, .int .i64 0] 45, boxO b5 [v_m_0_Globals, v_m_0_Pool, v_m_0_Methods, .int .i64 m_0.Migrate] 25]) ?_ ?_ (hb := pe [slP k_types_Row v136 l135, slP (kInt .i64) v24 t23.1, slP (kInt .u8) v12 x11.Args, slP (kInt .u8) v14 x11.Locals, slP k_api_Instr v16 x11.Code, slP k_api_Value v_m_0_Globals m_0.Globals, slP k_api_Value v_m_0_Pool m_0.Pool, slP k_api_Method v_m_0_Methods m_0.Methods, slP k_api_Cert v_known_2 known_2, arrP k_arr199 1 tab1])
  ·rintro _ _ ⟨x143, m144, o, _, ho, hr, h⟩
   refine en h ?_
   refine CP.drawA (by kernel_rfl) (fun w2 k h => h.drawn k) ?_
   obtain ⟨x147, hx, ho⟩ := elt_bind ho
   refine DA.ghost (fun w2 h => h.elem see 1 rfl hx.1 hx.2) (fun p145 h_p145 => ?_)
   clear hx
   refine DA.ghost (fun w2 h => h.openE see 0 rfl (fun _ : Unit => [.int .i64 x147]) (fun _ => []) (fun h cs e => ⟨(), e, All.nil _⟩)) (fun _ _ => ?_)
   refine DA.ph 0 8 ?_
   refine DT.tk 0 ?_
   refine DT.tk 1 ?_
   refine DT.tk 2 ?_
   refine DT.tk 3 ?_
   refine DT.tk 4 ?_
   refine DT.tv 5 rfl (Val.indexE h_p145 Tryz.underlying60 sz3.h rfl rfl) ?_
   refine DT.tv 6 rfl (Val.loadAt1 see 0 rfl Tryz.underlying3 rfl rfl) ?_
   refine DT.tk 7 ?_
   refine DT.next (by kernel_rfl) ?_
   refine DA.one 8 rfl (by kernel_rfl) ?_
   refine SP.imp (fun w2 hw => St.selO [1, 0, 2, 3] rfl rfl hw) ?_
   obtain ⟨t149, hc, ho⟩ := bind_some ho
   refine SP.callA see (caps := []) _ fn50.h rfl rfl rfl rfl (fun w2 hP h1 sub s1 d1 ap hI => cost_sum_often_s3.ok _ _ _ _ _ _ _ _ _ _ _ _ _ _ _ _ _ _ _ _ hc w2 hP sub (ap.get 4 rfl) (ap.get 5 rfl) (ap.get 6 rfl) (ap.get 2 rfl) _ h1 s1 d1 hI) (SP.k0 ?_)
   clear hc
   refine gg ?_
   refine QE.atA ?_
   refine DA.done (by kernel_rfl) (gg ?_)
   refine ci ho (fun ho => ?_) fun ho => ?_
   ·refine CP.drawA (by kernel_rfl) (fun w2 k h => h.drawn k) ?_
    obtain ⟨x152, hx, ho⟩ := elt_bind ho
    refine DA.ghost (fun w2 h => h.elem see 3 rfl hx.1 hx.2) (fun p150 h_p150 => ?_)
    clear hx
    refine DA.ghost (fun w2 h => h.openE see 0 rfl (fun _ : Unit => [.int .i64 x152]) (fun _ => []) (fun h cs e => ⟨(), e, All.nil _⟩)) (fun _ _ => ?_)
    obtain ⟨x156, hx, ho⟩ := elt_bind ho
    refine DA.ghost (fun w2 h => h.elem see 11 rfl hx.1 hx.2) (fun p154 h_p154 => ?_)
    clear hx
    refine DA.ghost (fun w2 h => h.openE see 0 rfl (fun ((v157, v159, v161) : Value × Value × Value) => [v157, v159, .int .u8 x156.Result, .bool x156.Reads, .int .i64 x156.Fuel, .int .i64 x156.Stack, .int .i64 x156.Heap, v161]) (fun ((v157, v159, v161) : Value × Value × Value) => [slP (kInt .u8) v157 x156.Args, slP (kInt .u8) v159 x156.Locals, slP k_api_Instr v161 x156.Code]) (fun h cs ⟨v157, v159, v161, e, p0, p1, p2⟩ => ⟨(v157, v159, v161), e, All.cons p0 (All.cons p1 (All.cons p2 (All.nil _)))⟩)) (fun z_ _ => ?_)
    obtain ⟨v157, v159, v161⟩ := z_
    obtain ⟨x166, hx, ho⟩ := elt_bind ho
    refine DA.ghost (fun w2 h => h.elem see 17 rfl hx.1 hx.2) (fun p164 h_p164 => ?_)
    clear hx
    refine DA.ghost (fun w2 h => h.openE see 0 rfl (fun _ : Unit => [.int .i64 x166.Fuel, .int .i64 x166.Stack, .int .i64 x166.Heap]) (fun _ => []) (fun h cs e => ⟨(), e, All.nil _⟩)) (fun _ _ => ?_)
    refine DA.ph 0 17 ?_
    refine DT.tk 0 ?_
    refine DT.tk 1 ?_
    refine DT.tk 2 ?_
    refine DT.tk 3 ?_
    refine DT.tv 4 rfl (Val.indexE h_p150 Tryz.underlying60 sz3.h rfl rfl) ?_
    refine DT.tv 5 rfl (Val.loadAt1 see 7 rfl Tryz.underlying3 rfl rfl) ?_
    refine DT.tk 6 ?_
    refine DT.tk 7 ?_
    refine DT.tk 8 ?_
    refine DT.tk 9 ?_
    refine DT.tv 10 rfl (Val.indexE h_p154 Tryz.underlying23 sz43.h rfl rfl) ?_
    refine DT.tv 11 rfl (Val.loadAtA see 2 rfl Tryz.underlying43 rfl sz43.h rfl) ?_
    refine DT.tk 12 ?_
    refine DT.tk 13 ?_
    refine DT.tk 14 ?_
    refine DT.tv 15 rfl (Val.indexE h_p164 Tryz.underlying29 sz45.h rfl rfl) ?_
    refine DT.tv 16 rfl (Val.loadAtA see 0 rfl Tryz.underlying45 rfl sz45.h rfl) ?_
    refine DT.next (by kernel_rfl) ?_
    refine DA.one 17 rfl (by kernel_rfl) ?_
    obtain ⟨t168, hc, ho⟩ := bind_some ho
    refine SP.callA see (caps := []) _ fn51.h rfl rfl rfl rfl (fun w2 hP h1 sub s1 d1 ap hI => cost_taker_call_s3.ok _ _ _ _ _ _ _ _ _ _ _ _ _ _ _ _ _ _ _ _ _ _ _ _ hc w2 hP sub (ap.get 13 rfl) (ap.get 14 rfl) (ap.get 15 rfl) (ap.get 11 rfl) (ap.get 3 rfl) (ap.get 4 rfl) (ap.get 5 rfl) _ h1 s1 d1 hI) (SP.k0 ?_)
    clear hc
    refine gg ?_
    refine QE.atA ?_
    refine DA.done (by kernel_rfl) (gg ?_)
    exact mi ho hr (fun _ z => ⟨t168.1, t168.2.1, t168.2.2.1, t168.2.2.2.1, t168.2.2.2.2.1, t168.2.2.2.2.2.1, t168.2.2.2.2.2.2.1, t168.2.2.2.2.2.2.2, z⟩) (sO [0, 2, 3])
   exact mi ho hr (fun _ z => ⟨t149.1, t149.2.1, t149.2.2.1, t149.2.2.2.1, t149.2.2.2.2.1, t149.2.2.2.2.2.1, t149.2.2.2.2.2.2.1, t149.2.2.2.2.2.2.2, z⟩) (sO [0, 2, 3])
  refine gg ?_
  refine ci ho (fun ho => ?_) fun ho => ?_
  ·exact mi ho hr (fun _ z => ⟨x140.A, z⟩)
  exact mi ho hr (fun _ z => ⟨0, z⟩)
 refine st 1 ?_
 exact fin ho hr ▸ rt (rs := [.cell 6 45]) (vs := [.agg #[.int .i64 x126, .int .i64 x127, .int .i64 x128]]) (hv := ⟨RVs.cellA 1 rfl rfl Tryz.underlying45 rfl sz45.h, trivial⟩)
def cost_within.f (n_0 declared_1 most_2 : Int) : Option Bool :=
  some (((decide (n_0 ≥ 0)) && (decide (n_0 ≤ declared_1))) && (decide (n_0 ≤ most_2)))
theorem cost_within.ok {n_0 declared_1 most_2} (r) (ho : cost_within.f n_0 declared_1 most_2 = some r) : Ok Tryz.prog 52 [.int .i64 n_0, .int .i64 declared_1, .int .i64 most_2] [] fun v => HO.pure (v = .bool r) := by
 refine oq 19 Tryz.func52 fun w hV see pb => ?_
 refine SP.jn 4 [0, 2] 13 (.bool ((decide (n_0 ≥ 0)) && (decide (n_0 ≤ declared_1)))) ?_ ?_
 ·refine gg ?_
  refine SP.jn 4 [] 18 (.bool (((decide (n_0 ≥ 0)) && (decide (n_0 ≤ declared_1))) && (decide (n_0 ≤ most_2)))) ?_ ?_
  ·refine gg ?_
   exact Option.some.inj ho ▸ rt
  refine SP.bb 14 (fun hq4 => ?_) fun hq4 => ?_
  ·refine gg ?_
   exact QE.jb (and_t hq4 rfl) fun w2 hw => hw
  refine gg ?_
  exact QE.jb (and_f hq4) fun w2 hw => hw
 refine SP.bb 9 (fun hq2 => ?_) fun hq2 => ?_
 ·refine gg ?_
  exact QE.jb (and_t hq2 rfl) fun w2 hw => hw
 refine gg ?_
 exact QE.jb (and_f hq2) fun w2 hw => hw
def cost_Fits.f (c_0 : api_Cert) (x_1 : api_Method) : Option Bool :=
  (cost_within.f c_0.Fuel x_1.Fuel 1048576).bind fun t8 => (if t8 = true then ((cost_within.f c_0.Stack x_1.Stack 256).bind fun t11 => some t11) else (some false)).bind fun t12 => (if t12 = true then ((cost_within.f c_0.Heap x_1.Heap 1024).bind fun t15 => some t15) else (some false)).bind fun t16 => some t16
theorem cost_Fits.ok {c_0 x_1 v_x_1_Args v_x_1_Locals v_x_1_Code} (r) (ho : cost_Fits.f c_0 x_1 = some r) : Ok Tryz.prog 26 [.agg #[.int .i64 c_0.Fuel, .int .i64 c_0.Stack, .int .i64 c_0.Heap], .agg #[v_x_1_Args, v_x_1_Locals, .int .u8 x_1.Result, .bool x_1.Reads, .int .i64 x_1.Fuel, .int .i64 x_1.Stack, .int .i64 x_1.Heap, v_x_1_Code]] [slP (kInt .u8) v_x_1_Args x_1.Args, slP (kInt .u8) v_x_1_Locals x_1.Locals, slP k_api_Instr v_x_1_Code x_1.Code] fun v => HO.pure (v = .bool r) := by
 refine oq 24 Tryz.func26 fun w hV see pb => ?_
 refine SP.box rfl rfl rfl rfl fun b4 => ?_
 refine SP.box rfl rfl rfl rfl fun b6 => gg ?_
 refine kv cost_within.ok ho fun t8 ho => ?_
 obtain ⟨t12, hg_t12, ho⟩ := bind_some ho
 refine SP.jn 6 [2, 3] 16 (.bool t12) ?_ ?_
 ·clear hg_t12
  refine gg ?_
  obtain ⟨t16, hg_t16, ho⟩ := bind_some ho
  refine SP.jn 6 [] 23 (.bool t16) ?_ ?_
  ·clear hg_t16
   refine gg ?_
   exact Option.some.inj ho ▸ rt
  refine SP.cb 17 hg_t16 (fun hq14 ho => ?_) fun hq14 ho => ?_
  ·refine gg ?_
   refine kv cost_within.ok ho fun t15 ho => ?_
   obtain rfl := Option.some.inj ho
   exact QE.jn fun w2 hw => hw
  refine gg ?_
  obtain rfl := Option.some.inj ho
  exact QE.jn fun w2 hw => hw
 refine SP.cb 10 hg_t12 (fun hq10 ho => ?_) fun hq10 ho => ?_
 ·refine gg ?_
  refine kv cost_within.ok ho fun t11 ho => ?_
  obtain rfl := Option.some.inj ho
  exact QE.jn fun w2 hw => hw
 refine gg ?_
 obtain rfl := Option.some.inj ho
 exact QE.jn fun w2 hw => hw
inductive cost_Costs.S where
  | start
  | l1 (t6 : (List Int) × Int) (x61 : Int)
  | l2 (t6 : (List Int) × Int) (l87 : List api_Cert) (x89 : Int)
def cost_Costs.F (m_0 : api_Module) : cost_Costs.S → Option (cost_Costs.S ⊕ ((List api_Cert) × Int))
  | .start => (calls_Order.f m_0).bind fun t6 => if t6.2 ≠ 0 then (some (.inr ([], t6.2))) else (some (.inl (.l1 t6 0)))
  | .l1 t6 x61 => if x61 < (m_0.Methods.length : Int) then ((types_Check.f m_0 x61).bind fun t63 => if t63 ≠ 0 then (some (.inr ([], t63))) else (some (.inl (.l1 t6 (IntKind.i64.wrap (x61 + 1)))))) else (if (0 : Int) ≤ (t6.1.length : Int) ∧ (24 : Int) * (t6.1.length : Int) ≤ 281474976710656 ∧ ((t6.1.length : Int) : Int) ≤ 9223372036854775807 then (some (.inl (.l2 t6 (List.replicate ((t6.1.length : Int) : Int).toNat api_Cert.zero : List api_Cert) 0))) else none)
  | .l2 t6 l87 x89 => if x89 < (t6.1.length : Int) then ((elt t6.1 x89).bind fun x92 => (cost_one.f m_0 x92 l87).bind fun t93 => (elt l87 x92).bind fun x95 => (elt (l87.set x92.toNat t93) x92).bind fun x97 => (elt m_0.Methods x92).bind fun x100 => (cost_Fits.f x97 x100).bind fun t108 => if (!t108) = true then (some (.inr ([], 120))) else (some (.inl (.l2 t6 (l87.set x92.toNat t93) (IntKind.i64.wrap (x89 + 1)))))) else (some (.inr (l87, 0)))
def cost_Costs.f (m_0 : api_Module) : Option ((List api_Cert) × Int) := runF (cost_Costs.F m_0) .start
theorem cost_Costs.ok {m_0 v_m_0_Globals v_m_0_Pool v_m_0_Methods} (r) (H : cost_Costs.f m_0 = some r) : Ok Tryz.prog 15 [.agg #[v_m_0_Globals, v_m_0_Pool, v_m_0_Methods, .int .i64 m_0.Migrate]] [slP k_api_Value v_m_0_Globals m_0.Globals, slP k_api_Value v_m_0_Pool m_0.Pool, slP k_api_Method v_m_0_Methods m_0.Methods, arrP k_arr199 1 tab1] fun v => HO.ex fun u0 : Value => HO.pand (v = .tuple #[u0, .int .i64 r.2]) (HO.seps [slO k_api_Cert 45 u0 r.1]) := by
 refine oq 61 Tryz.func15 fun w hV see pb => ?_
 obtain ⟨m0, o, ho, hr⟩ := rn H
 refine SP.box rfl rfl rfl rfl fun b4 => gg ?_
 refine k1 calls_Order.ok ho fun t6 ho v7 => ?_
 refine ci ho (fun ho => ?_) fun ho => ?_
 ·exact fin ho hr ▸ rt (fun _ h => St.selO [0] rfl rfl (St.addO (slO.nil k_api_Cert 45) h))
 refine lo ho hr (fun z => ∃ x61, z (.l1 t6 x61) [(1, .pointer (some ⟨b4, 0, none⟩)), (4, v7), (21, .int .i64 (m_0.Methods.length : Int)), (22, .int .i64 x61)] [slO (kInt .i64) 3 v7 t6.1, boxO b4 [v_m_0_Globals, v_m_0_Pool, v_m_0_Methods, .int .i64 m_0.Migrate] 25]) (fun _ z => ⟨0, z⟩) ?_
 rintro _ _ _ ⟨x61, m62, o, _, _, ho, hr, h⟩
 refine en h ?_
 refine ci ho (fun ho => ?_) fun ho => ?_
 ·refine kv types_Check.ok ho fun t63 ho => ?_
  refine ci ho (fun ho => ?_) fun ho => ?_
  ·exact fin ho hr ▸ rt (fun _ h => St.selO [0] rfl rfl (St.addO (slO.nil k_api_Cert 45) h))
  exact lw ho hr (fun _ z => ⟨(IntKind.i64.wrap (x61 + 1)), z⟩)
 obtain ⟨hb, ho⟩ := must_some ho
 refine SP.makeS (k := k_api_Cert) (z := api_Cert.zero) Tryz.underlying29 inf45.h rfl rfl (fun _ => rfl) rfl rfl rfl rfl hb (fun v65 => ?_)
 clear hb
 refine gg ?_
 refine lo ho hr (fun z => ∃ l87 x89 v88, z (.l2 t6 l87 x89) [(1, .pointer (some ⟨b4, 0, none⟩)), (8, v88), (35, v7), (36, .int .i64 (t6.1.length : Int)), (37, .int .i64 x89)] [slO k_api_Cert 45 v88 l87, slO (kInt .i64) 3 v7 t6.1, boxO b4 [v_m_0_Globals, v_m_0_Pool, v_m_0_Methods, .int .i64 m_0.Migrate] 25]) (fun _ z => ⟨(List.replicate ((t6.1.length : Int) : Int).toNat api_Cert.zero : List api_Cert), 0, v65, z⟩) ?_
 rintro _ _ _ ⟨l87, x89, v88, m90, o, _, _, ho, hr, h⟩
 refine en h ?_
 refine ci ho (fun ho => ?_) fun ho => ?_
 ·obtain ⟨x92, hx_x92, ho⟩ := elt_bind ho
  refine SP.indexW (fun w2 hw => slO.whole (St.own 1 rfl see.sub see.dj hw)) Tryz.underlying60 sz3.h hx_x92.1 hx_x92.2 rfl rfl rfl rfl (fun p91 h_p91 => ?_)
  refine SP.val (Val.loadW1 (off := 0) (k := (kInt .i64)) (fun w2 hw => slO.whole (St.own 1 rfl see.sub see.dj hw)) hx_x92.2 h_p91 (fun _ _ e => by subst e; rfl) Tryz.underlying3 rfl rfl) rfl rfl rfl (gg ?_)
  obtain ⟨t93, hc, ho⟩ := bind_some ho
  refine SP.callVO see (caps := []) (.agg #[.int .i64 t93.Fuel, .int .i64 t93.Stack, .int .i64 t93.Heap]) fn25.h rfl rfl rfl rfl (fun w2 hs => cost_one.ok _ hc w2 (hp w2) (Sub.refl _) (aS ((St.pers 0 rfl see.sub see.dj hs)) (aS ((St.pers 1 rfl see.sub see.dj hs)) (aS ((St.pers 2 rfl see.sub see.dj hs)) (aS (slO.read (St.own 0 rfl see.sub see.dj hs) (Sub.refl _) (Sub.refl _)) (All.cons ((St.pers 3 rfl see.sub see.dj hs)) (All.nil _))))))) ?_
  clear hc
  obtain ⟨x95, hx_x95, ho⟩ := elt_bind ho
  refine SP.indexW (fun w2 hw => slO.whole (St.own 0 rfl see.sub see.dj hw)) Tryz.underlying29 sz45.h hx_x95.1 hx_x95.2 rfl rfl rfl rfl (fun p94 h_p94 => ?_)
  refine SP.storeO (z0 := t93) (off := 0) (vs := [.int .i64 t93.Fuel, .int .i64 t93.Stack, .int .i64 t93.Heap]) see 0 rfl hx_x95.2 h_p94 rfl rfl sz45.h rfl (fun a cs _ e => by subst e; rfl) rfl rfl rfl (gg ?_)
  refine CP.drawA (by kernel_rfl) (fun w2 k h => h.drawn k) ?_
  obtain ⟨x97, hx_x97, ho⟩ := elt_bind ho
  refine DA.ghost (fun w2 hw => let ⟨z, hz⟩ := ixC ((fun w2 hw => slO.whole (St.own 0 rfl see.sub see.dj hw)) w2 hw) hx_x97.1 hx_x97.2; ⟨z, hz, hw⟩) (fun p96 i_p96 => ?_)
  have h_p96 := i_p96.1
  obtain ⟨x100, hx, ho⟩ := elt_bind ho
  refine DA.ghost (fun w2 h => h.elem see 2 rfl hx.1 hx.2) (fun p98 h_p98 => ?_)
  clear hx
  refine DA.ghost (fun w2 h => h.openE see 0 rfl (fun ((v101, v103, v105) : Value × Value × Value) => [v101, v103, .int .u8 x100.Result, .bool x100.Reads, .int .i64 x100.Fuel, .int .i64 x100.Stack, .int .i64 x100.Heap, v105]) (fun ((v101, v103, v105) : Value × Value × Value) => [slP (kInt .u8) v101 x100.Args, slP (kInt .u8) v103 x100.Locals, slP k_api_Instr v105 x100.Code]) (fun h cs ⟨v101, v103, v105, e, p0, p1, p2⟩ => ⟨(v101, v103, v105), e, All.cons p0 (All.cons p1 (All.cons p2 (All.nil _)))⟩)) (fun z_ _ => ?_)
  obtain ⟨v101, v103, v105⟩ := z_
  refine DA.ph 0 9 ?_
  refine DT.tk 0 ?_
  refine DT.tk 1 ?_
  refine DT.tv 2 rfl (Val.indexC' i_p96 Tryz.underlying29 sz45.h rfl rfl) ?_
  refine DT.tv 3 rfl (Val.loadOA see 0 rfl hx_x97.2 h_p96 (fun _ _ e => e) Tryz.underlying45 rfl sz45.h rfl) ?_
  refine DT.tk 4 ?_
  refine DT.tk 5 ?_
  refine DT.tk 6 ?_
  refine DT.tv 7 rfl (Val.indexE h_p98 Tryz.underlying23 sz43.h rfl rfl) ?_
  refine DT.tv 8 rfl (Val.loadAtA see 0 rfl Tryz.underlying43 rfl sz43.h rfl) ?_
  refine DT.next (by kernel_rfl) ?_
  refine DA.one 9 rfl (by kernel_rfl) ?_
  refine kv cost_Fits.ok ho fun t108 ho => ?_
  refine QE.atA ?_
  refine DA.one 10 rfl (by kernel_rfl) (gg ?_)
  refine QE.atA ?_
  refine DA.done (by kernel_rfl) (gg ?_)
  refine cb ho (fun ho => ?_) fun ho => ?_
  ·exact fin ho hr ▸ rt (fun _ h => St.selO [0] rfl rfl (St.addO (slO.nil k_api_Cert 45) h))
  exact lw ho hr (fun _ z => ⟨(l87.set x92.toNat t93), (IntKind.i64.wrap (x89 + 1)), v88, z⟩)
 exact fin ho hr ▸ rt (sO [0])
def cost_Check.f (m_0 : api_Module) : Option Int :=
  (cost_Costs.f m_0).bind fun t6 => some t6.2
theorem cost_Check.ok {m_0 v_m_0_Globals v_m_0_Pool v_m_0_Methods} (r) (ho : cost_Check.f m_0 = some r) : Ok Tryz.prog 69 [.agg #[v_m_0_Globals, v_m_0_Pool, v_m_0_Methods, .int .i64 m_0.Migrate]] [slP k_api_Value v_m_0_Globals m_0.Globals, slP k_api_Value v_m_0_Pool m_0.Pool, slP k_api_Method v_m_0_Methods m_0.Methods, arrP k_arr199 1 tab1] fun v => HO.pure (v = .int .i64 r) := by
 refine oq 11 Tryz.func69 fun w hV see pb => ?_
 refine SP.box rfl rfl rfl rfl fun b4 => gg ?_
 refine k1 cost_Costs.ok ho fun t6 ho v7 => ?_
 exact Option.some.inj ho ▸ rt
inductive pure_whom.S where
  | start
  | l1 (l18 : List (List Int)) (x20 : Int)
def pure_whom.F (m_0 : api_Module) : pure_whom.S → Option (pure_whom.S ⊕ ((List (List Int)) × Int))
  | .start => some (.inl (.l1 [] 0))
  | .l1 l18 x20 => if x20 < (m_0.Methods.length : Int) then ((calls_Whom.f m_0 x20).bind fun t22 => if t22.2 ≠ 0 then (some (.inr ([], t22.2))) else (if (l18.length + [t22.1].length) * 24 ≤ 140737488355328 then (some (.inl (.l1 (l18 ++ [t22.1]) (IntKind.i64.wrap (x20 + 1))))) else none)) else (some (.inr (l18, 0)))
def pure_whom.f (m_0 : api_Module) : Option ((List (List Int)) × Int) := runF (pure_whom.F m_0) .start
theorem pure_whom.ok {m_0 v_m_0_Globals v_m_0_Pool v_m_0_Methods} (r) (H : pure_whom.f m_0 = some r) : Ok Tryz.prog 109 [.agg #[v_m_0_Globals, v_m_0_Pool, v_m_0_Methods, .int .i64 m_0.Migrate]] [slP k_api_Value v_m_0_Globals m_0.Globals, slP k_api_Value v_m_0_Pool m_0.Pool, slP k_api_Method v_m_0_Methods m_0.Methods] fun v => HO.ex fun u0 : Value => HO.pand (v = .tuple #[u0, .int .i64 r.2]) (HO.seps [slO (kSl (kInt .i64)) 60 u0 r.1]) := by
 refine oq 29 Tryz.func109 fun w hV see pb => ?_
 obtain ⟨m0, o, ho, hr⟩ := rn H
 refine SP.box rfl rfl rfl rfl fun b4 => gg ?_
 refine lo ho hr (fun z => ∃ l18 x20 v19, z (.l1 l18 x20) [(1, .pointer (some ⟨b4, 0, none⟩)), (4, v19), (10, .int .i64 (m_0.Methods.length : Int)), (11, .int .i64 x20)] [slO (kSl (kInt .i64)) 60 v19 l18, boxO b4 [v_m_0_Globals, v_m_0_Pool, v_m_0_Methods, .int .i64 m_0.Migrate] 25]) (fun _ z => ⟨[], 0, (.slice none 0 0), z⟩) ?_ (fun _ hw => (St.addO (slO.nil (kSl (kInt .i64)) 60) hw))
 rintro _ _ _ ⟨l18, x20, v19, m21, o, _, _, ho, hr, h⟩
 refine en h ?_
 refine ci ho (fun ho => ?_) fun ho => ?_
 ·obtain ⟨t22, hc, ho⟩ := bind_some ho
  refine SP.callK see (caps := []) _ fn71.h rfl rfl rfl rfl (fun w2 hP hs sub ap => calls_Whom.ok _ _ _ _ _ _ hc w2 hP sub (ap.get 0 rfl) (ap.get 1 rfl) (ap.get 2 rfl)) (SP.k1 fun v23 => ?_)
  clear hc
  refine gg ?_
  refine ci ho (fun ho => ?_) fun ho => ?_
  ·exact fin ho hr ▸ rt (fun _ h => St.selO [0] rfl rfl (St.addO (slO.nil (kSl (kInt .i64)) 60) h))
  refine SP.freezeS see 0 rfl ?_
  refine SP.litS (k := (kSl (kInt .i64))) (xs := [t22.1]) (vs := [v23]) Tryz.underlying83 inf60.h rfl rfl rfl rfl rfl rfl (fun _ ap => ⟨slR.cells1 (ap.get 0 rfl), trivial⟩) (fun _ ap => ⟨[v23], _, rfl, ⟨_, rfl, ap.get 0 rfl⟩, rfl⟩) rfl rfl rfl (fun v26 => ?_)
  refine SP.freezeS see 0 rfl ?_
  refine ap 0 0 ho fun v28 ho => ?_
  exact lw ho hr (fun _ z => ⟨(l18 ++ [t22.1]), (IntKind.i64.wrap (x20 + 1)), v28, z⟩)
 exact fin ho hr ▸ rt (sO [0])
def pure_stores_1.f (i_0 : api_Instr) : Option Bool :=
  some (decide (i_0.Op = 5))
theorem pure_stores_1.ok {i_0} (r) (ho : pure_stores_1.f i_0 = some r) : Ok Tryz.prog 138 [.agg #[.int .u8 i_0.Op, .int .i64 i_0.A, .int .i64 i_0.B]] [] fun v => HO.pure (v = .bool r) := by
 refine oq 6 Tryz.func138 fun w hV see pb => ?_
 refine SP.box rfl rfl rfl rfl fun b1 => gg ?_
 exact Option.some.inj ho ▸ rt
inductive slices_IndexFunc_api_Instr_api_Instr_s4.S where
  | start
  | l1 (x7 : Int)
def slices_IndexFunc_api_Instr_api_Instr_s4.F (s_0 : List api_Instr) : slices_IndexFunc_api_Instr_api_Instr_s4.S → Option (slices_IndexFunc_api_Instr_api_Instr_s4.S ⊕ Int)
  | .start => some (.inl (.l1 0))
  | .l1 x7 => if x7 < (s_0.length : Int) then ((elt s_0 x7).bind fun x11 => (pure_stores_1.f x11).bind fun t12 => if t12 = true then (some (.inr x7)) else (some (.inl (.l1 (IntKind.i64.wrap (x7 + 1)))))) else (some (.inr (-1)))
def slices_IndexFunc_api_Instr_api_Instr_s4.f (s_0 : List api_Instr) : Option Int := runF (slices_IndexFunc_api_Instr_api_Instr_s4.F s_0) .start
theorem slices_IndexFunc_api_Instr_api_Instr_s4.ok {s_0 v_s_0} (r) (H : slices_IndexFunc_api_Instr_api_Instr_s4.f s_0 = some r) : Ok Tryz.prog 119 [v_s_0, .func (.func 138) #[] #[]] [slP k_api_Instr v_s_0 s_0] fun v => HO.pure (v = .int .i64 r) := by
 refine oq 19 Tryz.func119 fun w hV see pb => ?_
 obtain ⟨m0, o, ho, hr⟩ := rn H
 refine lo ho hr (fun z => ∃ x7, z (.l1 x7) [(0, v_s_0), (1, .func (.func 138) #[] #[]), (7, .int .i64 (s_0.length : Int)), (8, .int .i64 x7)] []) (fun _ z => ⟨0, z⟩) ?_
 rintro _ _ _ ⟨x7, m8, o, _, _, ho, hr, h⟩
 refine en h ?_
 refine ci ho (fun ho => ?_) fun ho => ?_
 ·obtain ⟨x11, hx, ho⟩ := elt_bind ho
  refine SP.indexP see 0 rfl Tryz.underlying41 sz57.h hx.1 hx.2 rfl rfl rfl rfl (fun p9 => ?_)
  clear hx
  refine k_api_Instr.load see 0 rfl Tryz.underlying57 rfl sz57.h rfl rfl rfl ?_
  refine kv pure_stores_1.ok ho fun t12 ho => ?_
  refine cb ho (fun ho => ?_) fun ho => ?_
  ·exact fin ho hr ▸ rt
  exact lw ho hr (fun _ z => ⟨(IntKind.i64.wrap (x7 + 1)), z⟩)
 exact fin ho hr ▸ rt
def slices_ContainsFunc_api_Instr_api_Instr_s4.f (s_0 : List api_Instr) : Option Bool :=
  (slices_IndexFunc_api_Instr_api_Instr_s4.f s_0).bind fun t2 => some (decide (t2 ≥ 0))
theorem slices_ContainsFunc_api_Instr_api_Instr_s4.ok {s_0 v_s_0} (r) (ho : slices_ContainsFunc_api_Instr_api_Instr_s4.f s_0 = some r) : Ok Tryz.prog 78 [v_s_0, .func (.func 138) #[] #[]] [slP k_api_Instr v_s_0 s_0] fun v => HO.pure (v = .bool r) := by
 refine oq 9 Tryz.func78 fun w hV see pb => ?_
 refine kv slices_IndexFunc_api_Instr_api_Instr_s4.ok ho fun t2 ho => ?_
 exact Option.some.inj ho ▸ rt
def pure_stores.f (x_0 : api_Method) : Option Bool :=
  (slices_ContainsFunc_api_Instr_api_Instr_s4.f x_0.Code).bind fun t6 => some t6
theorem pure_stores.ok {x_0 v_x_0_Args v_x_0_Locals v_x_0_Code} (r) (ho : pure_stores.f x_0 = some r) : Ok Tryz.prog 111 [.agg #[v_x_0_Args, v_x_0_Locals, .int .u8 x_0.Result, .bool x_0.Reads, .int .i64 x_0.Fuel, .int .i64 x_0.Stack, .int .i64 x_0.Heap, v_x_0_Code]] [slP (kInt .u8) v_x_0_Args x_0.Args, slP (kInt .u8) v_x_0_Locals x_0.Locals, slP k_api_Instr v_x_0_Code x_0.Code] fun v => HO.pure (v = .bool r) := by
 refine oq 6 Tryz.func111 fun w hV see pb => ?_
 refine SP.box rfl rfl rfl rfl fun b4 => gg ?_
 refine kv slices_ContainsFunc_api_Instr_api_Instr_s4.ok ho fun t6 ho => ?_
 exact Option.some.inj ho ▸ rt
def pure_Check_1_s1.f (n_0 : Int) (c0_1 c0_3 : List api_Value) (c0_5 : List api_Method) (c0_7 : Int) : Option Bool :=
  (elt c0_5 n_0).bind fun x12 => some (!x12.Reads)
theorem pure_Check_1_s1.ok {n_0 c0_1 c0_3 c0_5 c0_7 v_c0_1 v_c0_3 v_c0_5 b8} (r) (ho : pure_Check_1_s1.f n_0 c0_1 c0_3 c0_5 c0_7 = some r) : Ok Tryz.prog 110 [.int .i64 n_0, .pointer (some ⟨b8, 0, none⟩)] [slP k_api_Value v_c0_1 c0_1, slP k_api_Value v_c0_3 c0_3, slP k_api_Method v_c0_5 c0_5, boxP b8 [v_c0_1, v_c0_3, v_c0_5, .int .i64 c0_7] 25] fun v => HO.pure (v = .bool r) := by
 refine oq (h := fun _ _ _ => id) 11 Tryz.func110 fun w hV see pb => ?_
 refine CP.seq ?_
 refine CP.region ?_
 refine SP.val (Val.assign rfl) rfl rfl rfl ?_
 refine SP.nil ?_
 refine QE.then ?_
 refine CP.seq ?_
 refine CP.region ?_
 refine SP.val (Val.fieldAddr Tryz.underlying25 rfl sz23.h rfl) rfl rfl rfl ?_
 refine SP.val (Val.loadB1 see 3 rfl Tryz.underlying23 rfl rfl rfl) rfl rfl rfl (gg ?_)
 obtain ⟨x12, hx, ho⟩ := elt_bind ho
 refine SP.indexP see 2 rfl Tryz.underlying23 sz43.h hx.1 hx.2 rfl rfl rfl rfl (fun p10 => ?_)
 clear hx
 refine SP.fieldP see 0 rfl Tryz.underlying43 rfl sz4.h k_api_Method.part_Reads rfl rfl rfl (fun p13 => ?_)
 refine SP.val (Val.loadP1 see 0 rfl (fun _ _ e => e) Tryz.underlying4 rfl rfl) rfl rfl rfl (gg ?_)
 exact Option.some.inj ho ▸ rt
inductive slices_IndexFunc_int_int_s1.S where
  | start
  | l1 (x16 : Int)
def slices_IndexFunc_int_int_s1.F (s_0 : List Int) (f_1_2 f_1_4 : List api_Value) (f_1_6 : List api_Method) (f_1_8 : Int) : slices_IndexFunc_int_int_s1.S → Option (slices_IndexFunc_int_int_s1.S ⊕ Int)
  | .start => some (.inl (.l1 0))
  | .l1 x16 => if x16 < (s_0.length : Int) then ((elt s_0 x16).bind fun x20 => (pure_Check_1_s1.f x20 f_1_2 f_1_4 f_1_6 f_1_8).bind fun t21 => if t21 = true then (some (.inr x16)) else (some (.inl (.l1 (IntKind.i64.wrap (x16 + 1)))))) else (some (.inr (-1)))
def slices_IndexFunc_int_int_s1.f (s_0 : List Int) (f_1_2 f_1_4 : List api_Value) (f_1_6 : List api_Method) (f_1_8 : Int) : Option Int := runF (slices_IndexFunc_int_int_s1.F s_0 f_1_2 f_1_4 f_1_6 f_1_8) .start
theorem slices_IndexFunc_int_int_s1.ok {s_0 f_1_2 f_1_4 f_1_6 f_1_8 v_s_0 v_f_1_2 v_f_1_4 v_f_1_6 b9} (r) (H : slices_IndexFunc_int_int_s1.f s_0 f_1_2 f_1_4 f_1_6 f_1_8 = some r) : Ok Tryz.prog 139 [v_s_0, .func (.func 110) #[] #[.pointer (some ⟨b9, 0, none⟩)]] [slP (kInt .i64) v_s_0 s_0, slP k_api_Value v_f_1_2 f_1_2, slP k_api_Value v_f_1_4 f_1_4, slP k_api_Method v_f_1_6 f_1_6, boxP b9 [v_f_1_2, v_f_1_4, v_f_1_6, .int .i64 f_1_8] 25] fun v => HO.pure (v = .int .i64 r) := by
 refine oq 19 Tryz.func139 fun w hV see pb => ?_
 obtain ⟨m0, o, ho, hr⟩ := rn H
 refine lo ho hr (fun z => ∃ x16, z (.l1 x16) [(0, v_s_0), (1, .func (.func 110) #[] #[.pointer (some ⟨b9, 0, none⟩)]), (7, .int .i64 (s_0.length : Int)), (8, .int .i64 x16)] []) (fun _ z => ⟨0, z⟩) ?_
 rintro _ _ _ ⟨x16, m17, o, _, _, ho, hr, h⟩
 refine en h ?_
 refine ci ho (fun ho => ?_) fun ho => ?_
 ·obtain ⟨x20, hx, ho⟩ := elt_bind ho
  refine SP.indexP see 0 rfl Tryz.underlying60 sz3.h hx.1 hx.2 rfl rfl rfl rfl (fun p18 => ?_)
  clear hx
  refine SP.val (Val.loadP1 see 0 rfl (fun _ _ e => e) Tryz.underlying3 rfl rfl) rfl rfl rfl ?_
  refine kv pure_Check_1_s1.ok ho fun t21 ho => ?_
  refine cb ho (fun ho => ?_) fun ho => ?_
  ·exact fin ho hr ▸ rt
  exact lw ho hr (fun _ z => ⟨(IntKind.i64.wrap (x16 + 1)), z⟩)
 exact fin ho hr ▸ rt
def slices_ContainsFunc_int_int_s1.f (s_0 : List Int) (f_1_2 f_1_4 : List api_Value) (f_1_6 : List api_Method) (f_1_8 : Int) : Option Bool :=
  (slices_IndexFunc_int_int_s1.f s_0 f_1_2 f_1_4 f_1_6 f_1_8).bind fun t11 => some (decide (t11 ≥ 0))
theorem slices_ContainsFunc_int_int_s1.ok {s_0 f_1_2 f_1_4 f_1_6 f_1_8 v_s_0 v_f_1_2 v_f_1_4 v_f_1_6 b9} (r) (ho : slices_ContainsFunc_int_int_s1.f s_0 f_1_2 f_1_4 f_1_6 f_1_8 = some r) : Ok Tryz.prog 112 [v_s_0, .func (.func 110) #[] #[.pointer (some ⟨b9, 0, none⟩)]] [slP (kInt .i64) v_s_0 s_0, slP k_api_Value v_f_1_2 f_1_2, slP k_api_Value v_f_1_4 f_1_4, slP k_api_Method v_f_1_6 f_1_6, boxP b9 [v_f_1_2, v_f_1_4, v_f_1_6, .int .i64 f_1_8] 25] fun v => HO.pure (v = .bool r) := by
 refine oq 9 Tryz.func112 fun w hV see pb => ?_
 refine kv slices_IndexFunc_int_int_s1.ok ho fun t11 ho => ?_
 exact Option.some.inj ho ▸ rt
inductive pure_Check.S where
  | start
  | l1 (t6 : (List (List Int)) × Int) (x79 : Int)
def pure_Check.F (m_0 : api_Module) : pure_Check.S → Option (pure_Check.S ⊕ Int)
  | .start => (pure_whom.f m_0).bind fun t6 => if t6.2 ≠ 0 then (some (.inr t6.2)) else (some (.inl (.l1 t6 0)))
  | .l1 t6 x79 => if x79 < (m_0.Methods.length : Int) then ((elt m_0.Methods x79).bind fun x83 => (if x83.Reads = true then ((pure_stores.f x83).bind fun t94 => (if t94 = true then (some true) else ((elt t6.1 x79).bind fun x98 => (slices_ContainsFunc_int_int_s1.f x98 m_0.Globals m_0.Pool m_0.Methods m_0.Migrate).bind fun t101 => some t101)).bind fun t102 => some t102) else (some false)).bind fun t103 => if t103 = true then (some (.inr 130)) else (some (.inl (.l1 t6 (IntKind.i64.wrap (x79 + 1)))))) else (some (.inr 0))
def pure_Check.f (m_0 : api_Module) : Option Int := runF (pure_Check.F m_0) .start
theorem pure_Check.ok {m_0 v_m_0_Globals v_m_0_Pool v_m_0_Methods} (r) (H : pure_Check.f m_0 = some r) : Ok Tryz.prog 70 [.agg #[v_m_0_Globals, v_m_0_Pool, v_m_0_Methods, .int .i64 m_0.Migrate]] [slP k_api_Value v_m_0_Globals m_0.Globals, slP k_api_Value v_m_0_Pool m_0.Pool, slP k_api_Method v_m_0_Methods m_0.Methods] fun v => HO.pure (v = .int .i64 r) := by
 refine oq 40 Tryz.func70 fun w hV see pb => ?_
 obtain ⟨m0, o, ho, hr⟩ := rn H
 refine SP.box rfl rfl rfl rfl fun b4 => gg ?_
 refine k1 pure_whom.ok ho fun t6 ho v7 => ?_
 refine ci ho (fun ho => ?_) fun ho => ?_
 ·exact fin ho hr ▸ rt
 refine CP.freezeB see 1 rfl ?_
 refine lo ho hr (fun z => ∃ x79, z (.l1 t6 x79) [(1, .pointer (some ⟨b4, 0, none⟩)), (3, v7), (17, v_m_0_Methods), (18, .int .i64 (m_0.Methods.length : Int)), (19, .int .i64 x79)] [slO (kSl (kInt .i64)) 60 v7 t6.1]) (fun _ z => ⟨0, z⟩) ?_ (hb := pe [boxP b4 [v_m_0_Globals, v_m_0_Pool, v_m_0_Methods, .int .i64 m_0.Migrate] 25, slP k_api_Value v_m_0_Globals m_0.Globals, slP k_api_Value v_m_0_Pool m_0.Pool, slP k_api_Method v_m_0_Methods m_0.Methods])
 rintro _ _ _ ⟨x79, m80, o, _, _, ho, hr, h⟩
 refine en h ?_
 refine ci ho (fun ho => ?_) fun ho => ?_
 ·obtain ⟨x83, hx, ho⟩ := elt_bind ho
  refine SP.indexP see 3 rfl Tryz.underlying23 sz43.h hx.1 hx.2 rfl rfl rfl rfl (fun p81 => ?_)
  clear hx
  refine k_api_Method.load see 0 rfl Tryz.underlying43 rfl sz43.h rfl rfl rfl (fun v84 v86 v88 => ?_)
  refine al fun b90 => ?_
  refine sp 0 fun hs_v84 => ?_
  refine sp 1 fun hs_v86 => ?_
  refine sp 2 fun hs_v88 => ?_
  refine st 0 ?_
  refine SP.val (Val.makeFunc (us := []) (vs := [.pointer (some ⟨b4, 0, none⟩)]) rfl rfl) rfl rfl rfl (gg ?_)
  obtain ⟨t103, hg_t103, ho⟩ := bind_some ho
  refine SP.jn 11 [1, 3, 17, 18, 19] 38 (.bool t103) ?_ ?_
  ·clear hg_t103
   refine gg ?_
   refine cb ho (fun ho => ?_) fun ho => ?_
   ·exact fin ho hr ▸ rt
   exact lw ho hr (fun _ z => ⟨(IntKind.i64.wrap (x79 + 1)), z⟩) (sO [1])
  refine SP.cb 27 hg_t103 (fun hq93 ho => ?_) fun hq93 ho => ?_
  ·refine gg ?_
   refine kv pure_stores.ok ho fun t94 ho => ?_
   obtain ⟨t102, hg_t102, ho⟩ := bind_some ho
   refine SP.jn 7 [1, 3, 17, 18, 19, 27, 28, 29, 30] 37 (.bool t102) ?_ ?_
   ·clear hg_t102
    refine gg ?_
    obtain rfl := Option.some.inj ho
    exact QE.jn fun w2 hw => hw
   refine SP.cb 30 hg_t102 (fun hq96 ho => ?_) fun hq96 ho => ?_
   ·refine gg ?_
    obtain rfl := Option.some.inj ho
    exact QE.jn (s := ⟨rfl, rfl, rfl, rfl, rfl, rfl, rfl, rfl, rfl, congrArg (fun z => some (Value.bool z)) hq96.symm, trivial⟩) fun w2 hw => hw
   refine gg ?_
   obtain ⟨x98, hx_x98, ho⟩ := elt_bind ho
   refine SP.indexW (fun w2 hw => slO.whole (St.own 1 rfl see.sub see.dj hw)) Tryz.underlying83 sz60.h hx_x98.1 hx_x98.2 rfl rfl rfl rfl (fun p97 h_p97 => ?_)
   refine SP.loadOS (j := x79) see 1 0 rfl hx_x98.2 h_p97 (fun _ _ ⟨v0_, e, p0_⟩ => ⟨v0_, by subst e; rfl, p0_⟩) Tryz.underlying60 rfl rfl rfl (fun v99 => gg ?_)
   refine kv slices_ContainsFunc_int_int_s1.ok ho fun t101 ho => ?_
   obtain rfl := Option.some.inj ho
   exact QE.jn (s := ⟨rfl, rfl, rfl, rfl, rfl, rfl, rfl, rfl, rfl, congrArg (fun z => some (Value.bool z)) hq96.symm, trivial⟩) fun w2 hw => (St.selP [1, 2, 3, 4, 5, 6, 7, 8] rfl hw)
  refine gg ?_
  obtain rfl := Option.some.inj ho
  exact QE.jn fun w2 hw => hw
 exact fin ho hr ▸ rt
def verify_stands.j2 (m_0 : api_Module) (x25 x26 : Int) : Option (Int × Int) :=
  some (x25, x26)
def verify_stands.f (m_0 : api_Module) : Option (Int × Int) :=
  (verify_checks.f ).bind fun t6 => (module_May.f m_0).bind fun t9 => if t9 ≠ 0 then (verify_stands.j2 m_0 0 t9) else ((verify_moves.f m_0).bind fun t12 => if t12 ≠ 0 then (verify_stands.j2 m_0 1 t12) else ((verify_kinds.f m_0).bind fun t15 => if t15 ≠ 0 then (verify_stands.j2 m_0 2 t15) else ((calls_Check.f m_0).bind fun t18 => if t18 ≠ 0 then (verify_stands.j2 m_0 3 t18) else ((cost_Check.f m_0).bind fun t21 => if t21 ≠ 0 then (verify_stands.j2 m_0 4 t21) else ((pure_Check.f m_0).bind fun t24 => if t24 ≠ 0 then (verify_stands.j2 m_0 5 t24) else (verify_stands.j2 m_0 (-1) t24))))))
theorem verify_stands.ok {m_0 v_m_0_Globals v_m_0_Pool v_m_0_Methods} (r) (ho : verify_stands.f m_0 = some r) : Ok Tryz.prog 21 [.agg #[v_m_0_Globals, v_m_0_Pool, v_m_0_Methods, .int .i64 m_0.Migrate]] [slP k_api_Value v_m_0_Globals m_0.Globals, slP k_api_Value v_m_0_Pool m_0.Pool, slP k_api_Method v_m_0_Methods m_0.Methods, arrP k_arr199 1 tab1] fun v => HO.pure (v = .tuple #[.int .i64 r.1, .int .i64 r.2]) := by
 refine oq 23 Tryz.func21 fun w hV see pb => ?_
 refine SP.box rfl rfl rfl rfl fun b4 => gg ?_
 refine CP.scope 0 (fun _ _ => False) rfl (fun _ _ _ h => h) (fun _ _ h => h.elim) (gg ?_)
 refine CP.label ?_
 refine go ?_
 refine oi r (fun z => ∃ x25 x26, z (verify_stands.j2 m_0 x25 x26) [(4, .int .i64 x25), (5, .int .i64 x26)] []) ?_ ?_ (hb := pe [arrP k_arr199 1 tab1])
 ·rintro _ _ ⟨x25, x26, ho, h⟩
  refine en h ?_
  refine QE.scopeX rfl ?_
  exact Option.some.inj ho ▸ rt
 refine gg ?_
 obtain ⟨t6, hc, ho⟩ := bind_some (x := verify_checks.f ) ho
 refine SP.callV see (caps := []) (.agg #[.func (.func 65) #[] #[], .func (.func 66) #[] #[], .func (.func 67) #[] #[], .func (.func 68) #[] #[], .func (.func 69) #[] #[], .func (.func 70) #[] #[]]) fn41.h rfl rfl rfl rfl (fun w2 hP hs sub ap => verify_checks.ok _ hc w2 hP sub (All.nil _)) ?_
 clear hc
 refine gg ?_
 refine CP.rounds 8 ?_
 refine LP.step ?_
 refine CP.seq ?_
 refine CP.region ?_
 refine cs (.bool true) ?_
 refine CP.condT rfl rfl (gg ?_)
 refine SP.val (Val.indexCA (c := [.func (.func 65) #[] #[]]) 0 Tryz.underlying81 Tryz.underlying80 rfl sz80.h rfl rfl rfl rfl) rfl rfl rfl ?_
 refine al fun b7 => ?_
 refine st 0 ?_
 refine kv module_May.ok ho fun t9 ho => ?_
 refine ci (hf := id) ho (fun ho => ?_) fun ho => ?_
 ·exact mo ho (fun _ z => ⟨0, t9, z⟩) (sO [])
 refine CP.skip ?_
 refine QE.blockN ?_
 refine QE.then ?_
 refine CP.region ?_
 refine cs (.int .i64 1) ?_
 refine QE.round ?_
 refine LP.step ?_
 refine CP.seq ?_
 refine CP.region ?_
 refine cs (.bool true) ?_
 refine CP.condT rfl rfl (gg ?_)
 refine SP.val (Val.indexCA (c := [.func (.func 66) #[] #[]]) 1 Tryz.underlying81 Tryz.underlying80 rfl sz80.h rfl rfl rfl rfl) rfl rfl rfl ?_
 refine al fun b10 => ?_
 refine st 0 ?_
 refine kv verify_moves.ok ho fun t12 ho => ?_
 refine ci (hf := id) ho (fun ho => ?_) fun ho => ?_
 ·exact mo ho (fun _ z => ⟨1, t12, z⟩) (sO [])
 refine CP.skip ?_
 refine QE.blockN ?_
 refine QE.then ?_
 refine CP.region ?_
 refine cs (.int .i64 2) ?_
 refine QE.round ?_
 refine LP.step ?_
 refine CP.seq ?_
 refine CP.region ?_
 refine cs (.bool true) ?_
 refine CP.condT rfl rfl (gg ?_)
 refine SP.val (Val.indexCA (c := [.func (.func 67) #[] #[]]) 2 Tryz.underlying81 Tryz.underlying80 rfl sz80.h rfl rfl rfl rfl) rfl rfl rfl ?_
 refine al fun b13 => ?_
 refine st 0 ?_
 refine kv verify_kinds.ok ho fun t15 ho => ?_
 refine ci (hf := id) ho (fun ho => ?_) fun ho => ?_
 ·exact mo ho (fun _ z => ⟨2, t15, z⟩) (sO [])
 refine CP.skip ?_
 refine QE.blockN ?_
 refine QE.then ?_
 refine CP.region ?_
 refine cs (.int .i64 3) ?_
 refine QE.round ?_
 refine LP.step ?_
 refine CP.seq ?_
 refine CP.region ?_
 refine cs (.bool true) ?_
 refine CP.condT rfl rfl (gg ?_)
 refine SP.val (Val.indexCA (c := [.func (.func 68) #[] #[]]) 3 Tryz.underlying81 Tryz.underlying80 rfl sz80.h rfl rfl rfl rfl) rfl rfl rfl ?_
 refine al fun b16 => ?_
 refine st 0 ?_
 refine kv calls_Check.ok ho fun t18 ho => ?_
 refine ci (hf := id) ho (fun ho => ?_) fun ho => ?_
 ·exact mo ho (fun _ z => ⟨3, t18, z⟩) (sO [])
 refine CP.skip ?_
 refine QE.blockN ?_
 refine QE.then ?_
 refine CP.region ?_
 refine cs (.int .i64 4) ?_
 refine QE.round ?_
 refine LP.step ?_
 refine CP.seq ?_
 refine CP.region ?_
 refine cs (.bool true) ?_
 refine CP.condT rfl rfl (gg ?_)
 refine SP.val (Val.indexCA (c := [.func (.func 69) #[] #[]]) 4 Tryz.underlying81 Tryz.underlying80 rfl sz80.h rfl rfl rfl rfl) rfl rfl rfl ?_
 refine al fun b19 => ?_
 refine st 0 ?_
 refine kv cost_Check.ok ho fun t21 ho => ?_
 refine ci (hf := id) ho (fun ho => ?_) fun ho => ?_
 ·exact mo ho (fun _ z => ⟨4, t21, z⟩) (sO [])
 refine CP.skip ?_
 refine QE.blockN ?_
 refine QE.then ?_
 refine CP.region ?_
 refine cs (.int .i64 5) ?_
 refine QE.round ?_
 refine LP.step ?_
 refine CP.seq ?_
 refine CP.region ?_
 refine cs (.bool true) ?_
 refine CP.condT rfl rfl (gg ?_)
 refine SP.val (Val.indexCA (c := [.func (.func 70) #[] #[]]) 5 Tryz.underlying81 Tryz.underlying80 rfl sz80.h rfl rfl rfl rfl) rfl rfl rfl ?_
 refine al fun b22 => ?_
 refine st 0 ?_
 refine kv pure_Check.ok ho fun t24 ho => ?_
 refine ci (hf := id) ho (fun ho => ?_) fun ho => ?_
 ·exact mo ho (fun _ z => ⟨5, t24, z⟩) (sO [])
 refine CP.skip ?_
 refine QE.blockN ?_
 refine QE.then ?_
 refine CP.region ?_
 refine cs (.int .i64 6) ?_
 refine QE.round ?_
 refine LP.step ?_
 refine CP.seq ?_
 refine CP.region ?_
 refine cs (.bool false) ?_
 refine CP.condF rfl rfl (gg ?_)
 exact mo ho (fun _ z => ⟨(-1), t24, z⟩) (sO [])
def verify_May.f (m_0 : api_Module) : Option Int :=
  (verify_stands.f m_0).bind fun t6 => some t6.2
theorem verify_May.ok {m_0 v_m_0_Globals v_m_0_Pool v_m_0_Methods} (r) (ho : verify_May.f m_0 = some r) : Ok Tryz.prog 12 [.agg #[v_m_0_Globals, v_m_0_Pool, v_m_0_Methods, .int .i64 m_0.Migrate]] [slP k_api_Value v_m_0_Globals m_0.Globals, slP k_api_Value v_m_0_Pool m_0.Pool, slP k_api_Method v_m_0_Methods m_0.Methods, arrP k_arr199 1 tab1] fun v => HO.pure (v = .int .i64 r) := by
 refine oq 11 Tryz.func12 fun w hV see pb => ?_
 refine SP.box rfl rfl rfl rfl fun b4 => gg ?_
 refine kv verify_stands.ok ho fun t6 ho => ?_
 exact Option.some.inj ho ▸ rt
def verify_Accept.f (m_0 : api_Module) : Option ((List api_Cert) × Int) :=
  (verify_May.f m_0).bind fun t6 => if t6 ≠ 0 then (some ([], t6)) else ((cost_Costs.f m_0).bind fun t8 => some (t8.1, t8.2))
theorem verify_Accept.ok {m_0 v_m_0_Globals v_m_0_Pool v_m_0_Methods} (r) (ho : verify_Accept.f m_0 = some r) : Ok Tryz.prog 6 [.agg #[v_m_0_Globals, v_m_0_Pool, v_m_0_Methods, .int .i64 m_0.Migrate]] [slP k_api_Value v_m_0_Globals m_0.Globals, slP k_api_Value v_m_0_Pool m_0.Pool, slP k_api_Method v_m_0_Methods m_0.Methods, arrP k_arr199 1 tab1] fun v => HO.ex fun u0 : Value => HO.pand (v = .tuple #[u0, .int .i64 r.2]) (HO.seps [slO k_api_Cert 45 u0 r.1]) := by
 refine oq 14 Tryz.func6 fun w hV see pb => ?_
 refine SP.box rfl rfl rfl rfl fun b4 => gg ?_
 refine kv verify_May.ok ho fun t6 ho => ?_
 refine ci ho (fun ho => ?_) fun ho => ?_
 ·exact Option.some.inj ho ▸ rt (fun _ h => St.selO [0] rfl rfl (St.addO (slO.nil k_api_Cert 45) h))
 refine k1 cost_Costs.ok ho fun t8 ho v9 => ?_
 exact Option.some.inj ho ▸ rt (sO [0])
def octet_cut.f (b_0 : List Int) (a1 many_2 : Int) : Option ((List Int) × Int) :=
  if ((decide (a1 < 0)) || (decide (a1 > (b_0.length : Int)))) = true then (some ([], 2)) else (if (IntKind.i64.wrap ((b_0.length : Int) - a1)) < many_2 then (some ([], 10)) else (if ((0 : Int) ≤ a1 ∧ a1 ≤ (IntKind.i64.wrap (a1 + many_2))) ∧ (IntKind.i64.wrap (a1 + many_2)) ≤ (b_0.length : Int) then (some (((b_0.take (IntKind.i64.wrap (a1 + many_2) : Int).toNat).drop (a1 : Int).toNat), 0)) else none))
theorem octet_cut.ok {b_0 a1 many_2 v_b_0} (r) (ho : octet_cut.f b_0 a1 many_2 = some r) : Ok Tryz.prog 60 [v_b_0, .int .i64 a1, .int .i64 many_2] [slP (kInt .u8) v_b_0 b_0] fun v => HO.ex fun u0 : Value => HO.pand (v = .tuple #[u0, .int .i64 r.2]) (HO.seps [HO.ofP (slP (kInt .u8) u0 r.1)]) := by
 refine oq 30 Tryz.func60 fun w hV see pb => ?_
 refine SP.jn 5 [0, 1, 2] 16 (.bool ((decide (a1 < 0)) || (decide (a1 > (b_0.length : Int))))) ?_ ?_
 ·refine gg ?_
  refine cb ho (fun ho => ?_) fun ho => ?_
  ·exact Option.some.inj ho ▸ rt (fun _ h => St.selO [] rfl rfl (St.know (fun h _ => slP.nil (kInt .u8) h) h)) (hk := fun a b p s => ⟨_, rfl, ⟨em, em, Dj.em_left _, Sub.em _, Sub.em _, p.get 0 rfl, trivial⟩⟩)
  refine ci ho (fun ho => ?_) fun ho => ?_
  ·exact Option.some.inj ho ▸ rt (fun _ h => St.selO [] rfl rfl (St.know (fun h _ => slP.nil (kInt .u8) h) h)) (hk := fun a b p s => ⟨_, rfl, ⟨em, em, Dj.em_left _, Sub.em _, Sub.em _, p.get 0 rfl, trivial⟩⟩)
  obtain ⟨hz, ho⟩ := must_some ho
  refine SP.slice2P see 0 rfl Tryz.underlying26 sz5.h rfl rfl rfl hz rfl rfl (fun v6 => ?_)
  clear hz
  refine gg ?_
  exact Option.some.inj ho ▸ rt (sO []) (hk := fun a b p s => ⟨_, rfl, ⟨em, em, Dj.em_left _, Sub.em _, Sub.em _, p.get 0 rfl, trivial⟩⟩)
 refine SP.bb 11 (fun hq3 => ?_) fun hq3 => ?_
 ·refine gg ?_
  exact QE.jb (or_t hq3) fun w2 hw => hw
 refine gg ?_
 exact QE.jb (or_f hq3 rfl) fun w2 hw => hw
inductive octet_gather_uint64.S where
  | start
  | l1 (x6 x7 : Int)
def octet_gather_uint64.F (b_0 : List Int) : octet_gather_uint64.S → Option (octet_gather_uint64.S ⊕ Int)
  | .start => some (.inl (.l1 0 0))
  | .l1 x6 x7 => if x7 < (b_0.length : Int) then ((elt b_0 x7).bind fun x11 => if 0 ≤ (IntKind.i64.wrap (8 * x7)) then (some (.inl (.l1 (orI .u64 x6 (shlI .u64 (IntKind.u64.wrap x11) (IntKind.i64.wrap (8 * x7)))) (IntKind.i64.wrap (x7 + 1))))) else none) else (some (.inr x6))
def octet_gather_uint64.f (b_0 : List Int) : Option Int := runF (octet_gather_uint64.F b_0) .start
theorem octet_gather_uint64.ok {b_0 v_b_0} (r) (H : octet_gather_uint64.f b_0 = some r) : Ok Tryz.prog 61 [v_b_0] [slP (kInt .u8) v_b_0 b_0] fun v => HO.pure (v = .int .u64 r) := by
 refine oq 22 Tryz.func61 fun w hV see pb => ?_
 obtain ⟨m0, o, ho, hr⟩ := rn H
 refine lo ho hr (fun z => ∃ x6 x7, z (.l1 x6 x7) [(3, .int .u64 x6), (6, v_b_0), (7, .int .i64 (b_0.length : Int)), (8, .int .i64 x7)] []) (fun _ z => ⟨0, 0, z⟩) ?_
 rintro _ _ _ ⟨x6, x7, m8, o, _, _, ho, hr, h⟩
 refine en h ?_
 refine ci ho (fun ho => ?_) fun ho => ?_
 ·obtain ⟨x11, hx, ho⟩ := elt_bind ho
  refine SP.indexP see 0 rfl Tryz.underlying26 sz5.h hx.1 hx.2 rfl rfl rfl rfl (fun p9 => ?_)
  clear hx
  refine SP.val (Val.loadP1 see 0 rfl (fun _ _ e => e) Tryz.underlying5 rfl rfl) rfl rfl rfl (gg ?_)
  obtain ⟨hz, ho⟩ := must_some ho
  refine SP.val (Val.shl hz rfl rfl) rfl rfl rfl ?_
  clear hz
  refine SP.val (Val.or rfl rfl) rfl rfl rfl (gg ?_)
  exact lw ho hr (fun _ z => ⟨(orI .u64 x6 (shlI .u64 (IntKind.u64.wrap x11) (IntKind.i64.wrap (8 * x7)))), (IntKind.i64.wrap (x7 + 1)), z⟩)
 exact fin ho hr ▸ rt
def octet_Get.j1 (b_0 : List Int) (a1 width_2 t13 x14 : Int) : Option (Int × Int × Int) :=
  if x14 ≠ 0 then (some (0, 0, x14)) else (some (IntKind.i64.wrap t13, IntKind.i64.wrap (a1 + width_2), x14))
def octet_Get.f (b_0 : List Int) (a1 width_2 : Int) : Option (Int × Int × Int) :=
  if ((decide (width_2 < 1)) || (decide (width_2 > 8))) = true then (some (0, 0, 2)) else ((octet_cut.f b_0 a1 width_2).bind fun t10 => (octet_gather_uint64.f t10.1).bind fun t13 => if t13 > 9223372036854775807 then (octet_Get.j1 b_0 a1 width_2 t13 11) else (octet_Get.j1 b_0 a1 width_2 t13 t10.2))
theorem octet_Get.ok (b_0 : List Int) (a1 width_2 : Int) (v_b_0 : Value) (r : Int × Int × Int) (H : octet_Get.f b_0 a1 width_2 = some r) (w : World) (hV : Hp) (sV : Sub hV (hp w)) (h0 : slR (kInt .u8) hV v_b_0 b_0) :
    Trip Tryz.prog 31 [v_b_0, .int .i64 a1, .int .i64 width_2].toArray em hV w (fun v => HO.pure (v = .tuple #[.int .i64 r.1, .int .i64 r.2.1, .int .i64 r.2.2])) := by
 have see : Sees w em hV := ⟨sV, Dj.em_right _⟩
 refine Trip.ofD (P := Tryz.prog) (n := ⟨37, []⟩) Tryz.func31 rfl ⟨rfl, rfl⟩ rfl (St.begin (aS h0 (All.nil _))) ?_
 have ho := H
 refine gg ?_
 refine al fun b2 => ?_
 refine al fun b4 => ?_
 refine al fun b6 => ?_
 refine SP.jn 3 [0, 1, 2, 6, 7, 8] 16 (.bool ((decide (width_2 < 1)) || (decide (width_2 > 8)))) ?_ ?_
 ·refine gg ?_
  refine cb ho (fun ho => ?_) fun ho => ?_
  ·refine st 2 ?_
   refine st 1 ?_
   refine st 0 ?_
   obtain rfl := Option.some.inj ho
   exact QE.noDoor (rs := [.cell 6 3, .cell 7 3, .cell 8 30]) (vs := [.int .i64 0, .int .i64 0, .int .i64 2]) Tryz.results31 rfl ⟨RVs.cell1 2 rfl rfl Tryz.underlying3 rfl, RVs.cell1 1 rfl rfl Tryz.underlying3 rfl, RVs.cell1 0 rfl rfl Tryz.underlying30 rfl, trivial⟩ (fun w2 h => St.done (fun a b p s => rfl) h)
  refine SP.val (Val.makeFunc (us := []) (vs := [.pointer (some ⟨b6, 0, none⟩), .pointer (some ⟨b2, 0, none⟩), .pointer (some ⟨b4, 0, none⟩)]) rfl rfl) rfl rfl rfl ?_
  refine SP.defer rfl rfl rfl rfl (gg ?_)
  obtain ⟨t10, hc, ho⟩ := bind_some ho
  refine SP.callK see (caps := []) _ fn60.h rfl rfl rfl rfl (fun w2 hP hs sub ap => octet_cut.ok _ hc w2 hP sub (aS (ap.get 0 rfl) (All.nil _))) (SP.k1 fun v11 => ?_)
  refine SP.imp (fun w2 h => St.toP 0 rfl h) ?_
  clear hc
  refine gg ?_
  refine st 0 ?_
  refine kv (h := fun _ => id) octet_gather_uint64.ok ho fun t13 ho => ?_
  refine go ?_
  refine oi r (fun z => ∃ x14, z (octet_Get.j1 b_0 a1 width_2 t13 x14) [(6, .pointer (some ⟨b2, 0, none⟩)), (7, .pointer (some ⟨b4, 0, none⟩)), (8, .pointer (some ⟨b6, 0, none⟩))] [boxO b6 [.int .i64 x14] 30, boxO b4 [.int .i64 (IntKind.i64.wrap (a1 + width_2))] 3, boxO b2 [.int .i64 (IntKind.i64.wrap t13)] 3]) ?_ ?_ (hb := pe [])
  ·rintro _ _ ⟨x14, ho, h⟩
   refine en h ?_
   refine CP.drawA (by kernel_rfl) (fun w2 k h => h.drawn k) ?_
   refine DA.ph 0 5 ?_
   refine DT.tk 0 ?_
   refine DT.tk 1 ?_
   refine DT.tk 2 ?_
   refine DT.one 3 rfl (by kernel_rfl) rfl ?_
   refine st 2 ?_
   refine QE.atT (fun w2 hw => hw) ?_
   refine DT.one 4 rfl (by kernel_rfl) rfl ?_
   refine st 1 ?_
   refine QE.atT (fun w2 hw => hw) ?_
   refine DT.next (by kernel_rfl) ?_
   refine DA.one 5 rfl (by kernel_rfl) ?_
   refine st 0 ?_
   refine QE.atA ?_
   refine DA.done (by kernel_rfl) (gg ?_)
   refine QE.door (vals := []) (caps := [.pointer (some ⟨b6, 0, none⟩), .pointer (some ⟨b2, 0, none⟩), .pointer (some ⟨b4, 0, none⟩)]) 5 Tryz.func59 fn59.h rfl rfl rfl fun a15 ha_a15 => gg ?_
   refine ci ho (fun ho => ?_) fun ho => ?_
   ·refine st 2 ?_
    refine st 1 ?_
    obtain rfl := Option.some.inj ho
    exact QE.doorEnd (.inr rfl) ha_a15 Tryz.results59 (rs := [.cell 6 3, .cell 7 3, .cell 8 30]) (vs := [.int .i64 0, .int .i64 0, .int .i64 x14]) Tryz.results31 ⟨RVs.cell1 2 rfl rfl Tryz.underlying3 rfl, RVs.cell1 1 rfl rfl Tryz.underlying3 rfl, RVs.cell1 0 rfl rfl Tryz.underlying30 rfl, trivial⟩ (fun w2 h => St.done (fun a b p s => rfl) h)
   obtain rfl := Option.some.inj ho
   exact QE.doorEnd (.inr rfl) ha_a15 Tryz.results59 (rs := [.cell 6 3, .cell 7 3, .cell 8 30]) (vs := [.int .i64 (IntKind.i64.wrap t13), .int .i64 (IntKind.i64.wrap (a1 + width_2)), .int .i64 x14]) Tryz.results31 ⟨RVs.cell1 2 rfl rfl Tryz.underlying3 rfl, RVs.cell1 1 rfl rfl Tryz.underlying3 rfl, RVs.cell1 0 rfl rfl Tryz.underlying30 rfl, trivial⟩ (fun w2 h => St.done (fun a b p s => rfl) h)
  refine gg ?_
  refine st 2 ?_
  refine st 1 ?_
  refine ci ho (fun ho => ?_) fun ho => ?_
  ·refine st 0 ?_
   exact mo ho (fun _ z => ⟨11, z⟩)
  exact mo ho (fun _ z => ⟨t10.2, z⟩)
 refine SP.bb 13 (fun hq9 => ?_) fun hq9 => ?_
 ·refine gg ?_
  exact QE.jb (or_t hq9) fun w2 hw => hw
 refine gg ?_
 exact QE.jb (or_f hq9 rfl) fun w2 hw => hw
inductive octet_gather_int64.S where
  | start
  | l1 (x6 x7 : Int)
def octet_gather_int64.F (b_0 : List Int) : octet_gather_int64.S → Option (octet_gather_int64.S ⊕ Int)
  | .start => some (.inl (.l1 0 0))
  | .l1 x6 x7 => if x7 < (b_0.length : Int) then ((elt b_0 x7).bind fun x11 => if 0 ≤ (IntKind.i64.wrap (8 * x7)) then (some (.inl (.l1 (orI .i64 x6 (shlI .i64 (IntKind.i64.wrap x11) (IntKind.i64.wrap (8 * x7)))) (IntKind.i64.wrap (x7 + 1))))) else none) else (some (.inr x6))
def octet_gather_int64.f (b_0 : List Int) : Option Int := runF (octet_gather_int64.F b_0) .start
theorem octet_gather_int64.ok {b_0 v_b_0} (r) (H : octet_gather_int64.f b_0 = some r) : Ok Tryz.prog 135 [v_b_0] [slP (kInt .u8) v_b_0 b_0] fun v => HO.pure (v = .int .i64 r) := by
 refine oq 22 Tryz.func135 fun w hV see pb => ?_
 obtain ⟨m0, o, ho, hr⟩ := rn H
 refine lo ho hr (fun z => ∃ x6 x7, z (.l1 x6 x7) [(3, .int .i64 x6), (6, v_b_0), (7, .int .i64 (b_0.length : Int)), (8, .int .i64 x7)] []) (fun _ z => ⟨0, 0, z⟩) ?_
 rintro _ _ _ ⟨x6, x7, m8, o, _, _, ho, hr, h⟩
 refine en h ?_
 refine ci ho (fun ho => ?_) fun ho => ?_
 ·obtain ⟨x11, hx, ho⟩ := elt_bind ho
  refine SP.indexP see 0 rfl Tryz.underlying26 sz5.h hx.1 hx.2 rfl rfl rfl rfl (fun p9 => ?_)
  clear hx
  refine SP.val (Val.loadP1 see 0 rfl (fun _ _ e => e) Tryz.underlying5 rfl rfl) rfl rfl rfl (gg ?_)
  obtain ⟨hz, ho⟩ := must_some ho
  refine SP.val (Val.shl hz rfl rfl) rfl rfl rfl ?_
  clear hz
  refine SP.val (Val.or rfl rfl) rfl rfl rfl (gg ?_)
  exact lw ho hr (fun _ z => ⟨(orI .i64 x6 (shlI .i64 (IntKind.i64.wrap x11) (IntKind.i64.wrap (8 * x7)))), (IntKind.i64.wrap (x7 + 1)), z⟩)
 exact fin ho hr ▸ rt
def octet_GetSigned.f (b_0 : List Int) (a1 : Int) : Option (Int × Int × Int) :=
  (octet_cut.f b_0 a1 8).bind fun t2 => if t2.2 ≠ 0 then (some (0, 0, t2.2)) else ((octet_gather_int64.f t2.1).bind fun t5 => some (t5, IntKind.i64.wrap (a1 + 8), 0))
theorem octet_GetSigned.ok {b_0 a1 v_b_0} (r) (ho : octet_GetSigned.f b_0 a1 = some r) : Ok Tryz.prog 98 [v_b_0, .int .i64 a1] [slP (kInt .u8) v_b_0 b_0] fun v => HO.pure (v = .tuple #[.int .i64 r.1, .int .i64 r.2.1, .int .i64 r.2.2]) := by
 refine oq 22 Tryz.func98 fun w hV see pb => ?_
 obtain ⟨t2, hc, ho⟩ := bind_some ho
 refine SP.callK see (caps := []) _ fn60.h rfl rfl rfl rfl (fun w2 hP hs sub ap => octet_cut.ok _ hc w2 hP sub (aS (ap.get 0 rfl) (All.nil _))) (SP.k1 fun v3 => ?_)
 refine SP.imp (fun w2 h => St.toP 0 rfl h) ?_
 clear hc
 refine gg ?_
 refine ci ho (fun ho => ?_) fun ho => ?_
 ·exact Option.some.inj ho ▸ rt
 refine kv octet_gather_int64.ok ho fun t5 ho => ?_
 exact Option.some.inj ho ▸ rt
def value_Read.f (b_0 : List Int) (a1 : Int) : Option (api_Value × Int × Int) :=
  (octet_Get.f b_0 a1 1).bind fun t4 => if t4.2.2 ≠ 0 then (some ((⟨0, 0, 0⟩ : api_Value), 0, t4.2.2)) else ((if t4.1 ≥ 3 then (some true) else ((elt tab0 t4.1).bind fun x9 => some (decide (x9 = 0)))).bind fun t10 => if t10 = true then (some ((⟨0, 0, 0⟩ : api_Value), 0, 30)) else ((elt tab0 t4.1).bind fun x13 => if (IntKind.i64.wrap (t4.2.1 + x13)) > (b_0.length : Int) then (some ((⟨0, 0, 0⟩ : api_Value), 0, 10)) else (if (IntKind.u8.wrap t4.1) = 1 then ((octet_GetSigned.f b_0 t4.2.1).bind fun t14 => (value_Int.f t14.1).bind fun t15 => some (t15, IntKind.i64.wrap (t4.2.1 + x13), 0)) else ((octet_Get.f b_0 t4.2.1 3).bind fun t16 => (octet_Get.f b_0 t16.2.1 3).bind fun t17 => (value_Pair.f (IntKind.i64.wrap (t16.1 - 1048576)) (IntKind.i64.wrap (t17.1 - 1048576))).bind fun t18 => if (!t18.2) = true then (some ((⟨0, 0, 0⟩ : api_Value), 0, 30)) else (some (t18.1, IntKind.i64.wrap (t4.2.1 + x13), 0))))))
theorem value_Read.ok {b_0 a1 v_b_0} (r) (ho : value_Read.f b_0 a1 = some r) : Ok Tryz.prog 62 [v_b_0, .int .i64 a1] [slP (kInt .u8) v_b_0 b_0, arrP (kInt .i64) 0 tab0] fun v => HO.pure (v = .tuple #[.agg #[.int .u8 r.1.Kind, .int .i64 r.1.A, .int .i64 r.1.B], .int .i64 r.2.1, .int .i64 r.2.2]) := by
 refine oq 90 Tryz.func62 fun w hV see pb => ?_
 refine al fun b2 => ?_
 obtain ⟨t4, hc, ho⟩ := bind_some ho
 refine SP.callV see (caps := []) (.tuple #[.int .i64 t4.1, .int .i64 t4.2.1, .int .i64 t4.2.2]) fn31.h rfl rfl rfl rfl (fun w2 hP hs sub ap => octet_Get.ok _ _ _ _ _ hc w2 hP sub (ap.get 0 rfl)) ?_
 clear hc
 refine gg ?_
 refine ci ho (fun ho => ?_) fun ho => ?_
 ·refine bd [.int .u8 0, .int .i64 0, .int .i64 0] ?_
  refine st 0 ?_
  exact Option.some.inj ho ▸ rt (rs := [.cell 4 55, .tmp 5, .tmp 6]) (vs := [.agg #[.int .u8 0, .int .i64 0, .int .i64 0], .int .i64 0, .int .i64 t4.2.2]) (hv := ⟨RVs.cellA 0 rfl rfl Tryz.underlying55 rfl sz55.h, RVs.tmp rfl, RVs.tmp rfl, trivial⟩)
 obtain ⟨t10, hg_t10, ho⟩ := bind_some ho
 refine SP.jn 5 [0, 1, 4, 7] 38 (.bool t10) ?_ ?_
 ·clear hg_t10
  refine gg ?_
  refine cb ho (fun ho => ?_) fun ho => ?_
  ·refine bd [.int .u8 0, .int .i64 0, .int .i64 0] ?_
   refine st 0 ?_
   exact Option.some.inj ho ▸ rt (rs := [.cell 4 55, .tmp 5, .tmp 6]) (vs := [.agg #[.int .u8 0, .int .i64 0, .int .i64 0], .int .i64 0, .int .i64 30]) (hv := ⟨RVs.cellA 0 rfl rfl Tryz.underlying55 rfl sz55.h, RVs.tmp rfl, RVs.tmp rfl, trivial⟩)
  obtain ⟨x13, hx, ho⟩ := elt_bind ho
  refine SP.indexG see 1 rfl Tryz.underlying153 rfl sz3.h hx.1 hx.2 rfl rfl rfl rfl (fun p11 => ?_)
  clear hx
  refine SP.val (Val.loadP1 see 0 rfl (fun _ _ e => e) Tryz.underlying3 rfl rfl) rfl rfl rfl (gg ?_)
  refine ci ho (fun ho => ?_) fun ho => ?_
  ·refine bd [.int .u8 0, .int .i64 0, .int .i64 0] ?_
   refine st 0 ?_
   exact Option.some.inj ho ▸ rt (rs := [.cell 4 55, .tmp 5, .tmp 6]) (vs := [.agg #[.int .u8 0, .int .i64 0, .int .i64 0], .int .i64 0, .int .i64 10]) (hv := ⟨RVs.cellA 0 rfl rfl Tryz.underlying55 rfl sz55.h, RVs.tmp rfl, RVs.tmp rfl, trivial⟩)
  refine ci ho (fun ho => ?_) fun ho => ?_
  ·refine kv octet_GetSigned.ok ho fun t14 ho => ?_
   refine kv value_Int.ok ho fun t15 ho => ?_
   refine st 0 ?_
   exact Option.some.inj ho ▸ rt (rs := [.cell 4 55, .tmp 5, .tmp 6]) (vs := [.agg #[.int .u8 t15.Kind, .int .i64 t15.A, .int .i64 t15.B], .int .i64 (IntKind.i64.wrap (t4.2.1 + x13)), .int .i64 0]) (hv := ⟨RVs.cellA 0 rfl rfl Tryz.underlying55 rfl sz55.h, RVs.tmp rfl, RVs.tmp rfl, trivial⟩)
  obtain ⟨t16, hc, ho⟩ := bind_some ho
  refine SP.callV see (caps := []) (.tuple #[.int .i64 t16.1, .int .i64 t16.2.1, .int .i64 t16.2.2]) fn31.h rfl rfl rfl rfl (fun w2 hP hs sub ap => octet_Get.ok _ _ _ _ _ hc w2 hP sub (ap.get 1 rfl)) ?_
  clear hc
  refine gg ?_
  obtain ⟨t17, hc, ho⟩ := bind_some ho
  refine SP.callV see (caps := []) (.tuple #[.int .i64 t17.1, .int .i64 t17.2.1, .int .i64 t17.2.2]) fn31.h rfl rfl rfl rfl (fun w2 hP hs sub ap => octet_Get.ok _ _ _ _ _ hc w2 hP sub (ap.get 1 rfl)) ?_
  clear hc
  refine gg ?_
  refine kv value_Pair.ok ho fun t18 ho => ?_
  refine al fun b19 => ?_
  refine st 0 ?_
  refine cb ho (fun ho => ?_) fun ho => ?_
  ·refine bd [.int .u8 0, .int .i64 0, .int .i64 0] ?_
   refine st 1 ?_
   exact Option.some.inj ho ▸ rt (rs := [.cell 4 55, .tmp 5, .tmp 6]) (vs := [.agg #[.int .u8 0, .int .i64 0, .int .i64 0], .int .i64 0, .int .i64 30]) (hv := ⟨RVs.cellA 1 rfl rfl Tryz.underlying55 rfl sz55.h, RVs.tmp rfl, RVs.tmp rfl, trivial⟩)
  refine st 1 ?_
  exact Option.some.inj ho ▸ rt (rs := [.cell 4 55, .tmp 5, .tmp 6]) (vs := [.agg #[.int .u8 t18.1.Kind, .int .i64 t18.1.A, .int .i64 t18.1.B], .int .i64 (IntKind.i64.wrap (t4.2.1 + x13)), .int .i64 0]) (hv := ⟨RVs.cellA 1 rfl rfl Tryz.underlying55 rfl sz55.h, RVs.tmp rfl, RVs.tmp rfl, trivial⟩)
 refine SP.ci 33 hg_t10 (fun hq6 ho => ?_) fun hq6 ho => ?_
 ·refine gg ?_
  obtain rfl := Option.some.inj ho
  exact QE.jn fun w2 hw => hw
 refine gg ?_
 obtain ⟨x9, hx, ho⟩ := elt_bind ho
 refine SP.indexG see 1 rfl Tryz.underlying153 rfl sz3.h hx.1 hx.2 rfl rfl rfl rfl (fun p7 => ?_)
 clear hx
 refine SP.val (Val.loadP1 see 0 rfl (fun _ _ e => e) Tryz.underlying3 rfl rfl) rfl rfl rfl (gg ?_)
 obtain rfl := Option.some.inj ho
 exact QE.jn fun w2 hw => (St.selP [1, 2] rfl hw)
inductive pool_Read.S where
  | start
  | l1 (t2 : Int × Int × Int) (x16 : Int) (l18 : List api_Value) (x20 : Int)
def pool_Read.F (b_0 : List Int) (a1 : Int) : pool_Read.S → Option (pool_Read.S ⊕ ((List api_Value) × Int × Int))
  | .start => (octet_Get.f b_0 a1 1).bind fun t2 => if t2.2.2 ≠ 0 then (some (.inr ([], 0, t2.2.2))) else (if t2.1 > 32 then (some (.inr ([], 0, 60))) else (some (.inl (.l1 t2 t2.2.1 [] 0))))
  | .l1 t2 x16 l18 x20 => if x20 < t2.1 then ((value_Read.f b_0 x16).bind fun t22 => if t22.2.2 ≠ 0 then (some (.inr ([], 0, t22.2.2))) else (if (l18.length + [t22.1].length) * 24 ≤ 140737488355328 then (some (.inl (.l1 t2 t22.2.1 (l18 ++ [t22.1]) (IntKind.i64.wrap (x20 + 1))))) else none)) else (some (.inr (l18, x16, 0)))
def pool_Read.f (b_0 : List Int) (a1 : Int) : Option ((List api_Value) × Int × Int) := runF (pool_Read.F b_0 a1) .start
theorem pool_Read.ok {b_0 a1 v_b_0} (r) (H : pool_Read.f b_0 a1 = some r) : Ok Tryz.prog 34 [v_b_0, .int .i64 a1] [slP (kInt .u8) v_b_0 b_0, arrP (kInt .i64) 0 tab0] fun v => HO.ex fun u0 : Value => HO.pand (v = .tuple #[u0, .int .i64 r.2.1, .int .i64 r.2.2]) (HO.seps [slO k_api_Value 55 u0 r.1]) := by
 refine oq 46 Tryz.func34 fun w hV see pb => ?_
 obtain ⟨m0, o, ho, hr⟩ := rn H
 obtain ⟨t2, hc, ho⟩ := bind_some ho
 refine SP.callV see (caps := []) (.tuple #[.int .i64 t2.1, .int .i64 t2.2.1, .int .i64 t2.2.2]) fn31.h rfl rfl rfl rfl (fun w2 hP hs sub ap => octet_Get.ok _ _ _ _ _ hc w2 hP sub (ap.get 0 rfl)) ?_
 clear hc
 refine gg ?_
 refine ci ho (fun ho => ?_) fun ho => ?_
 ·exact fin ho hr ▸ rt (fun _ h => St.selO [0] rfl rfl (St.addO (slO.nil k_api_Value 55) h))
 refine ci ho (fun ho => ?_) fun ho => ?_
 ·exact fin ho hr ▸ rt (fun _ h => St.selO [0] rfl rfl (St.addO (slO.nil k_api_Value 55) h))
 refine lo ho hr (fun z => ∃ x16 l18 x20 v19, z (.l1 t2 x16 l18 x20) [(0, v_b_0), (1, .int .i64 x16), (9, v19), (25, .int .i64 t2.1), (26, .int .i64 x20)] [slO k_api_Value 55 v19 l18]) (fun _ z => ⟨t2.2.1, [], 0, (.slice none 0 0), z⟩) ?_ (fun _ hw => (St.addO (slO.nil k_api_Value 55) hw))
 rintro _ _ _ ⟨x16, l18, x20, v19, m21, o, _, _, ho, hr, h⟩
 refine en h ?_
 refine ci ho (fun ho => ?_) fun ho => ?_
 ·refine kv value_Read.ok ho fun t22 ho => ?_
  refine al fun b23 => ?_
  refine st 0 ?_
  refine ci ho (fun ho => ?_) fun ho => ?_
  ·exact fin ho hr ▸ rt (fun _ h => St.selO [0] rfl rfl (St.addO (slO.nil k_api_Value 55) h))
  refine li k_api_Value [t22.1] fun v26 => ?_
  refine SP.freezeS see 0 rfl ?_
  refine ap 1 0 ho fun v28 ho => ?_
  exact lw ho hr (fun _ z => ⟨t22.2.1, (l18 ++ [t22.1]), (IntKind.i64.wrap (x20 + 1)), v28, z⟩) (sO [1])
 exact fin ho hr ▸ rt (sO [0])
def method_reader_number_s2.j1 (a0_2 : List Int) (a0_4 a0_5 width_1 least_2 most_3 : Int) (t6 : Int × Int × Int) (x11 : Int) : Option (Int × Int × Int) :=
  some (t6.1, t6.2.1, x11)
def method_reader_number_s2.f (a0_2 : List Int) (a0_4 a0_5 width_1 least_2 most_3 : Int) : Option (Int × Int × Int) :=
  if a0_5 ≠ 0 then (some (0, a0_4, a0_5)) else ((octet_Get.f a0_2 a0_4 width_1).bind fun t6 => if ((decide (t6.2.2 = 0)) && ((decide (t6.1 < least_2)) || (decide (t6.1 > most_3)))) = true then (method_reader_number_s2.j1 a0_2 a0_4 a0_5 width_1 least_2 most_3 t6 70) else (method_reader_number_s2.j1 a0_2 a0_4 a0_5 width_1 least_2 most_3 t6 t6.2.2))
theorem method_reader_number_s2.ok (a0_2 : List Int) (a0_4 a0_5 width_1 least_2 most_3 : Int) (v_a0_2 : Value) (r : Int × Int × Int) (H : method_reader_number_s2.f a0_2 a0_4 a0_5 width_1 least_2 most_3 = some r) (w : World) (hV : Hp) (sV : Sub hV (hp w)) (h0 : slR (kInt .u8) hV v_a0_2 a0_2) (b1 : Nat) (hA : Hp) (sA : Sub hA (hp w)) (dA : Dj hV hA) (hI : (boxO b1 [v_a0_2, .int .i64 a0_4, .int .i64 a0_5] 161).p hV hA) :
    Trip Tryz.prog 102 [.pointer (some ⟨b1, 0, none⟩), .int .i64 width_1, .int .i64 least_2, .int .i64 most_3].toArray hA hV w (fun v => HO.pand (v = .int .i64 r.1) (HO.seps [boxO b1 [v_a0_2, .int .i64 r.2.1, .int .i64 r.2.2] 161])) := by
 have see : Sees w hA hV := ⟨sV, dA⟩
 refine Trip.of (P := Tryz.prog) (n := ⟨55, []⟩) Tryz.func102 rfl ⟨rfl, rfl⟩ rfl (St.beginA (os := [boxO b1 [v_a0_2, .int .i64 a0_4, .int .i64 a0_5] 161]) sA (aS h0 (All.nil _)) ⟨hA, em, Dj.em_right _, Sub.refl _, Sub.em _, hI, trivial⟩) ?_
 have ho := H
 refine gg ?_
 refine ci ho (fun ho => ?_) fun ho => ?_
 ·exact Option.some.inj ho ▸ rt (sO [0])
 refine CP.drawA (by kernel_rfl) (fun w2 k h => h.drawn k) ?_
 refine DA.ph 0 9 ?_
 refine DT.tk 0 ?_
 refine DT.tk 1 ?_
 refine DT.tk 2 ?_
 refine DT.tk 3 ?_
 refine DT.tk 4 ?_
 refine DT.tk 5 ?_
 refine DT.tk 6 ?_
 refine DT.tk 7 ?_
 refine DT.tk 8 ?_
 refine DT.next (by kernel_rfl) ?_
 refine DA.one 9 rfl (by kernel_rfl) ?_
 obtain ⟨t6, hc, ho⟩ := bind_some ho
 refine SP.callV see (caps := []) (.tuple #[.int .i64 t6.1, .int .i64 t6.2.1, .int .i64 t6.2.2]) fn31.h rfl rfl rfl rfl (fun w2 hP hs sub ap => octet_Get.ok _ _ _ _ _ hc w2 hP sub (ap.get 0 rfl)) ?_
 clear hc
 refine gg ?_
 refine QE.atA ?_
 refine DA.one 10 rfl (by kernel_rfl) (gg ?_)
 refine QE.atA ?_
 refine DA.ph 11 16 ?_
 refine DT.tk 11 ?_
 refine DT.tk 12 ?_
 refine DT.tk 13 ?_
 refine DT.tk 14 ?_
 refine DT.tk 15 ?_
 refine DT.next (by kernel_rfl) ?_
 refine DA.one 16 rfl (by kernel_rfl) (gg ?_)
 refine QE.atA ?_
 refine DA.done (by kernel_rfl) ?_
 refine go ?_
 refine oi r (fun z => ∃ x11, z (method_reader_number_s2.j1 a0_2 a0_4 a0_5 width_1 least_2 most_3 t6 x11) [(0, .pointer (some ⟨b1, 0, none⟩)), (9, .int .i64 t6.1), (10, .int .i64 t6.2.1)] [boxO b1 [v_a0_2, .int .i64 a0_4, .int .i64 x11] 161]) ?_ ?_ (hb := pe [slP (kInt .u8) v_a0_2 a0_2])
 ·rintro _ _ ⟨x11, ho, h⟩
  refine en h ?_
  refine st 0 ?_
  exact Option.some.inj ho ▸ rt (sO [0])
 refine gg ?_
 refine st 0 ?_
 refine SP.jn 9 [0, 9, 10] 46 (.bool ((decide (t6.2.2 = 0)) && ((decide (t6.1 < least_2)) || (decide (t6.1 > most_3))))) ?_ ?_
 ·refine gg ?_
  refine cb ho (fun ho => ?_) fun ho => ?_
  ·refine st 0 ?_
   exact mo ho (fun _ z => ⟨70, z⟩)
  exact mo ho (fun _ z => ⟨t6.2.2, z⟩)
 refine SP.bb 37 (fun hq8 => ?_) fun hq8 => ?_
 ·refine gg ?_
  refine SP.jn 4 [0, 9, 10, 37] 45 (.bool ((decide (t6.1 < least_2)) || (decide (t6.1 > most_3)))) ?_ ?_
  ·refine gg ?_
   exact QE.jb (and_t hq8 rfl) fun w2 hw => hw
  refine SP.bb 41 (fun hq10 => ?_) fun hq10 => ?_
  ·refine gg ?_
   exact QE.jb (or_t hq10) fun w2 hw => hw
  refine gg ?_
  exact QE.jb (or_f hq10 rfl) fun w2 hw => hw
 refine gg ?_
 exact QE.jb (and_f hq8) fun w2 hw => hw
def method_reader_kind_s2.f (a0_2 : List Int) (a0_4 a0_5 : Int) : Option (Int × Int × Int) :=
  (method_reader_number_s2.f a0_2 a0_4 a0_5 1 1 3).bind fun t6 => some (IntKind.u8.wrap t6.1, t6.2.1, t6.2.2)
theorem method_reader_kind_s2.ok (a0_2 : List Int) (a0_4 a0_5 : Int) (v_a0_2 : Value) (r : Int × Int × Int) (H : method_reader_kind_s2.f a0_2 a0_4 a0_5 = some r) (w : World) (hV : Hp) (sV : Sub hV (hp w)) (h0 : slR (kInt .u8) hV v_a0_2 a0_2) (b1 : Nat) (hA : Hp) (sA : Sub hA (hp w)) (dA : Dj hV hA) (hI : (boxO b1 [v_a0_2, .int .i64 a0_4, .int .i64 a0_5] 161).p hV hA) :
    Trip Tryz.prog 101 [.pointer (some ⟨b1, 0, none⟩)].toArray hA hV w (fun v => HO.pand (v = .int .u8 r.1) (HO.seps [boxO b1 [v_a0_2, .int .i64 r.2.1, .int .i64 r.2.2] 161])) := by
 have see : Sees w hA hV := ⟨sV, dA⟩
 refine Trip.of (P := Tryz.prog) (n := ⟨6, []⟩) Tryz.func101 rfl ⟨rfl, rfl⟩ rfl (St.beginA (os := [boxO b1 [v_a0_2, .int .i64 a0_4, .int .i64 a0_5] 161]) sA (aS h0 (All.nil _)) ⟨hA, em, Dj.em_right _, Sub.refl _, Sub.em _, hI, trivial⟩) ?_
 have ho := H
 refine gg ?_
 obtain ⟨t6, hc, ho⟩ := bind_some ho
 refine SP.callA see (caps := []) _ fn102.h rfl rfl rfl rfl (fun w2 hP h1 sub s1 d1 ap hI => method_reader_number_s2.ok _ _ _ _ _ _ _ _ hc w2 hP sub (ap.get 0 rfl) _ h1 s1 d1 hI) (SP.k0 ?_)
 clear hc
 refine gg ?_
 exact Option.some.inj ho ▸ rt (sO [0])
end Go.Proofs.YtikichjmjbbnbaaGreatDoor
end
