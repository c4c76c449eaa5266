/- Functions of the program as plain functions, with the proof that the code computes them: printed by gen.py of this session. -/
import Derived.Test.YtmhkokkphgchlaaGreatDoorProg
import Derived.Test.YtmhkokkphgchlaaGreatDoorQ33xCostTells
import Derived.Test.YtmhkokkphgchlaaGreatDoorQ37xCostTells
import Derived.Ground.GgzProg
import Derived.Ground.Names8Prog
import Derived.Ground.NamesProg
import Derived.Ground.SlgcProg
import Derived.Ground.SlgmProg
import Derived.Ground.SlgnProg
import Derived.Ground.SlsfProg
import Derived.Shelf.Bits.Mul64
import Derived.Shelf.Lay
import Derived.Shelf.SlGeneric
import Derived.Shelf.SlIterI.Nil
import Derived.Shelf.SlSortCmp.WholeK
import Derived.Shelf.SlicesE.Reverse
import Derived.Shelf.SlicesG.Cmp
import Derived.Shelf.SlicesG.CompactI
import Derived.Shelf.Small.Bits
import Derived.Shelf.SortM.Plain
import Derived.Shelf.SortM.SortNone
import Derived.Shelf.Spec.SlicesGrow
import Derived.Test.YtmhkokkphgchlaaGreatDoorGCostTellsp3
set_option linter.unusedVariables false
set_option linter.unusedSimpArgs false
set_option maxRecDepth 20000
set_option maxHeartbeats 2000000
set_option linter.defProp false
set_option warn.classDefReducibility false
noncomputable section
namespace Go.Proofs.YtmhkokkphgchlaaGreatDoor
open Go.Q
attribute [local irreducible] CP SP QE DA DT Val St
inductive capstanref03_Same.S where
  | start
  | l1 (x12 : Int)
def capstanref03_Same.F (a_0 : (List api_Value)) (b_1 : (List api_Value)) : capstanref03_Same.S → Option (capstanref03_Same.S ⊕ Bool)
  | .start => if (a_0.length : Int) ≠ (b_1.length : Int) then (some (.inr false)) else (some (.inl (.l1 0)))
  | .l1 x12 => if x12 < (a_0.length : Int) then ((elt a_0 x12).bind fun x16 => (elt b_1 x12).bind fun x20 => if (!(x16.Kind == x20.Kind && (x16.A == x20.A && (x16.B == x20.B)))) = true then (some (.inr false)) else (some (.inl (.l1 (IntKind.i64.wrap (x12 + 1)))))) else (some (.inr true))
def capstanref03_Same.f (a_0 : (List api_Value)) (b_1 : (List api_Value)) : Option Bool := runF (capstanref03_Same.F a_0 b_1) .start
theorem capstanref03_Same.ok (a_0 : (List api_Value)) (b_1 : (List api_Value)) (v_a_0 v_b_1 : Value) (r : Bool) (H : capstanref03_Same.f a_0 b_1 = some r) (w : World) (hV : Hp) (sV : Sub hV (hp w)) (h0 : slR k_api_Value hV v_a_0 a_0) (h1 : slR k_api_Value hV v_b_1 b_1) :
    Trip Tryz.prog 34 [v_a_0, v_b_1].toArray em hV w (fun v => HO.pure (v = .bool r)) := by
 refine Trip.go 26 Tryz.func34 sV (aS h0 (aS h1 (All.nil _))) fun see => ?_
 obtain ⟨n0, hi⟩ := runF_iff.1 H
 obtain ⟨m0, o, hm0, ho, hr⟩ := iter_some hi
 clear hi
 refine go ?_
 refine CP.seq ?_
 refine go ?_
 refine CP.ci ho (fun ho => ?_) fun ho => ?_
 ·refine go ?_
  obtain rfl := fin ho hr
  exact QE.rt (fun _ h => h)
 refine go ?_
 refine CP.seq ?_
 refine go ?_
 obtain rfl := Option.some.inj ho
 refine CP.loop (fun cl1 a w2 => ∃ x12 : Int, cl1 ≤ m0 ∧ iter (capstanref03_Same.F a_0 b_1) cl1 (.l1 x12) = some r ∧ Env ⟨26, []⟩ [(0, v_a_0), (1, v_b_1), (5, .int .i64 x12)] a ∧ St w em hV [slP k_api_Value v_a_0 a_0, slP k_api_Value v_b_1 b_1] [] w2) m0 (fun a w2 ha hw => ⟨0, Nat.le_refl _, hr, ha.sub sb, hw⟩) ?_
 clear hr
 rintro cl1 a w2 ⟨x12, hc_l1, hi, ha, hw⟩
 obtain ⟨m13, o, hm_m13, ho, hr⟩ := iter_some hi
 refine CP.app ha hw ?_
 clear ha hw a w2 hi
 refine CP.seq ?_
 refine go ?_
 refine CP.ci ho (fun ho => ?_) fun ho => ?_
 ·refine go ?_
  refine CP.seq ?_
  refine go ?_
  refine CP.seq ?_
  refine CP.drawA (by kernel_rfl) (fun w2 k h => h.drawn k) ?_
  obtain ⟨x16, hx, ho⟩ := elt_bind ho
  refine DA.ghost (fun w2 h => h.elem see 0 rfl hx.1 hx.2) (fun p14 h_p14 => ?_)
  clear hx
  refine DA.ghost (fun w2 h => h.openE see 0 rfl (fun _ : Unit => [.int .u8 x16.Kind, .int .i64 x16.A, .int .i64 x16.B]) (fun _ => []) (fun h cs e => ⟨(), e, All.nil _⟩)) (fun _ _ => ?_)
  obtain ⟨x20, hx, ho⟩ := elt_bind ho
  refine DA.ghost (fun w2 h => h.elem see 3 rfl hx.1 hx.2) (fun p18 h_p18 => ?_)
  clear hx
  refine DA.ghost (fun w2 h => h.openE see 0 rfl (fun _ : Unit => [.int .u8 x20.Kind, .int .i64 x20.A, .int .i64 x20.B]) (fun _ => []) (fun h cs e => ⟨(), e, All.nil _⟩)) (fun _ _ => ?_)
  refine DA.ph 0 8 ?_
  refine DT.tk 0 ?_
  refine DT.tk 1 ?_
  refine DT.tv 2 rfl (Val.indexE h_p14 Tryz.underlying22 sz62 rfl rfl) ?_
  refine DT.tv 3 rfl (Val.loadAtA see 2 rfl Tryz.underlying62 rfl sz62 rfl) ?_
  refine DT.tk 4 ?_
  refine DT.tk 5 ?_
  refine DT.tv 6 rfl (Val.indexE h_p18 Tryz.underlying22 sz62 rfl rfl) ?_
  refine DT.tv 7 rfl (Val.loadAtA see 0 rfl Tryz.underlying62 rfl sz62 rfl) ?_
  refine DT.next (by kernel_rfl) ?_
  refine DA.one 8 rfl (by kernel_rfl) ?_
  refine SP.val (Val.neqA (by kernel_rfl) (fun w2 => eqA62 9998 w2 x16.Kind x20.Kind x16.A x20.A x16.B x20.B) rfl rfl) rfl rfl rfl ?_
  refine go ?_
  refine QE.atA ?_
  refine DA.done (by kernel_rfl) ?_
  refine go ?_
  refine CP.cb ho (fun ho => ?_) fun ho => ?_
  ·refine go ?_
   obtain rfl := fin ho hr
   exact QE.rt (fun _ h => h)
  refine go ?_
  obtain rfl := Option.some.inj ho
  exact QE.lower m13 (by omega) fun a w2 ha hw => ⟨(IntKind.i64.wrap (x12 + 1)), (by omega), hr, ha.sub sb, (St.selP [4, 5] rfl hw)⟩
 refine go ?_
 obtain rfl := fin ho hr
 exact QE.rt (fun _ h => h)
def capstanref07_Same.f (a_0 : api_Method) (b_1 : api_Method) : Option Bool :=
  (capstanref07_SameKinds.f a_0.Args b_1.Args).bind fun t11 => (if t11 = true then ((capstanref07_SameKinds.f a_0.Locals b_1.Locals).bind fun t14 => some t14) else (some false)).bind fun t15 => some (((((t15 && (decide (a_0.Result = b_1.Result))) && (a_0.Reads == b_1.Reads)) && (decide (a_0.Fuel = b_1.Fuel))) && (decide (a_0.Stack = b_1.Stack))) && (decide (a_0.Heap = b_1.Heap)))
theorem capstanref07_Same.ok (a_0 : api_Method) (b_1 : api_Method) (v_a_0_Args v_a_0_Locals : Value) (v_a_0_Code v_b_1_Args : Value) (v_b_1_Locals v_b_1_Code : Value) (r : Bool) (H : capstanref07_Same.f a_0 b_1 = some r) (w : World) (hV : Hp) (sV : Sub hV (hp w)) (h0 : slR (kInt .u8) hV v_a_0_Args a_0.Args) (h1 : slR (kInt .u8) hV v_a_0_Locals a_0.Locals) (h2 : slR k_api_Instr hV v_a_0_Code a_0.Code) (h3 : slR (kInt .u8) hV v_b_1_Args b_1.Args) (h4 : slR (kInt .u8) hV v_b_1_Locals b_1.Locals) (h5 : slR k_api_Instr hV v_b_1_Code b_1.Code) :
    Trip Tryz.prog 35 [.agg #[v_a_0_Args, v_a_0_Locals, .int .u8 a_0.Result, .bool a_0.Reads, .int .i64 a_0.Fuel, .int .i64 a_0.Stack, .int .i64 a_0.Heap, v_a_0_Code], .agg #[v_b_1_Args, v_b_1_Locals, .int .u8 b_1.Result, .bool b_1.Reads, .int .i64 b_1.Fuel, .int .i64 b_1.Stack, .int .i64 b_1.Heap, v_b_1_Code]].toArray em hV w (fun v => HO.pure (v = .bool r)) := by
 refine Trip.go 52 Tryz.func35 sV (aS h0 (aS h1 (aS h2 (aS h3 (aS h4 (aS h5 (All.nil _))))))) fun see => ?_
 have ho := H
 refine go ?_
 refine SP.box rfl rfl rfl rfl fun b7 => ?_
 refine SP.box rfl rfl rfl rfl fun b9 => ?_
 refine go ?_
 obtain ⟨t11, hc, ho⟩ := bind_some ho
 refine SP.callV see (caps := []) (.bool t11) fn65 rfl rfl rfl rfl (fun w2 hP hs sub ap => capstanref07_SameKinds.ok _ _ _ _ _ hc w2 hP sub (ap.get 0 rfl) (ap.get 3 rfl)) ?_
 clear hc
 refine go ?_
 obtain ⟨t15, hg_t15, ho⟩ := bind_some ho
 refine SP.jn 6 [2, 3] 16 (.bool t15) ?_ ?_
 ·clear hg_t15
  refine go ?_
  refine SP.jn 6 [2, 3] 23 (.bool (t15 && (decide (a_0.Result = b_1.Result)))) ?_ ?_
  ·refine go ?_
   refine SP.jn 6 [2, 3] 30 (.bool ((t15 && (decide (a_0.Result = b_1.Result))) && (a_0.Reads == b_1.Reads))) ?_ ?_
   ·refine go ?_
    refine SP.jn 6 [2, 3] 37 (.bool (((t15 && (decide (a_0.Result = b_1.Result))) && (a_0.Reads == b_1.Reads)) && (decide (a_0.Fuel = b_1.Fuel)))) ?_ ?_
    ·refine go ?_
     refine SP.jn 6 [2, 3] 44 (.bool ((((t15 && (decide (a_0.Result = b_1.Result))) && (a_0.Reads == b_1.Reads)) && (decide (a_0.Fuel = b_1.Fuel))) && (decide (a_0.Stack = b_1.Stack)))) ?_ ?_
     ·refine go ?_
      refine SP.jn 6 [] 51 (.bool (((((t15 && (decide (a_0.Result = b_1.Result))) && (a_0.Reads == b_1.Reads)) && (decide (a_0.Fuel = b_1.Fuel))) && (decide (a_0.Stack = b_1.Stack))) && (decide (a_0.Heap = b_1.Heap)))) ?_ ?_
      ·refine go ?_
       obtain rfl := Option.some.inj ho
       exact QE.rt (fun _ h => h)
      refine SP.bb 45 (fun hq25 => ?_) fun hq25 => ?_
      ·refine go ?_
       exact QE.jb (and_t hq25 rfl) fun w2 hw => hw
      refine go ?_
      exact QE.jb (and_f hq25) fun w2 hw => hw
     refine SP.bb 38 (fun hq23 => ?_) fun hq23 => ?_
     ·refine go ?_
      exact QE.jb (and_t hq23 rfl) fun w2 hw => hw
     refine go ?_
     exact QE.jb (and_f hq23) fun w2 hw => hw
    refine SP.bb 31 (fun hq21 => ?_) fun hq21 => ?_
    ·refine go ?_
     exact QE.jb (and_t hq21 rfl) fun w2 hw => hw
    refine go ?_
    exact QE.jb (and_f hq21) fun w2 hw => hw
   refine SP.bb 24 (fun hq19 => ?_) fun hq19 => ?_
   ·refine go ?_
    refine SP.val (Val.eqlB Tryz.underlying4 rfl rfl) rfl rfl rfl ?_
    refine go ?_
    exact QE.jb (and_t hq19 rfl) fun w2 hw => hw
   refine go ?_
   exact QE.jb (and_f hq19) fun w2 hw => hw
  refine SP.bb 17 (fun hq17 => ?_) fun hq17 => ?_
  ·refine go ?_
   exact QE.jb (and_t hq17 rfl) fun w2 hw => hw
  refine go ?_
  exact QE.jb (and_f hq17) fun w2 hw => hw
 refine SP.cb 10 hg_t15 (fun hq13 ho => ?_) fun hq13 ho => ?_
 ·refine go ?_
  obtain ⟨t14, hc, ho⟩ := bind_some ho
  refine SP.callV see (caps := []) (.bool t14) fn65 rfl rfl rfl rfl (fun w2 hP hs sub ap => capstanref07_SameKinds.ok _ _ _ _ _ hc w2 hP sub (ap.get 1 rfl) (ap.get 4 rfl)) ?_
  clear hc
  refine go ?_
  obtain rfl := Option.some.inj ho
  exact QE.jn fun w2 hw => hw
 refine go ?_
 obtain rfl := Option.some.inj ho
 exact QE.jn fun w2 hw => hw
inductive capstanref05_Same.S where
  | start
  | l1 (x12 : Int)
def capstanref05_Same.F (a_0 : (List api_Instr)) (b_1 : (List api_Instr)) : capstanref05_Same.S → Option (capstanref05_Same.S ⊕ Bool)
  | .start => if (a_0.length : Int) ≠ (b_1.length : Int) then (some (.inr false)) else (some (.inl (.l1 0)))
  | .l1 x12 => if x12 < (a_0.length : Int) then ((elt a_0 x12).bind fun x16 => (elt b_1 x12).bind fun x20 => if (!(x16.Op == x20.Op && (x16.A == x20.A && (x16.B == x20.B)))) = true then (some (.inr false)) else (some (.inl (.l1 (IntKind.i64.wrap (x12 + 1)))))) else (some (.inr true))
def capstanref05_Same.f (a_0 : (List api_Instr)) (b_1 : (List api_Instr)) : Option Bool := runF (capstanref05_Same.F a_0 b_1) .start
theorem capstanref05_Same.ok (a_0 : (List api_Instr)) (b_1 : (List api_Instr)) (v_a_0 v_b_1 : Value) (r : Bool) (H : capstanref05_Same.f a_0 b_1 = some r) (w : World) (hV : Hp) (sV : Sub hV (hp w)) (h0 : slR k_api_Instr hV v_a_0 a_0) (h1 : slR k_api_Instr hV v_b_1 b_1) :
    Trip Tryz.prog 36 [v_a_0, v_b_1].toArray em hV w (fun v => HO.pure (v = .bool r)) := by
 refine Trip.go 26 Tryz.func36 sV (aS h0 (aS h1 (All.nil _))) fun see => ?_
 obtain ⟨n0, hi⟩ := runF_iff.1 H
 obtain ⟨m0, o, hm0, ho, hr⟩ := iter_some hi
 clear hi
 refine go ?_
 refine CP.seq ?_
 refine go ?_
 refine CP.ci ho (fun ho => ?_) fun ho => ?_
 ·refine go ?_
  obtain rfl := fin ho hr
  exact QE.rt (fun _ h => h)
 refine go ?_
 refine CP.seq ?_
 refine go ?_
 obtain rfl := Option.some.inj ho
 refine CP.loop (fun cl1 a w2 => ∃ x12 : Int, cl1 ≤ m0 ∧ iter (capstanref05_Same.F a_0 b_1) cl1 (.l1 x12) = some r ∧ Env ⟨26, []⟩ [(0, v_a_0), (1, v_b_1), (5, .int .i64 x12)] a ∧ St w em hV [slP k_api_Instr v_a_0 a_0, slP k_api_Instr v_b_1 b_1] [] w2) m0 (fun a w2 ha hw => ⟨0, Nat.le_refl _, hr, ha.sub sb, hw⟩) ?_
 clear hr
 rintro cl1 a w2 ⟨x12, hc_l1, hi, ha, hw⟩
 obtain ⟨m13, o, hm_m13, ho, hr⟩ := iter_some hi
 refine CP.app ha hw ?_
 clear ha hw a w2 hi
 refine CP.seq ?_
 refine go ?_
 refine CP.ci ho (fun ho => ?_) fun ho => ?_
 ·refine go ?_
  refine CP.seq ?_
  refine go ?_
  refine CP.seq ?_
  refine CP.drawA (by kernel_rfl) (fun w2 k h => h.drawn k) ?_
  obtain ⟨x16, hx, ho⟩ := elt_bind ho
  refine DA.ghost (fun w2 h => h.elem see 0 rfl hx.1 hx.2) (fun p14 h_p14 => ?_)
  clear hx
  refine DA.ghost (fun w2 h => h.openE see 0 rfl (fun _ : Unit => [.int .u8 x16.Op, .int .i64 x16.A, .int .i64 x16.B]) (fun _ => []) (fun h cs e => ⟨(), e, All.nil _⟩)) (fun _ _ => ?_)
  obtain ⟨x20, hx, ho⟩ := elt_bind ho
  refine DA.ghost (fun w2 h => h.elem see 3 rfl hx.1 hx.2) (fun p18 h_p18 => ?_)
  clear hx
  refine DA.ghost (fun w2 h => h.openE see 0 rfl (fun _ : Unit => [.int .u8 x20.Op, .int .i64 x20.A, .int .i64 x20.B]) (fun _ => []) (fun h cs e => ⟨(), e, All.nil _⟩)) (fun _ _ => ?_)
  refine DA.ph 0 8 ?_
  refine DT.tk 0 ?_
  refine DT.tk 1 ?_
  refine DT.tv 2 rfl (Val.indexE h_p14 Tryz.underlying39 sz71 rfl rfl) ?_
  refine DT.tv 3 rfl (Val.loadAtA see 2 rfl Tryz.underlying71 rfl sz71 rfl) ?_
  refine DT.tk 4 ?_
  refine DT.tk 5 ?_
  refine DT.tv 6 rfl (Val.indexE h_p18 Tryz.underlying39 sz71 rfl rfl) ?_
  refine DT.tv 7 rfl (Val.loadAtA see 0 rfl Tryz.underlying71 rfl sz71 rfl) ?_
  refine DT.next (by kernel_rfl) ?_
  refine DA.one 8 rfl (by kernel_rfl) ?_
  refine SP.val (Val.neqA (by kernel_rfl) (fun w2 => eqA71 9998 w2 x16.Op x20.Op x16.A x20.A x16.B x20.B) rfl rfl) rfl rfl rfl ?_
  refine go ?_
  refine QE.atA ?_
  refine DA.done (by kernel_rfl) ?_
  refine go ?_
  refine CP.cb ho (fun ho => ?_) fun ho => ?_
  ·refine go ?_
   obtain rfl := fin ho hr
   exact QE.rt (fun _ h => h)
  refine go ?_
  obtain rfl := Option.some.inj ho
  exact QE.lower m13 (by omega) fun a w2 ha hw => ⟨(IntKind.i64.wrap (x12 + 1)), (by omega), hr, ha.sub sb, (St.selP [4, 5] rfl hw)⟩
 refine go ?_
 obtain rfl := fin ho hr
 exact QE.rt (fun _ h => h)
inductive capstanref08_Same.S where
  | start
  | l1 (x64 : Int)
def capstanref08_Same.j1 (a_0 : api_Module) (b_1 : api_Module) (x64 : Int) (b106 : Bool) : Option (capstanref08_Same.S ⊕ Bool) :=
  if b106 = true then (some (.inr false)) else (some (.inl (.l1 (IntKind.i64.wrap (x64 + 1)))))
def capstanref08_Same.F (a_0 : api_Module) (b_1 : api_Module) : capstanref08_Same.S → Option (capstanref08_Same.S ⊕ Bool)
  | .start => (if a_0.Migrate ≠ b_1.Migrate then (some true) else ((capstanref03_Same.f a_0.Globals b_1.Globals).bind fun t13 => some (!t13))).bind fun t14 => (if t14 = true then (some true) else ((capstanref03_Same.f a_0.Pool b_1.Pool).bind fun t17 => some (!t17))).bind fun t18 => if (t18 || (decide ((a_0.Methods.length : Int) ≠ (b_1.Methods.length : Int)))) = true then (some (.inr false)) else (some (.inl (.l1 0)))
  | .l1 x64 => if x64 < (a_0.Methods.length : Int) then ((elt a_0.Methods x64).bind fun x68 => (elt b_1.Methods x64).bind fun x78 => (capstanref07_Same.f x68 x78).bind fun t86 => if (!t86) = true then (capstanref08_Same.j1 a_0 b_1 x64 true) else ((elt a_0.Methods x64).bind fun x91 => (elt b_1.Methods x64).bind fun x99 => (capstanref05_Same.f x91.Code x99.Code).bind fun t105 => capstanref08_Same.j1 a_0 b_1 x64 (!t105))) else (some (.inr true))
def capstanref08_Same.f (a_0 : api_Module) (b_1 : api_Module) : Option Bool := runF (capstanref08_Same.F a_0 b_1) .start
theorem capstanref08_Same.ok (a_0 : api_Module) (b_1 : api_Module) (v_a_0_Globals v_a_0_Pool : Value) (v_a_0_Methods v_b_1_Globals : Value) (v_b_1_Pool v_b_1_Methods : Value) (r : Bool) (H : capstanref08_Same.f a_0 b_1 = some r) (w : World) (hV : Hp) (sV : Sub hV (hp w)) (h0 : slR k_api_Value hV v_a_0_Globals a_0.Globals) (h1 : slR k_api_Value hV v_a_0_Pool a_0.Pool) (h2 : slR k_api_Method hV v_a_0_Methods a_0.Methods) (h3 : slR k_api_Value hV v_b_1_Globals b_1.Globals) (h4 : slR k_api_Value hV v_b_1_Pool b_1.Pool) (h5 : slR k_api_Method hV v_b_1_Methods b_1.Methods) :
    Trip Tryz.prog 18 [.agg #[v_a_0_Globals, v_a_0_Pool, v_a_0_Methods, .int .i64 a_0.Migrate], .agg #[v_b_1_Globals, v_b_1_Pool, v_b_1_Methods, .int .i64 b_1.Migrate]].toArray em hV w (fun v => HO.pure (v = .bool r)) := by
 refine Trip.go 71 Tryz.func18 sV (aS h0 (aS h1 (aS h2 (aS h3 (aS h4 (aS h5 (All.nil _))))))) fun see => ?_
 obtain ⟨n0, hi⟩ := runF_iff.1 H
 obtain ⟨m0, o, hm0, ho, hr⟩ := iter_some hi
 clear hi
 refine go ?_
 refine SP.box rfl rfl rfl rfl fun b7 => ?_
 refine SP.box rfl rfl rfl rfl fun b9 => ?_
 refine go ?_
 refine CP.seq ?_
 refine go ?_
 obtain ⟨t14, hg_t14, ho⟩ := bind_some ho
 refine SP.jn 7 [2, 3] 18 (.bool t14) ?_ ?_
 ·clear hg_t14
  refine go ?_
  obtain ⟨t18, hg_t18, ho⟩ := bind_some ho
  refine SP.jn 7 [2, 3] 26 (.bool t18) ?_ ?_
  ·clear hg_t18
   refine go ?_
   refine SP.jn 8 [2, 3] 35 (.bool (t18 || (decide ((a_0.Methods.length : Int) ≠ (b_1.Methods.length : Int))))) ?_ ?_
   ·refine go ?_
    refine CP.cb ho (fun ho => ?_) fun ho => ?_
    ·refine go ?_
     obtain rfl := fin ho hr
     exact QE.rt (fun _ h => h)
    refine go ?_
    refine CP.seq ?_
    refine go ?_
    obtain rfl := Option.some.inj ho
    refine CP.loop (fun cl1 a w2 => ∃ x64 : Int, cl1 ≤ m0 ∧ iter (capstanref08_Same.F a_0 b_1) cl1 (.l1 x64) = some r ∧ Env ⟨71, []⟩ [(2, .pointer (some ⟨b7, 0, none⟩)), (3, .pointer (some ⟨b9, 0, none⟩)), (5, .int .i64 x64)] a ∧ St w em hV [slP k_api_Value v_a_0_Globals a_0.Globals, slP k_api_Value v_a_0_Pool a_0.Pool, slP k_api_Method v_a_0_Methods a_0.Methods, slP k_api_Value v_b_1_Globals b_1.Globals, slP k_api_Value v_b_1_Pool b_1.Pool, slP k_api_Method v_b_1_Methods b_1.Methods] [boxO b9 [v_b_1_Globals, v_b_1_Pool, v_b_1_Methods, .int .i64 b_1.Migrate] 25, boxO b7 [v_a_0_Globals, v_a_0_Pool, v_a_0_Methods, .int .i64 a_0.Migrate] 25] w2) m0 (fun a w2 ha hw => ⟨0, Nat.le_refl _, hr, ha.sub sb, hw⟩) ?_
    clear hr
    rintro cl1 a w2 ⟨x64, hc_l1, hi, ha, hw⟩
    obtain ⟨m65, o, hm_m65, ho, hr⟩ := iter_some hi
    refine CP.app ha hw ?_
    clear ha hw a w2 hi
    refine CP.seq ?_
    refine go ?_
    refine CP.ci ho (fun ho => ?_) fun ho => ?_
    ·refine go ?_
     refine CP.seq ?_
     refine go ?_
     refine CP.join (fun a w2 => ∃ b106 : Bool, ∃ (m107 : Nat) (o : (capstanref08_Same.S ⊕ Bool)), m107 ≤ m65 ∧ capstanref08_Same.j1 a_0 b_1 x64 b106 = some o ∧ next (capstanref08_Same.F a_0 b_1) m107 o = some r ∧ Env ⟨71, []⟩ [(2, .pointer (some ⟨b7, 0, none⟩)), (3, .pointer (some ⟨b9, 0, none⟩)), (5, .int .i64 x64), (70, .bool b106)] a ∧ St w em hV [slP k_api_Value v_a_0_Globals a_0.Globals, slP k_api_Value v_a_0_Pool a_0.Pool, slP k_api_Method v_a_0_Methods a_0.Methods, slP k_api_Value v_b_1_Globals b_1.Globals, slP k_api_Value v_b_1_Pool b_1.Pool, slP k_api_Method v_b_1_Methods b_1.Methods] [boxO b9 [v_b_1_Globals, v_b_1_Pool, v_b_1_Methods, .int .i64 b_1.Migrate] 25, boxO b7 [v_a_0_Globals, v_a_0_Pool, v_a_0_Methods, .int .i64 a_0.Migrate] 25] w2) ?_ ?_
     ·rintro a w2 ⟨b106, m107, o, hm_m107, ho, hr, ha, hw⟩
      refine CP.app ha hw ?_
      clear ha hw a w2
      refine CP.cb ho (fun ho => ?_) fun ho => ?_
      ·refine go ?_
       obtain rfl := fin ho hr
       exact QE.rt (fun _ h => h)
      refine go ?_
      obtain rfl := Option.some.inj ho
      exact QE.lower m107 (by omega) fun a w2 ha hw => ⟨(IntKind.i64.wrap (x64 + 1)), (by omega), hr, ha.sub sb, hw⟩
     refine CP.drawA (by kernel_rfl) (fun w2 k h => h.drawn k) ?_
     obtain ⟨x68, hx, ho⟩ := elt_bind ho
     refine DA.ghost (fun w2 h => h.elem see 2 rfl hx.1 hx.2) (fun p66 h_p66 => ?_)
     clear hx
     refine DA.ghost (fun w2 h => h.openE see 0 rfl (fun ((v69, v71, v73) : Value × Value × Value) => [v69, v71, .int .u8 x68.Result, .bool x68.Reads, .int .i64 x68.Fuel, .int .i64 x68.Stack, .int .i64 x68.Heap, v73]) (fun ((v69, v71, v73) : Value × Value × Value) => [slP (kInt .u8) v69 x68.Args, slP (kInt .u8) v71 x68.Locals, slP k_api_Instr v73 x68.Code]) (fun h cs ⟨v69, v71, v73, e, p0, p1, p2⟩ => ⟨(v69, v71, v73), e, All.cons p0 (All.cons p1 (All.cons p2 (All.nil _)))⟩)) (fun z_ _ => ?_)
     obtain ⟨v69, v71, v73⟩ := z_
     obtain ⟨x78, hx, ho⟩ := elt_bind ho
     refine DA.ghost (fun w2 h => h.elem see 10 rfl hx.1 hx.2) (fun p76 h_p76 => ?_)
     clear hx
     refine DA.ghost (fun w2 h => h.openE see 0 rfl (fun ((v79, v81, v83) : Value × Value × Value) => [v79, v81, .int .u8 x78.Result, .bool x78.Reads, .int .i64 x78.Fuel, .int .i64 x78.Stack, .int .i64 x78.Heap, v83]) (fun ((v79, v81, v83) : Value × Value × Value) => [slP (kInt .u8) v79 x78.Args, slP (kInt .u8) v81 x78.Locals, slP k_api_Instr v83 x78.Code]) (fun h cs ⟨v79, v81, v83, e, p0, p1, p2⟩ => ⟨(v79, v81, v83), e, All.cons p0 (All.cons p1 (All.cons p2 (All.nil _)))⟩)) (fun z_ _ => ?_)
     obtain ⟨v79, v81, v83⟩ := z_
     refine DA.ph 0 10 ?_
     refine DT.tk 0 ?_
     refine DT.tk 1 ?_
     refine DT.tk 2 ?_
     refine DT.tv 3 rfl (Val.indexE h_p66 Tryz.underlying23 sz41 rfl rfl) ?_
     refine DT.tv 4 rfl (Val.loadAtA see 5 rfl Tryz.underlying41 rfl sz41 rfl) ?_
     refine DT.tk 5 ?_
     refine DT.tk 6 ?_
     refine DT.tk 7 ?_
     refine DT.tv 8 rfl (Val.indexE h_p76 Tryz.underlying23 sz41 rfl rfl) ?_
     refine DT.tv 9 rfl (Val.loadAtA see 0 rfl Tryz.underlying41 rfl sz41 rfl) ?_
     refine DT.next (by kernel_rfl) ?_
     refine DA.one 10 rfl (by kernel_rfl) ?_
     obtain ⟨t86, hc, ho⟩ := bind_some ho
     refine SP.callV see (caps := []) (.bool t86) fn35 rfl rfl rfl rfl (fun w2 hP hs sub ap => capstanref07_Same.ok _ _ _ _ _ _ _ _ _ hc w2 hP sub (ap.get 6 rfl) (ap.get 7 rfl) (ap.get 8 rfl) (ap.get 1 rfl) (ap.get 2 rfl) (ap.get 3 rfl)) ?_
     clear hc
     refine go ?_
     refine QE.atA ?_
     refine DA.one 11 rfl (by kernel_rfl) ?_
     refine go ?_
     refine QE.atA ?_
     refine DA.one 12 rfl (by kernel_rfl) ?_
     refine go ?_
     refine QE.atA ?_
     rcases if_some ho with ⟨hc, ho⟩ | ⟨hc, ho⟩
     ·have hg87 := hc
      clear hc
      refine DA.ph 13 25 ?_
      refine DT.is (d := 55) (b := true) rfl hg87 ?_
      refine DT.tn 13 ?_
      refine DT.tn 14 ?_
      refine DT.tn 15 ?_
      refine DT.tn 16 ?_
      refine DT.tn 17 ?_
      refine DT.tn 18 ?_
      refine DT.tn 19 ?_
      refine DT.tn 20 ?_
      refine DT.tn 21 ?_
      refine DT.tn 22 ?_
      refine DT.tn 23 ?_
      refine DT.tn 24 ?_
      refine DT.next (by kernel_rfl) ?_
      refine DA.ph 25 26 ?_
      refine DT.tn 25 ?_
      refine DT.next (by kernel_rfl) ?_
      refine DA.ph 26 27 ?_
      refine DT.tn 26 ?_
      refine DT.next (by kernel_rfl) ?_
      refine DA.one 27 rfl (by kernel_rfl) ?_
      refine go ?_
      refine QE.atA ?_
      refine DA.done (by kernel_rfl) ?_
      exact QE.meet fun a w2 ha hw => ⟨true, m65, _, (by omega), ho, hr, ha.sub sb, (St.selP [10, 11, 12, 13, 14, 15] rfl hw)⟩
     have hg88 := (bf hc)
     clear hc
     obtain ⟨x91, hx, ho⟩ := elt_bind ho
     refine DA.ghost (fun w2 h => h.elem see 12 rfl hx.1 hx.2) (fun p89 h_p89 => ?_)
     clear hx
     refine DA.ghost (fun w2 h => h.fieldE see 0 rfl k_api_Method.part_Code) (fun p92 h_p92 => ?_)
     refine DA.ghost (fun w2 h => h.openE see 0 rfl (fun (v94 : Value) => [v94]) (fun (v94 : Value) => [slP k_api_Instr v94 x91.Code]) (fun h cs ⟨v94, e, p0⟩ => ⟨v94, e, All.cons p0 (All.nil _)⟩)) (fun z_ _ => ?_)
     rename Value => v94
     obtain ⟨x99, hx, ho⟩ := elt_bind ho
     refine DA.ghost (fun w2 h => h.elem see 19 rfl hx.1 hx.2) (fun p97 h_p97 => ?_)
     clear hx
     refine DA.ghost (fun w2 h => h.fieldE see 0 rfl k_api_Method.part_Code) (fun p100 h_p100 => ?_)
     refine DA.ghost (fun w2 h => h.openE see 0 rfl (fun (v102 : Value) => [v102]) (fun (v102 : Value) => [slP k_api_Instr v102 x99.Code]) (fun h cs ⟨v102, e, p0⟩ => ⟨v102, e, All.cons p0 (All.nil _)⟩)) (fun z_ _ => ?_)
     rename Value => v102
     refine DA.ph 13 25 ?_
     refine DT.is (d := 55) (b := false) rfl hg88 ?_
     refine DT.tk 13 ?_
     refine DT.tk 14 ?_
     refine DT.tk 15 ?_
     refine DT.tv 16 rfl (Val.indexE h_p89 Tryz.underlying23 sz41 rfl rfl) ?_
     refine DT.tv 17 rfl (Val.fieldE h_p92 Tryz.underlying41 rfl rfl sz39 rfl) ?_
     refine DT.tv 18 rfl (Val.loadAt1 see 4 rfl Tryz.underlying39 rfl rfl) ?_
     refine DT.tk 19 ?_
     refine DT.tk 20 ?_
     refine DT.tk 21 ?_
     refine DT.tv 22 rfl (Val.indexE h_p97 Tryz.underlying23 sz41 rfl rfl) ?_
     refine DT.tv 23 rfl (Val.fieldE h_p100 Tryz.underlying41 rfl rfl sz39 rfl) ?_
     refine DT.tv 24 rfl (Val.loadAt1 see 0 rfl Tryz.underlying39 rfl rfl) ?_
     refine DT.next (by kernel_rfl) ?_
     refine DA.one 25 rfl (by kernel_rfl) ?_
     obtain ⟨t105, hc, ho⟩ := bind_some ho
     refine SP.callV see (caps := []) (.bool t105) fn36 rfl rfl rfl rfl (fun w2 hP hs sub ap => capstanref05_Same.ok _ _ _ _ _ hc w2 hP sub (ap.get 5 rfl) (ap.get 1 rfl)) ?_
     clear hc
     refine go ?_
     refine QE.atA ?_
     refine DA.one 26 rfl (by kernel_rfl) ?_
     refine go ?_
     refine QE.atA ?_
     refine DA.one 27 rfl (by kernel_rfl) ?_
     refine go ?_
     refine QE.atA ?_
     refine DA.done (by kernel_rfl) ?_
     exact QE.meet fun a w2 ha hw => ⟨(!t105), m65, _, (by omega), ho, hr, ha.sub sb, (St.selP [18, 19, 20, 21, 22, 23] rfl hw)⟩
    refine go ?_
    obtain rfl := fin ho hr
    exact QE.rt (fun _ h => h)
   refine SP.bb 27 (fun hq20 => ?_) fun hq20 => ?_
   ·refine go ?_
    exact QE.jb (or_t hq20) fun w2 hw => hw
   refine go ?_
   exact QE.jb (or_f hq20 rfl) fun w2 hw => hw
  refine SP.cb 19 hg_t18 (fun hq16 ho => ?_) fun hq16 ho => ?_
  ·refine go ?_
   obtain rfl := Option.some.inj ho
   exact QE.jn fun w2 hw => hw
  refine go ?_
  obtain ⟨t17, hc, ho⟩ := bind_some ho
  refine SP.callV see (caps := []) (.bool t17) fn34 rfl rfl rfl rfl (fun w2 hP hs sub ap => capstanref03_Same.ok _ _ _ _ _ hc w2 hP sub (ap.get 1 rfl) (ap.get 4 rfl)) ?_
  clear hc
  refine go ?_
  obtain rfl := Option.some.inj ho
  exact QE.jn fun w2 hw => hw
 refine SP.ci 11 hg_t14 (fun hq12 ho => ?_) fun hq12 ho => ?_
 ·refine go ?_
  obtain rfl := Option.some.inj ho
  exact QE.jn fun w2 hw => hw
 refine go ?_
 obtain ⟨t13, hc, ho⟩ := bind_some ho
 refine SP.callV see (caps := []) (.bool t13) fn34 rfl rfl rfl rfl (fun w2 hP hs sub ap => capstanref03_Same.ok _ _ _ _ _ hc w2 hP sub (ap.get 0 rfl) (ap.get 3 rfl)) ?_
 clear hc
 refine go ?_
 obtain rfl := Option.some.inj ho
 exact QE.jn fun w2 hw => hw
inductive capstanlaw12_CostTells.S where
  | start
  | l1 (t7 : api_Module) (t16 : (List api_Cert) × Int) (l67 : List api_Cert) (x69 : Int)
  | l2 (t7 : api_Module) (t16 : (List api_Cert) × Int) (l93 : List api_Cert) (x95 : Int)
def capstanlaw12_CostTells.F (m_0 : api_Module) : capstanlaw12_CostTells.S → Option (capstanlaw12_CostTells.S ⊕ Bool)
  | .start => (capstanlaw08_Great.f m_0).bind fun t6 => if t6 = true then (some (.inr true)) else ((capstanref08_Copy.f m_0).bind fun t7 => (capstanref12_Costs.f m_0).bind fun t16 => (cost_Costs.f t7).bind fun t19 => (if t19.2 ≠ t16.2 then (some true) else ((cost_Check.f t7).bind fun t24 => some (decide (t24 ≠ t16.2)))).bind fun t25 => (if t25 = true then (some true) else ((capstanref12_Same.f t19.1 t16.1).bind fun t28 => some (!t28))).bind fun t29 => (if t29 = true then (some true) else ((capstanref08_Same.f t7 m_0).bind fun t32 => some (!t32))).bind fun t33 => if t33 = true then (some (.inr false)) else (some (.inl (.l1 t7 t16 t19.1 0))))
  | .l1 t7 t16 l67 x69 => if x69 < (l67.length : Int) then ((elt l67 x69).bind fun x72 => some (.inl (.l1 t7 t16 (l67.set x69.toNat (⟨(-5), x72.Stack, x72.Heap⟩ : api_Cert)) (IntKind.i64.wrap (x69 + 1))))) else ((cost_Costs.f t7).bind fun t74 => (if t74.2 ≠ t16.2 then (some true) else ((cost_Check.f t7).bind fun t79 => some (decide (t79 ≠ t16.2)))).bind fun t80 => (if t80 = true then (some true) else ((capstanref12_Same.f t74.1 t16.1).bind fun t83 => some (!t83))).bind fun t84 => (if t84 = true then (some true) else ((capstanref08_Same.f t7 m_0).bind fun t87 => some (!t87))).bind fun t88 => if t88 = true then (some (.inr false)) else (some (.inl (.l2 t7 t16 t74.1 0))))
  | .l2 t7 t16 l93 x95 => if x95 < (l93.length : Int) then ((elt l93 x95).bind fun x98 => some (.inl (.l2 t7 t16 (l93.set x95.toNat (⟨(-5), x98.Stack, x98.Heap⟩ : api_Cert)) (IntKind.i64.wrap (x95 + 1))))) else (some (.inr true))
def capstanlaw12_CostTells.f (m_0 : api_Module) : Option Bool := runF (capstanlaw12_CostTells.F m_0) .start
theorem capstanlaw12_CostTells.ok (m_0 : api_Module) (v_m_0_Globals v_m_0_Pool v_m_0_Methods : Value)  (r : Bool) (H : capstanlaw12_CostTells.f m_0 = some r) (w : World) (hV : Hp) (sV : Sub hV (hp w)) (h0 : slR k_api_Value hV v_m_0_Globals m_0.Globals) (h1 : slR k_api_Value hV v_m_0_Pool m_0.Pool) (h2 : slR k_api_Method hV v_m_0_Methods m_0.Methods) (h3 : (arrP k_arr221 0 tab0).p hV) :
    Trip Tryz.prog 5 [.agg #[v_m_0_Globals, v_m_0_Pool, v_m_0_Methods, .int .i64 m_0.Migrate]].toArray em hV w (fun v => HO.pure (v = .bool r)) := by
 refine Trip.go 59 Tryz.func5 sV (aS h0 (aS h1 (aS h2 (All.cons (x := arrP k_arr221 0 tab0) h3 (All.nil _))))) fun see => ?_
 obtain ⟨n0, hi⟩ := runF_iff.1 H
 obtain ⟨m0, o, hm0, ho, hr⟩ := iter_some hi
 clear hi
 refine go ?_
 refine SP.box rfl rfl rfl rfl fun b4 => ?_
 refine go ?_
 refine CP.seq ?_
 refine go ?_
 refine SP.val (Val.loadA 0 rfl Tryz.underlying25 rfl sz25 rfl rfl rfl) rfl rfl rfl ?_
 obtain ⟨t6, hc, ho⟩ := bind_some ho
 refine SP.callV see (caps := []) (.bool t6) fn12 rfl rfl rfl rfl (fun w2 hP hs sub ap => capstanlaw08_Great.ok _ _ _ _ _ hc w2 hP sub (ap.get 0 rfl) (ap.get 1 rfl) (ap.get 2 rfl)) ?_
 clear hc
 refine go ?_
 refine CP.cb ho (fun ho => ?_) fun ho => ?_
 ·refine go ?_
  obtain rfl := fin ho hr
  exact QE.rt (fun _ h => h)
 refine go ?_
 refine SP.val (Val.loadA 0 rfl Tryz.underlying25 rfl sz25 rfl rfl rfl) rfl rfl rfl ?_
 obtain ⟨t7, hc, ho⟩ := bind_some ho
 refine SP.callK see (caps := []) _ fn13 rfl rfl rfl rfl (fun w2 hP hs sub ap => capstanref08_Copy.ok _ _ _ _ _ hc w2 hP sub (ap.get 0 rfl) (ap.get 1 rfl) (ap.get 2 rfl)) (SP.k3 fun v8 v9 v10 => ?_)
 clear hc
 refine SP.alloc (cs := [(.slice none 0 0), (.slice none 0 0), (.slice none 0 0), .int .i64 0]) inf25 rfl rfl (fun b14 => ?_)
 refine SP.have (fun w2 hw => slO.shape (St.own 1 rfl see.sub see.dj hw)) (fun hs_v8 => ?_)
 refine SP.have (fun w2 hw => slO.shape (St.own 2 rfl see.sub see.dj hw)) (fun hs_v9 => ?_)
 refine SP.have (fun w2 hw => slD.shape (St.own 3 rfl see.sub see.dj hw)) (fun hs_v10 => ?_)
 refine SP.store (v := .agg #[v8, v9, v10, .int .i64 t7.Migrate]) (vs := [v8, v9, v10, .int .i64 t7.Migrate]) 0 (by rfl) sz25 (by rfl) (by rfl) (by rfl) (by rfl) (one_cons hs_v8 (one_cons hs_v9 (one_cons hs_v10 (one_cons rfl (rfl))))) (by rfl) ?_
 refine go ?_
 refine SP.val (Val.loadA 4 rfl Tryz.underlying25 rfl sz25 rfl rfl rfl) rfl rfl rfl ?_
 obtain ⟨t16, hc, ho⟩ := bind_some ho
 refine SP.callK see (caps := []) _ fn16 rfl rfl rfl rfl (fun w2 hP hs sub ap => capstanref12_Costs.ok _ _ _ _ _ hc w2 hP sub (ap.get 0 rfl) (ap.get 1 rfl) (ap.get 2 rfl)) (SP.k1 fun v17 => ?_)
 clear hc
 refine go ?_
 refine CP.seq ?_
 refine go ?_
 refine CP.rounds 8 ?_
 refine LP.step ?_
 refine CP.seq ?_
 refine CP.seq ?_
 refine CP.region ?_
 refine SP.val (Val.move rfl) rfl rfl rfl ?_
 refine SP.val (Val.cast (v := .bool true) (Val.lss rfl rfl) rfl) rfl rfl rfl ?_
 refine go ?_
 refine CP.condT rfl rfl ?_
 refine go ?_
 refine CP.seq ?_
 refine go ?_
 refine SP.val (Val.loadA 1 rfl Tryz.underlying25 rfl sz25 rfl rfl rfl) rfl rfl rfl ?_
 obtain ⟨t19, hc, ho⟩ := bind_some ho
 refine SP.callKO see (caps := []) _ fn14 rfl rfl rfl rfl (fun w2 hs => cost_Costs.ok _ _ _ _ _ hc w2 (hp w2) (Sub.refl _) (slO.read (St.own 2 rfl see.sub see.dj hs) (Sub.refl _) (Sub.refl _)) (slO.read (St.own 3 rfl see.sub see.dj hs) (Sub.refl _) (Sub.refl _)) (slD.read (St.own 4 rfl see.sub see.dj hs) (Sub.refl _) (Sub.refl _)) ((St.pers 3 rfl see.sub see.dj hs))) (fun v a a2 b ⟨v20, e, h⟩ => ⟨v20, e, (Sep.fcons (fun _ => slO.flip (fun _ _ _ _ h => h)) (fun _ => Sep.fnil)) h⟩) (SP.k1 fun v20 => ?_)
 clear hc
 refine go ?_
 refine CP.seq ?_
 refine go ?_
 obtain ⟨t25, hg_t25, ho⟩ := bind_some ho
 refine SP.jn 5 [1, 3, 4, 5, 6, 7] 36 (.bool t25) ?_ ?_
 ·clear hg_t25
  refine go ?_
  obtain ⟨t29, hg_t29, ho⟩ := bind_some ho
  refine SP.jn 5 [1, 3, 4, 5, 6, 7] 42 (.bool t29) ?_ ?_
  ·clear hg_t29
   refine go ?_
   obtain ⟨t33, hg_t33, ho⟩ := bind_some ho
   refine SP.jn 5 [1, 3, 4, 5, 6, 7] 48 (.bool t33) ?_ ?_
   ·clear hg_t33
    refine go ?_
    refine CP.cb ho (fun ho => ?_) fun ho => ?_
    ·refine go ?_
     obtain rfl := fin ho hr
     exact QE.rt (fun _ h => h)
    refine go ?_
    obtain rfl := Option.some.inj ho
    refine CP.loop (fun cl1 a w2 => ∃ l67 : List api_Cert, ∃ x69 : Int, ∃ v68 : Value, cl1 ≤ m0 ∧ iter (capstanlaw12_CostTells.F m_0) cl1 (.l1 t7 t16 l67 x69) = some r ∧ Env ⟨59, []⟩ [(1, .pointer (some ⟨b4, 0, none⟩)), (3, .pointer (some ⟨b14, 0, none⟩)), (4, v17), (5, .int .i64 t16.2), (6, .int .i64 0), (7, v68), (9, .int .i64 x69)] a ∧ St w em hV [slP k_api_Value v_m_0_Globals m_0.Globals, slP k_api_Value v_m_0_Pool m_0.Pool, slP k_api_Method v_m_0_Methods m_0.Methods, arrP k_arr221 0 tab0] [slO k_api_Cert 36 v68 l67, slO k_api_Cert 36 v17 t16.1, boxO b14 [v8, v9, v10, .int .i64 t7.Migrate] 25, slO k_api_Value 62 v8 t7.Globals, slO k_api_Value 62 v9 t7.Pool, slD o_api_Method 41 v10 t7.Methods, boxO b4 [v_m_0_Globals, v_m_0_Pool, v_m_0_Methods, .int .i64 m_0.Migrate] 25] w2) m0 (fun a w2 ha hw => ⟨t19.1, 0, v20, Nat.le_refl _, hr, ha.sub sb, hw⟩) ?_
    clear hr
    rintro cl1 a w2 ⟨l67, x69, v68, hc_l1, hi, ha, hw⟩
    obtain ⟨m70, o, hm_m70, ho, hr⟩ := iter_some hi
    refine CP.app ha hw ?_
    clear ha hw a w2 hi
    refine CP.seq ?_
    refine go ?_
    refine SP.val (Val.lenW (fun w2 hw => slO.whole (St.own 0 rfl see.sub see.dj hw)) Tryz.underlying29 rfl) rfl rfl rfl ?_
    refine go ?_
    refine CP.ci ho (fun ho => ?_) fun ho => ?_
    ·refine go ?_
     refine CP.seq ?_
     refine go ?_
     obtain ⟨x72, hx_x72, ho⟩ := elt_bind ho
     refine SP.indexW (fun w2 hw => slO.whole (St.own 0 rfl see.sub see.dj hw)) Tryz.underlying29 sz36 hx_x72.1 hx_x72.2 rfl rfl rfl rfl (fun p71 h_p71 => ?_)
     refine SP.fieldO h_p71 Tryz.underlying36 rfl sz3 rfl rfl rfl (fun p73 h_p73 => ?_)
     refine SP.storeO (z0 := (⟨(-5), x72.Stack, x72.Heap⟩ : api_Cert)) (off := 0) (vs := [.int .i64 (-5)]) see 0 rfl hx_x72.2 h_p73 rfl rfl sz3 rfl (fun a cs _ e => by subst e; rfl) rfl rfl rfl ?_
     refine go ?_
     obtain rfl := Option.some.inj ho
     exact QE.lower m70 (by omega) fun a w2 ha hw => ⟨(l67.set x69.toNat (⟨(-5), x72.Stack, x72.Heap⟩ : api_Cert)), (IntKind.i64.wrap (x69 + 1)), v68, (by omega), hr, ha.sub sb, hw⟩
    refine CP.exit ?_
    refine QE.thru (by intro e; cases e) ?_
    refine QE.thru (by intro e; cases e) ?_
    refine QE.blockE ?_
    refine QE.blockN ?_
    refine QE.then ?_
    refine CP.region ?_
    refine SP.val (Val.move rfl) rfl rfl rfl ?_
    refine SP.val (Val.cast (v := .int .i64 1) (Val.add rfl rfl) rfl) rfl rfl rfl ?_
    refine go ?_
    refine QE.round ?_
    refine LP.step ?_
    refine CP.seq ?_
    refine CP.seq ?_
    refine CP.region ?_
    refine SP.val (Val.move rfl) rfl rfl rfl ?_
    refine SP.val (Val.cast (v := .bool true) (Val.lss rfl rfl) rfl) rfl rfl rfl ?_
    refine go ?_
    refine CP.condT rfl rfl ?_
    refine go ?_
    refine CP.seq ?_
    refine go ?_
    refine SP.val (Val.loadA 2 rfl Tryz.underlying25 rfl sz25 rfl rfl rfl) rfl rfl rfl ?_
    obtain ⟨t74, hc, ho⟩ := bind_some ho
    refine SP.callKO see (caps := []) _ fn14 rfl rfl rfl rfl (fun w2 hs => cost_Costs.ok _ _ _ _ _ hc w2 (hp w2) (Sub.refl _) (slO.read (St.own 3 rfl see.sub see.dj hs) (Sub.refl _) (Sub.refl _)) (slO.read (St.own 4 rfl see.sub see.dj hs) (Sub.refl _) (Sub.refl _)) (slD.read (St.own 5 rfl see.sub see.dj hs) (Sub.refl _) (Sub.refl _)) ((St.pers 3 rfl see.sub see.dj hs))) (fun v a a2 b ⟨v75, e, h⟩ => ⟨v75, e, (Sep.fcons (fun _ => slO.flip (fun _ _ _ _ h => h)) (fun _ => Sep.fnil)) h⟩) (SP.k1 fun v75 => ?_)
    clear hc
    refine go ?_
    refine CP.seq ?_
    refine go ?_
    obtain ⟨t80, hg_t80, ho⟩ := bind_some ho
    refine SP.jn 5 [1, 3, 4, 5, 6, 7] 36 (.bool t80) ?_ ?_
    ·clear hg_t80
     refine go ?_
     obtain ⟨t84, hg_t84, ho⟩ := bind_some ho
     refine SP.jn 5 [1, 3, 4, 5, 6, 7] 42 (.bool t84) ?_ ?_
     ·clear hg_t84
      refine go ?_
      obtain ⟨t88, hg_t88, ho⟩ := bind_some ho
      refine SP.jn 5 [1, 3, 4, 5, 6, 7] 48 (.bool t88) ?_ ?_
      ·clear hg_t88
       refine go ?_
       refine CP.cb ho (fun ho => ?_) fun ho => ?_
       ·refine go ?_
        obtain rfl := fin ho hr
        exact QE.rt (fun _ h => h)
       refine go ?_
       obtain rfl := Option.some.inj ho
       refine CP.loop (fun cl2 a w2 => ∃ l93 : List api_Cert, ∃ x95 : Int, ∃ v94 : Value, cl2 ≤ m70 ∧ iter (capstanlaw12_CostTells.F m_0) cl2 (.l2 t7 t16 l93 x95) = some r ∧ Env ⟨59, []⟩ [(1, .pointer (some ⟨b4, 0, none⟩)), (3, .pointer (some ⟨b14, 0, none⟩)), (4, v17), (5, .int .i64 t16.2), (6, .int .i64 1), (7, v94), (9, .int .i64 x95)] a ∧ St w em hV [slP k_api_Value v_m_0_Globals m_0.Globals, slP k_api_Value v_m_0_Pool m_0.Pool, slP k_api_Method v_m_0_Methods m_0.Methods, arrP k_arr221 0 tab0] [slO k_api_Cert 36 v94 l93, slO k_api_Cert 36 v17 t16.1, boxO b14 [v8, v9, v10, .int .i64 t7.Migrate] 25, slO k_api_Value 62 v8 t7.Globals, slO k_api_Value 62 v9 t7.Pool, slD o_api_Method 41 v10 t7.Methods, boxO b4 [v_m_0_Globals, v_m_0_Pool, v_m_0_Methods, .int .i64 m_0.Migrate] 25] w2) m70 (fun a w2 ha hw => ⟨t74.1, 0, v75, Nat.le_refl _, hr, ha.sub sb, (St.selO [0, 2, 3, 4, 5, 6, 7] rfl rfl hw)⟩) ?_
       clear hr
       rintro cl2 a w2 ⟨l93, x95, v94, hc_l2, hi, ha, hw⟩
       obtain ⟨m96, o, hm_m96, ho, hr⟩ := iter_some hi
       refine CP.app ha hw ?_
       clear ha hw a w2 hi
       refine CP.seq ?_
       refine go ?_
       refine SP.val (Val.lenW (fun w2 hw => slO.whole (St.own 0 rfl see.sub see.dj hw)) Tryz.underlying29 rfl) rfl rfl rfl ?_
       refine go ?_
       refine CP.ci ho (fun ho => ?_) fun ho => ?_
       ·refine go ?_
        refine CP.seq ?_
        refine go ?_
        obtain ⟨x98, hx_x98, ho⟩ := elt_bind ho
        refine SP.indexW (fun w2 hw => slO.whole (St.own 0 rfl see.sub see.dj hw)) Tryz.underlying29 sz36 hx_x98.1 hx_x98.2 rfl rfl rfl rfl (fun p97 h_p97 => ?_)
        refine SP.fieldO h_p97 Tryz.underlying36 rfl sz3 rfl rfl rfl (fun p99 h_p99 => ?_)
        refine SP.storeO (z0 := (⟨(-5), x98.Stack, x98.Heap⟩ : api_Cert)) (off := 0) (vs := [.int .i64 (-5)]) see 0 rfl hx_x98.2 h_p99 rfl rfl sz3 rfl (fun a cs _ e => by subst e; rfl) rfl rfl rfl ?_
        refine go ?_
        obtain rfl := Option.some.inj ho
        exact QE.lower m96 (by omega) fun a w2 ha hw => ⟨(l93.set x95.toNat (⟨(-5), x98.Stack, x98.Heap⟩ : api_Cert)), (IntKind.i64.wrap (x95 + 1)), v94, (by omega), hr, ha.sub sb, hw⟩
       refine CP.exit ?_
       refine QE.thru (by intro e; cases e) ?_
       refine QE.thru (by intro e; cases e) ?_
       refine QE.blockE ?_
       refine QE.blockN ?_
       refine QE.then ?_
       refine CP.region ?_
       refine SP.val (Val.move rfl) rfl rfl rfl ?_
       refine SP.val (Val.cast (v := .int .i64 2) (Val.add rfl rfl) rfl) rfl rfl rfl ?_
       refine go ?_
       refine QE.round ?_
       refine LP.step ?_
       refine CP.seq ?_
       refine CP.seq ?_
       refine CP.region ?_
       refine SP.val (Val.move rfl) rfl rfl rfl ?_
       refine SP.val (Val.cast (v := .bool false) (Val.lss rfl rfl) rfl) rfl rfl rfl ?_
       refine go ?_
       refine CP.condF rfl rfl ?_
       refine go ?_
       obtain rfl := fin ho hr
       exact QE.rt (fun _ h => h)
      refine SP.cb 43 hg_t88 (fun hq86 ho => ?_) fun hq86 ho => ?_
      ·refine go ?_
       obtain rfl := Option.some.inj ho
       exact QE.jn fun w2 hw => hw
      refine SP.val (Val.loadA 3 rfl Tryz.underlying25 rfl sz25 rfl rfl rfl) rfl rfl rfl ?_
      refine SP.val (Val.loadA 7 rfl Tryz.underlying25 rfl sz25 rfl rfl rfl) rfl rfl rfl ?_
      obtain ⟨t87, hc, ho⟩ := bind_some ho
      refine SP.callVO see (caps := []) (.bool t87) fn18 rfl rfl rfl rfl (fun w2 hs => capstanref08_Same.ok _ _ _ _ _ _ _ _ _ hc w2 (hp w2) (Sub.refl _) (slO.read (St.own 4 rfl see.sub see.dj hs) (Sub.refl _) (Sub.refl _)) (slO.read (St.own 5 rfl see.sub see.dj hs) (Sub.refl _) (Sub.refl _)) (slD.read (St.own 6 rfl see.sub see.dj hs) (Sub.refl _) (Sub.refl _)) ((St.pers 0 rfl see.sub see.dj hs)) ((St.pers 1 rfl see.sub see.dj hs)) ((St.pers 2 rfl see.sub see.dj hs))) ?_
      clear hc
      refine go ?_
      obtain rfl := Option.some.inj ho
      exact QE.jn fun w2 hw => hw
     refine SP.cb 37 hg_t84 (fun hq82 ho => ?_) fun hq82 ho => ?_
     ·refine go ?_
      obtain rfl := Option.some.inj ho
      exact QE.jn fun w2 hw => hw
     refine go ?_
     obtain ⟨t83, hc, ho⟩ := bind_some ho
     refine SP.callVO see (caps := []) (.bool t83) fn15 rfl rfl rfl rfl (fun w2 hs => capstanref12_Same.ok _ _ _ _ _ hc w2 (hp w2) (Sub.refl _) (slO.read (St.own 0 rfl see.sub see.dj hs) (Sub.refl _) (Sub.refl _)) (slO.read (St.own 2 rfl see.sub see.dj hs) (Sub.refl _) (Sub.refl _))) ?_
     clear hc
     refine go ?_
     obtain rfl := Option.some.inj ho
     exact QE.jn fun w2 hw => hw
    refine SP.ci 31 hg_t80 (fun hq78 ho => ?_) fun hq78 ho => ?_
    ·refine go ?_
     obtain rfl := Option.some.inj ho
     exact QE.jn fun w2 hw => hw
    refine SP.val (Val.loadA 3 rfl Tryz.underlying25 rfl sz25 rfl rfl rfl) rfl rfl rfl ?_
    obtain ⟨t79, hc, ho⟩ := bind_some ho
    refine SP.callVO see (caps := []) (.int .i64 t79) fn17 rfl rfl rfl rfl (fun w2 hs => cost_Check.ok _ _ _ _ _ hc w2 (hp w2) (Sub.refl _) (slO.read (St.own 4 rfl see.sub see.dj hs) (Sub.refl _) (Sub.refl _)) (slO.read (St.own 5 rfl see.sub see.dj hs) (Sub.refl _) (Sub.refl _)) (slD.read (St.own 6 rfl see.sub see.dj hs) (Sub.refl _) (Sub.refl _)) ((St.pers 3 rfl see.sub see.dj hs))) ?_
    clear hc
    refine go ?_
    obtain rfl := Option.some.inj ho
    exact QE.jn fun w2 hw => hw
   refine SP.cb 43 hg_t33 (fun hq31 ho => ?_) fun hq31 ho => ?_
   ·refine go ?_
    obtain rfl := Option.some.inj ho
    exact QE.jn fun w2 hw => hw
   refine SP.val (Val.loadA 2 rfl Tryz.underlying25 rfl sz25 rfl rfl rfl) rfl rfl rfl ?_
   refine SP.val (Val.loadA 6 rfl Tryz.underlying25 rfl sz25 rfl rfl rfl) rfl rfl rfl ?_
   obtain ⟨t32, hc, ho⟩ := bind_some ho
   refine SP.callVO see (caps := []) (.bool t32) fn18 rfl rfl rfl rfl (fun w2 hs => capstanref08_Same.ok _ _ _ _ _ _ _ _ _ hc w2 (hp w2) (Sub.refl _) (slO.read (St.own 3 rfl see.sub see.dj hs) (Sub.refl _) (Sub.refl _)) (slO.read (St.own 4 rfl see.sub see.dj hs) (Sub.refl _) (Sub.refl _)) (slD.read (St.own 5 rfl see.sub see.dj hs) (Sub.refl _) (Sub.refl _)) ((St.pers 0 rfl see.sub see.dj hs)) ((St.pers 1 rfl see.sub see.dj hs)) ((St.pers 2 rfl see.sub see.dj hs))) ?_
   clear hc
   refine go ?_
   obtain rfl := Option.some.inj ho
   exact QE.jn fun w2 hw => hw
  refine SP.cb 37 hg_t29 (fun hq27 ho => ?_) fun hq27 ho => ?_
  ·refine go ?_
   obtain rfl := Option.some.inj ho
   exact QE.jn fun w2 hw => hw
  refine go ?_
  obtain ⟨t28, hc, ho⟩ := bind_some ho
  refine SP.callVO see (caps := []) (.bool t28) fn15 rfl rfl rfl rfl (fun w2 hs => capstanref12_Same.ok _ _ _ _ _ hc w2 (hp w2) (Sub.refl _) (slO.read (St.own 0 rfl see.sub see.dj hs) (Sub.refl _) (Sub.refl _)) (slO.read (St.own 1 rfl see.sub see.dj hs) (Sub.refl _) (Sub.refl _))) ?_
  clear hc
  refine go ?_
  obtain rfl := Option.some.inj ho
  exact QE.jn fun w2 hw => hw
 refine SP.ci 31 hg_t25 (fun hq23 ho => ?_) fun hq23 ho => ?_
 ·refine go ?_
  obtain rfl := Option.some.inj ho
  exact QE.jn fun w2 hw => hw
 refine SP.val (Val.loadA 2 rfl Tryz.underlying25 rfl sz25 rfl rfl rfl) rfl rfl rfl ?_
 obtain ⟨t24, hc, ho⟩ := bind_some ho
 refine SP.callVO see (caps := []) (.int .i64 t24) fn17 rfl rfl rfl rfl (fun w2 hs => cost_Check.ok _ _ _ _ _ hc w2 (hp w2) (Sub.refl _) (slO.read (St.own 3 rfl see.sub see.dj hs) (Sub.refl _) (Sub.refl _)) (slO.read (St.own 4 rfl see.sub see.dj hs) (Sub.refl _) (Sub.refl _)) (slD.read (St.own 5 rfl see.sub see.dj hs) (Sub.refl _) (Sub.refl _)) ((St.pers 3 rfl see.sub see.dj hs))) ?_
 clear hc
 refine go ?_
 obtain rfl := Option.some.inj ho
 exact QE.jn fun w2 hw => hw
theorem cl5 : Tryz.prog.cellsOf 5 = 1 := by kernel_rfl
theorem cl2 : Tryz.prog.cellsOf 2 = 1 := by kernel_rfl
theorem cl62 : Tryz.prog.cellsOf 62 = 3 := by kernel_rfl
def wf_api_Value (x : api_Value) : Prop := (Lit.int .u8 x.Kind).wf = true ∧ (Lit.int .i64 x.A).wf = true ∧ (Lit.int .i64 x.B).wf = true
theorem opens_api_Value : Opens Tryz.prog 62 k_api_Value wf_api_Value := by
  intro H enc W fuel cs d ps h
  cases fuel with
  | zero => simp [DataW.trod] at h
  | succ n =>
    obtain ⟨hl, hf⟩ := trod_struct Tryz.underlying62 h
    rw [cl62] at hl
    obtain ⟨c0, c1, c2, rfl⟩ := len3 hl
    obtain ⟨d0, q0, h0⟩ := hf 0 _ rfl
    replace h0 : DataW.trod enc Tryz.prog W 0 (fun _ => true) true n 5 (List.take (Tryz.prog.cellsOf 5) [c0, c1, c2]) = some (d0, q0) := h0
    rw [cl5] at h0
    replace h0 : DataW.trod enc Tryz.prog W 0 (fun _ => true) true n 5 [c0] = some (d0, q0) := h0
    obtain ⟨x0, r0, w0⟩ := (Opens.int Tryz.underlying5) enc W n _ _ _ h0
    obtain ⟨rfl, -⟩ := List.cons.inj r0
    obtain ⟨d1, q1, h1⟩ := hf 1 _ rfl
    replace h1 : DataW.trod enc Tryz.prog W 0 (fun _ => true) true n 2 (List.take (Tryz.prog.cellsOf 2) [c1, c2]) = some (d1, q1) := h1
    rw [cl2] at h1
    replace h1 : DataW.trod enc Tryz.prog W 0 (fun _ => true) true n 2 [c1] = some (d1, q1) := h1
    obtain ⟨x1, r1, w1⟩ := (Opens.int Tryz.underlying2) enc W n _ _ _ h1
    obtain ⟨rfl, -⟩ := List.cons.inj r1
    obtain ⟨d2, q2, h2⟩ := hf 2 _ rfl
    replace h2 : DataW.trod enc Tryz.prog W 0 (fun _ => true) true n 2 (List.take (Tryz.prog.cellsOf 2) [c2]) = some (d2, q2) := h2
    rw [cl2] at h2
    replace h2 : DataW.trod enc Tryz.prog W 0 (fun _ => true) true n 2 [c2] = some (d2, q2) := h2
    obtain ⟨x2, r2, w2⟩ := (Opens.int Tryz.underlying2) enc W n _ _ _ h2
    obtain ⟨rfl, -⟩ := List.cons.inj r2
    exact ⟨⟨x0, x1, x2⟩, rfl, w0, w1, w2⟩
theorem cl3 : Tryz.prog.cellsOf 3 = 1 := by kernel_rfl
theorem cl71 : Tryz.prog.cellsOf 71 = 3 := by kernel_rfl
def wf_api_Instr (x : api_Instr) : Prop := (Lit.int .u8 x.Op).wf = true ∧ (Lit.int .i64 x.A).wf = true ∧ (Lit.int .i64 x.B).wf = true
theorem opens_api_Instr : Opens Tryz.prog 71 k_api_Instr wf_api_Instr := by
  intro H enc W fuel cs d ps h
  cases fuel with
  | zero => simp [DataW.trod] at h
  | succ n =>
    obtain ⟨hl, hf⟩ := trod_struct Tryz.underlying71 h
    rw [cl71] at hl
    obtain ⟨c0, c1, c2, rfl⟩ := len3 hl
    obtain ⟨d0, q0, h0⟩ := hf 0 _ rfl
    replace h0 : DataW.trod enc Tryz.prog W 0 (fun _ => true) true n 5 (List.take (Tryz.prog.cellsOf 5) [c0, c1, c2]) = some (d0, q0) := h0
    rw [cl5] at h0
    replace h0 : DataW.trod enc Tryz.prog W 0 (fun _ => true) true n 5 [c0] = some (d0, q0) := h0
    obtain ⟨x0, r0, w0⟩ := (Opens.int Tryz.underlying5) enc W n _ _ _ h0
    obtain ⟨rfl, -⟩ := List.cons.inj r0
    obtain ⟨d1, q1, h1⟩ := hf 1 _ rfl
    replace h1 : DataW.trod enc Tryz.prog W 0 (fun _ => true) true n 3 (List.take (Tryz.prog.cellsOf 3) [c1, c2]) = some (d1, q1) := h1
    rw [cl3] at h1
    replace h1 : DataW.trod enc Tryz.prog W 0 (fun _ => true) true n 3 [c1] = some (d1, q1) := h1
    obtain ⟨x1, r1, w1⟩ := (Opens.int Tryz.underlying3) enc W n _ _ _ h1
    obtain ⟨rfl, -⟩ := List.cons.inj r1
    obtain ⟨d2, q2, h2⟩ := hf 2 _ rfl
    replace h2 : DataW.trod enc Tryz.prog W 0 (fun _ => true) true n 3 (List.take (Tryz.prog.cellsOf 3) [c2]) = some (d2, q2) := h2
    rw [cl3] at h2
    replace h2 : DataW.trod enc Tryz.prog W 0 (fun _ => true) true n 3 [c2] = some (d2, q2) := h2
    obtain ⟨x2, r2, w2⟩ := (Opens.int Tryz.underlying3) enc W n _ _ _ h2
    obtain ⟨rfl, -⟩ := List.cons.inj r2
    exact ⟨⟨x0, x1, x2⟩, rfl, w0, w1, w2⟩
theorem cl38 : Tryz.prog.cellsOf 38 = 1 := by kernel_rfl
theorem cl4 : Tryz.prog.cellsOf 4 = 1 := by kernel_rfl
theorem cl39 : Tryz.prog.cellsOf 39 = 1 := by kernel_rfl
theorem cl41 : Tryz.prog.cellsOf 41 = 8 := by kernel_rfl
def wf_api_Method (x : api_Method) : Prop := (x.Args.length ≤ maxLen ∧ ∀ y ∈ x.Args, (Lit.int .u8 y).wf = true) ∧ (x.Locals.length ≤ maxLen ∧ ∀ y ∈ x.Locals, (Lit.int .u8 y).wf = true) ∧ (Lit.int .u8 x.Result).wf = true ∧ True ∧ (Lit.int .i64 x.Fuel).wf = true ∧ (Lit.int .i64 x.Stack).wf = true ∧ (Lit.int .i64 x.Heap).wf = true ∧ (x.Code.length ≤ maxLen ∧ ∀ y ∈ x.Code, wf_api_Instr y)
theorem opens_api_Method : Opens Tryz.prog 41 k_api_Method wf_api_Method := by
  intro H enc W fuel cs d ps h
  cases fuel with
  | zero => simp [DataW.trod] at h
  | succ n =>
    obtain ⟨hl, hf⟩ := trod_struct Tryz.underlying41 h
    rw [cl41] at hl
    obtain ⟨c0, c1, c2, c3, c4, c5, c6, c7, rfl⟩ := len8 hl
    obtain ⟨d0, q0, h0⟩ := hf 0 _ rfl
    replace h0 : DataW.trod enc Tryz.prog W 0 (fun _ => true) true n 38 (List.take (Tryz.prog.cellsOf 38) [c0, c1, c2, c3, c4, c5, c6, c7]) = some (d0, q0) := h0
    rw [cl38] at h0
    replace h0 : DataW.trod enc Tryz.prog W 0 (fun _ => true) true n 38 [c0] = some (d0, q0) := h0
    obtain ⟨x0, r0, w0⟩ := (Opens.slice Tryz.underlying38 (Opens.int Tryz.underlying5) cl5 (by decide)) enc W n _ _ _ h0
    obtain ⟨v0, e0, r0⟩ := r0
    obtain ⟨rfl, -⟩ := List.cons.inj e0
    obtain ⟨d1, q1, h1⟩ := hf 1 _ rfl
    replace h1 : DataW.trod enc Tryz.prog W 0 (fun _ => true) true n 38 (List.take (Tryz.prog.cellsOf 38) [c1, c2, c3, c4, c5, c6, c7]) = some (d1, q1) := h1
    rw [cl38] at h1
    replace h1 : DataW.trod enc Tryz.prog W 0 (fun _ => true) true n 38 [c1] = some (d1, q1) := h1
    obtain ⟨x1, r1, w1⟩ := (Opens.slice Tryz.underlying38 (Opens.int Tryz.underlying5) cl5 (by decide)) enc W n _ _ _ h1
    obtain ⟨v1, e1, r1⟩ := r1
    obtain ⟨rfl, -⟩ := List.cons.inj e1
    obtain ⟨d2, q2, h2⟩ := hf 2 _ rfl
    replace h2 : DataW.trod enc Tryz.prog W 0 (fun _ => true) true n 5 (List.take (Tryz.prog.cellsOf 5) [c2, c3, c4, c5, c6, c7]) = some (d2, q2) := h2
    rw [cl5] at h2
    replace h2 : DataW.trod enc Tryz.prog W 0 (fun _ => true) true n 5 [c2] = some (d2, q2) := h2
    obtain ⟨x2, r2, w2⟩ := (Opens.int Tryz.underlying5) enc W n _ _ _ h2
    obtain ⟨rfl, -⟩ := List.cons.inj r2
    obtain ⟨d3, q3, h3⟩ := hf 3 _ rfl
    replace h3 : DataW.trod enc Tryz.prog W 0 (fun _ => true) true n 4 (List.take (Tryz.prog.cellsOf 4) [c3, c4, c5, c6, c7]) = some (d3, q3) := h3
    rw [cl4] at h3
    replace h3 : DataW.trod enc Tryz.prog W 0 (fun _ => true) true n 4 [c3] = some (d3, q3) := h3
    obtain ⟨x3, r3, w3⟩ := (Opens.bool Tryz.underlying4) enc W n _ _ _ h3
    obtain ⟨rfl, -⟩ := List.cons.inj r3
    obtain ⟨d4, q4, h4⟩ := hf 4 _ rfl
    replace h4 : DataW.trod enc Tryz.prog W 0 (fun _ => true) true n 3 (List.take (Tryz.prog.cellsOf 3) [c4, c5, c6, c7]) = some (d4, q4) := h4
    rw [cl3] at h4
    replace h4 : DataW.trod enc Tryz.prog W 0 (fun _ => true) true n 3 [c4] = some (d4, q4) := h4
    obtain ⟨x4, r4, w4⟩ := (Opens.int Tryz.underlying3) enc W n _ _ _ h4
    obtain ⟨rfl, -⟩ := List.cons.inj r4
    obtain ⟨d5, q5, h5⟩ := hf 5 _ rfl
    replace h5 : DataW.trod enc Tryz.prog W 0 (fun _ => true) true n 3 (List.take (Tryz.prog.cellsOf 3) [c5, c6, c7]) = some (d5, q5) := h5
    rw [cl3] at h5
    replace h5 : DataW.trod enc Tryz.prog W 0 (fun _ => true) true n 3 [c5] = some (d5, q5) := h5
    obtain ⟨x5, r5, w5⟩ := (Opens.int Tryz.underlying3) enc W n _ _ _ h5
    obtain ⟨rfl, -⟩ := List.cons.inj r5
    obtain ⟨d6, q6, h6⟩ := hf 6 _ rfl
    replace h6 : DataW.trod enc Tryz.prog W 0 (fun _ => true) true n 3 (List.take (Tryz.prog.cellsOf 3) [c6, c7]) = some (d6, q6) := h6
    rw [cl3] at h6
    replace h6 : DataW.trod enc Tryz.prog W 0 (fun _ => true) true n 3 [c6] = some (d6, q6) := h6
    obtain ⟨x6, r6, w6⟩ := (Opens.int Tryz.underlying3) enc W n _ _ _ h6
    obtain ⟨rfl, -⟩ := List.cons.inj r6
    obtain ⟨d7, q7, h7⟩ := hf 7 _ rfl
    replace h7 : DataW.trod enc Tryz.prog W 0 (fun _ => true) true n 39 (List.take (Tryz.prog.cellsOf 39) [c7]) = some (d7, q7) := h7
    rw [cl39] at h7
    replace h7 : DataW.trod enc Tryz.prog W 0 (fun _ => true) true n 39 [c7] = some (d7, q7) := h7
    obtain ⟨x7, r7, w7⟩ := (Opens.slice Tryz.underlying39 opens_api_Instr cl71 (by decide)) enc W n _ _ _ h7
    obtain ⟨v7, e7, r7⟩ := r7
    obtain ⟨rfl, -⟩ := List.cons.inj e7
    exact ⟨⟨x0, x1, x2, x3, x4, x5, x6, x7⟩, ⟨_, _, _, rfl, r0, r1, r7⟩, w0, w1, w2, w3, w4, w5, w6, w7⟩
theorem cl22 : Tryz.prog.cellsOf 22 = 1 := by kernel_rfl
theorem cl23 : Tryz.prog.cellsOf 23 = 1 := by kernel_rfl
theorem cl25 : Tryz.prog.cellsOf 25 = 4 := by kernel_rfl
def wf_api_Module (x : api_Module) : Prop := (x.Globals.length ≤ maxLen ∧ ∀ y ∈ x.Globals, wf_api_Value y) ∧ (x.Pool.length ≤ maxLen ∧ ∀ y ∈ x.Pool, wf_api_Value y) ∧ (x.Methods.length ≤ maxLen ∧ ∀ y ∈ x.Methods, wf_api_Method y) ∧ (Lit.int .i64 x.Migrate).wf = true
theorem opens_api_Module : Opens Tryz.prog 25 k_api_Module wf_api_Module := by
  intro H enc W fuel cs d ps h
  cases fuel with
  | zero => simp [DataW.trod] at h
  | succ n =>
    obtain ⟨hl, hf⟩ := trod_struct Tryz.underlying25 h
    rw [cl25] at hl
    obtain ⟨c0, c1, c2, c3, rfl⟩ := len4 hl
    obtain ⟨d0, q0, h0⟩ := hf 0 _ rfl
    replace h0 : DataW.trod enc Tryz.prog W 0 (fun _ => true) true n 22 (List.take (Tryz.prog.cellsOf 22) [c0, c1, c2, c3]) = some (d0, q0) := h0
    rw [cl22] at h0
    replace h0 : DataW.trod enc Tryz.prog W 0 (fun _ => true) true n 22 [c0] = some (d0, q0) := h0
    obtain ⟨x0, r0, w0⟩ := (Opens.slice Tryz.underlying22 opens_api_Value cl62 (by decide)) enc W n _ _ _ h0
    obtain ⟨v0, e0, r0⟩ := r0
    obtain ⟨rfl, -⟩ := List.cons.inj e0
    obtain ⟨d1, q1, h1⟩ := hf 1 _ rfl
    replace h1 : DataW.trod enc Tryz.prog W 0 (fun _ => true) true n 22 (List.take (Tryz.prog.cellsOf 22) [c1, c2, c3]) = some (d1, q1) := h1
    rw [cl22] at h1
    replace h1 : DataW.trod enc Tryz.prog W 0 (fun _ => true) true n 22 [c1] = some (d1, q1) := h1
    obtain ⟨x1, r1, w1⟩ := (Opens.slice Tryz.underlying22 opens_api_Value cl62 (by decide)) enc W n _ _ _ h1
    obtain ⟨v1, e1, r1⟩ := r1
    obtain ⟨rfl, -⟩ := List.cons.inj e1
    obtain ⟨d2, q2, h2⟩ := hf 2 _ rfl
    replace h2 : DataW.trod enc Tryz.prog W 0 (fun _ => true) true n 23 (List.take (Tryz.prog.cellsOf 23) [c2, c3]) = some (d2, q2) := h2
    rw [cl23] at h2
    replace h2 : DataW.trod enc Tryz.prog W 0 (fun _ => true) true n 23 [c2] = some (d2, q2) := h2
    obtain ⟨x2, r2, w2⟩ := (Opens.slice Tryz.underlying23 opens_api_Method cl41 (by decide)) enc W n _ _ _ h2
    obtain ⟨v2, e2, r2⟩ := r2
    obtain ⟨rfl, -⟩ := List.cons.inj e2
    obtain ⟨d3, q3, h3⟩ := hf 3 _ rfl
    replace h3 : DataW.trod enc Tryz.prog W 0 (fun _ => true) true n 3 (List.take (Tryz.prog.cellsOf 3) [c3]) = some (d3, q3) := h3
    rw [cl3] at h3
    replace h3 : DataW.trod enc Tryz.prog W 0 (fun _ => true) true n 3 [c3] = some (d3, q3) := h3
    obtain ⟨x3, r3, w3⟩ := (Opens.int Tryz.underlying3) enc W n _ _ _ h3
    obtain ⟨rfl, -⟩ := List.cons.inj r3
    exact ⟨⟨x0, x1, x2, x3⟩, ⟨_, _, _, rfl, r0, r1, r2⟩, w0, w1, w2, w3⟩
def capstanlaw12_CostTells.Pure : Prop := ∀ (x0 : api_Module), wf_api_Module x0 → capstanlaw12_CostTells.f x0 = some true
end Go.Proofs.YtmhkokkphgchlaaGreatDoor
end
