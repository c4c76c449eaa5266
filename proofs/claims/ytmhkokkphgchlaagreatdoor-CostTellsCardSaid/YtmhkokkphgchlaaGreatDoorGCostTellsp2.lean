/- Functions of the program as plain functions, with the proof that the code computes them: printed by gen.py of this session. -/
import Derived.Test.YtmhkokkphgchlaaGreatDoorProg
import Derived.Test.YtmhkokkphgchlaaGreatDoorQ33xCostTells
import Derived.Test.YtmhkokkphgchlaaGreatDoorQ37xCostTells
import Derived.Ground.GgzProg
import Derived.Ground.Names8Prog
import Derived.Ground.NamesProg
import Derived.Ground.SlgcProg
import Derived.Ground.SlgmProg
import Derived.Ground.SlgnProg
import Derived.Ground.SlsfProg
import Derived.Shelf.Bits.Mul64
import Derived.Shelf.Lay
import Derived.Shelf.SlGeneric
import Derived.Shelf.SlIterI.Nil
import Derived.Shelf.SlSortCmp.WholeK
import Derived.Shelf.SlicesE.Reverse
import Derived.Shelf.SlicesG.Cmp
import Derived.Shelf.SlicesG.CompactI
import Derived.Shelf.Small.Bits
import Derived.Shelf.SortM.Plain
import Derived.Shelf.SortM.SortNone
import Derived.Shelf.Spec.SlicesGrow
import Derived.Test.YtmhkokkphgchlaaGreatDoorGCostTellsp1
set_option linter.unusedVariables false
set_option linter.unusedSimpArgs false
set_option maxRecDepth 20000
set_option maxHeartbeats 2000000
set_option linter.defProp false
set_option warn.classDefReducibility false
noncomputable section
namespace Go.Proofs.YtmhkokkphgchlaaGreatDoor
open Go.Q
attribute [local irreducible] CP SP QE DA DT Val St
inductive capstanref10_After.S where
  | start
  | l1 (t117 : (List Int) × (List Int) × Bool) (l133 : List Int) (x135 : Int)
def capstanref10_After.F (m_0 : api_Module) (x_1 : api_Method) (i_2 : api_Instr) (row_3 : (List Int)) : capstanref10_After.S → Option (capstanref10_After.S ⊕ ((List Int) × Int))
  | .start => if i_2.Op = 1 then ((elt m_0.Pool i_2.A).bind fun x16 => (capstanref10_with.f row_3 x16.Kind).bind fun t19 => some (.inr (t19, 0))) else (if i_2.Op = 2 then ((capstanref10_local.f x_1 i_2.A).bind fun t22 => (capstanref10_with.f row_3 t22).bind fun t23 => some (.inr (t23, 0))) else (if i_2.Op = 3 then ((capstanref10_local.f x_1 i_2.A).bind fun t26 => (capstanref10_taken.f row_3 t26).bind fun t27 => some (.inr (t27.1, t27.2))) else (if i_2.Op = 4 then ((elt m_0.Globals i_2.A).bind fun x32 => (capstanref10_with.f row_3 x32.Kind).bind fun t35 => some (.inr (t35, 0))) else (if i_2.Op = 5 then ((elt m_0.Globals i_2.A).bind fun x40 => (capstanref10_taken.f row_3 x40.Kind).bind fun t43 => some (.inr (t43.1, t43.2))) else (if i_2.Op = 7 then (if (row_3.length : Int) < 1 then (some (.inr ([], 101))) else ((elt row_3 (IntKind.i64.wrap ((row_3.length : Int) - 1))).bind fun x49 => (capstanref10_with.f row_3 x49).bind fun t50 => some (.inr (t50, 0)))) else (if i_2.Op = 8 then (if (row_3.length : Int) < 2 then (some (.inr ([], 101))) else ((elt row_3 (IntKind.i64.wrap ((row_3.length : Int) - 1))).bind fun x58 => (elt row_3 (IntKind.i64.wrap ((row_3.length : Int) - 2))).bind fun x62 => if (0 : Int) ≤ (IntKind.i64.wrap ((row_3.length : Int) - 2)) ∧ (IntKind.i64.wrap ((row_3.length : Int) - 2)) ≤ (row_3.length : Int) then ((capstanref10_with.f (row_3.take (IntKind.i64.wrap ((row_3.length : Int) - 2) : Int).toNat) x58).bind fun t89 => (capstanref10_with.f t89 x62).bind fun t92 => some (.inr (t92, 0))) else none)) else (if i_2.Op = 30 then ((elt m_0.Methods i_2.A).bind fun x97 => (capstanref10_takes.f row_3 x97.Args).bind fun t102 => if t102.2 ≠ 0 then (some (.inr ([], t102.2))) else ((elt m_0.Methods i_2.A).bind fun x108 => (capstanref10_with.f t102.1 x108.Result).bind fun t111 => some (.inr (t111, 0)))) else (if i_2.Op = 31 then ((capstanref10_taken.f row_3 x_1.Result).bind fun t114 => some (.inr (t114.1, t114.2))) else ((capstanref04_Of.f i_2.Op).bind fun t117 => (capstanref10_takes.f row_3 t117.1).bind fun t122 => if t122.2 ≠ 0 then (some (.inr ([], t122.2))) else (some (.inl (.l1 t117 t122.1 0))))))))))))
  | .l1 t117 l133 x135 => if x135 < (t117.2.1.length : Int) then ((elt t117.2.1 x135).bind fun x138 => (capstanref10_with.f l133 x138).bind fun t139 => some (.inl (.l1 t117 t139 (IntKind.i64.wrap (x135 + 1))))) else (some (.inr (l133, 0)))
def capstanref10_After.f (m_0 : api_Module) (x_1 : api_Method) (i_2 : api_Instr) (row_3 : (List Int)) : Option ((List Int) × Int) := runF (capstanref10_After.F m_0 x_1 i_2 row_3) .start
theorem capstanref10_After.ok (m_0 : api_Module) (x_1 : api_Method) (i_2 : api_Instr) (row_3 : (List Int)) (v_m_0_Globals v_m_0_Pool : Value) (v_m_0_Methods v_x_1_Args : Value) (v_x_1_Locals v_x_1_Code v_row_3 : Value) (r : (List Int) × Int) (H : capstanref10_After.f m_0 x_1 i_2 row_3 = some r) (w : World) (hV : Hp) (sV : Sub hV (hp w)) (h0 : slR k_api_Value hV v_m_0_Globals m_0.Globals) (h1 : slR k_api_Value hV v_m_0_Pool m_0.Pool) (h2 : slR k_api_Method hV v_m_0_Methods m_0.Methods) (h3 : slR (kInt .u8) hV v_x_1_Args x_1.Args) (h4 : slR (kInt .u8) hV v_x_1_Locals x_1.Locals) (h5 : slR k_api_Instr hV v_x_1_Code x_1.Code) (h6 : slR (kInt .u8) hV v_row_3 row_3) :
    Trip Tryz.prog 63 [.agg #[v_m_0_Globals, v_m_0_Pool, v_m_0_Methods, .int .i64 m_0.Migrate], .agg #[v_x_1_Args, v_x_1_Locals, .int .u8 x_1.Result, .bool x_1.Reads, .int .i64 x_1.Fuel, .int .i64 x_1.Stack, .int .i64 x_1.Heap, v_x_1_Code], .agg #[.int .u8 i_2.Op, .int .i64 i_2.A, .int .i64 i_2.B], v_row_3].toArray em hV w (fun v => HO.ex fun u0 : Value => HO.pand (v = .tuple #[u0, .int .i64 r.2]) (HO.seps [HO.ofP (slP (kInt .u8) u0 r.1)])) := by
 refine Trip.go 172 Tryz.func63 sV (aS h0 (aS h1 (aS h2 (aS h3 (aS h4 (aS h5 (aS h6 (All.nil _)))))))) fun see => ?_
 obtain ⟨n0, hi⟩ := runF_iff.1 H
 obtain ⟨m0, o, hm0, ho, hr⟩ := iter_some hi
 clear hi
 refine go ?_
 refine SP.box rfl rfl rfl rfl fun b8 => ?_
 refine SP.box rfl rfl rfl rfl fun b10 => ?_
 refine SP.box rfl rfl rfl rfl fun b12 => ?_
 refine go ?_
 refine CP.seq ?_
 refine go ?_
 refine CP.ci ho (fun ho => ?_) fun ho => ?_
 ·refine go ?_
  obtain ⟨x16, hx, ho⟩ := elt_bind ho
  refine SP.indexP see 1 rfl Tryz.underlying22 sz62 hx.1 hx.2 rfl rfl rfl rfl (fun p14 => ?_)
  clear hx
  refine SP.fieldP see 0 rfl Tryz.underlying62 rfl sz5 k_api_Value.part_Kind rfl rfl rfl (fun p17 => ?_)
  refine SP.val (Val.loadP1 see 0 rfl (fun _ _ e => e) Tryz.underlying5 rfl rfl) rfl rfl rfl ?_
  obtain ⟨t19, hc, ho⟩ := bind_some ho
  refine SP.callK see (caps := []) _ fn86 rfl rfl rfl rfl (fun w2 hP hs sub ap => capstanref10_with.ok _ _ _ _ hc w2 hP sub (ap.get 8 rfl)) (SP.k1 fun v20 => ?_)
  clear hc
  refine go ?_
  obtain rfl := fin ho hr
  exact QE.rt (fun _ h => St.selO [] rfl rfl (St.freezeS h 0 rfl see)) (hk := fun a b p s => ⟨_, rfl, ⟨em, em, Dj.em_left _, Sub.em _, Sub.em _, p.get 0 rfl, trivial⟩⟩)
 refine go ?_
 refine CP.ci ho (fun ho => ?_) fun ho => ?_
 ·refine go ?_
  refine SP.val (Val.loadA 1 rfl Tryz.underlying41 rfl sz41 rfl rfl rfl) rfl rfl rfl ?_
  refine go ?_
  obtain ⟨t22, hc, ho⟩ := bind_some ho
  refine SP.callV see (caps := []) (.int .u8 t22) fn87 rfl rfl rfl rfl (fun w2 hP hs sub ap => capstanref10_local.ok _ _ _ _ _ _ hc w2 hP sub (ap.get 3 rfl) (ap.get 4 rfl) (ap.get 5 rfl)) ?_
  clear hc
  obtain ⟨t23, hc, ho⟩ := bind_some ho
  refine SP.callK see (caps := []) _ fn86 rfl rfl rfl rfl (fun w2 hP hs sub ap => capstanref10_with.ok _ _ _ _ hc w2 hP sub (ap.get 6 rfl)) (SP.k1 fun v24 => ?_)
  clear hc
  refine go ?_
  obtain rfl := fin ho hr
  exact QE.rt (fun _ h => St.selO [] rfl rfl (St.freezeS h 0 rfl see)) (hk := fun a b p s => ⟨_, rfl, ⟨em, em, Dj.em_left _, Sub.em _, Sub.em _, p.get 0 rfl, trivial⟩⟩)
 refine go ?_
 refine CP.ci ho (fun ho => ?_) fun ho => ?_
 ·refine go ?_
  refine SP.val (Val.loadA 1 rfl Tryz.underlying41 rfl sz41 rfl rfl rfl) rfl rfl rfl ?_
  refine go ?_
  obtain ⟨t26, hc, ho⟩ := bind_some ho
  refine SP.callV see (caps := []) (.int .u8 t26) fn87 rfl rfl rfl rfl (fun w2 hP hs sub ap => capstanref10_local.ok _ _ _ _ _ _ hc w2 hP sub (ap.get 3 rfl) (ap.get 4 rfl) (ap.get 5 rfl)) ?_
  clear hc
  obtain ⟨t27, hc, ho⟩ := bind_some ho
  refine SP.callK see (caps := []) _ fn88 rfl rfl rfl rfl (fun w2 hP hs sub ap => capstanref10_taken.ok _ _ _ _ hc w2 hP sub (ap.get 6 rfl)) (SP.k1 fun v28 => ?_)
  refine SP.imp (fun w2 h => St.toP 0 rfl h) ?_
  clear hc
  refine go ?_
  obtain rfl := fin ho hr
  exact QE.rt (fun _ h => St.selO [] rfl rfl h) (hk := fun a b p s => ⟨_, rfl, ⟨em, em, Dj.em_left _, Sub.em _, Sub.em _, p.get 0 rfl, trivial⟩⟩)
 refine go ?_
 refine CP.ci ho (fun ho => ?_) fun ho => ?_
 ·refine go ?_
  obtain ⟨x32, hx, ho⟩ := elt_bind ho
  refine SP.indexP see 0 rfl Tryz.underlying22 sz62 hx.1 hx.2 rfl rfl rfl rfl (fun p30 => ?_)
  clear hx
  refine SP.fieldP see 0 rfl Tryz.underlying62 rfl sz5 k_api_Value.part_Kind rfl rfl rfl (fun p33 => ?_)
  refine SP.val (Val.loadP1 see 0 rfl (fun _ _ e => e) Tryz.underlying5 rfl rfl) rfl rfl rfl ?_
  obtain ⟨t35, hc, ho⟩ := bind_some ho
  refine SP.callK see (caps := []) _ fn86 rfl rfl rfl rfl (fun w2 hP hs sub ap => capstanref10_with.ok _ _ _ _ hc w2 hP sub (ap.get 8 rfl)) (SP.k1 fun v36 => ?_)
  clear hc
  refine go ?_
  obtain rfl := fin ho hr
  exact QE.rt (fun _ h => St.selO [] rfl rfl (St.freezeS h 0 rfl see)) (hk := fun a b p s => ⟨_, rfl, ⟨em, em, Dj.em_left _, Sub.em _, Sub.em _, p.get 0 rfl, trivial⟩⟩)
 refine go ?_
 refine CP.ci ho (fun ho => ?_) fun ho => ?_
 ·refine go ?_
  obtain ⟨x40, hx, ho⟩ := elt_bind ho
  refine SP.indexP see 0 rfl Tryz.underlying22 sz62 hx.1 hx.2 rfl rfl rfl rfl (fun p38 => ?_)
  clear hx
  refine SP.fieldP see 0 rfl Tryz.underlying62 rfl sz5 k_api_Value.part_Kind rfl rfl rfl (fun p41 => ?_)
  refine SP.val (Val.loadP1 see 0 rfl (fun _ _ e => e) Tryz.underlying5 rfl rfl) rfl rfl rfl ?_
  obtain ⟨t43, hc, ho⟩ := bind_some ho
  refine SP.callK see (caps := []) _ fn88 rfl rfl rfl rfl (fun w2 hP hs sub ap => capstanref10_taken.ok _ _ _ _ hc w2 hP sub (ap.get 8 rfl)) (SP.k1 fun v44 => ?_)
  refine SP.imp (fun w2 h => St.toP 0 rfl h) ?_
  clear hc
  refine go ?_
  obtain rfl := fin ho hr
  exact QE.rt (fun _ h => St.selO [] rfl rfl h) (hk := fun a b p s => ⟨_, rfl, ⟨em, em, Dj.em_left _, Sub.em _, Sub.em _, p.get 0 rfl, trivial⟩⟩)
 refine go ?_
 refine CP.ci ho (fun ho => ?_) fun ho => ?_
 ·refine CP.seq ?_
  refine go ?_
  refine CP.ci ho (fun ho => ?_) fun ho => ?_
  ·refine go ?_
   obtain rfl := fin ho hr
   exact QE.rt (fun _ h => St.selO [] rfl rfl (St.know (fun h _ => slP.nil (kInt .u8) h) h)) (hk := fun a b p s => ⟨_, rfl, ⟨em, em, Dj.em_left _, Sub.em _, Sub.em _, p.get 0 rfl, trivial⟩⟩)
  refine go ?_
  obtain ⟨x49, hx, ho⟩ := elt_bind ho
  refine SP.indexP see 6 rfl Tryz.underlying38 sz5 hx.1 hx.2 rfl rfl rfl rfl (fun p47 => ?_)
  clear hx
  refine SP.val (Val.loadP1 see 0 rfl (fun _ _ e => e) Tryz.underlying5 rfl rfl) rfl rfl rfl ?_
  obtain ⟨t50, hc, ho⟩ := bind_some ho
  refine SP.callK see (caps := []) _ fn86 rfl rfl rfl rfl (fun w2 hP hs sub ap => capstanref10_with.ok _ _ _ _ hc w2 hP sub (ap.get 7 rfl)) (SP.k1 fun v51 => ?_)
  clear hc
  refine go ?_
  obtain rfl := fin ho hr
  exact QE.rt (fun _ h => St.selO [] rfl rfl (St.freezeS h 0 rfl see)) (hk := fun a b p s => ⟨_, rfl, ⟨em, em, Dj.em_left _, Sub.em _, Sub.em _, p.get 0 rfl, trivial⟩⟩)
 refine go ?_
 refine CP.ci ho (fun ho => ?_) fun ho => ?_
 ·refine go ?_
  refine CP.seq ?_
  refine go ?_
  refine CP.ci ho (fun ho => ?_) fun ho => ?_
  ·refine go ?_
   obtain rfl := fin ho hr
   exact QE.rt (fun _ h => St.selO [] rfl rfl (St.know (fun h _ => slP.nil (kInt .u8) h) h)) (hk := fun a b p s => ⟨_, rfl, ⟨em, em, Dj.em_left _, Sub.em _, Sub.em _, p.get 0 rfl, trivial⟩⟩)
  refine go ?_
  refine CP.seq ?_
  refine CP.drawA (by kernel_rfl) (fun w2 k h => h.drawn k) ?_
  obtain ⟨x58, hx, ho⟩ := elt_bind ho
  refine DA.ghost (fun w2 h => h.elem see 6 rfl hx.1 hx.2) (fun p56 h_p56 => ?_)
  clear hx
  refine DA.ghost (fun w2 h => h.openE see 0 rfl (fun _ : Unit => [.int .u8 x58]) (fun _ => []) (fun h cs e => ⟨(), e, All.nil _⟩)) (fun _ _ => ?_)
  obtain ⟨x62, hx, ho⟩ := elt_bind ho
  refine DA.ghost (fun w2 h => h.elem see 8 rfl hx.1 hx.2) (fun p60 h_p60 => ?_)
  clear hx
  refine DA.ghost (fun w2 h => h.openE see 0 rfl (fun _ : Unit => [.int .u8 x62]) (fun _ => []) (fun h cs e => ⟨(), e, All.nil _⟩)) (fun _ _ => ?_)
  refine DA.ph 0 15 ?_
  refine DT.tk 0 ?_
  refine DT.tk 1 ?_
  refine DT.tk 2 ?_
  refine DT.tk 4 ?_
  refine DT.tk 5 ?_
  refine DT.tk 6 ?_
  refine DT.tv 7 rfl (Val.indexE h_p56 Tryz.underlying38 sz5 rfl rfl) ?_
  refine DT.tv 8 rfl (Val.loadAt1 see 2 rfl Tryz.underlying5 rfl rfl) ?_
  refine DT.tk 10 ?_
  refine DT.tk 11 ?_
  refine DT.tk 12 ?_
  refine DT.tv 13 rfl (Val.indexE h_p60 Tryz.underlying38 sz5 rfl rfl) ?_
  refine DT.tv 14 rfl (Val.loadAt1 see 0 rfl Tryz.underlying5 rfl rfl) ?_
  refine DT.one 3 rfl (by kernel_rfl) rfl ?_
  obtain ⟨hz, ho⟩ := must_some ho
  refine SP.sliceToP see 10 rfl Tryz.underlying38 sz5 rfl rfl hz rfl rfl (fun v86 => ?_)
  clear hz
  refine go ?_
  refine QE.atT (fun w2 hw => (St.selP [1, 2, 3, 4, 5, 6, 7, 8, 9, 10, 11] rfl hw)) ?_
  refine DT.one 9 rfl (by kernel_rfl) rfl ?_
  obtain ⟨t89, hc, ho⟩ := bind_some ho
  refine SP.callK see (caps := []) _ fn86 rfl rfl rfl rfl (fun w2 hP hs sub ap => capstanref10_with.ok _ _ _ _ hc w2 hP sub (ap.get 0 rfl)) (SP.k1 fun v90 => ?_)
  clear hc
  refine go ?_
  refine QE.atT (fun w2 hw => (St.selP [1, 2, 3, 4, 5, 6, 7, 8, 9, 10, 11] rfl (St.selO [1, 2, 3] rfl rfl hw))) ?_
  refine DT.next (by kernel_rfl) ?_
  refine DA.one 15 rfl (by kernel_rfl) ?_
  obtain ⟨t92, hc, ho⟩ := bind_some ho
  refine SP.callKO see (caps := []) _ fn86 rfl rfl rfl rfl (fun w2 hs => capstanref10_with.ok _ _ _ _ hc w2 (hp w2) (Sub.refl _) (slO.read (St.own 0 rfl see.sub see.dj hs) (Sub.refl _) (Sub.refl _))) (fun v a a2 b ⟨v93, e, h⟩ => ⟨v93, e, (Sep.fcons (fun _ => slO.flip (fun _ _ _ _ h => h)) (fun _ => Sep.fnil)) h⟩) (SP.k1 fun v93 => ?_)
  clear hc
  refine go ?_
  refine QE.atA ?_
  refine DA.one 16 rfl (by kernel_rfl) ?_
  refine go ?_
  refine QE.atA ?_
  refine DA.one 17 rfl (by kernel_rfl) ?_
  refine go ?_
  refine QE.atA ?_
  refine DA.done (by kernel_rfl) ?_
  refine go ?_
  obtain rfl := fin ho hr
  exact QE.rt (fun _ h => St.selO [] rfl rfl (St.freezeS h 0 rfl see)) (hk := fun a b p s => ⟨_, rfl, ⟨em, em, Dj.em_left _, Sub.em _, Sub.em _, p.get 0 rfl, trivial⟩⟩)
 refine go ?_
 refine CP.ci ho (fun ho => ?_) fun ho => ?_
 ·refine go ?_
  obtain ⟨x97, hx, ho⟩ := elt_bind ho
  refine SP.indexP see 2 rfl Tryz.underlying23 sz41 hx.1 hx.2 rfl rfl rfl rfl (fun p95 => ?_)
  clear hx
  refine SP.fieldP see 0 rfl Tryz.underlying41 rfl sz38 k_api_Method.part_Args rfl rfl rfl (fun p98 => ?_)
  refine SP.loadPS see 0 rfl Tryz.underlying38 rfl rfl rfl (fun v100 => ?_)
  obtain ⟨t102, hc, ho⟩ := bind_some ho
  refine SP.callK see (caps := []) _ fn89 rfl rfl rfl rfl (fun w2 hP hs sub ap => capstanref10_takes.ok _ _ _ _ _ hc w2 hP sub (ap.get 9 rfl) (ap.get 0 rfl)) (SP.k1 fun v103 => ?_)
  refine SP.imp (fun w2 h => St.toP 0 rfl h) ?_
  clear hc
  refine go ?_
  refine CP.seq ?_
  refine go ?_
  refine CP.ci ho (fun ho => ?_) fun ho => ?_
  ·refine go ?_
   obtain rfl := fin ho hr
   exact QE.rt (fun _ h => St.selO [] rfl rfl (St.know (fun h _ => slP.nil (kInt .u8) h) h)) (hk := fun a b p s => ⟨_, rfl, ⟨em, em, Dj.em_left _, Sub.em _, Sub.em _, p.get 0 rfl, trivial⟩⟩)
  refine go ?_
  obtain ⟨x108, hx, ho⟩ := elt_bind ho
  refine SP.indexP see 6 rfl Tryz.underlying23 sz41 hx.1 hx.2 rfl rfl rfl rfl (fun p106 => ?_)
  clear hx
  refine SP.fieldP see 0 rfl Tryz.underlying41 rfl sz5 k_api_Method.part_Result rfl rfl rfl (fun p109 => ?_)
  refine SP.val (Val.loadP1 see 0 rfl (fun _ _ e => e) Tryz.underlying5 rfl rfl) rfl rfl rfl ?_
  obtain ⟨t111, hc, ho⟩ := bind_some ho
  refine SP.callK see (caps := []) _ fn86 rfl rfl rfl rfl (fun w2 hP hs sub ap => capstanref10_with.ok _ _ _ _ hc w2 hP sub (ap.get 2 rfl)) (SP.k1 fun v112 => ?_)
  clear hc
  refine go ?_
  obtain rfl := fin ho hr
  exact QE.rt (fun _ h => St.selO [] rfl rfl (St.freezeS h 0 rfl see)) (hk := fun a b p s => ⟨_, rfl, ⟨em, em, Dj.em_left _, Sub.em _, Sub.em _, p.get 0 rfl, trivial⟩⟩)
 refine go ?_
 refine CP.ci ho (fun ho => ?_) fun ho => ?_
 ·refine go ?_
  obtain ⟨t114, hc, ho⟩ := bind_some ho
  refine SP.callK see (caps := []) _ fn88 rfl rfl rfl rfl (fun w2 hP hs sub ap => capstanref10_taken.ok _ _ _ _ hc w2 hP sub (ap.get 6 rfl)) (SP.k1 fun v115 => ?_)
  refine SP.imp (fun w2 h => St.toP 0 rfl h) ?_
  clear hc
  refine go ?_
  obtain rfl := fin ho hr
  exact QE.rt (fun _ h => St.selO [] rfl rfl h) (hk := fun a b p s => ⟨_, rfl, ⟨em, em, Dj.em_left _, Sub.em _, Sub.em _, p.get 0 rfl, trivial⟩⟩)
 refine go ?_
 obtain ⟨t117, hc, ho⟩ := bind_some ho
 refine SP.callK see (caps := []) _ fn90 rfl rfl rfl rfl (fun w2 hP hs sub ap => capstanref04_Of.ok _  _ hc w2 hP sub ) (SP.k2 fun v118 v119 => ?_)
 clear hc
 refine go ?_
 refine SP.freezeS see 0 rfl ?_
 obtain ⟨t122, hc, ho⟩ := bind_some ho
 refine SP.callK see (caps := []) _ fn89 rfl rfl rfl rfl (fun w2 hP hs sub ap => capstanref10_takes.ok _ _ _ _ _ hc w2 hP sub (ap.get 7 rfl) (ap.get 0 rfl)) (SP.k1 fun v123 => ?_)
 refine SP.imp (fun w2 h => St.toP 0 rfl h) ?_
 clear hc
 refine go ?_
 refine CP.seq ?_
 refine go ?_
 refine CP.ci ho (fun ho => ?_) fun ho => ?_
 ·refine go ?_
  obtain rfl := fin ho hr
  exact QE.rt (fun _ h => St.selO [] rfl rfl (St.know (fun h _ => slP.nil (kInt .u8) h) h)) (hk := fun a b p s => ⟨_, rfl, ⟨em, em, Dj.em_left _, Sub.em _, Sub.em _, p.get 0 rfl, trivial⟩⟩)
 refine go ?_
 refine CP.seq ?_
 refine go ?_
 obtain rfl := Option.some.inj ho
 refine CP.loop (fun cl1 a w2 => ∃ l133 : List Int, ∃ x135 : Int, ∃ v134 : Value, cl1 ≤ m0 ∧ iter (capstanref10_After.F m_0 x_1 i_2 row_3) cl1 (.l1 t117 l133 x135) = some r ∧ Env ⟨172, []⟩ [(14, v119), (16, v134), (18, .int .i64 x135)] a ∧ St w em hV [slP (kInt .u8) v134 l133] [slO (kInt .u8) 5 v119 t117.2.1] w2) m0 (fun a w2 ha hw => ⟨t122.1, 0, v123, Nat.le_refl _, hr, ha.sub sb, (St.selP [0] rfl (St.selO [0] rfl rfl hw))⟩) ?_
 clear hr
 rintro cl1 a w2 ⟨l133, x135, v134, hc_l1, hi, ha, hw⟩
 obtain ⟨m136, o, hm_m136, ho, hr⟩ := iter_some hi
 refine CP.app ha hw ?_
 clear ha hw a w2 hi
 refine CP.seq ?_
 refine go ?_
 refine SP.val (Val.lenW (fun w2 hw => slO.whole (St.own 0 rfl see.sub see.dj hw)) Tryz.underlying38 rfl) rfl rfl rfl ?_
 refine go ?_
 refine CP.ci ho (fun ho => ?_) fun ho => ?_
 ·refine go ?_
  refine CP.seq ?_
  refine go ?_
  obtain ⟨x138, hx_x138, ho⟩ := elt_bind ho
  refine SP.indexW (fun w2 hw => slO.whole (St.own 0 rfl see.sub see.dj hw)) Tryz.underlying38 sz5 hx_x138.1 hx_x138.2 rfl rfl rfl rfl (fun p137 h_p137 => ?_)
  refine SP.val (Val.loadW1 (off := 0) (k := (kInt .u8)) (fun w2 hw => slO.whole (St.own 0 rfl see.sub see.dj hw)) hx_x138.2 h_p137 (fun _ _ e => by subst e; rfl) Tryz.underlying5 rfl rfl) rfl rfl rfl ?_
  obtain ⟨t139, hc, ho⟩ := bind_some ho
  refine SP.callK see (caps := []) _ fn86 rfl rfl rfl rfl (fun w2 hP hs sub ap => capstanref10_with.ok _ _ _ _ hc w2 hP sub (ap.get 0 rfl)) (SP.k1 fun v140 => ?_)
  clear hc
  refine go ?_
  obtain rfl := Option.some.inj ho
  exact QE.lower m136 (by omega) fun a w2 ha hw => ⟨t139, (IntKind.i64.wrap (x135 + 1)), v140, (by omega), hr, ha.sub sb, (St.selP [0] rfl (St.freezeS hw 0 rfl see))⟩
 refine go ?_
 obtain rfl := fin ho hr
 exact QE.rt (fun _ h => St.selO [] rfl rfl h) (hk := fun a b p s => ⟨_, rfl, ⟨em, em, Dj.em_left _, Sub.em _, Sub.em _, p.get 0 rfl, trivial⟩⟩)
def capstanref09_Ways.j1 (l_0 : (List api_Instr)) (a1 : Int) (x11 : api_Instr) (x16 : api_Instr) (b19 : Bool) : Option ((List Int) × Int) :=
  if b19 = true then (some ([], 0)) else (if x16.Op = 26 then (some ([x11.A], 0)) else (if x16.Op = 27 then (if x11.A = (IntKind.i64.wrap (a1 + 1)) then (some ([x11.A], 0)) else (some ([IntKind.i64.wrap (a1 + 1), x11.A], 0))) else (if x16.Op = 29 then (some ([IntKind.i64.wrap (x11.A + 1), IntKind.i64.wrap (a1 + 1)], 0)) else (some ([IntKind.i64.wrap (a1 + 1)], 0)))))
def capstanref09_Ways.f (l_0 : (List api_Instr)) (a1 : Int) : Option ((List Int) × Int) :=
  (capstanref09_Loops.f l_0).bind fun t2 => if t2.2 ≠ 0 then (some ([], t2.2)) else (if ((decide (a1 < 0)) || (decide (a1 ≥ (l_0.length : Int)))) = true then (some ([], 2)) else ((elt l_0 a1).bind fun x11 => (elt l_0 a1).bind fun x16 => if x16.Op = 31 then (capstanref09_Ways.j1 l_0 a1 x11 x16 (decide (x16.Op = 31))) else (capstanref09_Ways.j1 l_0 a1 x11 x16 (decide (x16.Op = 32)))))
theorem capstanref09_Ways.ok (l_0 : (List api_Instr)) (a1 : Int) (v_l_0 : Value) (r : (List Int) × Int) (H : capstanref09_Ways.f l_0 a1 = some r) (w : World) (hV : Hp) (sV : Sub hV (hp w)) (h0 : slR k_api_Instr hV v_l_0 l_0) :
    Trip Tryz.prog 64 [v_l_0, .int .i64 a1].toArray em hV w (fun v => HO.ex fun u0 : Value => HO.pand (v = .tuple #[u0, .int .i64 r.2]) (HO.seps [slO (kInt .i64) 3 u0 r.1])) := by
 refine Trip.go 64 Tryz.func64 sV (aS h0 (All.nil _)) fun see => ?_
 have ho := H
 refine go ?_
 obtain ⟨t2, hc, ho⟩ := bind_some ho
 refine SP.callK see (caps := []) _ fn61 rfl rfl rfl rfl (fun w2 hP hs sub ap => capstanref09_Loops.ok _ _ _ hc w2 hP sub (ap.get 0 rfl)) (SP.k1 fun v3 => ?_)
 refine SP.imp (fun w2 h => St.toP 0 rfl h) ?_
 clear hc
 refine go ?_
 refine CP.seq ?_
 refine go ?_
 refine CP.ci ho (fun ho => ?_) fun ho => ?_
 ·refine go ?_
  obtain rfl := Option.some.inj ho
  exact QE.rt (fun _ h => St.selO [0] rfl rfl (St.addO (slO.nil (kInt .i64) 3) h))
 refine go ?_
 refine CP.seq ?_
 refine go ?_
 refine SP.jn 5 [0, 1] 24 (.bool ((decide (a1 < 0)) || (decide (a1 ≥ (l_0.length : Int))))) ?_ ?_
 ·refine go ?_
  refine CP.cb ho (fun ho => ?_) fun ho => ?_
  ·refine go ?_
   obtain rfl := Option.some.inj ho
   exact QE.rt (fun _ h => St.selO [0] rfl rfl (St.addO (slO.nil (kInt .i64) 3) h))
  refine go ?_
  obtain ⟨x11, hx, ho⟩ := elt_bind ho
  refine SP.indexP see 1 rfl Tryz.underlying39 sz71 hx.1 hx.2 rfl rfl rfl rfl (fun p9 => ?_)
  clear hx
  refine SP.fieldP see 0 rfl Tryz.underlying71 rfl sz3 k_api_Instr.part_A rfl rfl rfl (fun p12 => ?_)
  refine SP.val (Val.loadP1 see 0 rfl (fun _ _ e => e) Tryz.underlying3 rfl rfl) rfl rfl rfl ?_
  refine go ?_
  refine CP.seq ?_
  refine go ?_
  obtain ⟨x16, hx, ho⟩ := elt_bind ho
  refine SP.indexP see 3 rfl Tryz.underlying39 sz71 hx.1 hx.2 rfl rfl rfl rfl (fun p14 => ?_)
  clear hx
  refine SP.fieldP see 0 rfl Tryz.underlying71 rfl sz5 k_api_Instr.part_Op rfl rfl rfl (fun p17 => ?_)
  refine SP.val (Val.loadP1 see 0 rfl (fun _ _ e => e) Tryz.underlying5 rfl rfl) rfl rfl rfl ?_
  refine go ?_
  refine CP.join (fun a w2 => ∃ b19 : Bool, capstanref09_Ways.j1 l_0 a1 x11 x16 b19 = some r ∧ Env ⟨64, []⟩ [(1, .int .i64 a1), (8, .int .i64 x11.A), (34, .int .u8 x16.Op), (35, .bool b19)] a ∧ St w em hV [] [] w2) ?_ ?_
  ·rintro a w2 ⟨b19, ho, ha, hw⟩
   refine CP.app ha hw ?_
   clear ha hw a w2
   refine CP.cb ho (fun ho => ?_) fun ho => ?_
   ·refine go ?_
    obtain rfl := Option.some.inj ho
    exact QE.rt (fun _ h => St.selO [0] rfl rfl (St.addO (slO.nil (kInt .i64) 3) h))
   refine go ?_
   refine CP.ci ho (fun ho => ?_) fun ho => ?_
   ·refine go ?_
    refine SP.lit (k := (kInt .i64)) (xs := [x11.A]) (vs := [.int .i64 x11.A]) (cells := [.int .i64 x11.A]) Tryz.underlying55 inf3 rfl rfl rfl rfl rfl rfl rfl rfl (fun _ ap => ⟨[.int .i64 x11.A], _, rfl, rfl, rfl⟩) rfl rfl rfl (fun v21 => ?_)
    refine go ?_
    obtain rfl := Option.some.inj ho
    exact QE.rt (fun _ h => St.selO [0] rfl rfl h)
   refine go ?_
   refine CP.ci ho (fun ho => ?_) fun ho => ?_
   ·refine CP.seq ?_
    refine go ?_
    refine CP.ci ho (fun ho => ?_) fun ho => ?_
    ·refine go ?_
     refine SP.lit (k := (kInt .i64)) (xs := [x11.A]) (vs := [.int .i64 x11.A]) (cells := [.int .i64 x11.A]) Tryz.underlying55 inf3 rfl rfl rfl rfl rfl rfl rfl rfl (fun _ ap => ⟨[.int .i64 x11.A], _, rfl, rfl, rfl⟩) rfl rfl rfl (fun v23 => ?_)
     refine go ?_
     obtain rfl := Option.some.inj ho
     exact QE.rt (fun _ h => St.selO [0] rfl rfl h)
    refine go ?_
    refine SP.lit (k := (kInt .i64)) (xs := [IntKind.i64.wrap (a1 + 1), x11.A]) (vs := [.int .i64 (IntKind.i64.wrap (a1 + 1)), .int .i64 x11.A]) (cells := [.int .i64 (IntKind.i64.wrap (a1 + 1)), .int .i64 x11.A]) Tryz.underlying55 inf3 rfl rfl rfl rfl rfl rfl rfl rfl (fun _ ap => ⟨[.int .i64 (IntKind.i64.wrap (a1 + 1))], _, rfl, rfl, ⟨[.int .i64 x11.A], _, rfl, rfl, rfl⟩⟩) rfl rfl rfl (fun v25 => ?_)
    refine go ?_
    obtain rfl := Option.some.inj ho
    exact QE.rt (fun _ h => St.selO [0] rfl rfl h)
   refine go ?_
   refine CP.ci ho (fun ho => ?_) fun ho => ?_
   ·refine go ?_
    refine SP.lit (k := (kInt .i64)) (xs := [IntKind.i64.wrap (x11.A + 1), IntKind.i64.wrap (a1 + 1)]) (vs := [.int .i64 (IntKind.i64.wrap (x11.A + 1)), .int .i64 (IntKind.i64.wrap (a1 + 1))]) (cells := [.int .i64 (IntKind.i64.wrap (x11.A + 1)), .int .i64 (IntKind.i64.wrap (a1 + 1))]) Tryz.underlying55 inf3 rfl rfl rfl rfl rfl rfl rfl rfl (fun _ ap => ⟨[.int .i64 (IntKind.i64.wrap (x11.A + 1))], _, rfl, rfl, ⟨[.int .i64 (IntKind.i64.wrap (a1 + 1))], _, rfl, rfl, rfl⟩⟩) rfl rfl rfl (fun v27 => ?_)
    refine go ?_
    obtain rfl := Option.some.inj ho
    exact QE.rt (fun _ h => St.selO [0] rfl rfl h)
   refine go ?_
   refine SP.lit (k := (kInt .i64)) (xs := [IntKind.i64.wrap (a1 + 1)]) (vs := [.int .i64 (IntKind.i64.wrap (a1 + 1))]) (cells := [.int .i64 (IntKind.i64.wrap (a1 + 1))]) Tryz.underlying55 inf3 rfl rfl rfl rfl rfl rfl rfl rfl (fun _ ap => ⟨[.int .i64 (IntKind.i64.wrap (a1 + 1))], _, rfl, rfl, rfl⟩) rfl rfl rfl (fun v29 => ?_)
   refine go ?_
   obtain rfl := Option.some.inj ho
   exact QE.rt (fun _ h => St.selO [0] rfl rfl h)
  refine go ?_
  refine CP.ci ho (fun ho => ?_) fun ho => ?_
  ·refine go ?_
   exact QE.meet fun a w2 ha hw => ⟨(decide (x16.Op = 31)), ho, ha.sub sb, (St.selP [] rfl hw)⟩
  refine go ?_
  exact QE.meet fun a w2 ha hw => ⟨(decide (x16.Op = 32)), ho, ha.sub sb, (St.selP [] rfl hw)⟩
 refine SP.bb 19 (fun hq7 => ?_) fun hq7 => ?_
 ·refine go ?_
  exact QE.jb (or_t hq7) fun w2 hw => hw
 refine go ?_
 exact QE.jb (or_f hq7 rfl) fun w2 hw => hw
inductive capstanref07_SameKinds.S where
  | start
  | l1 (x12 : Int)
def capstanref07_SameKinds.F (a_0 : (List Int)) (b_1 : (List Int)) : capstanref07_SameKinds.S → Option (capstanref07_SameKinds.S ⊕ Bool)
  | .start => if (a_0.length : Int) ≠ (b_1.length : Int) then (some (.inr false)) else (some (.inl (.l1 0)))
  | .l1 x12 => if x12 < (a_0.length : Int) then ((elt a_0 x12).bind fun x16 => (elt b_1 x12).bind fun x20 => if x16 ≠ x20 then (some (.inr false)) else (some (.inl (.l1 (IntKind.i64.wrap (x12 + 1)))))) else (some (.inr true))
def capstanref07_SameKinds.f (a_0 : (List Int)) (b_1 : (List Int)) : Option Bool := runF (capstanref07_SameKinds.F a_0 b_1) .start
theorem capstanref07_SameKinds.ok (a_0 : (List Int)) (b_1 : (List Int)) (v_a_0 v_b_1 : Value) (r : Bool) (H : capstanref07_SameKinds.f a_0 b_1 = some r) (w : World) (hV : Hp) (sV : Sub hV (hp w)) (h0 : slR (kInt .u8) hV v_a_0 a_0) (h1 : slR (kInt .u8) hV v_b_1 b_1) :
    Trip Tryz.prog 65 [v_a_0, v_b_1].toArray em hV w (fun v => HO.pure (v = .bool r)) := by
 refine Trip.go 26 Tryz.func65 sV (aS h0 (aS h1 (All.nil _))) fun see => ?_
 obtain ⟨n0, hi⟩ := runF_iff.1 H
 obtain ⟨m0, o, hm0, ho, hr⟩ := iter_some hi
 clear hi
 refine go ?_
 refine CP.seq ?_
 refine go ?_
 refine CP.ci ho (fun ho => ?_) fun ho => ?_
 ·refine go ?_
  obtain rfl := fin ho hr
  exact QE.rt (fun _ h => h)
 refine go ?_
 refine CP.seq ?_
 refine go ?_
 obtain rfl := Option.some.inj ho
 refine CP.loop (fun cl1 a w2 => ∃ x12 : Int, cl1 ≤ m0 ∧ iter (capstanref07_SameKinds.F a_0 b_1) cl1 (.l1 x12) = some r ∧ Env ⟨26, []⟩ [(0, v_a_0), (1, v_b_1), (5, .int .i64 x12)] a ∧ St w em hV [slP (kInt .u8) v_a_0 a_0, slP (kInt .u8) v_b_1 b_1] [] w2) m0 (fun a w2 ha hw => ⟨0, Nat.le_refl _, hr, ha.sub sb, hw⟩) ?_
 clear hr
 rintro cl1 a w2 ⟨x12, hc_l1, hi, ha, hw⟩
 obtain ⟨m13, o, hm_m13, ho, hr⟩ := iter_some hi
 refine CP.app ha hw ?_
 clear ha hw a w2 hi
 refine CP.seq ?_
 refine go ?_
 refine CP.ci ho (fun ho => ?_) fun ho => ?_
 ·refine go ?_
  refine CP.seq ?_
  refine go ?_
  refine CP.seq ?_
  refine CP.drawA (by kernel_rfl) (fun w2 k h => h.drawn k) ?_
  obtain ⟨x16, hx, ho⟩ := elt_bind ho
  refine DA.ghost (fun w2 h => h.elem see 0 rfl hx.1 hx.2) (fun p14 h_p14 => ?_)
  clear hx
  refine DA.ghost (fun w2 h => h.openE see 0 rfl (fun _ : Unit => [.int .u8 x16]) (fun _ => []) (fun h cs e => ⟨(), e, All.nil _⟩)) (fun _ _ => ?_)
  obtain ⟨x20, hx, ho⟩ := elt_bind ho
  refine DA.ghost (fun w2 h => h.elem see 3 rfl hx.1 hx.2) (fun p18 h_p18 => ?_)
  clear hx
  refine DA.ghost (fun w2 h => h.openE see 0 rfl (fun _ : Unit => [.int .u8 x20]) (fun _ => []) (fun h cs e => ⟨(), e, All.nil _⟩)) (fun _ _ => ?_)
  refine DA.ph 0 8 ?_
  refine DT.tk 0 ?_
  refine DT.tk 1 ?_
  refine DT.tv 2 rfl (Val.indexE h_p14 Tryz.underlying38 sz5 rfl rfl) ?_
  refine DT.tv 3 rfl (Val.loadAt1 see 2 rfl Tryz.underlying5 rfl rfl) ?_
  refine DT.tk 4 ?_
  refine DT.tk 5 ?_
  refine DT.tv 6 rfl (Val.indexE h_p18 Tryz.underlying38 sz5 rfl rfl) ?_
  refine DT.tv 7 rfl (Val.loadAt1 see 0 rfl Tryz.underlying5 rfl rfl) ?_
  refine DT.next (by kernel_rfl) ?_
  refine DA.one 8 rfl (by kernel_rfl) ?_
  refine go ?_
  refine QE.atA ?_
  refine DA.done (by kernel_rfl) ?_
  refine go ?_
  refine CP.ci ho (fun ho => ?_) fun ho => ?_
  ·refine go ?_
   obtain rfl := fin ho hr
   exact QE.rt (fun _ h => h)
  refine go ?_
  obtain rfl := Option.some.inj ho
  exact QE.lower m13 (by omega) fun a w2 ha hw => ⟨(IntKind.i64.wrap (x12 + 1)), (by omega), hr, ha.sub sb, (St.selP [4, 5] rfl hw)⟩
 refine go ?_
 obtain rfl := fin ho hr
 exact QE.rt (fun _ h => h)
inductive capstanref10_Rows.S where
  | start
  | l1 (x11 : api_Method) (x217 : Int)
  | l2 (x11 : api_Method) (l318 : List capstanref10_Row) (x320 : Int)
  | l3 (x11 : api_Method) (x320 : Int) (t338 : (List Int) × Int) (t342 : (List Int) × Int) (l372 : List capstanref10_Row) (x374 : Int)
def capstanref10_Rows.j1 (m_0 : api_Module) (k_1 : Int) (x11 : api_Method) (x320 : Int) (l405 : List capstanref10_Row) : Option (capstanref10_Rows.S ⊕ ((List capstanref10_Row) × Int)) :=
  some (.inl (.l2 x11 l405 (IntKind.i64.wrap (x320 + 1))))
def capstanref10_Rows.F (m_0 : api_Module) (k_1 : Int) : capstanref10_Rows.S → Option (capstanref10_Rows.S ⊕ ((List capstanref10_Row) × Int))
  | .start => if ((decide (k_1 < 0)) || (decide (k_1 ≥ (m_0.Methods.length : Int)))) = true then (some (.inr ([], 2))) else ((elt m_0.Methods k_1).bind fun x11 => (capstanref09_Loops.f x11.Code).bind fun t20 => if t20.2 ≠ 0 then (some (.inr ([], t20.2))) else (some (.inl (.l1 x11 0))))
  | .l1 x11 x217 => if x217 < (x11.Code.length : Int) then ((elt x11.Code x217).bind fun x221 => (capstanref10_there.f m_0 x11 x221).bind fun t223 => if (!t223) = true then (some (.inr ([], 100))) else (some (.inl (.l1 x11 (IntKind.i64.wrap (x217 + 1)))))) else (if (0 : Int) ≤ (x11.Code.length : Int) ∧ (32 : Int) * (x11.Code.length : Int) ≤ 281474976710656 ∧ ((x11.Code.length : Int) : Int) ≤ 9223372036854775807 then ((elt (List.replicate ((x11.Code.length : Int) : Int).toNat capstanref10_Row.zero : List capstanref10_Row) 0).bind fun x228 => some (.inl (.l2 x11 ((List.replicate ((x11.Code.length : Int) : Int).toNat capstanref10_Row.zero : List capstanref10_Row).set (0 : Int).toNat ({ x228 with Reached := true } : capstanref10_Row)) 0))) else none)
  | .l2 x11 l318 x320 => if x320 < (l318.length : Int) then ((elt l318 x320).bind fun x323 => if (!x323.Reached) = true then (capstanref10_Rows.j1 m_0 k_1 x11 x320 l318) else ((elt x11.Code x320).bind fun x327 => (elt l318 x320).bind fun x330 => (capstanref10_After.f m_0 x11 x327 x330.Kinds).bind fun t338 => if t338.2 ≠ 0 then (some (.inr ([], t338.2))) else ((capstanref09_Ways.f x11.Code x320).bind fun t342 => some (.inl (.l3 x11 x320 t338 t342 l318 0))))) else (some (.inr (l318, 0)))
  | .l3 x11 x320 t338 t342 l372 x374 => if x374 < (t342.1.length : Int) then ((elt t342.1 x374).bind fun x377 => (elt l372 x377).bind fun x379 => (if x379.Reached = true then ((elt l372 x377).bind fun x384 => (capstanref07_SameKinds.f x384.Kinds t338.1).bind fun t388 => some (!t388)) else (some false)).bind fun t389 => if t389 = true then (some (.inr ([], 100))) else ((elt l372 x377).bind fun x392 => if (([] : List Int).length + t338.1.length) * 1 ≤ 140737488355328 then ((elt (l372.set x377.toNat ({ x392 with Reached := true } : capstanref10_Row)) x377).bind fun x400 => some (.inl (.l3 x11 x320 t338 t342 ((l372.set x377.toNat ({ x392 with Reached := true } : capstanref10_Row)).set x377.toNat ({ x400 with Kinds := ([] : List Int) ++ t338.1 } : capstanref10_Row)) (IntKind.i64.wrap (x374 + 1))))) else none)) else (capstanref10_Rows.j1 m_0 k_1 x11 x320 l372)
def capstanref10_Rows.f (m_0 : api_Module) (k_1 : Int) : Option ((List capstanref10_Row) × Int) := runF (capstanref10_Rows.F m_0 k_1) .start
theorem capstanref10_Rows.ok (m_0 : api_Module) (k_1 : Int) (v_m_0_Globals v_m_0_Pool v_m_0_Methods : Value) (r : (List capstanref10_Row) × Int) (H : capstanref10_Rows.f m_0 k_1 = some r) (w : World) (hV : Hp) (sV : Sub hV (hp w)) (h0 : slR k_api_Value hV v_m_0_Globals m_0.Globals) (h1 : slR k_api_Value hV v_m_0_Pool m_0.Pool) (h2 : slR k_api_Method hV v_m_0_Methods m_0.Methods) :
    Trip Tryz.prog 31 [.agg #[v_m_0_Globals, v_m_0_Pool, v_m_0_Methods, .int .i64 m_0.Migrate], .int .i64 k_1].toArray em hV w (fun v => HO.ex fun u0 : Value => HO.pand (v = .tuple #[u0, .int .i64 r.2]) (HO.seps [slO k_capstanref10_Row 127 u0 r.1])) := by
 refine Trip.go 139 Tryz.func31 sV (aS h0 (aS h1 (aS h2 (All.nil _)))) fun see => ?_
 obtain ⟨n0, hi⟩ := runF_iff.1 H
 obtain ⟨m0, o, hm0, ho, hr⟩ := iter_some hi
 clear hi
 refine go ?_
 refine SP.box rfl rfl rfl rfl fun b4 => ?_
 refine go ?_
 refine CP.seq ?_
 refine go ?_
 refine SP.jn 6 [1, 2] 26 (.bool ((decide (k_1 < 0)) || (decide (k_1 ≥ (m_0.Methods.length : Int))))) ?_ ?_
 ·refine go ?_
  refine CP.cb ho (fun ho => ?_) fun ho => ?_
  ·refine go ?_
   obtain rfl := fin ho hr
   exact QE.rt (fun _ h => St.selO [0] rfl rfl (St.addO (slO.nil k_capstanref10_Row 127) h))
  refine go ?_
  obtain ⟨x11, hx, ho⟩ := elt_bind ho
  refine SP.indexP see 2 rfl Tryz.underlying23 sz41 hx.1 hx.2 rfl rfl rfl rfl (fun p9 => ?_)
  clear hx
  refine k_api_Method.load see 0 rfl Tryz.underlying41 rfl sz41 rfl rfl rfl (fun v12 v14 v16 => ?_)
  refine SP.alloc (cs := [(.slice none 0 0), (.slice none 0 0), .int .u8 0, .bool false, .int .i64 0, .int .i64 0, .int .i64 0, (.slice none 0 0)]) inf41 rfl rfl (fun b18 => ?_)
  refine SP.have (fun w2 hw => slR.shape (St.pers 0 rfl see.sub see.dj hw)) (fun hs_v12 => ?_)
  refine SP.have (fun w2 hw => slR.shape (St.pers 1 rfl see.sub see.dj hw)) (fun hs_v14 => ?_)
  refine SP.have (fun w2 hw => slR.shape (St.pers 2 rfl see.sub see.dj hw)) (fun hs_v16 => ?_)
  refine SP.store (v := .agg #[v12, v14, .int .u8 x11.Result, .bool x11.Reads, .int .i64 x11.Fuel, .int .i64 x11.Stack, .int .i64 x11.Heap, v16]) (vs := [v12, v14, .int .u8 x11.Result, .bool x11.Reads, .int .i64 x11.Fuel, .int .i64 x11.Stack, .int .i64 x11.Heap, v16]) 0 (by rfl) sz41 (by rfl) (by rfl) (by rfl) (by rfl) (one_cons hs_v12 (one_cons hs_v14 (one_cons rfl (one_cons rfl (one_cons rfl (one_cons rfl (one_cons rfl (one_cons hs_v16 (rfl))))))))) (by rfl) ?_
  refine go ?_
  obtain ⟨t20, hc, ho⟩ := bind_some ho
  refine SP.callK see (caps := []) _ fn61 rfl rfl rfl rfl (fun w2 hP hs sub ap => capstanref09_Loops.ok _ _ _ hc w2 hP sub (ap.get 2 rfl)) (SP.k1 fun v21 => ?_)
  refine SP.imp (fun w2 h => St.toP 0 rfl h) ?_
  clear hc
  refine go ?_
  refine CP.seq ?_
  refine go ?_
  refine CP.ci ho (fun ho => ?_) fun ho => ?_
  ·refine go ?_
   obtain rfl := fin ho hr
   exact QE.rt (fun _ h => St.selO [0] rfl rfl (St.addO (slO.nil k_capstanref10_Row 127) h))
  refine go ?_
  refine CP.seq ?_
  refine go ?_
  obtain rfl := Option.some.inj ho
  refine CP.loop (fun cl1 a w2 => ∃ x217 : Int, cl1 ≤ m0 ∧ iter (capstanref10_Rows.F m_0 k_1) cl1 (.l1 x11 x217) = some r ∧ Env ⟨139, []⟩ [(2, .pointer (some ⟨b4, 0, none⟩)), (6, .pointer (some ⟨b18, 0, none⟩)), (9, .int .i64 x217)] a ∧ St w em hV [slP (kInt .u8) v12 x11.Args, slP (kInt .u8) v14 x11.Locals, slP k_api_Instr v16 x11.Code, slP k_api_Value v_m_0_Globals m_0.Globals, slP k_api_Value v_m_0_Pool m_0.Pool, slP k_api_Method v_m_0_Methods m_0.Methods] [boxO b18 [v12, v14, .int .u8 x11.Result, .bool x11.Reads, .int .i64 x11.Fuel, .int .i64 x11.Stack, .int .i64 x11.Heap, v16] 41, boxO b4 [v_m_0_Globals, v_m_0_Pool, v_m_0_Methods, .int .i64 m_0.Migrate] 25] w2) m0 (fun a w2 ha hw => ⟨0, Nat.le_refl _, hr, ha.sub sb, (St.selP [1, 2, 3, 5, 6, 7] rfl hw)⟩) ?_
  clear hr
  rintro cl1 a w2 ⟨x217, hc_l1, hi, ha, hw⟩
  obtain ⟨m218, o, hm_m218, ho, hr⟩ := iter_some hi
  refine CP.app ha hw ?_
  clear ha hw a w2 hi
  refine CP.seq ?_
  refine go ?_
  refine CP.ci ho (fun ho => ?_) fun ho => ?_
  ·refine go ?_
   refine CP.seq ?_
   refine go ?_
   refine CP.seq ?_
   refine CP.drawA (by kernel_rfl) (fun w2 k h => h.drawn k) ?_
   obtain ⟨x221, hx, ho⟩ := elt_bind ho
   refine DA.ghost (fun w2 h => h.elem see 2 rfl hx.1 hx.2) (fun p219 h_p219 => ?_)
   clear hx
   refine DA.ghost (fun w2 h => h.openE see 0 rfl (fun _ : Unit => [.int .u8 x221.Op, .int .i64 x221.A, .int .i64 x221.B]) (fun _ => []) (fun h cs e => ⟨(), e, All.nil _⟩)) (fun _ _ => ?_)
   refine DA.ph 0 7 ?_
   refine DT.tv 0 rfl (Val.loadA 1 rfl Tryz.underlying25 rfl sz25 rfl rfl rfl) ?_
   refine DT.tv 1 rfl (Val.loadA 0 rfl Tryz.underlying41 rfl sz41 rfl rfl rfl) ?_
   refine DT.tk 2 ?_
   refine DT.tk 3 ?_
   refine DT.tk 4 ?_
   refine DT.tv 5 rfl (Val.indexE h_p219 Tryz.underlying39 sz71 rfl rfl) ?_
   refine DT.tv 6 rfl (Val.loadAtA see 0 rfl Tryz.underlying71 rfl sz71 rfl) ?_
   refine DT.next (by kernel_rfl) ?_
   refine DA.one 7 rfl (by kernel_rfl) ?_
   obtain ⟨t223, hc, ho⟩ := bind_some ho
   refine SP.callV see (caps := []) (.bool t223) fn62 rfl rfl rfl rfl (fun w2 hP hs sub ap => capstanref10_there.ok _ _ _ _ _ _ _ _ _ _ hc w2 hP sub (ap.get 5 rfl) (ap.get 6 rfl) (ap.get 7 rfl) (ap.get 2 rfl) (ap.get 3 rfl) (ap.get 4 rfl)) ?_
   clear hc
   refine go ?_
   refine QE.atA ?_
   refine DA.one 8 rfl (by kernel_rfl) ?_
   refine go ?_
   refine QE.atA ?_
   refine DA.done (by kernel_rfl) ?_
   refine go ?_
   refine CP.cb ho (fun ho => ?_) fun ho => ?_
   ·refine go ?_
    obtain rfl := fin ho hr
    exact QE.rt (fun _ h => St.selO [0] rfl rfl (St.addO (slO.nil k_capstanref10_Row 127) h))
   refine go ?_
   obtain rfl := Option.some.inj ho
   exact QE.lower m218 (by omega) fun a w2 ha hw => ⟨(IntKind.i64.wrap (x217 + 1)), (by omega), hr, ha.sub sb, (St.selP [2, 3, 4, 5, 6, 7] rfl hw)⟩
  refine go ?_
  obtain ⟨hb, ho⟩ := must_some ho
  refine SP.makeS (k := k_capstanref10_Row) (z := capstanref10_Row.zero) Tryz.underlying83 inf127 rfl rfl (fun _ => ⟨_, rfl, slP.nil _ _⟩) rfl rfl rfl rfl hb (fun v225 => ?_)
  clear hb
  refine go ?_
  obtain ⟨x228, hx_x228, ho⟩ := elt_bind ho
  refine SP.indexW (fun w2 hw => slO.whole (St.own 0 rfl see.sub see.dj hw)) Tryz.underlying83 sz127 hx_x228.1 hx_x228.2 rfl rfl rfl rfl (fun p227 h_p227 => ?_)
  refine SP.fieldO h_p227 Tryz.underlying127 rfl sz4 rfl rfl rfl (fun p229 h_p229 => ?_)
  refine SP.storeO (z0 := ({ x228 with Reached := true } : capstanref10_Row)) (off := 0) (vs := [.bool true]) see 0 rfl hx_x228.2 h_p229 rfl (by rfl) sz4 rfl (fun a cs ap r => by obtain ⟨v0_, e, p0_⟩ := r; subst e; exact ⟨v0_, rfl, p0_⟩) rfl rfl rfl ?_
  have hs230 := set_at ({ x228 with Reached := true } : capstanref10_Row) hx_x228.2
  refine go ?_
  refine CP.seq ?_
  refine go ?_
  obtain rfl := Option.some.inj ho
  refine CP.loop (fun cl2 a w2 => ∃ l318 : List capstanref10_Row, ∃ x320 : Int, ∃ v319 : Value, cl2 ≤ m218 ∧ iter (capstanref10_Rows.F m_0 k_1) cl2 (.l2 x11 l318 x320) = some r ∧ Env ⟨139, []⟩ [(2, .pointer (some ⟨b4, 0, none⟩)), (6, .pointer (some ⟨b18, 0, none⟩)), (10, v319), (11, .int .i64 x320)] a ∧ St w em hV [slP (kInt .u8) v12 x11.Args, slP (kInt .u8) v14 x11.Locals, slP k_api_Instr v16 x11.Code, slP k_api_Value v_m_0_Globals m_0.Globals, slP k_api_Value v_m_0_Pool m_0.Pool, slP k_api_Method v_m_0_Methods m_0.Methods] [slO k_capstanref10_Row 127 v319 l318, boxO b18 [v12, v14, .int .u8 x11.Result, .bool x11.Reads, .int .i64 x11.Fuel, .int .i64 x11.Stack, .int .i64 x11.Heap, v16] 41, boxO b4 [v_m_0_Globals, v_m_0_Pool, v_m_0_Methods, .int .i64 m_0.Migrate] 25] w2) m218 (fun a w2 ha hw => ⟨((List.replicate ((x11.Code.length : Int) : Int).toNat capstanref10_Row.zero : List capstanref10_Row).set (0 : Int).toNat ({ x228 with Reached := true } : capstanref10_Row)), 0, v225, Nat.le_refl _, hr, ha.sub sb, hw⟩) ?_
  clear hr
  rintro cl2 a w2 ⟨l318, x320, v319, hc_l2, hi, ha, hw⟩
  obtain ⟨m321, o, hm_m321, ho, hr⟩ := iter_some hi
  refine CP.app ha hw ?_
  clear ha hw a w2 hi
  refine CP.seq ?_
  refine go ?_
  refine SP.val (Val.lenW (fun w2 hw => slO.whole (St.own 0 rfl see.sub see.dj hw)) Tryz.underlying83 rfl) rfl rfl rfl ?_
  refine go ?_
  refine CP.ci ho (fun ho => ?_) fun ho => ?_
  ·refine go ?_
   refine CP.join (fun a w2 => ∃ l405 : List capstanref10_Row, ∃ v406 : Value, ∃ (m407 : Nat) (o : (capstanref10_Rows.S ⊕ ((List capstanref10_Row) × Int))), m407 ≤ m321 ∧ capstanref10_Rows.j1 m_0 k_1 x11 x320 l405 = some o ∧ next (capstanref10_Rows.F m_0 k_1) m407 o = some r ∧ Env ⟨139, []⟩ [(2, .pointer (some ⟨b4, 0, none⟩)), (6, .pointer (some ⟨b18, 0, none⟩)), (10, v406), (11, .int .i64 x320)] a ∧ St w em hV [slP (kInt .u8) v12 x11.Args, slP (kInt .u8) v14 x11.Locals, slP k_api_Instr v16 x11.Code, slP k_api_Value v_m_0_Globals m_0.Globals, slP k_api_Value v_m_0_Pool m_0.Pool, slP k_api_Method v_m_0_Methods m_0.Methods] [slO k_capstanref10_Row 127 v406 l405, boxO b18 [v12, v14, .int .u8 x11.Result, .bool x11.Reads, .int .i64 x11.Fuel, .int .i64 x11.Stack, .int .i64 x11.Heap, v16] 41, boxO b4 [v_m_0_Globals, v_m_0_Pool, v_m_0_Methods, .int .i64 m_0.Migrate] 25] w2) ?_ ?_
   ·rintro a w2 ⟨l405, v406, m407, o, hm_m407, ho, hr, ha, hw⟩
    refine CP.app ha hw ?_
    clear ha hw a w2
    refine go ?_
    obtain rfl := Option.some.inj ho
    exact QE.lower m407 (by omega) fun a w2 ha hw => ⟨l405, (IntKind.i64.wrap (x320 + 1)), v406, (by omega), hr, ha.sub sb, hw⟩
   refine go ?_
   refine CP.seq ?_
   refine go ?_
   obtain ⟨x323, hx_x323, ho⟩ := elt_bind ho
   refine SP.indexW (fun w2 hw => slO.whole (St.own 0 rfl see.sub see.dj hw)) Tryz.underlying83 sz127 hx_x323.1 hx_x323.2 rfl rfl rfl rfl (fun p322 h_p322 => ?_)
   refine SP.fieldO h_p322 Tryz.underlying127 rfl sz4 rfl rfl rfl (fun p324 h_p324 => ?_)
   refine SP.val (Val.loadW1 (off := 0) (k := k_capstanref10_Row) (fun w2 hw => slO.whole (St.own 0 rfl see.sub see.dj hw)) hx_x323.2 h_p324 (fun _ _ ⟨_, e, _⟩ => by subst e; rfl) Tryz.underlying4 rfl rfl) rfl rfl rfl ?_
   refine go ?_
   refine CP.cb ho (fun ho => ?_) fun ho => ?_
   ·refine go ?_
    exact QE.meet fun a w2 ha hw => ⟨l318, v319, m321, _, (by omega), ho, hr, ha.sub sb, hw⟩
   refine go ?_
   refine CP.seq ?_
   refine CP.drawA (by kernel_rfl) (fun w2 k h => h.drawn k) ?_
   obtain ⟨x327, hx, ho⟩ := elt_bind ho
   refine DA.ghost (fun w2 h => h.elem see 2 rfl hx.1 hx.2) (fun p325 h_p325 => ?_)
   clear hx
   refine DA.ghost (fun w2 h => h.openE see 0 rfl (fun _ : Unit => [.int .u8 x327.Op, .int .i64 x327.A, .int .i64 x327.B]) (fun _ => []) (fun h cs e => ⟨(), e, All.nil _⟩)) (fun _ _ => ?_)
   obtain ⟨x330, hx_x330, ho⟩ := elt_bind ho
   refine DA.ghost (fun w2 hw => let ⟨z, hz⟩ := ixC ((fun w2 hw => slO.whole (St.own 0 rfl see.sub see.dj hw)) w2 hw) hx_x330.1 hx_x330.2; ⟨z, hz, hw⟩) (fun p329 i_p329 => ?_)
   have h_p329 := i_p329.1
   obtain ⟨p331, h_p331⟩ := PtC.more h_p329 1
   refine DA.ph 0 12 ?_
   refine DT.tv 0 rfl (Val.loadA 2 rfl Tryz.underlying25 rfl sz25 rfl rfl rfl) ?_
   refine DT.tv 1 rfl (Val.loadA 1 rfl Tryz.underlying41 rfl sz41 rfl rfl rfl) ?_
   refine DT.tk 2 ?_
   refine DT.tk 3 ?_
   refine DT.tk 4 ?_
   refine DT.tv 5 rfl (Val.indexE h_p325 Tryz.underlying39 sz71 rfl rfl) ?_
   refine DT.tv 6 rfl (Val.loadAtA see 0 rfl Tryz.underlying71 rfl sz71 rfl) ?_
   refine DT.tk 7 ?_
   refine DT.tk 8 ?_
   refine DT.tv 9 rfl (Val.indexC' i_p329 Tryz.underlying83 sz127 rfl rfl) ?_
   refine DT.tv 10 rfl (Val.fieldC h_p329 h_p331 Tryz.underlying127 rfl rfl sz38 rfl) ?_
   refine DT.one 11 rfl (by kernel_rfl) rfl ?_
   refine SP.loadOS (j := x320) see 0 1 rfl hx_x330.2 h_p331 (fun _ _ ⟨v0_, e, p0_⟩ => ⟨v0_, by subst e; rfl, p0_⟩) Tryz.underlying38 rfl rfl rfl (fun v336 => ?_)
   refine go ?_
   refine QE.atT (fun w2 hw => (St.selP [1, 2, 3, 4, 5, 6, 7, 8] rfl hw)) ?_
   refine DT.next (by kernel_rfl) ?_
   refine DA.one 12 rfl (by kernel_rfl) ?_
   obtain ⟨t338, hc, ho⟩ := bind_some ho
   refine SP.callK see (caps := []) _ fn63 rfl rfl rfl rfl (fun w2 hP hs sub ap => capstanref10_After.ok _ _ _ _ _ _ _ _ _ _ _ _ hc w2 hP sub (ap.get 6 rfl) (ap.get 7 rfl) (ap.get 8 rfl) (ap.get 3 rfl) (ap.get 4 rfl) (ap.get 5 rfl) (ap.get 0 rfl)) (SP.k1 fun v339 => ?_)
   refine SP.imp (fun w2 h => St.toP 0 rfl h) ?_
   clear hc
   refine go ?_
   refine QE.atA ?_
   refine DA.one 13 rfl (by kernel_rfl) ?_
   refine go ?_
   refine QE.atA ?_
   refine DA.ph 14 17 ?_
   refine DT.tk 14 ?_
   refine DT.tk 15 ?_
   refine DT.tk 16 ?_
   refine DT.next (by kernel_rfl) ?_
   refine DA.one 17 rfl (by kernel_rfl) ?_
   refine go ?_
   refine QE.atA ?_
   refine DA.done (by kernel_rfl) ?_
   refine go ?_
   refine CP.seq ?_
   refine go ?_
   refine CP.ci ho (fun ho => ?_) fun ho => ?_
   ·refine go ?_
    obtain rfl := fin ho hr
    exact QE.rt (fun _ h => St.selO [0] rfl rfl (St.addO (slO.nil k_capstanref10_Row 127) h))
   refine go ?_
   obtain ⟨t342, hc, ho⟩ := bind_some ho
   refine SP.callK see (caps := []) _ fn64 rfl rfl rfl rfl (fun w2 hP hs sub ap => capstanref09_Ways.ok _ _ _ _ hc w2 hP sub (ap.get 6 rfl)) (SP.k1 fun v343 => ?_)
   clear hc
   refine go ?_
   obtain rfl := Option.some.inj ho
   refine CP.loop (fun cl3 a w2 => ∃ l372 : List capstanref10_Row, ∃ x374 : Int, ∃ v373 : Value, cl3 ≤ m321 ∧ iter (capstanref10_Rows.F m_0 k_1) cl3 (.l3 x11 x320 t338 t342 l372 x374) = some r ∧ Env ⟨139, []⟩ [(2, .pointer (some ⟨b4, 0, none⟩)), (6, .pointer (some ⟨b18, 0, none⟩)), (10, v373), (11, .int .i64 x320), (12, v339), (14, v343), (16, .int .i64 x374)] a ∧ St w em hV [slP (kInt .u8) v339 t338.1, slP (kInt .u8) v12 x11.Args, slP (kInt .u8) v14 x11.Locals, slP k_api_Instr v16 x11.Code, slP k_api_Value v_m_0_Globals m_0.Globals, slP k_api_Value v_m_0_Pool m_0.Pool, slP k_api_Method v_m_0_Methods m_0.Methods] [slO (kInt .i64) 3 v343 t342.1, slO k_capstanref10_Row 127 v373 l372, boxO b18 [v12, v14, .int .u8 x11.Result, .bool x11.Reads, .int .i64 x11.Fuel, .int .i64 x11.Stack, .int .i64 x11.Heap, v16] 41, boxO b4 [v_m_0_Globals, v_m_0_Pool, v_m_0_Methods, .int .i64 m_0.Migrate] 25] w2) m321 (fun a w2 ha hw => ⟨l318, 0, v319, Nat.le_refl _, hr, ha.sub sb, (St.selP [0, 4, 5, 6, 7, 8, 9] rfl hw)⟩) ?_
   clear hr
   rintro cl3 a w2 ⟨l372, x374, v373, hc_l3, hi, ha, hw⟩
   obtain ⟨m375, o, hm_m375, ho, hr⟩ := iter_some hi
   refine CP.app ha hw ?_
   clear ha hw a w2 hi
   refine CP.seq ?_
   refine go ?_
   refine SP.val (Val.lenW (fun w2 hw => slO.whole (St.own 0 rfl see.sub see.dj hw)) Tryz.underlying55 rfl) rfl rfl rfl ?_
   refine go ?_
   refine CP.ci ho (fun ho => ?_) fun ho => ?_
   ·refine go ?_
    refine CP.seq ?_
    refine go ?_
    obtain ⟨x377, hx_x377, ho⟩ := elt_bind ho
    refine SP.indexW (fun w2 hw => slO.whole (St.own 0 rfl see.sub see.dj hw)) Tryz.underlying55 sz3 hx_x377.1 hx_x377.2 rfl rfl rfl rfl (fun p376 h_p376 => ?_)
    refine SP.val (Val.loadW1 (off := 0) (k := (kInt .i64)) (fun w2 hw => slO.whole (St.own 0 rfl see.sub see.dj hw)) hx_x377.2 h_p376 (fun _ _ e => by subst e; rfl) Tryz.underlying3 rfl rfl) rfl rfl rfl ?_
    refine go ?_
    refine CP.seq ?_
    refine go ?_
    obtain ⟨x379, hx_x379, ho⟩ := elt_bind ho
    refine SP.indexW (fun w2 hw => slO.whole (St.own 1 rfl see.sub see.dj hw)) Tryz.underlying83 sz127 hx_x379.1 hx_x379.2 rfl rfl rfl rfl (fun p378 h_p378 => ?_)
    refine SP.fieldO h_p378 Tryz.underlying127 rfl sz4 rfl rfl rfl (fun p380 h_p380 => ?_)
    refine SP.val (Val.loadW1 (off := 0) (k := k_capstanref10_Row) (fun w2 hw => slO.whole (St.own 1 rfl see.sub see.dj hw)) hx_x379.2 h_p380 (fun _ _ ⟨_, e, _⟩ => by subst e; rfl) Tryz.underlying4 rfl rfl) rfl rfl rfl ?_
    refine go ?_
    obtain ⟨t389, hg_t389, ho⟩ := bind_some ho
    refine SP.jn 9 [2, 6, 10, 11, 12, 14, 16, 17] 126 (.bool t389) ?_ ?_
    ·clear hg_t389
     refine go ?_
     refine CP.cb ho (fun ho => ?_) fun ho => ?_
     ·refine go ?_
      obtain rfl := fin ho hr
      exact QE.rt (fun _ h => St.selO [0] rfl rfl (St.addO (slO.nil k_capstanref10_Row 127) h))
     refine go ?_
     obtain ⟨x392, hx_x392, ho⟩ := elt_bind ho
     refine SP.indexW (fun w2 hw => slO.whole (St.own 1 rfl see.sub see.dj hw)) Tryz.underlying83 sz127 hx_x392.1 hx_x392.2 rfl rfl rfl rfl (fun p391 h_p391 => ?_)
     refine SP.fieldO h_p391 Tryz.underlying127 rfl sz4 rfl rfl rfl (fun p393 h_p393 => ?_)
     refine SP.storeO (z0 := ({ x392 with Reached := true } : capstanref10_Row)) (off := 0) (vs := [.bool true]) see 1 rfl hx_x392.2 h_p393 rfl (by rfl) sz4 rfl (fun a cs ap r => by obtain ⟨v0_, e, p0_⟩ := r; subst e; exact ⟨v0_, rfl, p0_⟩) rfl rfl rfl ?_
     have hs394 := set_at ({ x392 with Reached := true } : capstanref10_Row) hx_x392.2
     refine go ?_
     refine SP.lit0 (k := (kInt .u8)) Tryz.underlying38 inf5 rfl rfl (fun v395 => ?_)
     refine go ?_
     obtain ⟨hb, ho⟩ := must_some ho
     refine SP.append see 0 rfl 0 rfl Tryz.underlying38 inf5 rfl rfl hb rfl rfl rfl rfl rfl (fun v397 => ?_)
     clear hb
     obtain ⟨x400, hx_x400, ho⟩ := elt_bind ho
     refine SP.indexW (fun w2 hw => slO.whole (St.own 2 rfl see.sub see.dj hw)) Tryz.underlying83 sz127 hx_x400.1 hx_x400.2 rfl rfl rfl rfl (fun p399 h_p399 => ?_)
     refine SP.fieldO h_p399 Tryz.underlying127 rfl sz38 rfl rfl rfl (fun p401 h_p401 => ?_)
     refine SP.freezeS see 0 rfl ?_
     refine SP.have (fun w2 hw => slR.shape (St.pers 0 rfl see.sub see.dj hw)) (fun hs_v397 => ?_)
     refine SP.storeO (z0 := ({ x400 with Kinds := ([] : List Int) ++ t338.1 } : capstanref10_Row)) (off := 1) (vs := [v397]) see 1 rfl hx_x400.2 h_p401 (one_cells hs_v397) (one_cons hs_v397 (rfl)) sz38 rfl (fun a cs ap r => by obtain ⟨v0_, e, p0_⟩ := r; subst e; exact ⟨v397, rfl, ap.get 0 rfl⟩) rfl rfl rfl ?_
     refine go ?_
     obtain rfl := Option.some.inj ho
     exact QE.lower m375 (by omega) fun a w2 ha hw => ⟨((l372.set x377.toNat ({ x392 with Reached := true } : capstanref10_Row)).set x377.toNat ({ x400 with Kinds := ([] : List Int) ++ t338.1 } : capstanref10_Row)), (IntKind.i64.wrap (x374 + 1)), v373, (by omega), hr, ha.sub sb, (St.selP [1, 2, 3, 4, 5, 6, 7] rfl hw)⟩
    refine SP.cb 117 hg_t389 (fun hq382 ho => ?_) fun hq382 ho => ?_
    ·refine go ?_
     obtain ⟨x384, hx_x384, ho⟩ := elt_bind ho
     refine SP.indexW (fun w2 hw => slO.whole (St.own 1 rfl see.sub see.dj hw)) Tryz.underlying83 sz127 hx_x384.1 hx_x384.2 rfl rfl rfl rfl (fun p383 h_p383 => ?_)
     refine SP.fieldO h_p383 Tryz.underlying127 rfl sz38 rfl rfl rfl (fun p385 h_p385 => ?_)
     refine SP.loadOS (j := x377) see 1 1 rfl hx_x384.2 h_p385 (fun _ _ ⟨v0_, e, p0_⟩ => ⟨v0_, by subst e; rfl, p0_⟩) Tryz.underlying38 rfl rfl rfl (fun v386 => ?_)
     refine go ?_
     obtain ⟨t388, hc, ho⟩ := bind_some ho
     refine SP.callV see (caps := []) (.bool t388) fn65 rfl rfl rfl rfl (fun w2 hP hs sub ap => capstanref07_SameKinds.ok _ _ _ _ _ hc w2 hP sub (ap.get 0 rfl) (ap.get 1 rfl)) ?_
     clear hc
     refine go ?_
     obtain rfl := Option.some.inj ho
     exact QE.jn fun w2 hw => (St.selP [1, 2, 3, 4, 5, 6, 7] rfl hw)
    refine go ?_
    obtain rfl := Option.some.inj ho
    exact QE.jn fun w2 hw => hw
   refine go ?_
   exact QE.meet fun a w2 ha hw => ⟨l372, v373, m375, _, (by omega), ho, hr, ha.sub sb, (St.selP [1, 2, 3, 4, 5, 6] rfl (St.selO [1, 2, 3] rfl rfl hw))⟩
  refine go ?_
  obtain rfl := fin ho hr
  exact QE.rt (fun _ h => St.selO [0] rfl rfl h)
 refine SP.bb 20 (fun hq7 => ?_) fun hq7 => ?_
 ·refine go ?_
  exact QE.jb (or_t hq7) fun w2 hw => hw
 refine go ?_
 exact QE.jb (or_f hq7 rfl) fun w2 hw => hw
inductive capstanref09_Times.S where
  | start
  | l1 (t2 : (List capstanref09_Loop) × Int) (l47 : List Int) (x49 : Int)
  | l2 (t2 : (List capstanref09_Loop) × Int) (l47 : List Int) (x49 : Int) (x67 : Int) (x68 : Int)
def capstanref09_Times.j1 (l_0 : (List api_Instr)) (t2 : (List capstanref09_Loop) × Int) (l47 : List Int) (x49 : Int) (x68 : Int) (x79 : Int) : Option (capstanref09_Times.S ⊕ ((List Int) × Int)) :=
  some (.inl (.l2 t2 l47 x49 x79 (IntKind.i64.wrap (x68 + 1))))
def capstanref09_Times.F (l_0 : (List api_Instr)) : capstanref09_Times.S → Option (capstanref09_Times.S ⊕ ((List Int) × Int))
  | .start => (capstanref09_Loops.f l_0).bind fun t2 => if t2.2 ≠ 0 then (some (.inr ([], t2.2))) else (some (.inl (.l1 t2 [] 0)))
  | .l1 t2 l47 x49 => if x49 < (l_0.length : Int) then (some (.inl (.l2 t2 l47 x49 1 0))) else (some (.inr (l47, 0)))
  | .l2 t2 l47 x49 x67 x68 => if x68 < (t2.1.length : Int) then ((elt t2.1 x68).bind fun x72 => (capstanref09_within.f x72 x49).bind fun t73 => if t73 = true then ((elt t2.1 x68).bind fun x76 => capstanref09_Times.j1 l_0 t2 l47 x49 x68 (IntKind.i64.wrap (x67 * x76.Turns))) else (capstanref09_Times.j1 l_0 t2 l47 x49 x68 x67)) else (if (l47.length + [x67].length) * 8 ≤ 140737488355328 then (some (.inl (.l1 t2 (l47 ++ [x67]) (IntKind.i64.wrap (x49 + 1))))) else none)
def capstanref09_Times.f (l_0 : (List api_Instr)) : Option ((List Int) × Int) := runF (capstanref09_Times.F l_0) .start
theorem capstanref09_Times.ok (l_0 : (List api_Instr)) (v_l_0 : Value) (r : (List Int) × Int) (H : capstanref09_Times.f l_0 = some r) (w : World) (hV : Hp) (sV : Sub hV (hp w)) (h0 : slR k_api_Instr hV v_l_0 l_0) :
    Trip Tryz.prog 66 [v_l_0].toArray em hV w (fun v => HO.ex fun u0 : Value => HO.pand (v = .tuple #[u0, .int .i64 r.2]) (HO.seps [slO (kInt .i64) 3 u0 r.1])) := by
 refine Trip.go 48 Tryz.func66 sV (aS h0 (All.nil _)) fun see => ?_
 obtain ⟨n0, hi⟩ := runF_iff.1 H
 obtain ⟨m0, o, hm0, ho, hr⟩ := iter_some hi
 clear hi
 refine go ?_
 obtain ⟨t2, hc, ho⟩ := bind_some ho
 refine SP.callK see (caps := []) _ fn61 rfl rfl rfl rfl (fun w2 hP hs sub ap => capstanref09_Loops.ok _ _ _ hc w2 hP sub (ap.get 0 rfl)) (SP.k1 fun v3 => ?_)
 refine SP.imp (fun w2 h => St.toP 0 rfl h) ?_
 clear hc
 refine go ?_
 refine CP.seq ?_
 refine go ?_
 refine CP.ci ho (fun ho => ?_) fun ho => ?_
 ·refine go ?_
  obtain rfl := fin ho hr
  exact QE.rt (fun _ h => St.selO [0] rfl rfl (St.addO (slO.nil (kInt .i64) 3) h))
 refine go ?_
 refine CP.seq ?_
 refine go ?_
 obtain rfl := Option.some.inj ho
 refine CP.loop (fun cl1 a w2 => ∃ l47 : List Int, ∃ x49 : Int, ∃ v48 : Value, cl1 ≤ m0 ∧ iter (capstanref09_Times.F l_0) cl1 (.l1 t2 l47 x49) = some r ∧ Env ⟨48, []⟩ [(0, v_l_0), (4, v3), (6, v48), (7, .int .i64 x49)] a ∧ St w em hV [slP k_capstanref09_Loop v3 t2.1, slP k_api_Instr v_l_0 l_0] [slO (kInt .i64) 3 v48 l47] w2) m0 (fun a w2 ha hw => ⟨[], 0, (.slice none 0 0), Nat.le_refl _, hr, ha.sub sb, (St.addO (slO.nil (kInt .i64) 3) hw)⟩) ?_
 clear hr
 rintro cl1 a w2 ⟨l47, x49, v48, hc_l1, hi, ha, hw⟩
 obtain ⟨m50, o, hm_m50, ho, hr⟩ := iter_some hi
 refine CP.app ha hw ?_
 clear ha hw a w2 hi
 refine CP.seq ?_
 refine go ?_
 refine CP.ci ho (fun ho => ?_) fun ho => ?_
 ·refine go ?_
  refine CP.seq ?_
  refine go ?_
  refine CP.seq ?_
  refine go ?_
  obtain rfl := Option.some.inj ho
  refine CP.loop (fun cl2 a w2 => ∃ x67 : Int, ∃ x68 : Int, cl2 ≤ m50 ∧ iter (capstanref09_Times.F l_0) cl2 (.l2 t2 l47 x49 x67 x68) = some r ∧ Env ⟨48, []⟩ [(0, v_l_0), (4, v3), (6, v48), (7, .int .i64 x49), (8, .int .i64 x67), (9, .int .i64 x68)] a ∧ St w em hV [slP k_capstanref09_Loop v3 t2.1, slP k_api_Instr v_l_0 l_0] [slO (kInt .i64) 3 v48 l47] w2) m50 (fun a w2 ha hw => ⟨1, 0, Nat.le_refl _, hr, ha.sub sb, hw⟩) ?_
  clear hr
  rintro cl2 a w2 ⟨x67, x68, hc_l2, hi, ha, hw⟩
  obtain ⟨m69, o, hm_m69, ho, hr⟩ := iter_some hi
  refine CP.app ha hw ?_
  clear ha hw a w2 hi
  refine CP.seq ?_
  refine go ?_
  refine CP.ci ho (fun ho => ?_) fun ho => ?_
  ·refine go ?_
   refine CP.join (fun a w2 => ∃ x79 : Int, ∃ (m80 : Nat) (o : (capstanref09_Times.S ⊕ ((List Int) × Int))), m80 ≤ m69 ∧ capstanref09_Times.j1 l_0 t2 l47 x49 x68 x79 = some o ∧ next (capstanref09_Times.F l_0) m80 o = some r ∧ Env ⟨48, []⟩ [(0, v_l_0), (4, v3), (6, v48), (7, .int .i64 x49), (8, .int .i64 x79), (9, .int .i64 x68)] a ∧ St w em hV [slP k_capstanref09_Loop v3 t2.1, slP k_api_Instr v_l_0 l_0] [slO (kInt .i64) 3 v48 l47] w2) ?_ ?_
   ·rintro a w2 ⟨x79, m80, o, hm_m80, ho, hr, ha, hw⟩
    refine CP.app ha hw ?_
    clear ha hw a w2
    refine go ?_
    obtain rfl := Option.some.inj ho
    exact QE.lower m80 (by omega) fun a w2 ha hw => ⟨x79, (IntKind.i64.wrap (x68 + 1)), (by omega), hr, ha.sub sb, hw⟩
   refine go ?_
   obtain ⟨x72, hx, ho⟩ := elt_bind ho
   refine SP.indexP see 0 rfl Tryz.underlying123 sz159 hx.1 hx.2 rfl rfl rfl rfl (fun p70 => ?_)
   clear hx
   refine k_capstanref09_Loop.load see 0 rfl Tryz.underlying159 rfl sz159 rfl rfl rfl ?_
   refine go ?_
   obtain ⟨t73, hc, ho⟩ := bind_some ho
   refine SP.callV see (caps := []) (.bool t73) fn85 rfl rfl rfl rfl (fun w2 hP hs sub ap => capstanref09_within.ok _ _  _ hc w2 hP sub ) ?_
   clear hc
   refine go ?_
   refine CP.cb ho (fun ho => ?_) fun ho => ?_
   ·refine go ?_
    obtain ⟨x76, hx, ho⟩ := elt_bind ho
    refine SP.indexP see 1 rfl Tryz.underlying123 sz159 hx.1 hx.2 rfl rfl rfl rfl (fun p74 => ?_)
    clear hx
    refine SP.fieldP see 0 rfl Tryz.underlying159 rfl sz3 k_capstanref09_Loop.part_Turns rfl rfl rfl (fun p77 => ?_)
    refine SP.val (Val.loadP1 see 0 rfl (fun _ _ e => e) Tryz.underlying3 rfl rfl) rfl rfl rfl ?_
    refine go ?_
    exact QE.meet fun a w2 ha hw => ⟨(IntKind.i64.wrap (x67 * x76.Turns)), m69, _, (by omega), ho, hr, ha.sub sb, (St.selP [3, 4] rfl hw)⟩
   refine go ?_
   exact QE.meet fun a w2 ha hw => ⟨x67, m69, _, (by omega), ho, hr, ha.sub sb, (St.selP [1, 2] rfl hw)⟩
  refine go ?_
  refine SP.lit (k := (kInt .i64)) (xs := [x67]) (vs := [.int .i64 x67]) (cells := [.int .i64 x67]) Tryz.underlying55 inf3 rfl rfl rfl rfl rfl rfl rfl rfl (fun _ ap => ⟨[.int .i64 x67], _, rfl, rfl, rfl⟩) rfl rfl rfl (fun v81 => ?_)
  refine SP.freezeS see 0 rfl ?_
  obtain ⟨hb, ho⟩ := must_some ho
  refine SP.append see 0 rfl 0 rfl Tryz.underlying55 inf3 rfl rfl hb rfl rfl rfl rfl rfl (fun v83 => ?_)
  clear hb
  refine go ?_
  obtain rfl := Option.some.inj ho
  exact QE.lower m69 (by omega) fun a w2 ha hw => ⟨(l47 ++ [x67]), (IntKind.i64.wrap (x49 + 1)), v83, (by omega), hr, ha.sub sb, (St.selP [1, 2] rfl hw)⟩
 refine go ?_
 obtain rfl := fin ho hr
 exact QE.rt (fun _ h => St.selO [0] rfl rfl h)
inductive capstanref10_Height.S where
  | start
  | l1 (x19 : Int) (x20 : Int)
def capstanref10_Height.j1 (rows_0 : (List capstanref10_Row)) (x20 : Int) (x36 : Int) : Option (capstanref10_Height.S ⊕ Int) :=
  some (.inl (.l1 x36 (IntKind.i64.wrap (x20 + 1))))
def capstanref10_Height.F (rows_0 : (List capstanref10_Row)) : capstanref10_Height.S → Option (capstanref10_Height.S ⊕ Int)
  | .start => some (.inl (.l1 0 0))
  | .l1 x19 x20 => if x20 < (rows_0.length : Int) then ((elt rows_0 x20).bind fun x24 => if (x24.Kinds.length : Int) > x19 then ((elt rows_0 x20).bind fun x31 => capstanref10_Height.j1 rows_0 x20 (x31.Kinds.length : Int)) else (capstanref10_Height.j1 rows_0 x20 x19)) else (some (.inr x19))
def capstanref10_Height.f (rows_0 : (List capstanref10_Row)) : Option Int := runF (capstanref10_Height.F rows_0) .start
theorem capstanref10_Height.ok (rows_0 : (List capstanref10_Row)) (v_rows_0 : Value) (r : Int) (H : capstanref10_Height.f rows_0 = some r) (w : World) (hV : Hp) (sV : Sub hV (hp w)) (h0 : slR k_capstanref10_Row hV v_rows_0 rows_0) :
    Trip Tryz.prog 67 [v_rows_0].toArray em hV w (fun v => HO.pure (v = .int .i64 r)) := by
 refine Trip.go 26 Tryz.func67 sV (aS h0 (All.nil _)) fun see => ?_
 obtain ⟨n0, hi⟩ := runF_iff.1 H
 obtain ⟨m0, o, hm0, ho, hr⟩ := iter_some hi
 clear hi
 refine go ?_
 refine CP.seq ?_
 refine go ?_
 obtain rfl := Option.some.inj ho
 refine CP.loop (fun cl1 a w2 => ∃ x19 : Int, ∃ x20 : Int, cl1 ≤ m0 ∧ iter (capstanref10_Height.F rows_0) cl1 (.l1 x19 x20) = some r ∧ Env ⟨26, []⟩ [(0, v_rows_0), (3, .int .i64 x19), (4, .int .i64 x20)] a ∧ St w em hV [slP k_capstanref10_Row v_rows_0 rows_0] [] w2) m0 (fun a w2 ha hw => ⟨0, 0, Nat.le_refl _, hr, ha.sub sb, hw⟩) ?_
 clear hr
 rintro cl1 a w2 ⟨x19, x20, hc_l1, hi, ha, hw⟩
 obtain ⟨m21, o, hm_m21, ho, hr⟩ := iter_some hi
 refine CP.app ha hw ?_
 clear ha hw a w2 hi
 refine CP.seq ?_
 refine go ?_
 refine CP.ci ho (fun ho => ?_) fun ho => ?_
 ·refine go ?_
  refine CP.join (fun a w2 => ∃ x36 : Int, ∃ (m37 : Nat) (o : (capstanref10_Height.S ⊕ Int)), m37 ≤ m21 ∧ capstanref10_Height.j1 rows_0 x20 x36 = some o ∧ next (capstanref10_Height.F rows_0) m37 o = some r ∧ Env ⟨26, []⟩ [(0, v_rows_0), (3, .int .i64 x36), (4, .int .i64 x20)] a ∧ St w em hV [slP k_capstanref10_Row v_rows_0 rows_0] [] w2) ?_ ?_
  ·rintro a w2 ⟨x36, m37, o, hm_m37, ho, hr, ha, hw⟩
   refine CP.app ha hw ?_
   clear ha hw a w2
   refine go ?_
   obtain rfl := Option.some.inj ho
   exact QE.lower m37 (by omega) fun a w2 ha hw => ⟨x36, (IntKind.i64.wrap (x20 + 1)), (by omega), hr, ha.sub sb, hw⟩
  refine go ?_
  obtain ⟨x24, hx, ho⟩ := elt_bind ho
  refine SP.indexP see 0 rfl Tryz.underlying83 sz127 hx.1 hx.2 rfl rfl rfl rfl (fun p22 => ?_)
  clear hx
  refine SP.fieldP see 0 rfl Tryz.underlying127 rfl sz38 k_capstanref10_Row.part_Kinds rfl rfl rfl (fun p25 => ?_)
  refine SP.loadPS see 0 rfl Tryz.underlying38 rfl rfl rfl (fun v27 => ?_)
  refine go ?_
  refine CP.ci ho (fun ho => ?_) fun ho => ?_
  ·refine go ?_
   obtain ⟨x31, hx, ho⟩ := elt_bind ho
   refine SP.indexP see 3 rfl Tryz.underlying83 sz127 hx.1 hx.2 rfl rfl rfl rfl (fun p29 => ?_)
   clear hx
   refine SP.fieldP see 0 rfl Tryz.underlying127 rfl sz38 k_capstanref10_Row.part_Kinds rfl rfl rfl (fun p32 => ?_)
   refine SP.loadPS see 0 rfl Tryz.underlying38 rfl rfl rfl (fun v34 => ?_)
   refine go ?_
   exact QE.meet fun a w2 ha hw => ⟨(x31.Kinds.length : Int), m21, _, (by omega), ho, hr, ha.sub sb, (St.selP [6] rfl hw)⟩
  refine go ?_
  exact QE.meet fun a w2 ha hw => ⟨x19, m21, _, (by omega), ho, hr, ha.sub sb, (St.selP [3] rfl hw)⟩
 refine go ?_
 obtain rfl := fin ho hr
 exact QE.rt (fun _ h => h)
inductive capstanref12_Of.S where
  | start
  | l1 (x11 : api_Method) (t23 : (List Int) × Int) (l148 : List capstanref10_Row) (x150 : Int) (x151 : Int) (x152 : Int) (x153 : Int)
def capstanref12_Of.j1 (m_0 : api_Module) (k_1 : Int) (known_2 : (List api_Cert)) (x11 : api_Method) (t23 : (List Int) × Int) (l148 : List capstanref10_Row) (x150 : Int) (x206 : Int) (x207 : Int) (x208 : Int) : Option (capstanref12_Of.S ⊕ api_Cert) :=
  some (.inl (.l1 x11 t23 l148 (IntKind.i64.wrap (x150 + 1)) x206 x207 x208))
def capstanref12_Of.j2 (m_0 : api_Module) (k_1 : Int) (known_2 : (List api_Cert)) (x11 : api_Method) (t23 : (List Int) × Int) (l148 : List capstanref10_Row) (x150 : Int) (x151 : Int) (x152 : Int) (x157 : api_Instr) (x162 : Int) (x168 : Int) : Option (capstanref12_Of.S ⊕ api_Cert) :=
  if x157.Op ≠ 30 then (capstanref12_Of.j1 m_0 k_1 known_2 x11 t23 l148 x150 (IntKind.i64.wrap (x151 + x162)) x152 x168) else ((elt known_2 x157.A).bind fun x172 => (elt t23.1 x150).bind fun x177 => (elt t23.1 x150).bind fun x181 => (elt l148 x150).bind fun x185 => (elt m_0.Methods x157.A).bind fun x193 => (elt l148 x150).bind fun x201 => if (x201.Reached && (decide ((IntKind.i64.wrap ((IntKind.i64.wrap ((IntKind.i64.wrap ((IntKind.i64.wrap ((x11.Args.length : Int) + (x11.Locals.length : Int))) + (x185.Kinds.length : Int))) - (x193.Args.length : Int))) + x172.Stack)) > x152))) = true then (capstanref12_Of.j1 m_0 k_1 known_2 x11 t23 l148 x150 (IntKind.i64.wrap ((IntKind.i64.wrap (x151 + x162)) + (IntKind.i64.wrap (x177 * x172.Fuel)))) (IntKind.i64.wrap ((IntKind.i64.wrap ((IntKind.i64.wrap ((IntKind.i64.wrap ((x11.Args.length : Int) + (x11.Locals.length : Int))) + (x185.Kinds.length : Int))) - (x193.Args.length : Int))) + x172.Stack)) (IntKind.i64.wrap (x168 + (IntKind.i64.wrap (x181 * x172.Heap))))) else (capstanref12_Of.j1 m_0 k_1 known_2 x11 t23 l148 x150 (IntKind.i64.wrap ((IntKind.i64.wrap (x151 + x162)) + (IntKind.i64.wrap (x177 * x172.Fuel)))) x152 (IntKind.i64.wrap (x168 + (IntKind.i64.wrap (x181 * x172.Heap))))))
def capstanref12_Of.F (m_0 : api_Module) (k_1 : Int) (known_2 : (List api_Cert)) : capstanref12_Of.S → Option (capstanref12_Of.S ⊕ api_Cert)
  | .start => (elt m_0.Methods k_1).bind fun x11 => (capstanref10_Rows.f m_0 k_1).bind fun t20 => (capstanref09_Times.f x11.Code).bind fun t23 => (capstanref10_Height.f t20.1).bind fun t26 => some (.inl (.l1 x11 t23 t20.1 0 0 (IntKind.i64.wrap ((IntKind.i64.wrap ((x11.Args.length : Int) + (x11.Locals.length : Int))) + t26)) 0))
  | .l1 x11 t23 l148 x150 x151 x152 x153 => if x150 < (x11.Code.length : Int) then ((elt x11.Code x150).bind fun x157 => (elt t23.1 x150).bind fun x162 => if x157.Op = 22 then ((elt t23.1 x150).bind fun x166 => capstanref12_Of.j2 m_0 k_1 known_2 x11 t23 l148 x150 x151 x152 x157 x162 (IntKind.i64.wrap (x153 + (IntKind.i64.wrap (x166 * x157.A))))) else (capstanref12_Of.j2 m_0 k_1 known_2 x11 t23 l148 x150 x151 x152 x157 x162 x153)) else (some (.inr (⟨x151, x152, x153⟩ : api_Cert)))
def capstanref12_Of.f (m_0 : api_Module) (k_1 : Int) (known_2 : (List api_Cert)) : Option api_Cert := runF (capstanref12_Of.F m_0 k_1 known_2) .start
theorem capstanref12_Of.ok (m_0 : api_Module) (k_1 : Int) (known_2 : (List api_Cert)) (v_m_0_Globals v_m_0_Pool : Value) (v_m_0_Methods v_known_2 : Value) (r : api_Cert) (H : capstanref12_Of.f m_0 k_1 known_2 = some r) (w : World) (hV : Hp) (sV : Sub hV (hp w)) (h0 : slR k_api_Value hV v_m_0_Globals m_0.Globals) (h1 : slR k_api_Value hV v_m_0_Pool m_0.Pool) (h2 : slR k_api_Method hV v_m_0_Methods m_0.Methods) (h3 : slR k_api_Cert hV v_known_2 known_2) :
    Trip Tryz.prog 32 [.agg #[v_m_0_Globals, v_m_0_Pool, v_m_0_Methods, .int .i64 m_0.Migrate], .int .i64 k_1, v_known_2].toArray em hV w (fun v => HO.pure (v = .agg #[.int .i64 r.Fuel, .int .i64 r.Stack, .int .i64 r.Heap])) := by
 refine Trip.go 145 Tryz.func32 sV (aS h0 (aS h1 (aS h2 (aS h3 (All.nil _))))) fun see => ?_
 obtain ⟨n0, hi⟩ := runF_iff.1 H
 obtain ⟨m0, o, hm0, ho, hr⟩ := iter_some hi
 clear hi
 refine go ?_
 refine SP.box rfl rfl rfl rfl fun b5 => ?_
 refine SP.alloc (cs := [.int .i64 0, .int .i64 0, .int .i64 0]) inf36 rfl rfl (fun b7 => ?_)
 refine go ?_
 obtain ⟨x11, hx, ho⟩ := elt_bind ho
 refine SP.indexP see 2 rfl Tryz.underlying23 sz41 hx.1 hx.2 rfl rfl rfl rfl (fun p9 => ?_)
 clear hx
 refine k_api_Method.load see 0 rfl Tryz.underlying41 rfl sz41 rfl rfl rfl (fun v12 v14 v16 => ?_)
 refine SP.alloc (cs := [(.slice none 0 0), (.slice none 0 0), .int .u8 0, .bool false, .int .i64 0, .int .i64 0, .int .i64 0, (.slice none 0 0)]) inf41 rfl rfl (fun b18 => ?_)
 refine SP.have (fun w2 hw => slR.shape (St.pers 0 rfl see.sub see.dj hw)) (fun hs_v12 => ?_)
 refine SP.have (fun w2 hw => slR.shape (St.pers 1 rfl see.sub see.dj hw)) (fun hs_v14 => ?_)
 refine SP.have (fun w2 hw => slR.shape (St.pers 2 rfl see.sub see.dj hw)) (fun hs_v16 => ?_)
 refine SP.store (v := .agg #[v12, v14, .int .u8 x11.Result, .bool x11.Reads, .int .i64 x11.Fuel, .int .i64 x11.Stack, .int .i64 x11.Heap, v16]) (vs := [v12, v14, .int .u8 x11.Result, .bool x11.Reads, .int .i64 x11.Fuel, .int .i64 x11.Stack, .int .i64 x11.Heap, v16]) 0 (by rfl) sz41 (by rfl) (by rfl) (by rfl) (by rfl) (one_cons hs_v12 (one_cons hs_v14 (one_cons rfl (one_cons rfl (one_cons rfl (one_cons rfl (one_cons rfl (one_cons hs_v16 (rfl))))))))) (by rfl) ?_
 refine go ?_
 refine SP.val (Val.loadA 2 rfl Tryz.underlying25 rfl sz25 rfl rfl rfl) rfl rfl rfl ?_
 refine go ?_
 obtain ⟨t20, hc, ho⟩ := bind_some ho
 refine SP.callK see (caps := []) _ fn31 rfl rfl rfl rfl (fun w2 hP hs sub ap => capstanref10_Rows.ok _ _ _ _ _ _ hc w2 hP sub (ap.get 4 rfl) (ap.get 5 rfl) (ap.get 6 rfl)) (SP.k1 fun v21 => ?_)
 clear hc
 refine go ?_
 obtain ⟨t23, hc, ho⟩ := bind_some ho
 refine SP.callK see (caps := []) _ fn66 rfl rfl rfl rfl (fun w2 hP hs sub ap => capstanref09_Times.ok _ _ _ hc w2 hP sub (ap.get 2 rfl)) (SP.k1 fun v24 => ?_)
 clear hc
 refine go ?_
 obtain ⟨t26, hc, ho⟩ := bind_some ho
 refine SP.callVO see (caps := []) (.int .i64 t26) fn67 rfl rfl rfl rfl (fun w2 hs => capstanref10_Height.ok _ _ _ hc w2 (hp w2) (Sub.refl _) (slO.read (St.own 1 rfl see.sub see.dj hs) (Sub.refl _) (Sub.refl _))) ?_
 clear hc
 refine go ?_
 refine SP.val (Val.buildC (us := [(1, .int .i64 (IntKind.i64.wrap ((IntKind.i64.wrap ((x11.Args.length : Int) + (x11.Locals.length : Int))) + t26)))]) (ucs := [(1, [.int .i64 (IntKind.i64.wrap ((IntKind.i64.wrap ((x11.Args.length : Int) + (x11.Locals.length : Int))) + t26))])]) (cs := [.int .i64 0, .int .i64 (IntKind.i64.wrap ((IntKind.i64.wrap ((x11.Args.length : Int) + (x11.Locals.length : Int))) + t26)), .int .i64 0]) bt36 rfl rfl ⟨rfl, rfl, trivial⟩ (by rfl)) rfl rfl rfl ?_
 refine SP.alloc (cs := [.int .i64 0, .int .i64 0, .int .i64 0]) inf36 rfl rfl (fun b27 => ?_)
 refine SP.store (v := .agg #[.int .i64 0, .int .i64 (IntKind.i64.wrap ((IntKind.i64.wrap ((x11.Args.length : Int) + (x11.Locals.length : Int))) + t26)), .int .i64 0]) (vs := [.int .i64 0, .int .i64 (IntKind.i64.wrap ((IntKind.i64.wrap ((x11.Args.length : Int) + (x11.Locals.length : Int))) + t26)), .int .i64 0]) 0 (by rfl) sz36 (by rfl) (by rfl) (by rfl) (by rfl) (by rfl) (by rfl) ?_
 refine go ?_
 refine CP.seq ?_
 refine go ?_
 refine CP.freezeS see 1 rfl ?_
 obtain rfl := Option.some.inj ho
 refine CP.loop (fun cl1 a w2 => ∃ l148 : List capstanref10_Row, ∃ x150 : Int, ∃ x151 : Int, ∃ x152 : Int, ∃ x153 : Int, ∃ v149 : Value, cl1 ≤ m0 ∧ iter (capstanref12_Of.F m_0 k_1 known_2) cl1 (.l1 x11 t23 l148 x150 x151 x152 x153) = some r ∧ Env ⟨145, []⟩ [(2, v_known_2), (3, .pointer (some ⟨b5, 0, none⟩)), (6, .pointer (some ⟨b7, 0, none⟩)), (7, .pointer (some ⟨b18, 0, none⟩)), (8, v149), (10, v24), (12, .int .i64 (IntKind.i64.wrap ((x11.Args.length : Int) + (x11.Locals.length : Int)))), (13, .pointer (some ⟨b27, 0, none⟩)), (14, .int .i64 x150)] a ∧ St w em hV [slP k_capstanref10_Row v149 l148, slP (kInt .i64) v24 t23.1, slP (kInt .u8) v12 x11.Args, slP (kInt .u8) v14 x11.Locals, slP k_api_Instr v16 x11.Code, slP k_api_Value v_m_0_Globals m_0.Globals, slP k_api_Value v_m_0_Pool m_0.Pool, slP k_api_Method v_m_0_Methods m_0.Methods, slP k_api_Cert v_known_2 known_2] [boxO b27 [.int .i64 x151, .int .i64 x152, .int .i64 x153] 36, boxO b18 [v12, v14, .int .u8 x11.Result, .bool x11.Reads, .int .i64 x11.Fuel, .int .i64 x11.Stack, .int .i64 x11.Heap, v16] 41, boxO b7 [.int .i64 0, .int .i64 0, .int .i64 0] 36, boxO b5 [v_m_0_Globals, v_m_0_Pool, v_m_0_Methods, .int .i64 m_0.Migrate] 25] w2) m0 (fun a w2 ha hw => ⟨t20.1, 0, 0, (IntKind.i64.wrap ((IntKind.i64.wrap ((x11.Args.length : Int) + (x11.Locals.length : Int))) + t26)), 0, v21, Nat.le_refl _, hr, ha.sub sb, (St.selP [0, 1, 2, 3, 4, 6, 7, 8, 9] rfl (St.freezeS hw 1 rfl see))⟩) ?_
 clear hr
 rintro cl1 a w2 ⟨l148, x150, x151, x152, x153, v149, hc_l1, hi, ha, hw⟩
 obtain ⟨m154, o, hm_m154, ho, hr⟩ := iter_some hi
 refine CP.app ha hw ?_
 clear ha hw a w2 hi
 refine CP.seq ?_
 refine go ?_
 refine CP.ci ho (fun ho => ?_) fun ho => ?_
 ·refine go ?_
  refine CP.join (fun a w2 => ∃ x206 : Int, ∃ x207 : Int, ∃ x208 : Int, ∃ (m209 : Nat) (o : (capstanref12_Of.S ⊕ api_Cert)), m209 ≤ m154 ∧ capstanref12_Of.j1 m_0 k_1 known_2 x11 t23 l148 x150 x206 x207 x208 = some o ∧ next (capstanref12_Of.F m_0 k_1 known_2) m209 o = some r ∧ Env ⟨145, []⟩ [(2, v_known_2), (3, .pointer (some ⟨b5, 0, none⟩)), (6, .pointer (some ⟨b7, 0, none⟩)), (7, .pointer (some ⟨b18, 0, none⟩)), (8, v149), (10, v24), (12, .int .i64 (IntKind.i64.wrap ((x11.Args.length : Int) + (x11.Locals.length : Int)))), (13, .pointer (some ⟨b27, 0, none⟩)), (14, .int .i64 x150)] a ∧ St w em hV [slP k_capstanref10_Row v149 l148, slP (kInt .i64) v24 t23.1, slP (kInt .u8) v12 x11.Args, slP (kInt .u8) v14 x11.Locals, slP k_api_Instr v16 x11.Code, slP k_api_Value v_m_0_Globals m_0.Globals, slP k_api_Value v_m_0_Pool m_0.Pool, slP k_api_Method v_m_0_Methods m_0.Methods, slP k_api_Cert v_known_2 known_2] [boxO b27 [.int .i64 x206, .int .i64 x207, .int .i64 x208] 36, boxO b18 [v12, v14, .int .u8 x11.Result, .bool x11.Reads, .int .i64 x11.Fuel, .int .i64 x11.Stack, .int .i64 x11.Heap, v16] 41, boxO b7 [.int .i64 0, .int .i64 0, .int .i64 0] 36, boxO b5 [v_m_0_Globals, v_m_0_Pool, v_m_0_Methods, .int .i64 m_0.Migrate] 25] w2) ?_ ?_
  ·rintro a w2 ⟨x206, x207, x208, m209, o, hm_m209, ho, hr, ha, hw⟩
   refine CP.app ha hw ?_
   clear ha hw a w2
   refine go ?_
   obtain rfl := Option.some.inj ho
   exact QE.lower m209 (by omega) fun a w2 ha hw => ⟨l148, (IntKind.i64.wrap (x150 + 1)), x206, x207, x208, v149, (by omega), hr, ha.sub sb, hw⟩
  refine go ?_
  obtain ⟨x157, hx, ho⟩ := elt_bind ho
  refine SP.indexP see 4 rfl Tryz.underlying39 sz71 hx.1 hx.2 rfl rfl rfl rfl (fun p155 => ?_)
  clear hx
  refine k_api_Instr.load see 0 rfl Tryz.underlying71 rfl sz71 rfl rfl rfl ?_
  refine SP.alloc (cs := [.int .u8 0, .int .i64 0, .int .i64 0]) inf71 rfl rfl (fun b158 => ?_)
  refine SP.store (v := .agg #[.int .u8 x157.Op, .int .i64 x157.A, .int .i64 x157.B]) (vs := [.int .u8 x157.Op, .int .i64 x157.A, .int .i64 x157.B]) 0 (by rfl) sz71 (by rfl) (by rfl) (by rfl) (by rfl) (by rfl) (by rfl) ?_
  refine go ?_
  refine CP.seq ?_
  refine CP.drawA (by kernel_rfl) (fun w2 k h => h.drawn k) ?_
  obtain ⟨x162, hx, ho⟩ := elt_bind ho
  refine DA.ghost (fun w2 h => h.elem see 2 rfl hx.1 hx.2) (fun p160 h_p160 => ?_)
  clear hx
  refine DA.ghost (fun w2 h => h.openE see 0 rfl (fun _ : Unit => [.int .i64 x162]) (fun _ => []) (fun h cs e => ⟨(), e, All.nil _⟩)) (fun _ _ => ?_)
  refine DA.ph 0 6 ?_
  refine DT.tk 0 ?_
  refine DT.tk 1 ?_
  refine DT.tk 2 ?_
  refine DT.tk 3 ?_
  refine DT.tv 4 rfl (Val.indexE h_p160 Tryz.underlying55 sz3 rfl rfl) ?_
  refine DT.tv 5 rfl (Val.loadAt1 see 0 rfl Tryz.underlying3 rfl rfl) ?_
  refine DT.next (by kernel_rfl) ?_
  refine DA.one 6 rfl (by kernel_rfl) ?_
  refine go ?_
  refine QE.atA ?_
  refine DA.one 7 rfl (by kernel_rfl) ?_
  refine go ?_
  refine QE.atA ?_
  refine DA.one 8 rfl (by kernel_rfl) ?_
  refine SP.store (v := .int .i64 (IntKind.i64.wrap (x151 + x162))) (vs := [.int .i64 (IntKind.i64.wrap (x151 + x162))]) 1 (by rfl) sz3 (by rfl) (by rfl) (by rfl) (by rfl) (by rfl) (by rfl) ?_
  refine go ?_
  refine QE.atA ?_
  refine DA.done (by kernel_rfl) ?_
  refine go ?_
  refine CP.join (fun a w2 => ∃ x168 : Int, ∃ (m169 : Nat) (o : (capstanref12_Of.S ⊕ api_Cert)), m169 ≤ m154 ∧ capstanref12_Of.j2 m_0 k_1 known_2 x11 t23 l148 x150 x151 x152 x157 x162 x168 = some o ∧ next (capstanref12_Of.F m_0 k_1 known_2) m169 o = some r ∧ Env ⟨145, []⟩ [(2, v_known_2), (3, .pointer (some ⟨b5, 0, none⟩)), (6, .pointer (some ⟨b7, 0, none⟩)), (7, .pointer (some ⟨b18, 0, none⟩)), (8, v149), (10, v24), (12, .int .i64 (IntKind.i64.wrap ((x11.Args.length : Int) + (x11.Locals.length : Int)))), (13, .pointer (some ⟨b27, 0, none⟩)), (14, .int .i64 x150), (15, .pointer (some ⟨b158, 0, none⟩))] a ∧ St w em hV [slP k_capstanref10_Row v149 l148, slP (kInt .i64) v24 t23.1, slP (kInt .u8) v12 x11.Args, slP (kInt .u8) v14 x11.Locals, slP k_api_Instr v16 x11.Code, slP k_api_Value v_m_0_Globals m_0.Globals, slP k_api_Value v_m_0_Pool m_0.Pool, slP k_api_Method v_m_0_Methods m_0.Methods, slP k_api_Cert v_known_2 known_2] [boxO b158 [.int .u8 x157.Op, .int .i64 x157.A, .int .i64 x157.B] 71, boxO b27 [.int .i64 (IntKind.i64.wrap (x151 + x162)), .int .i64 x152, .int .i64 x168] 36, boxO b18 [v12, v14, .int .u8 x11.Result, .bool x11.Reads, .int .i64 x11.Fuel, .int .i64 x11.Stack, .int .i64 x11.Heap, v16] 41, boxO b7 [.int .i64 0, .int .i64 0, .int .i64 0] 36, boxO b5 [v_m_0_Globals, v_m_0_Pool, v_m_0_Methods, .int .i64 m_0.Migrate] 25] w2) ?_ ?_
  ·rintro a w2 ⟨x168, m169, o, hm_m169, ho, hr, ha, hw⟩
   refine CP.app ha hw ?_
   clear ha hw a w2
   refine CP.seq ?_
   refine go ?_
   refine CP.ci ho (fun ho => ?_) fun ho => ?_
   ·refine go ?_
    exact QE.meet fun a w2 ha hw => ⟨(IntKind.i64.wrap (x151 + x162)), x152, x168, m169, _, (by omega), ho, hr, ha.sub sb, (St.selO [1, 2, 3, 4] rfl rfl hw)⟩
   refine go ?_
   obtain ⟨x172, hx, ho⟩ := elt_bind ho
   refine SP.indexP see 8 rfl Tryz.underlying29 sz36 hx.1 hx.2 rfl rfl rfl rfl (fun p170 => ?_)
   clear hx
   refine k_api_Cert.load see 0 rfl Tryz.underlying36 rfl sz36 rfl rfl rfl ?_
   refine SP.alloc (cs := [.int .i64 0, .int .i64 0, .int .i64 0]) inf36 rfl rfl (fun b173 => ?_)
   refine SP.store (v := .agg #[.int .i64 x172.Fuel, .int .i64 x172.Stack, .int .i64 x172.Heap]) (vs := [.int .i64 x172.Fuel, .int .i64 x172.Stack, .int .i64 x172.Heap]) 0 (by rfl) sz36 (by rfl) (by rfl) (by rfl) (by rfl) (by rfl) (by rfl) ?_
   refine go ?_
   refine CP.seq ?_
   refine CP.drawA (by kernel_rfl) (fun w2 k h => h.drawn k) ?_
   obtain ⟨x177, hx, ho⟩ := elt_bind ho
   refine DA.ghost (fun w2 h => h.elem see 2 rfl hx.1 hx.2) (fun p175 h_p175 => ?_)
   clear hx
   refine DA.ghost (fun w2 h => h.openE see 0 rfl (fun _ : Unit => [.int .i64 x177]) (fun _ => []) (fun h cs e => ⟨(), e, All.nil _⟩)) (fun _ _ => ?_)
   refine DA.ph 0 9 ?_
   refine DT.tk 0 ?_
   refine DT.tk 1 ?_
   refine DT.tk 2 ?_
   refine DT.tk 3 ?_
   refine DT.tv 4 rfl (Val.indexE h_p175 Tryz.underlying55 sz3 rfl rfl) ?_
   refine DT.tv 5 rfl (Val.loadAt1 see 0 rfl Tryz.underlying3 rfl rfl) ?_
   refine DT.tk 6 ?_
   refine DT.tk 7 ?_
   refine DT.tk 8 ?_
   refine DT.next (by kernel_rfl) ?_
   refine DA.one 9 rfl (by kernel_rfl) ?_
   refine go ?_
   refine QE.atA ?_
   refine DA.one 10 rfl (by kernel_rfl) ?_
   refine go ?_
   refine QE.atA ?_
   refine DA.one 11 rfl (by kernel_rfl) ?_
   refine SP.store (v := .int .i64 (IntKind.i64.wrap ((IntKind.i64.wrap (x151 + x162)) + (IntKind.i64.wrap (x177 * x172.Fuel))))) (vs := [.int .i64 (IntKind.i64.wrap ((IntKind.i64.wrap (x151 + x162)) + (IntKind.i64.wrap (x177 * x172.Fuel))))]) 2 (by rfl) sz3 (by rfl) (by rfl) (by rfl) (by rfl) (by rfl) (by rfl) ?_
   refine go ?_
   refine QE.atA ?_
   refine DA.done (by kernel_rfl) ?_
   refine go ?_
   refine CP.seq ?_
   refine CP.drawA (by kernel_rfl) (fun w2 k h => h.drawn k) ?_
   obtain ⟨x181, hx, ho⟩ := elt_bind ho
   refine DA.ghost (fun w2 h => h.elem see 4 rfl hx.1 hx.2) (fun p179 h_p179 => ?_)
   clear hx
   refine DA.ghost (fun w2 h => h.openE see 0 rfl (fun _ : Unit => [.int .i64 x181]) (fun _ => []) (fun h cs e => ⟨(), e, All.nil _⟩)) (fun _ _ => ?_)
   refine DA.ph 0 9 ?_
   refine DT.tk 0 ?_
   refine DT.tk 1 ?_
   refine DT.tk 2 ?_
   refine DT.tk 3 ?_
   refine DT.tv 4 rfl (Val.indexE h_p179 Tryz.underlying55 sz3 rfl rfl) ?_
   refine DT.tv 5 rfl (Val.loadAt1 see 0 rfl Tryz.underlying3 rfl rfl) ?_
   refine DT.tk 6 ?_
   refine DT.tk 7 ?_
   refine DT.tk 8 ?_
   refine DT.next (by kernel_rfl) ?_
   refine DA.one 9 rfl (by kernel_rfl) ?_
   refine go ?_
   refine QE.atA ?_
   refine DA.one 10 rfl (by kernel_rfl) ?_
   refine go ?_
   refine QE.atA ?_
   refine DA.one 11 rfl (by kernel_rfl) ?_
   refine SP.store (v := .int .i64 (IntKind.i64.wrap (x168 + (IntKind.i64.wrap (x181 * x172.Heap))))) (vs := [.int .i64 (IntKind.i64.wrap (x168 + (IntKind.i64.wrap (x181 * x172.Heap))))]) 2 (by rfl) sz3 (by rfl) (by rfl) (by rfl) (by rfl) (by rfl) (by rfl) ?_
   refine go ?_
   refine QE.atA ?_
   refine DA.done (by kernel_rfl) ?_
   refine go ?_
   refine CP.seq ?_
   refine CP.drawA (by kernel_rfl) (fun w2 k h => h.drawn k) ?_
   obtain ⟨x185, hx, ho⟩ := elt_bind ho
   refine DA.ghost (fun w2 h => h.elem see 5 rfl hx.1 hx.2) (fun p183 h_p183 => ?_)
   clear hx
   refine DA.ghost (fun w2 h => h.fieldE see 0 rfl k_capstanref10_Row.part_Kinds) (fun p186 h_p186 => ?_)
   refine DA.ghost (fun w2 h => h.openE see 0 rfl (fun (v188 : Value) => [v188]) (fun (v188 : Value) => [slP (kInt .u8) v188 x185.Kinds]) (fun h cs ⟨v188, e, p0⟩ => ⟨v188, e, All.cons p0 (All.nil _)⟩)) (fun z_ _ => ?_)
   rename Value => v188
   obtain ⟨x193, hx, ho⟩ := elt_bind ho
   refine DA.ghost (fun w2 h => h.elem see 16 rfl hx.1 hx.2) (fun p191 h_p191 => ?_)
   clear hx
   refine DA.ghost (fun w2 h => h.fieldE see 0 rfl k_api_Method.part_Args) (fun p194 h_p194 => ?_)
   refine DA.ghost (fun w2 h => h.openE see 0 rfl (fun (v196 : Value) => [v196]) (fun (v196 : Value) => [slP (kInt .u8) v196 x193.Args]) (fun h cs ⟨v196, e, p0⟩ => ⟨v196, e, All.cons p0 (All.nil _)⟩)) (fun z_ _ => ?_)
   rename Value => v196
   refine DA.ph 0 19 ?_
   refine DT.tk 0 ?_
   refine DT.tk 1 ?_
   refine DT.tk 2 ?_
   refine DT.tv 3 rfl (Val.indexE h_p183 Tryz.underlying83 sz127 rfl rfl) ?_
   refine DT.tv 4 rfl (Val.fieldE h_p186 Tryz.underlying127 rfl rfl sz38 rfl) ?_
   refine DT.tv 5 rfl (Val.loadAt1 see 4 rfl Tryz.underlying38 rfl rfl) ?_
   refine DT.tk 6 ?_
   refine DT.tk 7 ?_
   refine DT.tk 8 ?_
   refine DT.tk 9 ?_
   refine DT.tk 10 ?_
   refine DT.tk 11 ?_
   refine DT.tv 12 rfl (Val.indexE h_p191 Tryz.underlying23 sz41 rfl rfl) ?_
   refine DT.tv 13 rfl (Val.fieldE h_p194 Tryz.underlying41 rfl rfl sz38 rfl) ?_
   refine DT.tv 14 rfl (Val.loadAt1 see 0 rfl Tryz.underlying38 rfl rfl) ?_
   refine DT.tk 15 ?_
   refine DT.tk 16 ?_
   refine DT.tk 17 ?_
   refine DT.tk 18 ?_
   refine DT.next (by kernel_rfl) ?_
   refine DA.one 19 rfl (by kernel_rfl) ?_
   refine go ?_
   refine QE.atA ?_
   refine DA.one 20 rfl (by kernel_rfl) ?_
   refine go ?_
   refine QE.atA ?_
   refine DA.done (by kernel_rfl) ?_
   refine go ?_
   obtain ⟨x201, hx, ho⟩ := elt_bind ho
   refine SP.indexP see 13 rfl Tryz.underlying83 sz127 hx.1 hx.2 rfl rfl rfl rfl (fun p199 => ?_)
   clear hx
   refine SP.fieldP see 0 rfl Tryz.underlying127 rfl sz4 k_capstanref10_Row.part_Reached rfl rfl rfl (fun p202 => ?_)
   refine SP.val (Val.loadP1 see 0 rfl (fun _ _ e => e) Tryz.underlying4 rfl rfl) rfl rfl rfl ?_
   refine go ?_
   refine SP.jn 5 [2, 3, 6, 7, 8, 10, 12, 13, 14, 17] 141 (.bool (x201.Reached && (decide ((IntKind.i64.wrap ((IntKind.i64.wrap ((IntKind.i64.wrap ((IntKind.i64.wrap ((x11.Args.length : Int) + (x11.Locals.length : Int))) + (x185.Kinds.length : Int))) - (x193.Args.length : Int))) + x172.Stack)) > x152)))) ?_ ?_
   ·refine go ?_
    refine CP.cb ho (fun ho => ?_) fun ho => ?_
    ·refine go ?_
     refine SP.store (v := .int .i64 (IntKind.i64.wrap ((IntKind.i64.wrap ((IntKind.i64.wrap ((IntKind.i64.wrap ((x11.Args.length : Int) + (x11.Locals.length : Int))) + (x185.Kinds.length : Int))) - (x193.Args.length : Int))) + x172.Stack))) (vs := [.int .i64 (IntKind.i64.wrap ((IntKind.i64.wrap ((IntKind.i64.wrap ((IntKind.i64.wrap ((x11.Args.length : Int) + (x11.Locals.length : Int))) + (x185.Kinds.length : Int))) - (x193.Args.length : Int))) + x172.Stack))]) 2 (by rfl) sz3 (by rfl) (by rfl) (by rfl) (by rfl) (by rfl) (by rfl) ?_
     refine go ?_
     exact QE.meet fun a w2 ha hw => ⟨(IntKind.i64.wrap ((IntKind.i64.wrap (x151 + x162)) + (IntKind.i64.wrap (x177 * x172.Fuel)))), (IntKind.i64.wrap ((IntKind.i64.wrap ((IntKind.i64.wrap ((IntKind.i64.wrap ((x11.Args.length : Int) + (x11.Locals.length : Int))) + (x185.Kinds.length : Int))) - (x193.Args.length : Int))) + x172.Stack)), (IntKind.i64.wrap (x168 + (IntKind.i64.wrap (x181 * x172.Heap)))), m169, _, (by omega), ho, hr, ha.sub sb, (St.selP [15, 16, 17, 18, 19, 20, 21, 22, 23] rfl (St.selO [2, 3, 4, 5] rfl rfl hw))⟩
    refine go ?_
    exact QE.meet fun a w2 ha hw => ⟨(IntKind.i64.wrap ((IntKind.i64.wrap (x151 + x162)) + (IntKind.i64.wrap (x177 * x172.Fuel)))), x152, (IntKind.i64.wrap (x168 + (IntKind.i64.wrap (x181 * x172.Heap)))), m169, _, (by omega), ho, hr, ha.sub sb, (St.selP [15, 16, 17, 18, 19, 20, 21, 22, 23] rfl (St.selO [2, 3, 4, 5] rfl rfl hw))⟩
   refine SP.bb 136 (fun hq205 => ?_) fun hq205 => ?_
   ·refine go ?_
    exact QE.jb (and_t hq205 rfl) fun w2 hw => hw
   refine go ?_
   exact QE.jb (and_f hq205) fun w2 hw => hw
  refine go ?_
  refine CP.ci ho (fun ho => ?_) fun ho => ?_
  ·refine CP.drawA (by kernel_rfl) (fun w2 k h => h.drawn k) ?_
   obtain ⟨x166, hx, ho⟩ := elt_bind ho
   refine DA.ghost (fun w2 h => h.elem see 4 rfl hx.1 hx.2) (fun p164 h_p164 => ?_)
   clear hx
   refine DA.ghost (fun w2 h => h.openE see 0 rfl (fun _ : Unit => [.int .i64 x166]) (fun _ => []) (fun h cs e => ⟨(), e, All.nil _⟩)) (fun _ _ => ?_)
   refine DA.ph 0 9 ?_
   refine DT.tk 0 ?_
   refine DT.tk 1 ?_
   refine DT.tk 2 ?_
   refine DT.tk 3 ?_
   refine DT.tv 4 rfl (Val.indexE h_p164 Tryz.underlying55 sz3 rfl rfl) ?_
   refine DT.tv 5 rfl (Val.loadAt1 see 0 rfl Tryz.underlying3 rfl rfl) ?_
   refine DT.tk 6 ?_
   refine DT.tk 7 ?_
   refine DT.tk 8 ?_
   refine DT.next (by kernel_rfl) ?_
   refine DA.one 9 rfl (by kernel_rfl) ?_
   refine go ?_
   refine QE.atA ?_
   refine DA.one 10 rfl (by kernel_rfl) ?_
   refine go ?_
   refine QE.atA ?_
   refine DA.one 11 rfl (by kernel_rfl) ?_
   refine SP.store (v := .int .i64 (IntKind.i64.wrap (x153 + (IntKind.i64.wrap (x166 * x157.A))))) (vs := [.int .i64 (IntKind.i64.wrap (x153 + (IntKind.i64.wrap (x166 * x157.A))))]) 1 (by rfl) sz3 (by rfl) (by rfl) (by rfl) (by rfl) (by rfl) (by rfl) ?_
   refine go ?_
   refine QE.atA ?_
   refine DA.done (by kernel_rfl) ?_
   exact QE.meet fun a w2 ha hw => ⟨(IntKind.i64.wrap (x153 + (IntKind.i64.wrap (x166 * x157.A)))), m154, _, (by omega), ho, hr, ha.sub sb, (St.selP [5, 6, 7, 8, 9, 10, 11, 12, 13] rfl hw)⟩
  refine go ?_
  exact QE.meet fun a w2 ha hw => ⟨x153, m154, _, (by omega), ho, hr, ha.sub sb, (St.selP [3, 4, 5, 6, 7, 8, 9, 10, 11] rfl hw)⟩
 refine go ?_
 refine SP.val (Val.loadA 0 rfl Tryz.underlying36 rfl sz36 rfl rfl rfl) rfl rfl rfl ?_
 refine SP.store (v := .agg #[.int .i64 x151, .int .i64 x152, .int .i64 x153]) (vs := [.int .i64 x151, .int .i64 x152, .int .i64 x153]) 2 (by rfl) sz36 (by rfl) (by rfl) (by rfl) (by rfl) (by rfl) (by rfl) ?_
 refine go ?_
 obtain rfl := fin ho hr
 exact QE.rt (fun _ h => h) (rs := [.cell 6 36]) (vs := [.agg #[.int .i64 x151, .int .i64 x152, .int .i64 x153]]) (hv := ⟨RVs.cellA 2 rfl rfl Tryz.underlying36 rfl sz36, trivial⟩)
def capstanref12_Fits.f (c_0 : api_Cert) (x_1 : api_Method) : Option Bool :=
  if (((decide (c_0.Fuel < 0)) || (decide (c_0.Stack < 0))) || (decide (c_0.Heap < 0))) = true then (some false) else (if (((decide (c_0.Fuel > 1048576)) || (decide (c_0.Stack > 256))) || (decide (c_0.Heap > 1024))) = true then (some false) else (some (((decide (c_0.Fuel ≤ x_1.Fuel)) && (decide (c_0.Stack ≤ x_1.Stack))) && (decide (c_0.Heap ≤ x_1.Heap)))))
theorem capstanref12_Fits.ok (c_0 : api_Cert) (x_1 : api_Method) (v_x_1_Args v_x_1_Locals v_x_1_Code : Value) (r : Bool) (H : capstanref12_Fits.f c_0 x_1 = some r) (w : World) (hV : Hp) (sV : Sub hV (hp w)) (h0 : slR (kInt .u8) hV v_x_1_Args x_1.Args) (h1 : slR (kInt .u8) hV v_x_1_Locals x_1.Locals) (h2 : slR k_api_Instr hV v_x_1_Code x_1.Code) :
    Trip Tryz.prog 33 [.agg #[.int .i64 c_0.Fuel, .int .i64 c_0.Stack, .int .i64 c_0.Heap], .agg #[v_x_1_Args, v_x_1_Locals, .int .u8 x_1.Result, .bool x_1.Reads, .int .i64 x_1.Fuel, .int .i64 x_1.Stack, .int .i64 x_1.Heap, v_x_1_Code]].toArray em hV w (fun v => HO.pure (v = .bool r)) := by
 refine Trip.go 50 Tryz.func33 sV (aS h0 (aS h1 (aS h2 (All.nil _)))) fun see => ?_
 have ho := H
 refine go ?_
 refine SP.box rfl rfl rfl rfl fun b4 => ?_
 refine SP.box rfl rfl rfl rfl fun b6 => ?_
 refine go ?_
 refine CP.seq ?_
 refine go ?_
 refine SP.jn 4 [2, 3] 12 (.bool ((decide (c_0.Fuel < 0)) || (decide (c_0.Stack < 0)))) ?_ ?_
 ·refine go ?_
  refine SP.jn 4 [2, 3] 17 (.bool (((decide (c_0.Fuel < 0)) || (decide (c_0.Stack < 0))) || (decide (c_0.Heap < 0)))) ?_ ?_
  ·refine go ?_
   refine CP.cb ho (fun ho => ?_) fun ho => ?_
   ·refine go ?_
    obtain rfl := Option.some.inj ho
    exact QE.rt (fun _ h => h)
   refine go ?_
   refine CP.seq ?_
   refine go ?_
   refine SP.jn 4 [2, 3] 25 (.bool ((decide (c_0.Fuel > 1048576)) || (decide (c_0.Stack > 256)))) ?_ ?_
   ·refine go ?_
    refine SP.jn 4 [2, 3] 30 (.bool (((decide (c_0.Fuel > 1048576)) || (decide (c_0.Stack > 256))) || (decide (c_0.Heap > 1024)))) ?_ ?_
    ·refine go ?_
     refine CP.cb ho (fun ho => ?_) fun ho => ?_
     ·refine go ?_
      obtain rfl := Option.some.inj ho
      exact QE.rt (fun _ h => h)
     refine go ?_
     refine SP.jn 6 [2, 3] 42 (.bool ((decide (c_0.Fuel ≤ x_1.Fuel)) && (decide (c_0.Stack ≤ x_1.Stack)))) ?_ ?_
     ·refine go ?_
      refine SP.jn 6 [] 49 (.bool (((decide (c_0.Fuel ≤ x_1.Fuel)) && (decide (c_0.Stack ≤ x_1.Stack))) && (decide (c_0.Heap ≤ x_1.Heap)))) ?_ ?_
      ·refine go ?_
       obtain rfl := Option.some.inj ho
       exact QE.rt (fun _ h => h)
      refine SP.bb 43 (fun hq19 => ?_) fun hq19 => ?_
      ·refine go ?_
       exact QE.jb (and_t hq19 rfl) fun w2 hw => hw
      refine go ?_
      exact QE.jb (and_f hq19) fun w2 hw => hw
     refine SP.bb 36 (fun hq17 => ?_) fun hq17 => ?_
     ·refine go ?_
      exact QE.jb (and_t hq17 rfl) fun w2 hw => hw
     refine go ?_
     exact QE.jb (and_f hq17) fun w2 hw => hw
    refine SP.bb 26 (fun hq15 => ?_) fun hq15 => ?_
    ·refine go ?_
     exact QE.jb (or_t hq15) fun w2 hw => hw
    refine go ?_
    exact QE.jb (or_f hq15 rfl) fun w2 hw => hw
   refine SP.bb 21 (fun hq13 => ?_) fun hq13 => ?_
   ·refine go ?_
    exact QE.jb (or_t hq13) fun w2 hw => hw
   refine go ?_
   exact QE.jb (or_f hq13 rfl) fun w2 hw => hw
  refine SP.bb 13 (fun hq11 => ?_) fun hq11 => ?_
  ·refine go ?_
   exact QE.jb (or_t hq11) fun w2 hw => hw
  refine go ?_
  exact QE.jb (or_f hq11 rfl) fun w2 hw => hw
 refine SP.bb 8 (fun hq9 => ?_) fun hq9 => ?_
 ·refine go ?_
  exact QE.jb (or_t hq9) fun w2 hw => hw
 refine go ?_
 exact QE.jb (or_f hq9 rfl) fun w2 hw => hw
inductive capstanref12_Costs.S where
  | start
  | l1 (t6 : (List Int) × Int) (x63 : Int)
  | l2 (t6 : (List Int) × Int) (l91 : List api_Cert) (x93 : Int)
def capstanref12_Costs.F (m_0 : api_Module) : capstanref12_Costs.S → Option (capstanref12_Costs.S ⊕ ((List api_Cert) × Int))
  | .start => (capstanref11_Order.f m_0).bind fun t6 => if t6.2 ≠ 0 then (some (.inr ([], t6.2))) else (some (.inl (.l1 t6 0)))
  | .l1 t6 x63 => if x63 < (m_0.Methods.length : Int) then ((capstanref10_Rows.f m_0 x63).bind fun t65 => if t65.2 ≠ 0 then (some (.inr ([], t65.2))) else (some (.inl (.l1 t6 (IntKind.i64.wrap (x63 + 1)))))) else (if (0 : Int) ≤ (t6.1.length : Int) ∧ (24 : Int) * (t6.1.length : Int) ≤ 281474976710656 ∧ ((t6.1.length : Int) : Int) ≤ 9223372036854775807 then (some (.inl (.l2 t6 (List.replicate ((t6.1.length : Int) : Int).toNat api_Cert.zero : List api_Cert) 0))) else none)
  | .l2 t6 l91 x93 => if x93 < (t6.1.length : Int) then ((elt t6.1 x93).bind fun x96 => (capstanref12_Of.f m_0 x96 l91).bind fun t97 => (elt l91 x96).bind fun x99 => (elt (l91.set x96.toNat t97) x96).bind fun x101 => (elt m_0.Methods x96).bind fun x104 => (capstanref12_Fits.f x101 x104).bind fun t112 => if (!t112) = true then (some (.inr ([], 120))) else (some (.inl (.l2 t6 (l91.set x96.toNat t97) (IntKind.i64.wrap (x93 + 1)))))) else (some (.inr (l91, 0)))
def capstanref12_Costs.f (m_0 : api_Module) : Option ((List api_Cert) × Int) := runF (capstanref12_Costs.F m_0) .start
theorem capstanref12_Costs.ok (m_0 : api_Module) (v_m_0_Globals v_m_0_Pool v_m_0_Methods : Value) (r : (List api_Cert) × Int) (H : capstanref12_Costs.f m_0 = some r) (w : World) (hV : Hp) (sV : Sub hV (hp w)) (h0 : slR k_api_Value hV v_m_0_Globals m_0.Globals) (h1 : slR k_api_Value hV v_m_0_Pool m_0.Pool) (h2 : slR k_api_Method hV v_m_0_Methods m_0.Methods) :
    Trip Tryz.prog 16 [.agg #[v_m_0_Globals, v_m_0_Pool, v_m_0_Methods, .int .i64 m_0.Migrate]].toArray em hV w (fun v => HO.ex fun u0 : Value => HO.pand (v = .tuple #[u0, .int .i64 r.2]) (HO.seps [slO k_api_Cert 36 u0 r.1])) := by
 refine Trip.go 68 Tryz.func16 sV (aS h0 (aS h1 (aS h2 (All.nil _)))) fun see => ?_
 obtain ⟨n0, hi⟩ := runF_iff.1 H
 obtain ⟨m0, o, hm0, ho, hr⟩ := iter_some hi
 clear hi
 refine go ?_
 refine SP.box rfl rfl rfl rfl fun b4 => ?_
 refine go ?_
 refine SP.val (Val.loadA 0 rfl Tryz.underlying25 rfl sz25 rfl rfl rfl) rfl rfl rfl ?_
 obtain ⟨t6, hc, ho⟩ := bind_some ho
 refine SP.callK see (caps := []) _ fn30 rfl rfl rfl rfl (fun w2 hP hs sub ap => capstanref11_Order.ok _ _ _ _ _ hc w2 hP sub (ap.get 0 rfl) (ap.get 1 rfl) (ap.get 2 rfl)) (SP.k1 fun v7 => ?_)
 clear hc
 refine go ?_
 refine CP.seq ?_
 refine go ?_
 refine CP.ci ho (fun ho => ?_) fun ho => ?_
 ·refine go ?_
  obtain rfl := fin ho hr
  exact QE.rt (fun _ h => St.selO [0] rfl rfl (St.addO (slO.nil k_api_Cert 36) h))
 refine go ?_
 refine CP.seq ?_
 refine go ?_
 obtain rfl := Option.some.inj ho
 refine CP.loop (fun cl1 a w2 => ∃ x63 : Int, cl1 ≤ m0 ∧ iter (capstanref12_Costs.F m_0) cl1 (.l1 t6 x63) = some r ∧ Env ⟨68, []⟩ [(1, .pointer (some ⟨b4, 0, none⟩)), (4, v7), (6, .int .i64 x63)] a ∧ St w em hV [slP k_api_Value v_m_0_Globals m_0.Globals, slP k_api_Value v_m_0_Pool m_0.Pool, slP k_api_Method v_m_0_Methods m_0.Methods] [slO (kInt .i64) 3 v7 t6.1, boxO b4 [v_m_0_Globals, v_m_0_Pool, v_m_0_Methods, .int .i64 m_0.Migrate] 25] w2) m0 (fun a w2 ha hw => ⟨0, Nat.le_refl _, hr, ha.sub sb, hw⟩) ?_
 clear hr
 rintro cl1 a w2 ⟨x63, hc_l1, hi, ha, hw⟩
 obtain ⟨m64, o, hm_m64, ho, hr⟩ := iter_some hi
 refine CP.app ha hw ?_
 clear ha hw a w2 hi
 refine CP.seq ?_
 refine go ?_
 refine CP.ci ho (fun ho => ?_) fun ho => ?_
 ·refine go ?_
  refine CP.seq ?_
  refine go ?_
  refine SP.val (Val.loadA 1 rfl Tryz.underlying25 rfl sz25 rfl rfl rfl) rfl rfl rfl ?_
  refine go ?_
  obtain ⟨t65, hc, ho⟩ := bind_some ho
  refine SP.callK see (caps := []) _ fn31 rfl rfl rfl rfl (fun w2 hP hs sub ap => capstanref10_Rows.ok _ _ _ _ _ _ hc w2 hP sub (ap.get 0 rfl) (ap.get 1 rfl) (ap.get 2 rfl)) (SP.k1 fun v66 => ?_)
  clear hc
  refine go ?_
  refine CP.ci ho (fun ho => ?_) fun ho => ?_
  ·refine go ?_
   obtain rfl := fin ho hr
   exact QE.rt (fun _ h => St.selO [0] rfl rfl (St.addO (slO.nil k_api_Cert 36) h))
  refine go ?_
  obtain rfl := Option.some.inj ho
  exact QE.lower m64 (by omega) fun a w2 ha hw => ⟨(IntKind.i64.wrap (x63 + 1)), (by omega), hr, ha.sub sb, (St.selO [1, 2] rfl rfl hw)⟩
 refine go ?_
 refine SP.val (Val.lenW (fun w2 hw => slO.whole (St.own 0 rfl see.sub see.dj hw)) Tryz.underlying55 rfl) rfl rfl rfl ?_
 obtain ⟨hb, ho⟩ := must_some ho
 refine SP.makeS (k := k_api_Cert) (z := api_Cert.zero) Tryz.underlying29 inf36 rfl rfl (fun _ => rfl) rfl rfl rfl rfl hb (fun v69 => ?_)
 clear hb
 refine go ?_
 refine CP.seq ?_
 refine go ?_
 obtain rfl := Option.some.inj ho
 refine CP.loop (fun cl2 a w2 => ∃ l91 : List api_Cert, ∃ x93 : Int, ∃ v92 : Value, cl2 ≤ m64 ∧ iter (capstanref12_Costs.F m_0) cl2 (.l2 t6 l91 x93) = some r ∧ Env ⟨68, []⟩ [(1, .pointer (some ⟨b4, 0, none⟩)), (4, v7), (9, v92), (10, .int .i64 x93)] a ∧ St w em hV [slP k_api_Value v_m_0_Globals m_0.Globals, slP k_api_Value v_m_0_Pool m_0.Pool, slP k_api_Method v_m_0_Methods m_0.Methods] [slO k_api_Cert 36 v92 l91, slO (kInt .i64) 3 v7 t6.1, boxO b4 [v_m_0_Globals, v_m_0_Pool, v_m_0_Methods, .int .i64 m_0.Migrate] 25] w2) m64 (fun a w2 ha hw => ⟨(List.replicate ((t6.1.length : Int) : Int).toNat api_Cert.zero : List api_Cert), 0, v69, Nat.le_refl _, hr, ha.sub sb, hw⟩) ?_
 clear hr
 rintro cl2 a w2 ⟨l91, x93, v92, hc_l2, hi, ha, hw⟩
 obtain ⟨m94, o, hm_m94, ho, hr⟩ := iter_some hi
 refine CP.app ha hw ?_
 clear ha hw a w2 hi
 refine CP.seq ?_
 refine go ?_
 refine SP.val (Val.lenW (fun w2 hw => slO.whole (St.own 1 rfl see.sub see.dj hw)) Tryz.underlying55 rfl) rfl rfl rfl ?_
 refine go ?_
 refine CP.ci ho (fun ho => ?_) fun ho => ?_
 ·refine go ?_
  refine CP.seq ?_
  refine go ?_
  obtain ⟨x96, hx_x96, ho⟩ := elt_bind ho
  refine SP.indexW (fun w2 hw => slO.whole (St.own 1 rfl see.sub see.dj hw)) Tryz.underlying55 sz3 hx_x96.1 hx_x96.2 rfl rfl rfl rfl (fun p95 h_p95 => ?_)
  refine SP.val (Val.loadW1 (off := 0) (k := (kInt .i64)) (fun w2 hw => slO.whole (St.own 1 rfl see.sub see.dj hw)) hx_x96.2 h_p95 (fun _ _ e => by subst e; rfl) Tryz.underlying3 rfl rfl) rfl rfl rfl ?_
  refine go ?_
  refine SP.val (Val.loadA 2 rfl Tryz.underlying25 rfl sz25 rfl rfl rfl) rfl rfl rfl ?_
  refine go ?_
  obtain ⟨t97, hc, ho⟩ := bind_some ho
  refine SP.callVO see (caps := []) (.agg #[.int .i64 t97.Fuel, .int .i64 t97.Stack, .int .i64 t97.Heap]) fn32 rfl rfl rfl rfl (fun w2 hs => capstanref12_Of.ok _ _ _ _ _ _ _ _ hc w2 (hp w2) (Sub.refl _) ((St.pers 0 rfl see.sub see.dj hs)) ((St.pers 1 rfl see.sub see.dj hs)) ((St.pers 2 rfl see.sub see.dj hs)) (slO.read (St.own 0 rfl see.sub see.dj hs) (Sub.refl _) (Sub.refl _))) ?_
  clear hc
  obtain ⟨x99, hx_x99, ho⟩ := elt_bind ho
  refine SP.indexW (fun w2 hw => slO.whole (St.own 0 rfl see.sub see.dj hw)) Tryz.underlying29 sz36 hx_x99.1 hx_x99.2 rfl rfl rfl rfl (fun p98 h_p98 => ?_)
  refine SP.storeO (z0 := t97) (off := 0) (vs := [.int .i64 t97.Fuel, .int .i64 t97.Stack, .int .i64 t97.Heap]) see 0 rfl hx_x99.2 h_p98 rfl rfl sz36 rfl (fun a cs _ e => by subst e; rfl) rfl rfl rfl ?_
  refine go ?_
  refine CP.seq ?_
  refine CP.drawA (by kernel_rfl) (fun w2 k h => h.drawn k) ?_
  obtain ⟨x101, hx_x101, ho⟩ := elt_bind ho
  refine DA.ghost (fun w2 hw => let ⟨z, hz⟩ := ixC ((fun w2 hw => slO.whole (St.own 0 rfl see.sub see.dj hw)) w2 hw) hx_x101.1 hx_x101.2; ⟨z, hz, hw⟩) (fun p100 i_p100 => ?_)
  have h_p100 := i_p100.1
  obtain ⟨x104, hx, ho⟩ := elt_bind ho
  refine DA.ghost (fun w2 h => h.elem see 2 rfl hx.1 hx.2) (fun p102 h_p102 => ?_)
  clear hx
  refine DA.ghost (fun w2 h => h.openE see 0 rfl (fun ((v105, v107, v109) : Value × Value × Value) => [v105, v107, .int .u8 x104.Result, .bool x104.Reads, .int .i64 x104.Fuel, .int .i64 x104.Stack, .int .i64 x104.Heap, v109]) (fun ((v105, v107, v109) : Value × Value × Value) => [slP (kInt .u8) v105 x104.Args, slP (kInt .u8) v107 x104.Locals, slP k_api_Instr v109 x104.Code]) (fun h cs ⟨v105, v107, v109, e, p0, p1, p2⟩ => ⟨(v105, v107, v109), e, All.cons p0 (All.cons p1 (All.cons p2 (All.nil _)))⟩)) (fun z_ _ => ?_)
  obtain ⟨v105, v107, v109⟩ := z_
  refine DA.ph 0 9 ?_
  refine DT.tk 0 ?_
  refine DT.tk 1 ?_
  refine DT.tv 2 rfl (Val.indexC' i_p100 Tryz.underlying29 sz36 rfl rfl) ?_
  refine DT.tv 3 rfl (Val.loadOA see 0 rfl hx_x101.2 h_p100 (fun _ _ e => e) Tryz.underlying36 rfl sz36 rfl) ?_
  refine DT.tk 4 ?_
  refine DT.tk 5 ?_
  refine DT.tk 6 ?_
  refine DT.tv 7 rfl (Val.indexE h_p102 Tryz.underlying23 sz41 rfl rfl) ?_
  refine DT.tv 8 rfl (Val.loadAtA see 0 rfl Tryz.underlying41 rfl sz41 rfl) ?_
  refine DT.next (by kernel_rfl) ?_
  refine DA.one 9 rfl (by kernel_rfl) ?_
  obtain ⟨t112, hc, ho⟩ := bind_some ho
  refine SP.callV see (caps := []) (.bool t112) fn33 rfl rfl rfl rfl (fun w2 hP hs sub ap => capstanref12_Fits.ok _ _ _ _ _ _ hc w2 hP sub (ap.get 1 rfl) (ap.get 2 rfl) (ap.get 3 rfl)) ?_
  clear hc
  refine go ?_
  refine QE.atA ?_
  refine DA.one 10 rfl (by kernel_rfl) ?_
  refine go ?_
  refine QE.atA ?_
  refine DA.done (by kernel_rfl) ?_
  refine go ?_
  refine CP.cb ho (fun ho => ?_) fun ho => ?_
  ·refine go ?_
   obtain rfl := fin ho hr
   exact QE.rt (fun _ h => St.selO [0] rfl rfl (St.addO (slO.nil k_api_Cert 36) h))
  refine go ?_
  obtain rfl := Option.some.inj ho
  exact QE.lower m94 (by omega) fun a w2 ha hw => ⟨(l91.set x96.toNat t97), (IntKind.i64.wrap (x93 + 1)), v92, (by omega), hr, ha.sub sb, (St.selP [5, 6, 7] rfl hw)⟩
 refine go ?_
 obtain rfl := fin ho hr
 exact QE.rt (fun _ h => St.selO [0] rfl rfl h)
def calls_named.f (m_0 : api_Module) (k_1 : Int) : Option Unit :=
  some ()
theorem calls_named.ok (m_0 : api_Module) (k_1 : Int) (v_m_0_Globals v_m_0_Pool v_m_0_Methods : Value) (r : Unit) (H : calls_named.f m_0 k_1 = some r) (w : World) (hV : Hp) (sV : Sub hV (hp w)) (h0 : slR k_api_Value hV v_m_0_Globals m_0.Globals) (h1 : slR k_api_Value hV v_m_0_Pool m_0.Pool) (h2 : slR k_api_Method hV v_m_0_Methods m_0.Methods) :
    Trip Tryz.prog 68 [.agg #[v_m_0_Globals, v_m_0_Pool, v_m_0_Methods, .int .i64 m_0.Migrate], .int .i64 k_1].toArray em hV w (fun v => HO.ex fun b0_ : Nat => HO.ex fun b1_ : Nat => HO.pand (v = .func (.func 91) #[] #[.pointer (some ⟨b0_, 0, none⟩), .pointer (some ⟨b1_, 0, none⟩)]) (HO.seps [HO.ofP (boxP b0_ [v_m_0_Globals, v_m_0_Pool, v_m_0_Methods, .int .i64 m_0.Migrate] 25), HO.ofP (boxP b1_ [.int .i64 k_1] 3)])) := by
 refine Trip.go 6 Tryz.func68 sV (aS h0 (aS h1 (aS h2 (All.nil _)))) fun see => ?_
 have ho := H
 refine go ?_
 refine SP.box rfl rfl rfl rfl fun b4 => ?_
 refine SP.box rfl rfl rfl rfl fun b6 => ?_
 refine go ?_
 refine SP.val (Val.makeFunc (us := []) (vs := [.pointer (some ⟨b4, 0, none⟩), .pointer (some ⟨b6, 0, none⟩)]) rfl rfl) rfl rfl rfl ?_
 refine go ?_
 refine QE.freezeB see 1 rfl ?_
 refine QE.freezeB see 0 rfl ?_
 exact QE.rt (fun _ h => h) (hk := fun a b p s => ⟨_, _, rfl, ⟨em, em, Dj.em_left _, Sub.em _, Sub.em _, p.get 1 rfl, ⟨em, em, Dj.em_left _, Sub.em _, Sub.em _, p.get 0 rfl, trivial⟩⟩⟩)
inductive calls_named_1_s1.S (S_ : Type) where
  | start
  | l1 (x15 : api_Method) (s30 : S_) (x31 : Int)
def calls_named_1_s1.F {S_ : Type} (Y : S_ → Int → Option (S_ × Bool)) (y0 : S_) (c0_1 : List api_Value) (c0_3 : List api_Value) (c0_5 : List api_Method) (c0_7 : Int) (c1_10 : Int) : calls_named_1_s1.S S_ → Option (calls_named_1_s1.S S_ ⊕ S_)
  | .start => (elt c0_5 c1_10).bind fun x15 => some (.inl (.l1 x15 y0 0))
  | .l1 x15 s30 x31 => if x31 < (x15.Code.length : Int) then ((elt x15.Code x31).bind fun x35 => (if x35.Op = 30 then ((Y s30 x35.A).bind fun y40 => some (!y40.2, y40.1)) else (some (false, s30))).bind fun t41 => if t41.1 = true then (some (.inr t41.2)) else (some (.inl (.l1 x15 t41.2 (IntKind.i64.wrap (x31 + 1)))))) else (some (.inr s30))
def calls_named_1_s1.f {S_ : Type} (Y : S_ → Int → Option (S_ × Bool)) (y0 : S_) (c0_1 : List api_Value) (c0_3 : List api_Value) (c0_5 : List api_Method) (c0_7 : Int) (c1_10 : Int) : Option S_ := runF (calls_named_1_s1.F Y y0 c0_1 c0_3 c0_5 c0_7 c1_10) .start
theorem calls_named_1_s1.ok {S_ : Type} (Y : S_ → Int → Option (S_ × Bool)) (y0 : S_) (c0_1 : List api_Value) (c0_3 : List api_Value) (c0_5 : List api_Method) (c0_7 c1_10 : Int) (v_c0_1 v_c0_3 v_c0_5 : Value) (b8 : Nat) (b11 : Nat) (r : S_) (H : calls_named_1_s1.f Y y0 c0_1 c0_3 c0_5 c0_7 c1_10 = some r) (w : World) (hV : Hp) (sV : Sub hV (hp w)) (h0 : slR k_api_Value hV v_c0_1 c0_1) (h1 : slR k_api_Value hV v_c0_3 c0_3) (h2 : slR k_api_Method hV v_c0_5 c0_5) (h3 : (boxP b8 [v_c0_1, v_c0_3, v_c0_5, .int .i64 c0_7] 25).p hV) (h4 : (boxP b11 [.int .i64 c1_10] 3).p hV) (lY : Nat) (I : S_ → HO) (hA : Hp) (sA : Sub hA (hp w)) (dA : Dj hV hA) (hI : (I y0).p hV hA) (hY : Go.Q.Yields Tryz.prog lY hV Y I (E1 (kInt .i64) false)) :
    Trip Tryz.prog 91 [.func (.yield lY) #[] #[], .pointer (some ⟨b8, 0, none⟩), .pointer (some ⟨b11, 0, none⟩)].toArray hA hV w (fun v => HO.pand (v = .tuple #[]) (HO.seps [I r])) := by
 have see : Sees w hA hV := ⟨sV, dA⟩
 refine Trip.of (P := Tryz.prog) (n := ⟨28, []⟩) Tryz.func91 rfl ⟨rfl, rfl⟩ rfl (St.beginA (os := [I y0]) sA (aS h0 (aS h1 (aS h2 (All.cons (x := boxP b8 [v_c0_1, v_c0_3, v_c0_5, .int .i64 c0_7] 25) h3 (All.cons (x := boxP b11 [.int .i64 c1_10] 3) h4 (All.nil _)))))) ⟨hA, em, Dj.em_right _, Sub.refl _, Sub.em _, hI, trivial⟩) ?_
 obtain ⟨n0, hi⟩ := runF_iff.1 H
 obtain ⟨m0, o, hm0, ho, hr⟩ := iter_some hi
 clear hi
 refine CP.seq ?_
 refine CP.region ?_
 refine SP.val (Val.fieldAddr Tryz.underlying25 rfl sz23 rfl) rfl rfl rfl ?_
 refine SP.val (Val.loadB1 see 3 rfl Tryz.underlying23 rfl rfl rfl) rfl rfl rfl ?_
 refine SP.val (Val.loadB1 see 4 rfl Tryz.underlying3 rfl rfl rfl) rfl rfl rfl ?_
 obtain ⟨x15, hx, ho⟩ := elt_bind ho
 refine SP.indexP see 2 rfl Tryz.underlying23 sz41 hx.1 hx.2 rfl rfl rfl rfl (fun p13 => ?_)
 clear hx
 refine SP.fieldP see 0 rfl Tryz.underlying41 rfl sz39 k_api_Method.part_Code rfl rfl rfl (fun p16 => ?_)
 refine SP.loadPS see 0 rfl Tryz.underlying39 rfl rfl rfl (fun v18 => ?_)
 refine go ?_
 obtain rfl := Option.some.inj ho
 refine CP.loop (fun cl1 a w2 => ∃ s30 : S_, ∃ x31 : Int, cl1 ≤ m0 ∧ iter (calls_named_1_s1.F Y y0 c0_1 c0_3 c0_5 c0_7 c1_10) cl1 (.l1 x15 s30 x31) = some r ∧ Env ⟨28, []⟩ [(0, .func (.yield lY) #[] #[]), (11, v18), (12, .int .i64 (x15.Code.length : Int)), (13, .int .i64 x31)] a ∧ St w hA hV [slP k_api_Instr v18 x15.Code] [I s30] w2) m0 (fun a w2 ha hw => ⟨y0, 0, Nat.le_refl _, hr, ha.sub sb, (St.selP [0] rfl hw)⟩) ?_
 clear hr
 rintro cl1 a w2 ⟨s30, x31, hc_l1, hi, ha, hw⟩
 obtain ⟨m32, o, hm_m32, ho, hr⟩ := iter_some hi
 refine CP.app ha hw ?_
 clear ha hw a w2 hi
 refine go ?_
 refine CP.seq ?_
 refine CP.ci ho (fun ho => ?_) fun ho => ?_
 ·refine go ?_
  refine CP.seq ?_
  refine go ?_
  obtain ⟨x35, hx, ho⟩ := elt_bind ho
  refine SP.indexP see 0 rfl Tryz.underlying39 sz71 hx.1 hx.2 rfl rfl rfl rfl (fun p33 => ?_)
  clear hx
  refine k_api_Instr.load see 0 rfl Tryz.underlying71 rfl sz71 rfl rfl rfl ?_
  refine SP.alloc (cs := [.int .u8 0, .int .i64 0, .int .i64 0]) inf71 rfl rfl (fun b36 => ?_)
  refine SP.store (v := .agg #[.int .u8 x35.Op, .int .i64 x35.A, .int .i64 x35.B]) (vs := [.int .u8 x35.Op, .int .i64 x35.A, .int .i64 x35.B]) 0 (by rfl) sz71 (by rfl) (by rfl) (by rfl) (by rfl) (by rfl) (by rfl) ?_
  refine go ?_
  obtain ⟨t41, hg_t41, ho⟩ := bind_some ho
  refine SP.js 6 [0, 11, 12, 13] 26 (.bool t41.1) (fun w2 => St w hA hV [elP k_api_Instr p33 x35, slP k_api_Instr v18 x15.Code] [boxO b36 [.int .u8 x35.Op, .int .i64 x35.A, .int .i64 x35.B] 71, I t41.2] w2) ?_ ?_
  ·clear hg_t41
   refine go ?_
   refine CP.cb ho (fun ho => ?_) fun ho => ?_
   ·refine go ?_
    obtain rfl := fin ho hr
    exact QE.rt (fun _ h => St.selO [1] rfl rfl h)
   refine go ?_
   obtain rfl := Option.some.inj ho
   exact QE.lower m32 (by omega) fun a w2 ha hw => ⟨t41.2, (IntKind.i64.wrap (x31 + 1)), (by omega), hr, ha.sub sb, (St.selP [1] rfl (St.selO [1] rfl rfl hw))⟩
  refine SP.ci 20 hg_t41 (fun hq39 ho => ?_) fun hq39 ho => ?_
  ·refine go ?_
   refine SP.imp (fun w2 hw => St.selO [1, 0] rfl rfl hw) ?_
   obtain ⟨y40, hc, ho⟩ := bind_some ho
   refine SP.callY see hY (t := y40.1) (b := y40.2) hc rfl rfl rfl rfl (fun hP ap => ⟨_, rfl, ⟨_, rfl, rfl⟩⟩) ?_
   clear hc
   refine go ?_
   obtain rfl := Option.some.inj ho
   exact QE.jn fun w2 hw => (St.selO [1, 0] rfl rfl hw)
  refine go ?_
  obtain rfl := Option.some.inj ho
  exact QE.jn fun w2 hw => hw
 refine go ?_
 obtain rfl := fin ho hr
 exact QE.over (rs := []) (vs := []) Tryz.results91 rfl trivial (fun w2 h => St.done (fun a b p s => ⟨rfl, s⟩) (St.selO [0] rfl rfl h))
shelf_lay_g SlLaysM.n5 Slgm 5 at Tryz 39 as Tryz.sorti39
theorem srti39_trip {v : Value} {l : List Int} (hll : l.length < 4611686018427387904) {w : World} {hP h1 : Hp} (sub : Sub hP (hp w)) (s1 : Sub h1 (hp w)) (dj : Dj hP h1) (hI : (slO (kInt .i64) 3 v l).p hP h1) :
    Trip Tryz.prog 39 #[v] h1 hP w (fun r => HO.pand (r = .tuple #[]) (HO.seps [slO (kInt .i64) 3 v (l.mergeSort fun x y => decide (x ≤ y))])) := by
  have h := slO.rowTrip (P := Tryz.prog) (f := 39) (fun v => #[v]) (fun _ => .tuple #[]) (fun x => [Value.int .i64 x]) (fun h cs x => Iff.rfl) (fun d : Array Int => (d.toList.mergeSort fun x y => decide (x ≤ y)).toArray) (fun d => by simp) (fun blk cap d w hH hb hsz _ _ => ?_) (fun _ w hV sV => ?_) hll sub s1 dj hI
  · simpa using h
  · have := AnyM.slices_Sort_int Tryz.sorti39 blk 0 cap d.toList w (holdsOne.1 hH) hb (by simpa using hsz)
    refine this.mono fun e w' ⟨h1, n, os, h2⟩ => ⟨h1, n, os, h2.trans (Eq.symm sortOne)⟩
  · refine (AnyM.slices_Sort_int_none Tryz.sorti39 none 0 w).mono fun e w' ⟨he, hw⟩ => ?_
    subst hw
    exact ⟨_, he, Met.refl _, fun _ _ e _ => e, em, em, fun _ _ _ => rfl, fun _ _ _ => rfl, Dj.em_left _, Sub.em _, Sub.em _, rfl⟩
shelf_lay_g SlLaysN.n43 Slgn 43 at Tryz 40 as Tryz.compacti40
theorem compacti40_trip {v : Value} {l : List Int} (hll : l.length < 4611686018427387904) {w : World} {hP h1 : Hp} (sub : Sub hP (hp w)) (s1 : Sub h1 (hp w)) (dj : Dj hP h1) (hI : (slO (kInt .i64) 3 v l).p hP h1) :
    Trip Tryz.prog 40 #[v] h1 hP w (fun r => HO.ex fun u : Value => HO.pand (r = u) (HO.seps [slO (kInt .i64) 3 u (Lib.compact l)])) := by
  have hle : (Lib.compact l).length ≤ l.length := compact_le l
  have h := slO.rowTrip (P := Tryz.prog) (f := 40) (fun v => #[v]) (fun v => shrinkV v (Lib.compact l).length) (fun x => [Value.int .i64 x]) (fun h cs x => Iff.rfl) (fun d : Array Int => (Lib.compact d.toList ++ List.replicate (d.size - (Lib.compact d.toList).length) 0).toArray) (fun d => by have := compact_le d.toList; simp at this ⊢; omega) (fun blk cap d w hH hb hsz hcap hd => ?_) (fun h0 w hV sV => ?_) hll sub s1 dj hI
  · exact slO.shrinkT (by simp only [List.length_append]; omega) (by simp) h
  · have := AnyG.slices_Compact_int Tryz.compacti40 blk 0 cap d.toList w (holdsOne.1 hH) (by simp; omega) (by simpa using hcap)
    refine this.mono fun e w' ⟨h1, n, h2⟩ => ⟨?_, n, #[], h2.trans (Eq.trans ?_ (Eq.symm sortOne))⟩
    · rw [h1, hd]; rfl
    · rw [grow_none]; simp
  · refine (AnyG.slices_Compact_int_empty Tryz.compacti40 none 0 w).mono fun e w' ⟨he, hw⟩ => ?_
    subst hw
    exact ⟨_, he, Met.refl _, fun _ _ e _ => e, em, em, fun _ _ _ => rfl, fun _ _ _ => rfl, Dj.em_left _, Sub.em _, Sub.em _, rfl⟩
def calls_Whom.y1 (m_0 : api_Module) (k_1 : Int) (l39 : List Int) (x41 : Int) (x42 : Int) : Option ((((List Int) × Int) × Bool) × Bool) :=
  if ((decide (x42 < 0)) || (decide (x42 ≥ (m_0.Methods.length : Int)))) = true then (some (((l39, 2), true), false)) else (if (l39.length + [x42].length) * 8 ≤ 140737488355328 then (some (((l39 ++ [x42], x41), false), true)) else none)
def calls_Whom.f (m_0 : api_Module) (k_1 : Int) : Option ((List Int) × Int) :=
  if ((decide (k_1 < 0)) || (decide (k_1 ≥ (m_0.Methods.length : Int)))) = true then (some ([], 2)) else ((calls_named.f m_0 k_1).bind fun t15 => (calls_named_1_s1.f (fun s x => bif s.2 then none else calls_Whom.y1 m_0 k_1 s.1.1 s.1.2 x) (([], 0), false) m_0.Globals m_0.Pool m_0.Methods m_0.Migrate k_1).bind fun s55 => match s55 with | ((l39, x41), lf57) => if lf57 = true then (some ([], x41)) else (if l39.length < 4611686018427387904 then (if (l39.mergeSort fun x y => decide (x ≤ y)).length < 4611686018427387904 then (some ((Lib.compact (l39.mergeSort fun x y => decide (x ≤ y))), 0)) else none) else none))
theorem calls_Whom.ok (m_0 : api_Module) (k_1 : Int) (v_m_0_Globals v_m_0_Pool v_m_0_Methods : Value) (r : (List Int) × Int) (H : calls_Whom.f m_0 k_1 = some r) (w : World) (hV : Hp) (sV : Sub hV (hp w)) (h0 : slR k_api_Value hV v_m_0_Globals m_0.Globals) (h1 : slR k_api_Value hV v_m_0_Pool m_0.Pool) (h2 : slR k_api_Method hV v_m_0_Methods m_0.Methods) :
    Trip Tryz.prog 38 [.agg #[v_m_0_Globals, v_m_0_Pool, v_m_0_Methods, .int .i64 m_0.Migrate], .int .i64 k_1].toArray em hV w (fun v => HO.ex fun u0 : Value => HO.pand (v = .tuple #[u0, .int .i64 r.2]) (HO.seps [slO (kInt .i64) 3 u0 r.1])) := by
 have see : Sees w em hV := ⟨sV, Dj.em_right _⟩
 refine Trip.ofM (P := Tryz.prog) (n := ⟨38, []⟩) Tryz.func38 rfl ⟨rfl, rfl⟩ rfl (St.begin (aS h0 (aS h1 (aS h2 (All.nil _))))) ?_
 have ho := H
 refine go ?_
 refine SP.box rfl rfl rfl rfl fun b4 => ?_
 refine SP.alloc (cs := [(.slice none 0 0)]) inf55 rfl rfl (fun b6 => ?_)
 refine SP.alloc (cs := [.int .i64 0]) inf45 rfl rfl (fun b8 => ?_)
 refine go ?_
 refine CP.seq ?_
 refine go ?_
 refine SP.jn 6 [1, 2, 4, 5] 16 (.bool ((decide (k_1 < 0)) || (decide (k_1 ≥ (m_0.Methods.length : Int))))) ?_ ?_
 ·refine go ?_
  refine CP.cb ho (fun ho => ?_) fun ho => ?_
  ·refine go ?_
   refine SP.store (v := (.slice none 0 0)) (vs := [(.slice none 0 0)]) 1 (by rfl) sz55 (by rfl) (by rfl) (by rfl) (by rfl) (by rfl) (by rfl) ?_
   refine SP.store (v := .int .i64 2) (vs := [.int .i64 2]) 0 (by rfl) sz45 (by rfl) (by rfl) (by rfl) (by rfl) (by rfl) (by rfl) ?_
   refine go ?_
   obtain rfl := Option.some.inj ho
   exact QE.retsM 3 rfl (rs := [.cell 4 55, .cell 5 45]) (vs := [(.slice none 0 0), .int .i64 2]) Tryz.results38 ⟨RVs.cell1 1 rfl rfl Tryz.underlying55 rfl, RVs.cell1 0 rfl rfl Tryz.underlying45 rfl, trivial⟩ (fun w2 h => St.done (fun a b p s => ⟨_, rfl, s⟩) (St.selO [0] rfl rfl (St.addO (slO.nil (kInt .i64) 3) h)))
  refine go ?_
  refine SP.alloc (cs := [(.slice none 0 0)]) inf55 rfl rfl (fun b13 => ?_)
  refine go ?_
  refine CP.seq ?_
  refine go ?_
  refine SP.val (Val.loadA 3 rfl Tryz.underlying25 rfl sz25 rfl rfl rfl) rfl rfl rfl ?_
  refine go ?_
  obtain ⟨t15, hc, ho⟩ := bind_some ho
  refine SP.callK see (caps := []) _ fn68 rfl rfl rfl rfl (fun w2 hP hs sub ap => calls_named.ok _ _ _ _ _ _ hc w2 hP sub (ap.get 0 rfl) (ap.get 1 rfl) (ap.get 2 rfl)) (SP.k2 fun b16 b17 => ?_)
  refine SP.imp (fun w2 h => St.toP 0 rfl h) ?_
  refine SP.imp (fun w2 h => St.toP 0 rfl h) ?_
  clear hc
  refine go ?_
  obtain ⟨s55, hc, ho⟩ := bind_some ho
  obtain ⟨⟨l39, x41⟩, lf57⟩ := s55
  refine CP.imp (A' := fun w2 => St w em hV [boxP b17 [.int .i64 k_1] 3, boxP b16 [v_m_0_Globals, v_m_0_Pool, v_m_0_Methods, .int .i64 m_0.Migrate] 25, slP k_api_Value v_m_0_Globals m_0.Globals, slP k_api_Value v_m_0_Pool m_0.Pool, slP k_api_Method v_m_0_Methods m_0.Methods] [(fun s : (List Int) × Int => (fun (l39 : List Int) (x41 : Int) => HO.ex fun v40 : Value => HO.seps [slO (kInt .i64) 3 v40 l39, boxO b13 [v40] 55, boxO b8 [.int .i64 x41] 45, boxO b6 [(.slice none 0 0)] 55, boxO b4 [v_m_0_Globals, v_m_0_Pool, v_m_0_Methods, .int .i64 m_0.Migrate] 25]) s.1 s.2) ([], 0), marksO []] w2) (fun w2 hw => St.shut (.slice none 0 0) (St.group _ (St.addO (slO.nil (kInt .i64) 3) hw))) ?_
  refine CP.rangeR see (J := fun s : (List Int) × Int => (fun (l39 : List Int) (x41 : Int) => HO.ex fun v40 : Value => HO.seps [slO (kInt .i64) 3 v40 l39, boxO b13 [v40] 55, boxO b8 [.int .i64 x41] 45, boxO b6 [(.slice none 0 0)] 55, boxO b4 [v_m_0_Globals, v_m_0_Pool, v_m_0_Methods, .int .i64 m_0.Migrate] 25]) s.1 s.2) (Y := fun s x => bif s.2 then none else calls_Whom.y1 m_0 k_1 s.1.1 s.1.2 x) (s0 := ([], 0)) (sf := (l39, x41)) (E := (E1 (kInt .i64) false)) (caps := [.pointer (some ⟨b16, 0, none⟩), .pointer (some ⟨b17, 0, none⟩)]) fn91 rfl (σ1 := [(2, .pointer (some ⟨b4, 0, none⟩)), (4, .pointer (some ⟨b6, 0, none⟩)), (5, .pointer (some ⟨b8, 0, none⟩)), (6, .pointer (some ⟨b13, 0, none⟩))]) ⟨rfl, rfl, rfl, rfl, trivial⟩ rfl (E1.len rfl) (fun _ _ => rfl) (fun lY I w2 hP h1 sub s1 d1 ap hI hY => calls_named_1_s1.ok (fun s x => bif s.2 then none else calls_Whom.y1 m_0 k_1 s.1.1 s.1.2 x) (([], 0), false) m_0.Globals m_0.Pool m_0.Methods m_0.Migrate k_1 _ _ _ _ _ _ hc w2 hP sub (ap.get 2 rfl) (ap.get 3 rfl) (ap.get 4 rfl) (ap.get 1 rfl) (ap.get 0 rfl) lY I h1 s1 d1 hI hY) ?_ ho (fun D56 ho => ?_) (fun D56 ho => ?_)
  ·rintro lY LO hLO s_ x42 t l b vals ho w3 hP3 h3 sub3 s3 d3 ap3 hE
   obtain ⟨l39, x41⟩ := s_
   obtain ⟨q43, rfl, cs0, hk0, e0⟩ := hE
   replace e0 : [q43] = cs0 := e0
   subst e0
   obtain rfl : q43 = .int .i64 x42 := (List.cons.inj hk0).1
   have see : Sees w3 h3 hP3 := ⟨sub3, d3⟩
   refine CP.weak (σ' := [(2, .pointer (some ⟨b4, 0, none⟩)), (4, .pointer (some ⟨b6, 0, none⟩)), (5, .pointer (some ⟨b8, 0, none⟩)), (6, .pointer (some ⟨b13, 0, none⟩)), (20, .int .i64 x42)]) ⟨rfl, rfl, rfl, rfl, rfl, trivial⟩ (fun _ h => h) ?_
   refine CP.ex (fun w2 h => St.open h) (fun v40 => ?_)
   refine CP.imp (fun w2 h => St.seps h) ?_
   refine go ?_
   refine QE.beginR hLO 5 rfl ?_
   refine go ?_
   refine CP.seq ?_
   refine go ?_
   refine SP.jn 6 [4, 5, 6, 7] 29 (.bool ((decide (x42 < 0)) || (decide (x42 ≥ (m_0.Methods.length : Int))))) ?_ ?_
   ·refine go ?_
    refine CP.cb ho (fun ho => ?_) fun ho => ?_
    ·refine go ?_
     refine SP.store (v := (.slice none 0 0)) (vs := [(.slice none 0 0)]) 3 (by rfl) sz55 (by rfl) (by rfl) (by rfl) (by rfl) (by rfl) (by rfl) ?_
     refine SP.store (v := .int .i64 2) (vs := [.int .i64 2]) 2 (by rfl) sz45 (by rfl) (by rfl) (by rfl) (by rfl) (by rfl) (by rfl) ?_
     refine go ?_
     obtain ⟨h_, rfl⟩ := Prod.mk.inj (Option.some.inj ho)
     obtain ⟨rfl, rfl⟩ := Prod.mk.inj h_
     exact QE.overR hLO 5 rfl fun w2 hw => St.shut v40 (St.group _ (St.selP [] rfl hw))
    refine go ?_
    refine SP.lit (k := (kInt .i64)) (xs := [x42]) (vs := [.int .i64 x42]) (cells := [.int .i64 x42]) Tryz.underlying55 inf3 rfl rfl rfl rfl rfl rfl rfl rfl (fun _ ap => ⟨[.int .i64 x42], _, rfl, rfl, rfl⟩) rfl rfl rfl (fun v46 => ?_)
    refine SP.freezeS see 0 rfl ?_
    obtain ⟨hb, ho⟩ := must_some ho
    refine SP.append see 0 rfl 0 rfl Tryz.underlying55 inf3 rfl rfl hb rfl rfl rfl rfl rfl (fun v48 => ?_)
    clear hb
    refine SP.have (fun w2 hw => slO.shape (St.own 0 rfl see.sub see.dj hw)) (fun hs_v48 => ?_)
    refine SP.store (v := v48) (vs := [v48]) 1 (by rfl) sz55 (by rfl) (by rfl) (by rfl) (one_cells hs_v48) (one_cons hs_v48 (rfl)) (by rfl) ?_
    refine go ?_
    obtain ⟨h_, rfl⟩ := Prod.mk.inj (Option.some.inj ho)
    obtain ⟨rfl, rfl⟩ := Prod.mk.inj h_
    exact QE.overN hLO 5 rfl fun w2 hw => St.shut v48 (St.group _ (St.selP [] rfl hw))
   refine SP.bb 23 (fun hq45 => ?_) fun hq45 => ?_
   ·refine go ?_
    exact QE.jb (or_t hq45) fun w2 hw => hw
   refine go ?_
   exact QE.jb (or_f hq45 rfl) fun w2 hw => hw
  ·refine QE.ex (fun w2 h => St.open h) (fun v40 => ?_)
   refine QE.imp (fun w2 h => St.seps h) ?_
   refine go ?_
   obtain rfl := Option.some.inj ho
   exact QE.retsM 5 rfl (rs := [.cell 4 55, .cell 5 45]) (vs := [(.slice none 0 0), .int .i64 x41]) Tryz.results38 ⟨RVs.cell1 3 rfl rfl Tryz.underlying55 rfl, RVs.cell1 2 rfl rfl Tryz.underlying45 rfl, trivial⟩ (fun w2 h => St.done (fun a b p s => ⟨_, rfl, s⟩) (St.selO [0] rfl rfl (St.addO (slO.nil (kInt .i64) 3) h)))
  refine QE.ex (fun w2 h => St.open h) (fun v40 => ?_)
  refine QE.imp (fun w2 h => St.seps h) ?_
  refine go ?_
  obtain ⟨hb, ho⟩ := must_some ho
  refine SP.callA see (caps := []) (fun r => HO.pand (r = .tuple #[]) (HO.seps [slO (kInt .i64) 3 v40 (l39.mergeSort fun x y => decide (x ≤ y))])) fn39 rfl rfl rfl rfl (fun w2 hP h1 sub s1 d1 ap hI => srti39_trip hb sub s1 d1 hI) (SP.k0 ?_)
  clear hb
  refine go ?_
  obtain ⟨hb, ho⟩ := must_some ho
  refine SP.callA see (caps := []) (fun r => HO.ex fun u : Value => HO.pand (r = u) (HO.seps [slO (kInt .i64) 3 u (Lib.compact (l39.mergeSort fun x y => decide (x ≤ y)))])) fn40 rfl rfl rfl rfl (fun w2 hP h1 sub s1 d1 ap hI => compacti40_trip hb sub s1 d1 hI) (SP.k1 fun v61 => ?_)
  clear hb
  refine SP.have (fun w2 hw => slO.shape (St.own 0 rfl see.sub see.dj hw)) (fun hs_v61 => ?_)
  refine SP.store (v := v61) (vs := [v61]) 3 (by rfl) sz55 (by rfl) (by rfl) (by rfl) (one_cells hs_v61) (one_cons hs_v61 (rfl)) (by rfl) ?_
  refine SP.store (v := .int .i64 0) (vs := [.int .i64 0]) 2 (by rfl) sz45 (by rfl) (by rfl) (by rfl) (by rfl) (by rfl) (by rfl) ?_
  refine go ?_
  obtain rfl := Option.some.inj ho
  exact QE.retsM 5 rfl (rs := [.cell 4 55, .cell 5 45]) (vs := [v61, .int .i64 0]) Tryz.results38 ⟨RVs.cell1 3 rfl rfl Tryz.underlying55 rfl, RVs.cell1 2 rfl rfl Tryz.underlying45 rfl, trivial⟩ (fun w2 h => St.done (fun a b p s => ⟨_, rfl, s⟩) (St.selO [0] rfl rfl h))
 refine SP.bb 10 (fun hq11 => ?_) fun hq11 => ?_
 ·refine go ?_
  exact QE.jb (or_t hq11) fun w2 hw => hw
 refine go ?_
 exact QE.jb (or_f hq11 rfl) fun w2 hw => hw
inductive calls_all.S where
  | start
  | l1 (l18 : List (List Int)) (x20 : Int)
def calls_all.F (m_0 : api_Module) : calls_all.S → Option (calls_all.S ⊕ ((List (List Int)) × Int))
  | .start => some (.inl (.l1 [] 0))
  | .l1 l18 x20 => if x20 < (m_0.Methods.length : Int) then ((calls_Whom.f m_0 x20).bind fun t22 => if t22.2 ≠ 0 then (some (.inr ([], t22.2))) else (if (l18.length + [t22.1].length) * 24 ≤ 140737488355328 then (some (.inl (.l1 (l18 ++ [t22.1]) (IntKind.i64.wrap (x20 + 1))))) else none)) else (some (.inr (l18, 0)))
def calls_all.f (m_0 : api_Module) : Option ((List (List Int)) × Int) := runF (calls_all.F m_0) .start
theorem calls_all.ok (m_0 : api_Module) (v_m_0_Globals v_m_0_Pool v_m_0_Methods : Value) (r : (List (List Int)) × Int) (H : calls_all.f m_0 = some r) (w : World) (hV : Hp) (sV : Sub hV (hp w)) (h0 : slR k_api_Value hV v_m_0_Globals m_0.Globals) (h1 : slR k_api_Value hV v_m_0_Pool m_0.Pool) (h2 : slR k_api_Method hV v_m_0_Methods m_0.Methods) :
    Trip Tryz.prog 50 [.agg #[v_m_0_Globals, v_m_0_Pool, v_m_0_Methods, .int .i64 m_0.Migrate]].toArray em hV w (fun v => HO.ex fun u0 : Value => HO.pand (v = .tuple #[u0, .int .i64 r.2]) (HO.seps [slO (kSl (kInt .i64)) 55 u0 r.1])) := by
 refine Trip.go 29 Tryz.func50 sV (aS h0 (aS h1 (aS h2 (All.nil _)))) fun see => ?_
 obtain ⟨n0, hi⟩ := runF_iff.1 H
 obtain ⟨m0, o, hm0, ho, hr⟩ := iter_some hi
 clear hi
 refine go ?_
 refine SP.box rfl rfl rfl rfl fun b4 => ?_
 refine go ?_
 refine CP.seq ?_
 refine go ?_
 obtain rfl := Option.some.inj ho
 refine CP.loop (fun cl1 a w2 => ∃ l18 : List (List Int), ∃ x20 : Int, ∃ v19 : Value, cl1 ≤ m0 ∧ iter (calls_all.F m_0) cl1 (.l1 l18 x20) = some r ∧ Env ⟨29, []⟩ [(1, .pointer (some ⟨b4, 0, none⟩)), (4, v19), (10, .int .i64 (m_0.Methods.length : Int)), (11, .int .i64 x20)] a ∧ St w em hV [slP k_api_Value v_m_0_Globals m_0.Globals, slP k_api_Value v_m_0_Pool m_0.Pool, slP k_api_Method v_m_0_Methods m_0.Methods] [slO (kSl (kInt .i64)) 55 v19 l18, boxO b4 [v_m_0_Globals, v_m_0_Pool, v_m_0_Methods, .int .i64 m_0.Migrate] 25] w2) m0 (fun a w2 ha hw => ⟨[], 0, (.slice none 0 0), Nat.le_refl _, hr, ha.sub sb, (St.addO (slO.nil (kSl (kInt .i64)) 55) hw)⟩) ?_
 clear hr
 rintro cl1 a w2 ⟨l18, x20, v19, hc_l1, hi, ha, hw⟩
 obtain ⟨m21, o, hm_m21, ho, hr⟩ := iter_some hi
 refine CP.app ha hw ?_
 clear ha hw a w2 hi
 refine go ?_
 refine CP.seq ?_
 refine CP.ci ho (fun ho => ?_) fun ho => ?_
 ·refine go ?_
  refine CP.seq ?_
  refine go ?_
  refine SP.val (Val.loadA 1 rfl Tryz.underlying25 rfl sz25 rfl rfl rfl) rfl rfl rfl ?_
  refine go ?_
  obtain ⟨t22, hc, ho⟩ := bind_some ho
  refine SP.callK see (caps := []) _ fn38 rfl rfl rfl rfl (fun w2 hP hs sub ap => calls_Whom.ok _ _ _ _ _ _ hc w2 hP sub (ap.get 0 rfl) (ap.get 1 rfl) (ap.get 2 rfl)) (SP.k1 fun v23 => ?_)
  clear hc
  refine go ?_
  refine CP.seq ?_
  refine go ?_
  refine CP.ci ho (fun ho => ?_) fun ho => ?_
  ·refine go ?_
   obtain rfl := fin ho hr
   exact QE.rt (fun _ h => St.selO [0] rfl rfl (St.addO (slO.nil (kSl (kInt .i64)) 55) h))
  refine go ?_
  refine SP.freezeS see 0 rfl ?_
  refine SP.litS (k := (kSl (kInt .i64))) (xs := [t22.1]) (vs := [v23]) Tryz.underlying103 inf55 rfl rfl rfl rfl rfl rfl (fun _ ap => ⟨slR.cells1 (ap.get 0 rfl), trivial⟩) (fun _ ap => ⟨[v23], _, rfl, ⟨_, rfl, ap.get 0 rfl⟩, rfl⟩) rfl rfl rfl (fun v26 => ?_)
  refine SP.freezeS see 0 rfl ?_
  obtain ⟨hb, ho⟩ := must_some ho
  refine SP.append see 0 rfl 0 rfl Tryz.underlying103 inf55 rfl rfl hb rfl rfl rfl rfl rfl (fun v28 => ?_)
  clear hb
  refine go ?_
  obtain rfl := Option.some.inj ho
  exact QE.lower m21 (by omega) fun a w2 ha hw => ⟨(l18 ++ [t22.1]), (IntKind.i64.wrap (x20 + 1)), v28, (by omega), hr, ha.sub sb, (St.selP [2, 3, 4] rfl hw)⟩
 refine go ?_
 obtain rfl := fin ho hr
 exact QE.rt (fun _ h => St.selO [0] rfl rfl h)
shelf_lay_g SlLaysZI.n7 Ggz 7 at Tryz 52 as Tryz.keys52
shelf_lay_g SlLaysZI.n6 Ggz 6 at Tryz 51 as Tryz.sorted51
open Go.RowKit Go.Maps Go.Sort Go.Shelf in
theorem sorts51 (m : Nat) : AnyZI.SortsIn Tryz.prog Tryz.sorted51_ren Fence.wide m :=
  ⟨fun blk off cap ss W hH hblk hsz => callsIn_wide.2 (AnyM.slices_Sort_int Tryz.sorti39 blk off cap ss W hH hblk hsz),
   fun p cap W => callsIn_wide.2 (AnyM.slices_Sort_int_none Tryz.sorti39 p cap W)⟩
theorem keys52_trip (b : Nat) (w : World) (hV : Hp) : Trip Tryz.prog 52 #[.map (some b)] em hV w (fun v => HO.ex fun c : Nat => HO.pand (v = .func (.func 78) #[] #[.pointer (some ⟨c, 0, none⟩)]) (HO.seps [boxO c [.map (some b)] 106])) := by
  have cK : CallsIn Fence.wide 5 Tryz.prog 52 #[.map (some b)] w fun e w' => e = .returned (.func (.func 78) #[] #[.pointer (some ⟨w.heap.size, 0, none⟩)]) ∧ w' = w.alloc (.cells #[.map (some b)] 106) := AnyZI.keys_in Tryz.keys52 Fence.wide 5 trivial rfl (some b) w
  refine ((callsIn_wide (n := 5)).1 cK).mono fun e w' ⟨he, hw⟩ => ?_
  subst he; subst hw
  exact St.done (os := [boxO w.heap.size [.map (some b)] 106]) (fun a b p s => ⟨_, rfl, s⟩) ((St.begin (All.nil hV)).box [.map (some b)] 106)
open Go.RowKit Go.Maps Go.Sort Go.Shelf in
theorem sorted51_trip {β : Type} {kv : β → Value} {m : List (Int × β)} {b c : Nat} (ok : okKeys m = true) (w : World) (h1 : (boxO c [.map (some b)] 106).p (hp w) (hp w)) (h2 : (mapO b .i64 kv m).p (hp w) (hp w)) :
    Trip Tryz.prog 51 #[.func (.func 78) #[] #[.pointer (some ⟨c, 0, none⟩)]] em (hp w) w (fun r => HO.ex fun u : Value => HO.pand (r = u) (HO.seps [slO (kInt .i64) 3 u (sortedKeys m)])) := by
  obtain ⟨D0, hown, hperm, hsize⟩ := ownsOf Tryz.underlying3 h2 ok
  have hcell : w.heap[c]? = some (.cells #[.map (some b)] 106 (0, 0)) := h1
  have hlen : m.length ≤ 1000000 := by simp only [okKeys, Bool.and_eq_true, decide_eq_true_eq] at ok; exact ok.2
  have hseq : SeqGives Fence.wide 2 Tryz.prog 78 #[.pointer (some ⟨c, 0, none⟩)] encZ (fun ss => ss.Perm (intKeys D0)) (Maps.size D0) w :=
    AnyZI.keys_gives (ρ := Tryz.keys52_ren) { Tryz.keys52 with } Fence.wide _ trivial rfl (by omega) c b m.length D0 _ (Array.getElem?_eq_some_iff.1 hcell).1 (by simp [World.cell?, hcell]) hown
  have cS := AnyZI.sorted_in Tryz.sorted51 Fence.wide 5 trivial trivial trivial trivial rfl (by omega) (sorts51 _) (enters_of Tryz.func39 (by kernel_rfl) rfl) 78 #[.pointer (some ⟨c, 0, none⟩)] trivial (enters_of Tryz.func78 (by kernel_rfl) rfl) _ _ (by rw [hsize]; simp only [maxLen]; omega) (by rw [hsize]; omega) _ hseq
  change CallsIn _ _ Tryz.prog 51 _ _ _ at cS
  refine ((callsIn_wide (n := 5)).1 cS).mono fun e w' ⟨v, ss, he, hS, hrow, hnil, hb⟩ => ?_
  subst he
  have e1 : (ss.mergeSort fun x y => decide (x ≤ y)) = sortedKeys m := mergeSort_of_perm_i (hS.trans hperm)
  have e2 : ss.length = (sortedKeys m).length := by rw [← e1, List.length_mergeSort]
  rw [e1, e2] at hrow
  exact owned_trip (k := kInt .i64) hrow hb (flat_ints _)
inductive slices_Index_int_int.S where
  | start
  | l1 (x6 : Int)
def slices_Index_int_int.F (s_0 : (List Int)) (v_1 : Int) : slices_Index_int_int.S → Option (slices_Index_int_int.S ⊕ Int)
  | .start => some (.inl (.l1 0))
  | .l1 x6 => if x6 < (s_0.length : Int) then ((elt s_0 x6).bind fun x10 => if v_1 = x10 then (some (.inr x6)) else (some (.inl (.l1 (IntKind.i64.wrap (x6 + 1)))))) else (some (.inr (-1)))
def slices_Index_int_int.f (s_0 : (List Int)) (v_1 : Int) : Option Int := runF (slices_Index_int_int.F s_0 v_1) .start
theorem slices_Index_int_int.ok (s_0 : (List Int)) (v_1 : Int) (v_s_0 : Value) (r : Int) (H : slices_Index_int_int.f s_0 v_1 = some r) (w : World) (hV : Hp) (sV : Sub hV (hp w)) (h0 : slR (kInt .i64) hV v_s_0 s_0) :
    Trip Tryz.prog 79 [v_s_0, .int .i64 v_1].toArray em hV w (fun v => HO.pure (v = .int .i64 r)) := by
 refine Trip.go 19 Tryz.func79 sV (aS h0 (All.nil _)) fun see => ?_
 obtain ⟨n0, hi⟩ := runF_iff.1 H
 obtain ⟨m0, o, hm0, ho, hr⟩ := iter_some hi
 clear hi
 refine go ?_
 refine CP.seq ?_
 refine go ?_
 obtain rfl := Option.some.inj ho
 refine CP.loop (fun cl1 a w2 => ∃ x6 : Int, cl1 ≤ m0 ∧ iter (slices_Index_int_int.F s_0 v_1) cl1 (.l1 x6) = some r ∧ Env ⟨19, []⟩ [(0, v_s_0), (1, .int .i64 v_1), (7, .int .i64 (s_0.length : Int)), (8, .int .i64 x6)] a ∧ St w em hV [slP (kInt .i64) v_s_0 s_0] [] w2) m0 (fun a w2 ha hw => ⟨0, Nat.le_refl _, hr, ha.sub sb, hw⟩) ?_
 clear hr
 rintro cl1 a w2 ⟨x6, hc_l1, hi, ha, hw⟩
 obtain ⟨m7, o, hm_m7, ho, hr⟩ := iter_some hi
 refine CP.app ha hw ?_
 clear ha hw a w2 hi
 refine go ?_
 refine CP.seq ?_
 refine CP.ci ho (fun ho => ?_) fun ho => ?_
 ·refine go ?_
  refine CP.seq ?_
  refine go ?_
  obtain ⟨x10, hx, ho⟩ := elt_bind ho
  refine SP.indexP see 0 rfl Tryz.underlying55 sz3 hx.1 hx.2 rfl rfl rfl rfl (fun p8 => ?_)
  clear hx
  refine SP.val (Val.loadP1 see 0 rfl (fun _ _ e => e) Tryz.underlying3 rfl rfl) rfl rfl rfl ?_
  refine go ?_
  refine CP.ci ho (fun ho => ?_) fun ho => ?_
  ·refine go ?_
   obtain rfl := fin ho hr
   exact QE.rt (fun _ h => h)
  refine go ?_
  obtain rfl := Option.some.inj ho
  exact QE.lower m7 (by omega) fun a w2 ha hw => ⟨(IntKind.i64.wrap (x6 + 1)), (by omega), hr, ha.sub sb, (St.selP [1] rfl hw)⟩
 refine go ?_
 obtain rfl := fin ho hr
 exact QE.rt (fun _ h => h)
def slices_Contains_int_int.f (s_0 : (List Int)) (v_1 : Int) : Option Bool :=
  (slices_Index_int_int.f s_0 v_1).bind fun t2 => some (decide (t2 ≥ 0))
theorem slices_Contains_int_int.ok (s_0 : (List Int)) (v_1 : Int) (v_s_0 : Value) (r : Bool) (H : slices_Contains_int_int.f s_0 v_1 = some r) (w : World) (hV : Hp) (sV : Sub hV (hp w)) (h0 : slR (kInt .i64) hV v_s_0 s_0) :
    Trip Tryz.prog 53 [v_s_0, .int .i64 v_1].toArray em hV w (fun v => HO.pure (v = .bool r)) := by
 refine Trip.go 9 Tryz.func53 sV (aS h0 (All.nil _)) fun see => ?_
 have ho := H
 refine go ?_
 obtain ⟨t2, hc, ho⟩ := bind_some ho
 refine SP.callV see (caps := []) (.int .i64 t2) fn79 rfl rfl rfl rfl (fun w2 hP hs sub ap => slices_Index_int_int.ok _ _ _ _ hc w2 hP sub (ap.get 0 rfl)) ?_
 clear hc
 refine go ?_
 obtain rfl := Option.some.inj ho
 exact QE.rt (fun _ h => h)
inductive calls_Order.S where
  | start
  | l1 (t6 : (List (List Int)) × Int) (l131 : List (Int × Int)) (x132 : Int)
  | l2 (t6 : (List (List Int)) × Int) (l192 : List (Int × Int)) (l194 : List Int)
  | l3 (t6 : (List (List Int)) × Int) (l192 : List (Int × Int)) (l194 : List Int) (x206 : Int)
  | l4 (t6 : (List (List Int)) × Int) (l194 : List Int) (x211 : Int) (l229 : List (Int × Int)) (l230 : List (Int × Int))
  | p5 (t6 : (List (List Int)) × Int) (l194 : List Int) (x211 : Int) (l229 : List (Int × Int)) (k236 : Int) (x237 : Int) (l238 : List (Int × Int))
def calls_Order.j1 (m_0 : api_Module) (t6 : (List (List Int)) × Int) (l192 : List (Int × Int)) (l194 : List Int) (x211 : Int) : Option (List calls_Order.S ⊕ ((List Int) × Int)) :=
  if x211 < 0 then (some (.inr ([], 110))) else (some (.inl [.l4 t6 l194 x211 (mdel l192 x211) (mdel l192 x211)]))
def calls_Order.F (m_0 : api_Module) : calls_Order.S → Option (List calls_Order.S ⊕ ((List Int) × Int))
  | .start => (calls_all.f m_0).bind fun t6 => if t6.2 ≠ 0 then (some (.inr ([], t6.2))) else (some (.inl [.l1 t6 ([] : List (Int × Int)) 0]))
  | .l1 t6 l131 x132 => if x132 < (t6.1.length : Int) then ((elt t6.1 x132).bind fun x135 => some (.inl [.l1 t6 (mset l131 x132 (x135.length : Int)) (IntKind.i64.wrap (x132 + 1))])) else (some (.inl [.l2 t6 l131 []]))
  | .l2 t6 l192 l194 => if (l192.length : Int) > 0 then (if okKeys l192 = true then (some (.inl [.l3 t6 l192 l194 0])) else none) else (some (.inr (l194, 0)))
  | .l3 t6 l192 l194 x206 => if x206 < ((sortedKeys l192).length : Int) then ((elt (sortedKeys l192) x206).bind fun x209 => if ((mget l192 x209).getD 0) = 0 then (calls_Order.j1 m_0 t6 l192 l194 x209) else (some (.inl [.l3 t6 l192 l194 (IntKind.i64.wrap (x206 + 1))]))) else (calls_Order.j1 m_0 t6 l192 l194 (-1))
  | .l4 t6 l194 x211 l229 l230 => if l230.isEmpty = true then (if (l194.length + [x211].length) * 8 ≤ 140737488355328 then (some (.inl [.l2 t6 l229 (l194 ++ [x211])])) else none) else some (.inl ((picks l230).map (fun z => .p5 t6 l194 x211 l229 z.1.1 z.1.2 z.2)))
  | .p5 t6 l194 x211 l229 k236 x237 l238 => (elt t6.1 k236).bind fun x241 => (slices_Contains_int_int.f x241 x211).bind fun t244 => if t244 = true then (if (l229.map (fun p => p.1)).Nodup ∧ (mget l229 k236).isSome = true then (some (.inl [.l4 t6 l194 x211 (mup l229 k236 (IntKind.i64.wrap (((mget l229 k236).getD 0) - 1))) (mup l238 k236 (IntKind.i64.wrap (((mget l229 k236).getD 0) - 1)))])) else none) else (some (.inl [.l4 t6 l194 x211 l229 l238]))
def calls_Order.f (m_0 : api_Module) : Option ((List Int) × Int) := runD (calls_Order.F m_0) .start
theorem calls_Order.ok (m_0 : api_Module) (v_m_0_Globals v_m_0_Pool v_m_0_Methods : Value) (r : (List Int) × Int) (H : calls_Order.f m_0 = some r) (w : World) (hV : Hp) (sV : Sub hV (hp w)) (h0 : slR k_api_Value hV v_m_0_Globals m_0.Globals) (h1 : slR k_api_Value hV v_m_0_Pool m_0.Pool) (h2 : slR k_api_Method hV v_m_0_Methods m_0.Methods) :
    Trip Tryz.prog 27 [.agg #[v_m_0_Globals, v_m_0_Pool, v_m_0_Methods, .int .i64 m_0.Migrate]].toArray em hV w (fun v => HO.ex fun u0 : Value => HO.pand (v = .tuple #[u0, .int .i64 r.2]) (HO.seps [slO (kInt .i64) 3 u0 r.1])) := by
 refine Trip.go 77 Tryz.func27 sV (aS h0 (aS h1 (aS h2 (All.nil _)))) fun see => ?_
 obtain ⟨n0, hi⟩ := runD_iff.1 H
 obtain ⟨m0, o, hm0, ho, hr⟩ := stepsD_some hi
 clear hi
 refine go ?_
 refine SP.box rfl rfl rfl rfl fun b4 => ?_
 refine go ?_
 refine SP.val (Val.loadA 0 rfl Tryz.underlying25 rfl sz25 rfl rfl rfl) rfl rfl rfl ?_
 obtain ⟨t6, hc, ho⟩ := bind_some ho
 refine SP.callK see (caps := []) _ fn50 rfl rfl rfl rfl (fun w2 hP hs sub ap => calls_all.ok _ _ _ _ _ hc w2 hP sub (ap.get 0 rfl) (ap.get 1 rfl) (ap.get 2 rfl)) (SP.k1 fun v7 => ?_)
 clear hc
 refine go ?_
 refine CP.seq ?_
 refine go ?_
 refine CP.ci ho (fun ho => ?_) fun ho => ?_
 ·refine go ?_
  obtain rfl := Option.some.inj ho
  obtain rfl : _ = r := hr
  exact QE.rt (fun _ h => St.selO [0] rfl rfl (St.addO (slO.nil (kInt .i64) 3) h))
 refine go ?_
 refine SP.makeMap .i64 (fun z : Int => Value.int .i64 z) rfl rfl (fun b10 => ?_)
 refine go ?_
 refine CP.seq ?_
 refine go ?_
 refine SP.val (Val.lenW (fun w2 hw => slO.whole (St.own 1 rfl see.sub see.dj hw)) Tryz.underlying103 rfl) rfl rfl rfl ?_
 refine go ?_
 obtain rfl := Option.some.inj ho
 refine CP.loop (fun cl1 a w2 => ∃ l131 : List (Int × Int), ∃ x132 : Int, cl1 ≤ m0 ∧ stepsD (calls_Order.F m_0) cl1 (.l1 t6 l131 x132) r ∧ Env ⟨77, []⟩ [(4, v7), (6, .map (some b10)), (23, v7), (24, .int .i64 (t6.1.length : Int)), (25, .int .i64 x132)] a ∧ St w em hV [] [mapO b10 .i64 (fun z : Int => Value.int .i64 z) l131, slO (kSl (kInt .i64)) 55 v7 t6.1] w2) m0 (fun a w2 ha hw => ⟨([] : List (Int × Int)), 0, Nat.le_refl _, (nextD_one hr), ha.sub sb, (St.selP [] rfl (St.selO [0, 1] rfl rfl hw))⟩) ?_
 clear hr
 rintro cl1 a w2 ⟨l131, x132, hc_l1, hi, ha, hw⟩
 obtain ⟨m133, o, hm_m133, ho, hr⟩ := stepsD_some hi
 refine CP.app ha hw ?_
 clear ha hw a w2 hi
 refine go ?_
 refine CP.seq ?_
 refine CP.ci ho (fun ho => ?_) fun ho => ?_
 ·refine go ?_
  refine CP.seq ?_
  refine go ?_
  obtain ⟨x135, hx_x135, ho⟩ := elt_bind ho
  refine SP.indexW (fun w2 hw => slO.whole (St.own 1 rfl see.sub see.dj hw)) Tryz.underlying103 sz55 hx_x135.1 hx_x135.2 rfl rfl rfl rfl (fun p134 h_p134 => ?_)
  refine SP.loadOS (j := x132) see 1 0 rfl hx_x135.2 h_p134 (fun _ _ ⟨v0_, e, p0_⟩ => ⟨v0_, by subst e; rfl, p0_⟩) Tryz.underlying55 rfl rfl rfl (fun v136 => ?_)
  refine go ?_
  refine SP.mapUpdate see 0 rfl Tryz.underlying106 Tryz.underlying3 rfl rfl rfl rfl ?_
  refine go ?_
  obtain rfl := Option.some.inj ho
  exact QE.lower m133 (by omega) fun a w2 ha hw => ⟨(mset l131 x132 (x135.length : Int)), (IntKind.i64.wrap (x132 + 1)), (by omega), (nextD_one hr), ha.sub sb, (St.selP [] rfl hw)⟩
 refine go ?_
 refine CP.seq ?_
 refine go ?_
 obtain rfl := Option.some.inj ho
 refine CP.loop (fun cl2 a w2 => ∃ l192 : List (Int × Int), ∃ l194 : List Int, ∃ v195 : Value, cl2 ≤ m133 ∧ stepsD (calls_Order.F m_0) cl2 (.l2 t6 l192 l194) r ∧ Env ⟨77, []⟩ [(4, v7), (6, .map (some b10)), (9, v195)] a ∧ St w em hV [] [slO (kInt .i64) 3 v195 l194, mapO b10 .i64 (fun z : Int => Value.int .i64 z) l192, slO (kSl (kInt .i64)) 55 v7 t6.1] w2) m133 (fun a w2 ha hw => ⟨l131, [], (.slice none 0 0), Nat.le_refl _, (nextD_one hr), ha.sub sb, (St.addO (slO.nil (kInt .i64) 3) hw)⟩) ?_
 clear hr
 rintro cl2 a w2 ⟨l192, l194, v195, hc_l2, hi, ha, hw⟩
 obtain ⟨m196, o, hm_m196, ho, hr⟩ := stepsD_some hi
 refine CP.app ha hw ?_
 clear ha hw a w2 hi
 refine CP.seq ?_
 refine go ?_
 refine SP.val (Val.lenM see 1 rfl Tryz.underlying106 rfl) rfl rfl rfl ?_
 refine go ?_
 refine CP.ci ho (fun ho => ?_) fun ho => ?_
 ·refine go ?_
  refine CP.join (fun a w2 => ∃ x211 : Int, ∃ (m212 : Nat) (o : (List calls_Order.S ⊕ ((List Int) × Int))), m212 ≤ m196 ∧ calls_Order.j1 m_0 t6 l192 l194 x211 = some o ∧ nextD (calls_Order.F m_0) m212 r o ∧ Env ⟨77, []⟩ [(4, v7), (6, .map (some b10)), (9, v195), (10, .int .i64 x211)] a ∧ St w em hV [] [slO (kInt .i64) 3 v195 l194, mapO b10 .i64 (fun z : Int => Value.int .i64 z) l192, slO (kSl (kInt .i64)) 55 v7 t6.1] w2) ?_ ?_
  ·rintro a w2 ⟨x211, m212, o, hm_m212, ho, hr, ha, hw⟩
   refine CP.app ha hw ?_
   clear ha hw a w2
   refine CP.seq ?_
   refine go ?_
   refine CP.ci ho (fun ho => ?_) fun ho => ?_
   ·refine go ?_
    obtain rfl := Option.some.inj ho
    obtain rfl : _ = r := hr
    exact QE.rt (fun _ h => St.selO [0] rfl rfl (St.addO (slO.nil (kInt .i64) 3) h))
   refine go ?_
   refine SP.delete see 1 rfl Tryz.underlying106 Tryz.underlying3 rfl rfl rfl ?_
   refine go ?_
   refine CP.seq ?_
   refine go ?_
   refine SP.imp (fun w2 hw => St.selO [1, 0, 2] rfl rfl hw) ?_
   refine SP.range see Tryz.underlying106 rfl rfl rfl (fun r214 => ?_)
   refine go ?_
   obtain rfl := Option.some.inj ho
   refine CP.loop (fun cl4 a w2 => ∃ l229 : List (Int × Int), ∃ l230 : List (Int × Int), cl4 ≤ m212 ∧ stepsD (calls_Order.F m_0) cl4 (.l4 t6 l194 x211 l229 l230) r ∧ Env ⟨77, []⟩ [(4, v7), (6, .map (some b10)), (9, v195), (10, .int .i64 x211), (57, .pointer (some ⟨r214, 0, none⟩))] a ∧ St w em hV [] [rangeO r214 b10 .i64 (fun z : Int => Value.int .i64 z) l229 l230 none, slO (kInt .i64) 3 v195 l194, slO (kSl (kInt .i64)) 55 v7 t6.1] w2) m212 (fun a w2 ha hw => ⟨(mdel l192 x211), (mdel l192 x211), Nat.le_refl _, (nextD_one hr), ha.sub sb, hw⟩) ?_
   clear hr
   rintro cl4 a w2 ⟨l229, l230, hc_l4, hi, ha, hw⟩
   obtain ⟨m231, o, hm_m231, ho, hr⟩ := stepsD_some hi
   refine CP.app ha hw ?_
   clear ha hw a w2 hi
   refine go ?_
   rcases if_some ho with ⟨hc, ho⟩ | ⟨hc, ho⟩
   ·refine SP.next see 0 rfl rfl rfl rfl (fun _ => ?_) (fun j k v hj => by rw [List.isEmpty_iff.1 hc] at hj; simp at hj)
    refine go ?_
    refine CP.seq ?_
    refine CP.condF rfl rfl ?_
    refine go ?_
    refine SP.lit (k := (kInt .i64)) (xs := [x211]) (vs := [.int .i64 x211]) (cells := [.int .i64 x211]) Tryz.underlying55 inf3 rfl rfl rfl rfl rfl rfl rfl rfl (fun _ ap => ⟨[.int .i64 x211], _, rfl, rfl, rfl⟩) rfl rfl rfl (fun v232 => ?_)
    refine SP.freezeS see 0 rfl ?_
    obtain ⟨hb, ho⟩ := must_some ho
    refine SP.append see 1 rfl 0 rfl Tryz.underlying55 inf3 rfl rfl hb rfl rfl rfl rfl rfl (fun v234 => ?_)
    clear hb
    refine go ?_
    obtain rfl := Option.some.inj ho
    exact QE.lower m231 (by omega) fun a w2 ha hw => ⟨l229, (l194 ++ [x211]), v234, (by omega), (nextD_one hr), ha.sub sb, (St.selP [] rfl (St.selO [1, 0, 2] rfl rfl (St.weakO 0 rfl rangeO.toMap hw)))⟩
   refine SP.next see 0 rfl rfl rfl rfl (fun h0 => absurd (by rw [h0]; rfl) hc) (fun j k236 x237 hj => ?_)
   obtain rfl := Option.some.inj ho
   replace hr := hr.2 _ (List.mem_map_of_mem (mem_picks hj))
   obtain ⟨m239, o, hm_m239, ho, hr⟩ := stepsD_some hr
   clear hj hc
   generalize List.eraseIdx l230 j = l238 at ho ⊢
   refine go ?_
   refine CP.seq ?_
   refine CP.condT rfl rfl ?_
   refine go ?_
   refine SP.val (Val.entry see 0 (p := (k236, x237)) rfl rfl) rfl rfl rfl ?_
   refine go ?_
   obtain ⟨x241, hx_x241, ho⟩ := elt_bind ho
   refine SP.indexW (fun w2 hw => slO.whole (St.own 2 rfl see.sub see.dj hw)) Tryz.underlying103 sz55 hx_x241.1 hx_x241.2 rfl rfl rfl rfl (fun p240 h_p240 => ?_)
   refine SP.loadOS (j := k236) see 2 0 rfl hx_x241.2 h_p240 (fun _ _ ⟨v0_, e, p0_⟩ => ⟨v0_, by subst e; rfl, p0_⟩) Tryz.underlying55 rfl rfl rfl (fun v242 => ?_)
   refine go ?_
   obtain ⟨t244, hc, ho⟩ := bind_some ho
   refine SP.callV see (caps := []) (.bool t244) fn53 rfl rfl rfl rfl (fun w2 hP hs sub ap => slices_Contains_int_int.ok _ _ _ _ hc w2 hP sub (ap.get 0 rfl)) ?_
   clear hc
   refine go ?_
   refine CP.cb ho (fun ho => ?_) fun ho => ?_
   ·refine go ?_
    refine SP.val (Val.lookupR (z0 := 0) see 0 rfl Tryz.underlying106 Tryz.underlying3 inf3 (by kernel_rfl) rfl rfl) rfl rfl rfl ?_
    refine go ?_
    obtain ⟨hb, ho⟩ := must_some ho
    refine SP.mapUpdateR see 0 rfl Tryz.underlying106 Tryz.underlying3 hb rfl rfl rfl rfl ?_
    clear hb
    refine go ?_
    obtain rfl := Option.some.inj ho
    exact QE.lower m239 (by omega) fun a w2 ha hw => ⟨(mup l229 k236 (IntKind.i64.wrap (((mget l229 k236).getD 0) - 1))), (mup l238 k236 (IntKind.i64.wrap (((mget l229 k236).getD 0) - 1))), (by omega), (nextD_one hr), ha.sub sb, (St.selP [] rfl hw)⟩
   refine go ?_
   obtain rfl := Option.some.inj ho
   exact QE.lower m239 (by omega) fun a w2 ha hw => ⟨l229, l238, (by omega), (nextD_one hr), ha.sub sb, (St.selP [] rfl (St.weakO 0 rfl rangeO.forget hw))⟩
  refine go ?_
  refine SP.callK see (caps := []) _ fn52 rfl rfl rfl rfl (fun w2 hP hs sub ap => keys52_trip _ w2 hP) (SP.k1 fun b198 => ?_)
  obtain ⟨hb, ho⟩ := must_some ho
  refine SP.callKO see (caps := []) _ fn51 rfl rfl rfl rfl (fun w2 hs => sorted51_trip hb w2 (St.own 0 rfl see.sub see.dj hs) (St.own 2 rfl see.sub see.dj hs)) (fun v a a2 b ⟨v201, e, h⟩ => ⟨v201, e, (Sep.fcons (fun _ => slO.flip (fun _ _ _ _ h => h)) (fun _ => Sep.fnil)) h⟩) (SP.k1 fun v201 => ?_)
  clear hb
  refine SP.val (Val.lenW (fun w2 hw => slO.whole (St.own 0 rfl see.sub see.dj hw)) Tryz.underlying55 rfl) rfl rfl rfl ?_
  refine go ?_
  obtain rfl := Option.some.inj ho
  refine CP.loop (fun cl3 a w2 => ∃ x206 : Int, cl3 ≤ m196 ∧ stepsD (calls_Order.F m_0) cl3 (.l3 t6 l192 l194 x206) r ∧ Env ⟨77, []⟩ [(4, v7), (6, .map (some b10)), (9, v195), (10, .int .i64 (-1)), (40, v201), (41, .int .i64 ((sortedKeys l192).length : Int)), (42, .int .i64 x206)] a ∧ St w em hV [] [slO (kInt .i64) 3 v201 (sortedKeys l192), slO (kInt .i64) 3 v195 l194, mapO b10 .i64 (fun z : Int => Value.int .i64 z) l192, slO (kSl (kInt .i64)) 55 v7 t6.1] w2) m196 (fun a w2 ha hw => ⟨0, Nat.le_refl _, (nextD_one hr), ha.sub sb, (St.selO [0, 2, 3, 4] rfl rfl hw)⟩) ?_
  clear hr
  rintro cl3 a w2 ⟨x206, hc_l3, hi, ha, hw⟩
  obtain ⟨m207, o, hm_m207, ho, hr⟩ := stepsD_some hi
  refine CP.app ha hw ?_
  clear ha hw a w2 hi
  refine go ?_
  refine CP.seq ?_
  refine CP.ci ho (fun ho => ?_) fun ho => ?_
  ·refine go ?_
   refine CP.seq ?_
   refine go ?_
   obtain ⟨x209, hx_x209, ho⟩ := elt_bind ho
   refine SP.indexW (fun w2 hw => slO.whole (St.own 0 rfl see.sub see.dj hw)) Tryz.underlying55 sz3 hx_x209.1 hx_x209.2 rfl rfl rfl rfl (fun p208 h_p208 => ?_)
   refine SP.val (Val.loadW1 (off := 0) (k := (kInt .i64)) (fun w2 hw => slO.whole (St.own 0 rfl see.sub see.dj hw)) hx_x209.2 h_p208 (fun _ _ e => by subst e; rfl) Tryz.underlying3 rfl rfl) rfl rfl rfl ?_
   refine go ?_
   refine SP.val (Val.lookup (z0 := 0) see 2 rfl Tryz.underlying106 Tryz.underlying3 inf3 (by kernel_rfl) rfl rfl) rfl rfl rfl ?_
   refine go ?_
   refine CP.ci ho (fun ho => ?_) fun ho => ?_
   ·refine go ?_
    exact QE.meet fun a w2 ha hw => ⟨x209, m207, _, (by omega), ho, hr, ha.sub sb, (St.selO [1, 2, 3] rfl rfl hw)⟩
   refine go ?_
   obtain rfl := Option.some.inj ho
   exact QE.lower m207 (by omega) fun a w2 ha hw => ⟨(IntKind.i64.wrap (x206 + 1)), (by omega), (nextD_one hr), ha.sub sb, hw⟩
  refine go ?_
  exact QE.meet fun a w2 ha hw => ⟨(-1), m207, _, (by omega), ho, hr, ha.sub sb, (St.selO [1, 2, 3] rfl rfl hw)⟩
 refine go ?_
 obtain rfl := Option.some.inj ho
 obtain rfl : _ = r := hr
 exact QE.rt (fun _ h => St.selO [0] rfl rfl h)
def op_Known.f (op_0 : Int) : Option Bool :=
  some (decide ((IntKind.i64.wrap op_0) < 33))
theorem op_Known.ok (op_0 : Int)  (r : Bool) (H : op_Known.f op_0 = some r) (w : World) (hV : Hp) (sV : Sub hV (hp w))  :
    Trip Tryz.prog 138 [.int .u8 op_0].toArray em hV w (fun v => HO.pure (v = .bool r)) := by
 refine Trip.go 6 Tryz.func138 sV (All.nil _) fun see => ?_
 have ho := H
 refine go ?_
 refine SP.val (Val.conv (by rw [Tryz.underlying5]; rfl) Tryz.underlying3 rfl) rfl rfl rfl ?_
 refine go ?_
 obtain rfl := Option.some.inj ho
 exact QE.rt (fun _ h => h)
def op_sign.j3 (op_0 : Int) (b3 : Bool) : Option Int :=
  if b3 = true then (some 5) else (if op_0 = 30 then (some 6) else (if op_0 = 32 then (some 7) else (if op_0 = 28 then (some 8) else (some 0))))
def op_sign.j2 (op_0 : Int) (b2 : Bool) : Option Int :=
  if b2 = true then (some 3) else (if op_0 = 22 then (some 4) else (if op_0 = 26 then (op_sign.j3 op_0 (decide (op_0 = 26))) else (if op_0 = 27 then (op_sign.j3 op_0 (decide (op_0 = 27))) else (op_sign.j3 op_0 (decide (op_0 = 29))))))
def op_sign.j1 (op_0 : Int) (b1 : Bool) : Option Int :=
  if b1 = true then (some 2) else (if op_0 = 4 then (op_sign.j2 op_0 (decide (op_0 = 4))) else (op_sign.j2 op_0 (decide (op_0 = 5))))
def op_sign.f (op_0 : Int) : Option Int :=
  if op_0 = 1 then (some 1) else (if op_0 = 2 then (op_sign.j1 op_0 (decide (op_0 = 2))) else (op_sign.j1 op_0 (decide (op_0 = 3))))
theorem op_sign.ok (op_0 r : Int) (H : op_sign.f op_0 = some r) (w : World) (hV : Hp) (sV : Sub hV (hp w))  :
    Trip Tryz.prog 139 [.int .u8 op_0].toArray em hV w (fun v => HO.pure (v = .int .i64 r)) := by
 refine Trip.go 24 Tryz.func139 sV (All.nil _) fun see => ?_
 have ho := H
 refine go ?_
 refine CP.seq ?_
 refine go ?_
 refine CP.ci ho (fun ho => ?_) fun ho => ?_
 ·refine go ?_
  obtain rfl := Option.some.inj ho
  exact QE.rt (fun _ h => h)
 refine CP.join (fun a w2 => ∃ b1 : Bool, op_sign.j1 op_0 b1 = some r ∧ Env ⟨24, []⟩ [(3, .int .u8 op_0), (6, .bool b1)] a ∧ St w em hV [] [] w2) ?_ ?_
 ·rintro a w2 ⟨b1, ho, ha, hw⟩
  refine CP.app ha hw ?_
  clear ha hw a w2
  refine CP.cb ho (fun ho => ?_) fun ho => ?_
  ·refine go ?_
   obtain rfl := Option.some.inj ho
   exact QE.rt (fun _ h => h)
  refine CP.join (fun a w2 => ∃ b2 : Bool, op_sign.j2 op_0 b2 = some r ∧ Env ⟨24, []⟩ [(3, .int .u8 op_0), (9, .bool b2)] a ∧ St w em hV [] [] w2) ?_ ?_
  ·rintro a w2 ⟨b2, ho, ha, hw⟩
   refine CP.app ha hw ?_
   clear ha hw a w2
   refine CP.cb ho (fun ho => ?_) fun ho => ?_
   ·refine go ?_
    obtain rfl := Option.some.inj ho
    exact QE.rt (fun _ h => h)
   refine go ?_
   refine CP.ci ho (fun ho => ?_) fun ho => ?_
   ·refine go ?_
    obtain rfl := Option.some.inj ho
    exact QE.rt (fun _ h => h)
   refine CP.join (fun a w2 => ∃ b3 : Bool, op_sign.j3 op_0 b3 = some r ∧ Env ⟨24, []⟩ [(3, .int .u8 op_0), (14, .bool b3)] a ∧ St w em hV [] [] w2) ?_ ?_
   ·rintro a w2 ⟨b3, ho, ha, hw⟩
    refine CP.app ha hw ?_
    clear ha hw a w2
    refine CP.cb ho (fun ho => ?_) fun ho => ?_
    ·refine go ?_
     obtain rfl := Option.some.inj ho
     exact QE.rt (fun _ h => h)
    refine go ?_
    refine CP.ci ho (fun ho => ?_) fun ho => ?_
    ·refine go ?_
     obtain rfl := Option.some.inj ho
     exact QE.rt (fun _ h => h)
    refine go ?_
    refine CP.ci ho (fun ho => ?_) fun ho => ?_
    ·refine go ?_
     obtain rfl := Option.some.inj ho
     exact QE.rt (fun _ h => h)
    refine go ?_
    refine CP.ci ho (fun ho => ?_) fun ho => ?_
    ·refine go ?_
     obtain rfl := Option.some.inj ho
     exact QE.rt (fun _ h => h)
    refine go ?_
    obtain rfl := Option.some.inj ho
    exact QE.rt (fun _ h => h)
   refine go ?_
   refine CP.ci ho (fun ho => ?_) fun ho => ?_
   ·refine go ?_
    exact QE.meet fun a w2 ha hw => ⟨(decide (op_0 = 26)), ho, ha.sub sb, hw⟩
   refine go ?_
   refine CP.ci ho (fun ho => ?_) fun ho => ?_
   ·refine go ?_
    exact QE.meet fun a w2 ha hw => ⟨(decide (op_0 = 27)), ho, ha.sub sb, hw⟩
   refine go ?_
   exact QE.meet fun a w2 ha hw => ⟨(decide (op_0 = 29)), ho, ha.sub sb, hw⟩
  refine go ?_
  refine CP.ci ho (fun ho => ?_) fun ho => ?_
  ·refine go ?_
   exact QE.meet fun a w2 ha hw => ⟨(decide (op_0 = 4)), ho, ha.sub sb, hw⟩
  refine go ?_
  exact QE.meet fun a w2 ha hw => ⟨(decide (op_0 = 5)), ho, ha.sub sb, hw⟩
 refine go ?_
 refine CP.ci ho (fun ho => ?_) fun ho => ?_
 ·refine go ?_
  exact QE.meet fun a w2 ha hw => ⟨(decide (op_0 = 2)), ho, ha.sub sb, hw⟩
 refine go ?_
 exact QE.meet fun a w2 ha hw => ⟨(decide (op_0 = 3)), ho, ha.sub sb, hw⟩
def op_Bounds.f (op_0 : Int) : Option (Int × Int) :=
  (op_Known.f op_0).bind fun t1 => if (!t1) = true then (some (0, (-1))) else ((op_sign.f op_0).bind fun t2 => (elt tab0 t2).bind fun x5 => some (x5.e0, x5.e1))
theorem op_Bounds.ok (op_0 : Int)  (r : Int × Int) (H : op_Bounds.f op_0 = some r) (w : World) (hV : Hp) (sV : Sub hV (hp w)) (h0 : (arrP k_arr221 0 tab0).p hV) :
    Trip Tryz.prog 129 [.int .u8 op_0].toArray em hV w (fun v => HO.pure (v = .tuple #[.int .i64 r.1, .int .i64 r.2])) := by
 refine Trip.go 16 Tryz.func129 sV (All.cons (x := arrP k_arr221 0 tab0) h0 (All.nil _)) fun see => ?_
 have ho := H
 refine go ?_
 refine CP.seq ?_
 refine go ?_
 obtain ⟨t1, hc, ho⟩ := bind_some ho
 refine SP.callV see (caps := []) (.bool t1) fn138 rfl rfl rfl rfl (fun w2 hP hs sub ap => op_Known.ok _  _ hc w2 hP sub ) ?_
 clear hc
 refine go ?_
 refine CP.cb ho (fun ho => ?_) fun ho => ?_
 ·refine go ?_
  obtain rfl := Option.some.inj ho
  exact QE.rt (fun _ h => h)
 refine go ?_
 obtain ⟨t2, hc, ho⟩ := bind_some ho
 refine SP.callV see (caps := []) (.int .i64 t2) fn139 rfl rfl rfl rfl (fun w2 hP hs sub ap => op_sign.ok _  _ hc w2 hP sub ) ?_
 clear hc
 obtain ⟨x5, hx, ho⟩ := elt_bind ho
 refine SP.indexG see 0 rfl Tryz.underlying222 rfl sz221 hx.1 hx.2 rfl rfl rfl rfl (fun p3 => ?_)
 clear hx
 refine k_arr221.load see 0 rfl Tryz.underlying221 rfl sz221 rfl rfl rfl ?_
 refine SP.alloc (cs := [.int .i64 0, .int .i64 0]) inf221 rfl rfl (fun b6 => ?_)
 refine SP.store (v := .agg #[.int .i64 x5.e0, .int .i64 x5.e1]) (vs := [.int .i64 x5.e0, .int .i64 x5.e1]) 0 (by rfl) sz221 (by rfl) (by rfl) (by rfl) (by rfl) (by rfl) (by rfl) ?_
 refine go ?_
 refine CP.seq ?_
 refine CP.drawA (by kernel_rfl) (fun w2 k h => h.drawn k) ?_
 refine DA.ph 0 5 ?_
 refine DT.tv 0 rfl (Val.indexC (off2 := 0) Tryz.underlying221 sz3 (by decide) rfl rfl rfl) ?_
 refine DT.tk 1 ?_
 refine DT.tv 2 rfl (Val.indexC (off2 := 1) Tryz.underlying221 sz3 (by decide) rfl rfl rfl) ?_
 refine DT.tk 3 ?_
 refine DT.tk 4 ?_
 refine DT.next (by kernel_rfl) ?_
 refine DA.one 5 rfl (by kernel_rfl) ?_
 refine go ?_
 refine QE.atA ?_
 refine DA.done (by kernel_rfl) ?_
 refine go ?_
 obtain rfl := Option.some.inj ho
 exact QE.rt (fun _ h => h)
def op_May.f (i_0 : api_Instr) : Option Bool :=
  (op_Bounds.f i_0.Op).bind fun t3 => some (((decide (i_0.A ≥ t3.1)) && (decide (i_0.A ≤ t3.2))) && (decide (i_0.B = 0)))
theorem op_May.ok (i_0 : api_Instr)  (r : Bool) (H : op_May.f i_0 = some r) (w : World) (hV : Hp) (sV : Sub hV (hp w)) (h0 : (arrP k_arr221 0 tab0).p hV) :
    Trip Tryz.prog 104 [.agg #[.int .u8 i_0.Op, .int .i64 i_0.A, .int .i64 i_0.B]].toArray em hV w (fun v => HO.pure (v = .bool r)) := by
 refine Trip.go 26 Tryz.func104 sV (All.cons (x := arrP k_arr221 0 tab0) h0 (All.nil _)) fun see => ?_
 have ho := H
 refine go ?_
 refine SP.box rfl rfl rfl rfl fun b1 => ?_
 refine go ?_
 obtain ⟨t3, hc, ho⟩ := bind_some ho
 refine SP.callV see (caps := []) (.tuple #[.int .i64 t3.1, .int .i64 t3.2]) fn129 rfl rfl rfl rfl (fun w2 hP hs sub ap => op_Bounds.ok _  _ hc w2 hP sub (ap.get 0 rfl)) ?_
 clear hc
 refine go ?_
 refine SP.jn 5 [1] 20 (.bool ((decide (i_0.A ≥ t3.1)) && (decide (i_0.A ≤ t3.2)))) ?_ ?_
 ·refine go ?_
  refine SP.jn 4 [] 25 (.bool (((decide (i_0.A ≥ t3.1)) && (decide (i_0.A ≤ t3.2))) && (decide (i_0.B = 0)))) ?_ ?_
  ·refine go ?_
   obtain rfl := Option.some.inj ho
   exact QE.rt (fun _ h => h)
  refine SP.bb 21 (fun hq7 => ?_) fun hq7 => ?_
  ·refine go ?_
   exact QE.jb (and_t hq7 rfl) fun w2 hw => hw
  refine go ?_
  exact QE.jb (and_f hq7) fun w2 hw => hw
 refine SP.bb 15 (fun hq5 => ?_) fun hq5 => ?_
 ·refine go ?_
  exact QE.jb (and_t hq5 rfl) fun w2 hw => hw
 refine go ?_
 exact QE.jb (and_f hq5) fun w2 hw => hw
def flow_Loops_1.f (i_0 : api_Instr) : Option Bool :=
  (op_May.f i_0).bind fun t3 => some (!t3)
theorem flow_Loops_1.ok (i_0 : api_Instr)  (r : Bool) (H : flow_Loops_1.f i_0 = some r) (w : World) (hV : Hp) (sV : Sub hV (hp w)) (h0 : (arrP k_arr221 0 tab0).p hV) :
    Trip Tryz.prog 103 [.agg #[.int .u8 i_0.Op, .int .i64 i_0.A, .int .i64 i_0.B]].toArray em hV w (fun v => HO.pure (v = .bool r)) := by
 refine Trip.go 6 Tryz.func103 sV (All.cons (x := arrP k_arr221 0 tab0) h0 (All.nil _)) fun see => ?_
 have ho := H
 refine go ?_
 refine SP.box rfl rfl rfl rfl fun b1 => ?_
 refine go ?_
 refine SP.val (Val.loadA 0 rfl Tryz.underlying71 rfl sz71 rfl rfl rfl) rfl rfl rfl ?_
 obtain ⟨t3, hc, ho⟩ := bind_some ho
 refine SP.callV see (caps := []) (.bool t3) fn104 rfl rfl rfl rfl (fun w2 hP hs sub ap => op_May.ok _  _ hc w2 hP sub (ap.get 0 rfl)) ?_
 clear hc
 refine go ?_
 obtain rfl := Option.some.inj ho
 exact QE.rt (fun _ h => h)
inductive slices_IndexFunc_api_Instr_api_Instr_s1.S where
  | start
  | l1 (x7 : Int)
def slices_IndexFunc_api_Instr_api_Instr_s1.F (s_0 : (List api_Instr)) : slices_IndexFunc_api_Instr_api_Instr_s1.S → Option (slices_IndexFunc_api_Instr_api_Instr_s1.S ⊕ Int)
  | .start => some (.inl (.l1 0))
  | .l1 x7 => if x7 < (s_0.length : Int) then ((elt s_0 x7).bind fun x11 => (flow_Loops_1.f x11).bind fun t12 => if t12 = true then (some (.inr x7)) else (some (.inl (.l1 (IntKind.i64.wrap (x7 + 1)))))) else (some (.inr (-1)))
def slices_IndexFunc_api_Instr_api_Instr_s1.f (s_0 : (List api_Instr)) : Option Int := runF (slices_IndexFunc_api_Instr_api_Instr_s1.F s_0) .start
theorem slices_IndexFunc_api_Instr_api_Instr_s1.ok (s_0 : (List api_Instr)) (v_s_0 : Value)  (r : Int) (H : slices_IndexFunc_api_Instr_api_Instr_s1.f s_0 = some r) (w : World) (hV : Hp) (sV : Sub hV (hp w)) (h0 : slR k_api_Instr hV v_s_0 s_0) (h1 : (arrP k_arr221 0 tab0).p hV) :
    Trip Tryz.prog 73 [v_s_0, .func (.func 103) #[] #[]].toArray em hV w (fun v => HO.pure (v = .int .i64 r)) := by
 refine Trip.go 19 Tryz.func73 sV (aS h0 (All.cons (x := arrP k_arr221 0 tab0) h1 (All.nil _))) fun see => ?_
 obtain ⟨n0, hi⟩ := runF_iff.1 H
 obtain ⟨m0, o, hm0, ho, hr⟩ := iter_some hi
 clear hi
 refine go ?_
 refine CP.seq ?_
 refine go ?_
 obtain rfl := Option.some.inj ho
 refine CP.loop (fun cl1 a w2 => ∃ x7 : Int, cl1 ≤ m0 ∧ iter (slices_IndexFunc_api_Instr_api_Instr_s1.F s_0) cl1 (.l1 x7) = some r ∧ Env ⟨19, []⟩ [(0, v_s_0), (1, .func (.func 103) #[] #[]), (7, .int .i64 (s_0.length : Int)), (8, .int .i64 x7)] a ∧ St w em hV [slP k_api_Instr v_s_0 s_0, arrP k_arr221 0 tab0] [] w2) m0 (fun a w2 ha hw => ⟨0, Nat.le_refl _, hr, ha.sub sb, hw⟩) ?_
 clear hr
 rintro cl1 a w2 ⟨x7, hc_l1, hi, ha, hw⟩
 obtain ⟨m8, o, hm_m8, ho, hr⟩ := iter_some hi
 refine CP.app ha hw ?_
 clear ha hw a w2 hi
 refine go ?_
 refine CP.seq ?_
 refine CP.ci ho (fun ho => ?_) fun ho => ?_
 ·refine go ?_
  refine CP.seq ?_
  refine go ?_
  obtain ⟨x11, hx, ho⟩ := elt_bind ho
  refine SP.indexP see 0 rfl Tryz.underlying39 sz71 hx.1 hx.2 rfl rfl rfl rfl (fun p9 => ?_)
  clear hx
  refine k_api_Instr.load see 0 rfl Tryz.underlying71 rfl sz71 rfl rfl rfl ?_
  obtain ⟨t12, hc, ho⟩ := bind_some ho
  refine SP.callV see (caps := []) (.bool t12) fn103 rfl rfl rfl rfl (fun w2 hP hs sub ap => flow_Loops_1.ok _  _ hc w2 hP sub (ap.get 2 rfl)) ?_
  clear hc
  refine go ?_
  refine CP.cb ho (fun ho => ?_) fun ho => ?_
  ·refine go ?_
   obtain rfl := fin ho hr
   exact QE.rt (fun _ h => h)
  refine go ?_
  obtain rfl := Option.some.inj ho
  exact QE.lower m8 (by omega) fun a w2 ha hw => ⟨(IntKind.i64.wrap (x7 + 1)), (by omega), hr, ha.sub sb, (St.selP [1, 2] rfl hw)⟩
 refine go ?_
 obtain rfl := fin ho hr
 exact QE.rt (fun _ h => h)
def slices_ContainsFunc_api_Instr_api_Instr_s1.f (s_0 : (List api_Instr)) : Option Bool :=
  (slices_IndexFunc_api_Instr_api_Instr_s1.f s_0).bind fun t2 => some (decide (t2 ≥ 0))
theorem slices_ContainsFunc_api_Instr_api_Instr_s1.ok (s_0 : (List api_Instr)) (v_s_0 : Value)  (r : Bool) (H : slices_ContainsFunc_api_Instr_api_Instr_s1.f s_0 = some r) (w : World) (hV : Hp) (sV : Sub hV (hp w)) (h0 : slR k_api_Instr hV v_s_0 s_0) (h1 : (arrP k_arr221 0 tab0).p hV) :
    Trip Tryz.prog 44 [v_s_0, .func (.func 103) #[] #[]].toArray em hV w (fun v => HO.pure (v = .bool r)) := by
 refine Trip.go 9 Tryz.func44 sV (aS h0 (All.cons (x := arrP k_arr221 0 tab0) h1 (All.nil _))) fun see => ?_
 have ho := H
 refine go ?_
 obtain ⟨t2, hc, ho⟩ := bind_some ho
 refine SP.callV see (caps := []) (.int .i64 t2) fn73 rfl rfl rfl rfl (fun w2 hP hs sub ap => slices_IndexFunc_api_Instr_api_Instr_s1.ok _ _ _ hc w2 hP sub (ap.get 0 rfl) (ap.get 1 rfl)) ?_
 clear hc
 refine go ?_
 obtain rfl := Option.some.inj ho
 exact QE.rt (fun _ h => h)
def flow_open_push_s2.f (l2 : List Int) (a0_3 : Int) (a1 : Int) : Option (Bool × (List Int) × Int) :=
  if a0_3 = 4 then (some (false, l2, a0_3)) else ((elt l2 a0_3).bind fun x4 => some (true, l2.set a0_3.toNat a1, IntKind.i64.wrap (a0_3 + 1)))
theorem flow_open_push_s2.ok (l2 : List Int) (a0_3 a1 : Int)  (r : Bool × (List Int) × Int) (H : flow_open_push_s2.f l2 a0_3 a1 = some r) (w : World) (hV : Hp) (sV : Sub hV (hp w))  (b1 : Nat) (hA : Hp) (sA : Sub hA (hp w)) (dA : Dj hV hA) (hI : (arrO b1 [] (fun z : Int => Value.int .i64 z) 4 l2 [.int .i64 a0_3] 180).p hV hA) :
    Trip Tryz.prog 105 [.pointer (some ⟨b1, 0, none⟩), .int .i64 a1].toArray hA hV w (fun v => HO.pand (v = .bool r.1) (HO.seps [arrO b1 [] (fun z : Int => Value.int .i64 z) 4 r.2.1 [.int .i64 r.2.2] 180])) := by
 have see : Sees w hA hV := ⟨sV, dA⟩
 refine Trip.of (P := Tryz.prog) (n := ⟨26, []⟩) Tryz.func105 rfl ⟨rfl, rfl⟩ rfl (St.beginA (os := [arrO b1 [] (fun z : Int => Value.int .i64 z) 4 l2 [.int .i64 a0_3] 180]) sA (All.nil _) ⟨hA, em, Dj.em_right _, Sub.refl _, Sub.em _, hI, trivial⟩) ?_
 have ho := H
 refine go ?_
 refine CP.seq ?_
 refine go ?_
 refine SP.val (Val.loadArrPost (k := 0) 0 rfl Tryz.underlying3 rfl rfl rfl rfl) rfl rfl rfl ?_
 refine go ?_
 refine CP.ci ho (fun ho => ?_) fun ho => ?_
 ·refine go ?_
  obtain rfl := Option.some.inj ho
  exact QE.rt (fun _ h => St.selO [0] rfl rfl h)
 refine go ?_
 refine CP.seq ?_
 refine CP.drawA (by kernel_rfl) (fun w2 k h => h.drawn k) ?_
 refine DA.ph 0 8 ?_
 refine DT.tk 0 ?_
 refine DT.tk 1 ?_
 refine DT.tk 2 ?_
 refine DT.tk 3 ?_
 refine DT.tv 4 rfl (Val.loadArrPost (k := 0) 0 rfl Tryz.underlying3 rfl rfl rfl rfl) ?_
 refine DT.tk 5 ?_
 refine DT.tk 6 ?_
 refine DT.tk 7 ?_
 refine DT.next (by kernel_rfl) ?_
 refine DA.one 8 rfl (by kernel_rfl) ?_
 obtain ⟨x4, hx_x4, ho⟩ := elt_bind ho
 refine SP.val (Val.indexArr 0 rfl Tryz.underlying178 sz3 hx_x4.1 hx_x4.2 rfl rfl rfl) rfl rfl rfl ?_
 refine go ?_
 refine QE.atA ?_
 refine DA.one 9 rfl (by kernel_rfl) ?_
 refine SP.storeArr 0 rfl sz3 rfl hx_x4.2 rfl rfl rfl (fun _ => rfl) (fun _ => rfl) ?_
 refine go ?_
 refine QE.atA ?_
 refine DA.done (by kernel_rfl) ?_
 refine go ?_
 refine SP.val (Val.loadArrPost (k := 0) 0 rfl Tryz.underlying3 rfl rfl rfl rfl) rfl rfl rfl ?_
 refine go ?_
 refine SP.storeArrPost (k := 0) 0 rfl sz3 rfl rfl rfl rfl rfl rfl rfl ?_
 refine go ?_
 obtain rfl := Option.some.inj ho
 exact QE.rt (fun _ h => St.selO [0] rfl rfl h)
def flow_open_pop_s2.j1 (l2 : List Int) (a0_3 : Int) (a1 : Int) (b10 : Bool) : Option (Bool × (List Int) × Int) :=
  if b10 = true then (some (false, l2, a0_3)) else (some (true, l2, IntKind.i64.wrap (a0_3 - 1)))
def flow_open_pop_s2.f (l2 : List Int) (a0_3 : Int) (a1 : Int) : Option (Bool × (List Int) × Int) :=
  if a0_3 = 0 then (flow_open_pop_s2.j1 l2 a0_3 a1 true) else ((elt l2 (IntKind.i64.wrap (a0_3 - 1))).bind fun x9 => flow_open_pop_s2.j1 l2 a0_3 a1 (decide (x9 ≠ a1)))
theorem flow_open_pop_s2.ok (l2 : List Int) (a0_3 a1 : Int)  (r : Bool × (List Int) × Int) (H : flow_open_pop_s2.f l2 a0_3 a1 = some r) (w : World) (hV : Hp) (sV : Sub hV (hp w))  (b1 : Nat) (hA : Hp) (sA : Sub hA (hp w)) (dA : Dj hV hA) (hI : (arrO b1 [] (fun z : Int => Value.int .i64 z) 4 l2 [.int .i64 a0_3] 180).p hV hA) :
    Trip Tryz.prog 106 [.pointer (some ⟨b1, 0, none⟩), .int .i64 a1].toArray hA hV w (fun v => HO.pand (v = .bool r.1) (HO.seps [arrO b1 [] (fun z : Int => Value.int .i64 z) 4 r.2.1 [.int .i64 r.2.2] 180])) := by
 have see : Sees w hA hV := ⟨sV, dA⟩
 refine Trip.of (P := Tryz.prog) (n := ⟨31, []⟩) Tryz.func106 rfl ⟨rfl, rfl⟩ rfl (St.beginA (os := [arrO b1 [] (fun z : Int => Value.int .i64 z) 4 l2 [.int .i64 a0_3] 180]) sA (All.nil _) ⟨hA, em, Dj.em_right _, Sub.refl _, Sub.em _, hI, trivial⟩) ?_
 have ho := H
 refine go ?_
 refine CP.seq ?_
 refine CP.join (fun a w2 => ∃ b10 : Bool, flow_open_pop_s2.j1 l2 a0_3 a1 b10 = some r ∧ Env ⟨31, []⟩ [(0, .pointer (some ⟨b1, 0, none⟩)), (23, .bool b10)] a ∧ St w hA hV [] [arrO b1 [] (fun z : Int => Value.int .i64 z) 4 l2 [.int .i64 a0_3] 180] w2) ?_ ?_
 ·rintro a w2 ⟨b10, ho, ha, hw⟩
  refine CP.app ha hw ?_
  clear ha hw a w2
  refine CP.cb ho (fun ho => ?_) fun ho => ?_
  ·refine go ?_
   obtain rfl := Option.some.inj ho
   exact QE.rt (fun _ h => St.selO [0] rfl rfl h)
  refine go ?_
  refine SP.val (Val.loadArrPost (k := 0) 0 rfl Tryz.underlying3 rfl rfl rfl rfl) rfl rfl rfl ?_
  refine go ?_
  refine SP.storeArrPost (k := 0) 0 rfl sz3 rfl rfl rfl rfl rfl rfl rfl ?_
  refine go ?_
  obtain rfl := Option.some.inj ho
  exact QE.rt (fun _ h => St.selO [0] rfl rfl h)
 refine CP.drawA (by kernel_rfl) (fun w2 k h => h.drawn k) ?_
 refine DA.one 0 rfl (by kernel_rfl) ?_
 refine go ?_
 refine QE.atA ?_
 refine DA.one 1 rfl (by kernel_rfl) ?_
 refine go ?_
 refine QE.atA ?_
 refine DA.one 2 rfl (by kernel_rfl) ?_
 refine go ?_
 refine QE.atA ?_
 refine DA.one 3 rfl (by kernel_rfl) ?_
 refine SP.val (Val.loadArrPost (k := 0) 0 rfl Tryz.underlying3 rfl rfl rfl rfl) rfl rfl rfl ?_
 refine go ?_
 refine QE.atA ?_
 refine DA.one 4 rfl (by kernel_rfl) ?_
 refine go ?_
 refine QE.atA ?_
 refine DA.one 5 rfl (by kernel_rfl) ?_
 refine go ?_
 refine QE.atA ?_
 rcases if_some ho with ⟨hc, ho⟩ | ⟨hc, ho⟩
 ·have hg4 := (decide_eq_true hc)
  clear hc
  refine DA.ph 6 17 ?_
  refine DT.is (d := 10) (b := true) rfl hg4 ?_
  refine DT.tn 6 ?_
  refine DT.tn 7 ?_
  refine DT.tn 8 ?_
  refine DT.tn 9 ?_
  refine DT.tn 10 ?_
  refine DT.tn 11 ?_
  refine DT.tn 12 ?_
  refine DT.tn 13 ?_
  refine DT.tn 14 ?_
  refine DT.tn 15 ?_
  refine DT.tn 16 ?_
  refine DT.next (by kernel_rfl) ?_
  refine DA.ph 17 18 ?_
  refine DT.tn 17 ?_
  refine DT.next (by kernel_rfl) ?_
  refine DA.one 18 rfl (by kernel_rfl) ?_
  refine go ?_
  refine QE.atA ?_
  refine DA.done (by kernel_rfl) ?_
  exact QE.meet fun a w2 ha hw => ⟨true, ho, ha.sub sb, hw⟩
 have hg5 := (decide_eq_false hc)
 clear hc
 refine DA.ph 6 17 ?_
 refine DT.is (d := 10) (b := false) rfl hg5 ?_
 refine DT.tk 6 ?_
 refine DT.tk 7 ?_
 refine DT.tk 8 ?_
 refine DT.tk 9 ?_
 refine DT.tv 10 rfl (Val.loadArrPost (k := 0) 0 rfl Tryz.underlying3 rfl rfl rfl rfl) ?_
 refine DT.tk 11 ?_
 refine DT.tk 12 ?_
 refine DT.tk 13 ?_
 refine DT.tk 16 ?_
 refine DT.one 14 rfl (by kernel_rfl) rfl ?_
 obtain ⟨x9, hx_x9, ho⟩ := elt_bind ho
 refine SP.val (Val.indexArr 0 rfl Tryz.underlying178 sz3 hx_x9.1 hx_x9.2 rfl rfl rfl) rfl rfl rfl ?_
 refine go ?_
 refine QE.atT (fun w2 hw => hw) ?_
 refine DT.tv 15 rfl (Val.loadArr 0 rfl Tryz.underlying3 rfl hx_x9.2 rfl rfl) ?_
 refine DT.next (by kernel_rfl) ?_
 refine DA.one 17 rfl (by kernel_rfl) ?_
 refine go ?_
 refine QE.atA ?_
 refine DA.one 18 rfl (by kernel_rfl) ?_
 refine go ?_
 refine QE.atA ?_
 refine DA.done (by kernel_rfl) ?_
 exact QE.meet fun a w2 ha hw => ⟨(decide (x9 ≠ a1)), ho, ha.sub sb, hw⟩
def flow_last.f (i_0 : api_Instr) : Option Bool :=
  some ((decide (i_0.Op = 31)) || (decide (i_0.Op = 32)))
theorem flow_last.ok (i_0 : api_Instr)  (r : Bool) (H : flow_last.f i_0 = some r) (w : World) (hV : Hp) (sV : Sub hV (hp w))  :
    Trip Tryz.prog 107 [.agg #[.int .u8 i_0.Op, .int .i64 i_0.A, .int .i64 i_0.B]].toArray em hV w (fun v => HO.pure (v = .bool r)) := by
 refine Trip.go 11 Tryz.func107 sV (All.nil _) fun see => ?_
 have ho := H
 refine go ?_
 refine SP.box rfl rfl rfl rfl fun b1 => ?_
 refine go ?_
 refine SP.jn 4 [] 10 (.bool ((decide (i_0.Op = 31)) || (decide (i_0.Op = 32)))) ?_ ?_
 ·refine go ?_
  obtain rfl := Option.some.inj ho
  exact QE.rt (fun _ h => h)
 refine SP.bb 6 (fun hq4 => ?_) fun hq4 => ?_
 ·refine go ?_
  exact QE.jb (or_t hq4) fun w2 hw => hw
 refine go ?_
 exact QE.jb (or_f hq4 rfl) fun w2 hw => hw
def flow_Loop_has.f (x_0 : flow_Loop) (a1 : Int) : Option Bool :=
  some ((decide (a1 > x_0.From)) && (decide (a1 ≤ x_0.To)))
theorem flow_Loop_has.ok (x_0 : flow_Loop) (a1 : Int)  (r : Bool) (H : flow_Loop_has.f x_0 a1 = some r) (w : World) (hV : Hp) (sV : Sub hV (hp w))  :
    Trip Tryz.prog 131 [.agg #[.int .i64 x_0.From, .int .i64 x_0.To, .int .i64 x_0.Turns], .int .i64 a1].toArray em hV w (fun v => HO.pure (v = .bool r)) := by
 refine Trip.go 15 Tryz.func131 sV (All.nil _) fun see => ?_
 have ho := H
 refine go ?_
 refine SP.box rfl rfl rfl rfl fun b1 => ?_
 refine go ?_
 refine SP.jn 5 [] 14 (.bool ((decide (a1 > x_0.From)) && (decide (a1 ≤ x_0.To)))) ?_ ?_
 ·refine go ?_
  obtain rfl := Option.some.inj ho
  exact QE.rt (fun _ h => h)
 refine SP.bb 9 (fun hq4 => ?_) fun hq4 => ?_
 ·refine go ?_
  exact QE.jb (and_t hq4 rfl) fun w2 hw => hw
 refine go ?_
 exact QE.jb (and_f hq4) fun w2 hw => hw
def flow_jumps_1_s1.f (x_0 : flow_Loop) (c0_1 : Int) (c0_2 : Int) (c0_3 : Int) (c1_6 : Int) : Option Bool :=
  (flow_Loop_has.f x_0 c0_2).bind fun t11 => (if t11 = true then ((flow_Loop_has.f x_0 c1_6).bind fun t14 => some (!t14)) else (some false)).bind fun t15 => some t15
theorem flow_jumps_1_s1.ok (x_0 : flow_Loop) (c0_1 c0_2 : Int) (c0_3 c1_6 : Int) (b4 : Nat) (b7 : Nat) (r : Bool) (H : flow_jumps_1_s1.f x_0 c0_1 c0_2 c0_3 c1_6 = some r) (w : World) (hV : Hp) (sV : Sub hV (hp w)) (h0 : (boxP b4 [.int .u8 c0_1, .int .i64 c0_2, .int .i64 c0_3] 71).p hV) (h1 : (boxP b7 [.int .i64 c1_6] 3).p hV) :
    Trip Tryz.prog 130 [.agg #[.int .i64 x_0.From, .int .i64 x_0.To, .int .i64 x_0.Turns], .pointer (some ⟨b4, 0, none⟩), .pointer (some ⟨b7, 0, none⟩)].toArray em hV w (fun v => HO.pure (v = .bool r)) := by
 refine Trip.go 15 Tryz.func130 sV (All.cons (x := boxP b4 [.int .u8 c0_1, .int .i64 c0_2, .int .i64 c0_3] 71) h0 (All.cons (x := boxP b7 [.int .i64 c1_6] 3) h1 (All.nil _))) fun see => ?_
 have ho := H
 refine go ?_
 refine SP.box rfl rfl rfl rfl fun b9 => ?_
 refine go ?_
 refine SP.val (Val.loadA 0 rfl Tryz.underlying152 rfl sz152 rfl rfl rfl) rfl rfl rfl ?_
 refine SP.val (Val.fieldAddr Tryz.underlying71 rfl sz3 rfl) rfl rfl rfl ?_
 refine SP.val (Val.loadB1 see 0 rfl Tryz.underlying3 rfl rfl rfl) rfl rfl rfl ?_
 obtain ⟨t11, hc, ho⟩ := bind_some ho
 refine SP.callV see (caps := []) (.bool t11) fn131 rfl rfl rfl rfl (fun w2 hP hs sub ap => flow_Loop_has.ok _ _  _ hc w2 hP sub ) ?_
 clear hc
 refine go ?_
 obtain ⟨t15, hg_t15, ho⟩ := bind_some ho
 refine SP.jn 5 [] 14 (.bool t15) ?_ ?_
 ·clear hg_t15
  refine go ?_
  obtain rfl := Option.some.inj ho
  exact QE.rt (fun _ h => h)
 refine SP.cb 9 hg_t15 (fun hq13 ho => ?_) fun hq13 ho => ?_
 ·refine SP.val (Val.loadA 0 rfl Tryz.underlying152 rfl sz152 rfl rfl rfl) rfl rfl rfl ?_
  refine SP.val (Val.loadB1 see 1 rfl Tryz.underlying3 rfl rfl rfl) rfl rfl rfl ?_
  obtain ⟨t14, hc, ho⟩ := bind_some ho
  refine SP.callV see (caps := []) (.bool t14) fn131 rfl rfl rfl rfl (fun w2 hP hs sub ap => flow_Loop_has.ok _ _  _ hc w2 hP sub ) ?_
  clear hc
  refine go ?_
  obtain rfl := Option.some.inj ho
  exact QE.jn fun w2 hw => hw
 refine go ?_
 obtain rfl := Option.some.inj ho
 exact QE.jn fun w2 hw => hw
inductive slices_IndexFunc_flow_Loop_flow_Loop_s1.S where
  | start
  | l1 (x15 : Int)
def slices_IndexFunc_flow_Loop_flow_Loop_s1.F (s_0 : (List flow_Loop)) (f_1_2 : Int) (f_1_3 : Int) (f_1_4 : Int) (f_1_7 : Int) : slices_IndexFunc_flow_Loop_flow_Loop_s1.S → Option (slices_IndexFunc_flow_Loop_flow_Loop_s1.S ⊕ Int)
  | .start => some (.inl (.l1 0))
  | .l1 x15 => if x15 < (s_0.length : Int) then ((elt s_0 x15).bind fun x19 => (flow_jumps_1_s1.f x19 f_1_2 f_1_3 f_1_4 f_1_7).bind fun t20 => if t20 = true then (some (.inr x15)) else (some (.inl (.l1 (IntKind.i64.wrap (x15 + 1)))))) else (some (.inr (-1)))
def slices_IndexFunc_flow_Loop_flow_Loop_s1.f (s_0 : (List flow_Loop)) (f_1_2 : Int) (f_1_3 : Int) (f_1_4 : Int) (f_1_7 : Int) : Option Int := runF (slices_IndexFunc_flow_Loop_flow_Loop_s1.F s_0 f_1_2 f_1_3 f_1_4 f_1_7) .start
theorem slices_IndexFunc_flow_Loop_flow_Loop_s1.ok (s_0 : (List flow_Loop)) (f_1_2 f_1_3 : Int) (f_1_4 f_1_7 : Int) (v_s_0 : Value) (b5 : Nat) (b8 : Nat) (r : Int) (H : slices_IndexFunc_flow_Loop_flow_Loop_s1.f s_0 f_1_2 f_1_3 f_1_4 f_1_7 = some r) (w : World) (hV : Hp) (sV : Sub hV (hp w)) (h0 : slR k_flow_Loop hV v_s_0 s_0) (h1 : (boxP b5 [.int .u8 f_1_2, .int .i64 f_1_3, .int .i64 f_1_4] 71).p hV) (h2 : (boxP b8 [.int .i64 f_1_7] 3).p hV) :
    Trip Tryz.prog 145 [v_s_0, .func (.func 130) #[] #[.pointer (some ⟨b5, 0, none⟩), .pointer (some ⟨b8, 0, none⟩)]].toArray em hV w (fun v => HO.pure (v = .int .i64 r)) := by
 refine Trip.go 19 Tryz.func145 sV (aS h0 (All.cons (x := boxP b5 [.int .u8 f_1_2, .int .i64 f_1_3, .int .i64 f_1_4] 71) h1 (All.cons (x := boxP b8 [.int .i64 f_1_7] 3) h2 (All.nil _)))) fun see => ?_
 obtain ⟨n0, hi⟩ := runF_iff.1 H
 obtain ⟨m0, o, hm0, ho, hr⟩ := iter_some hi
 clear hi
 refine go ?_
 refine CP.seq ?_
 refine go ?_
 obtain rfl := Option.some.inj ho
 refine CP.loop (fun cl1 a w2 => ∃ x15 : Int, cl1 ≤ m0 ∧ iter (slices_IndexFunc_flow_Loop_flow_Loop_s1.F s_0 f_1_2 f_1_3 f_1_4 f_1_7) cl1 (.l1 x15) = some r ∧ Env ⟨19, []⟩ [(0, v_s_0), (1, .func (.func 130) #[] #[.pointer (some ⟨b5, 0, none⟩), .pointer (some ⟨b8, 0, none⟩)]), (7, .int .i64 (s_0.length : Int)), (8, .int .i64 x15)] a ∧ St w em hV [slP k_flow_Loop v_s_0 s_0, boxP b5 [.int .u8 f_1_2, .int .i64 f_1_3, .int .i64 f_1_4] 71, boxP b8 [.int .i64 f_1_7] 3] [] w2) m0 (fun a w2 ha hw => ⟨0, Nat.le_refl _, hr, ha.sub sb, hw⟩) ?_
 clear hr
 rintro cl1 a w2 ⟨x15, hc_l1, hi, ha, hw⟩
 obtain ⟨m16, o, hm_m16, ho, hr⟩ := iter_some hi
 refine CP.app ha hw ?_
 clear ha hw a w2 hi
 refine go ?_
 refine CP.seq ?_
 refine CP.ci ho (fun ho => ?_) fun ho => ?_
 ·refine go ?_
  refine CP.seq ?_
  refine go ?_
  obtain ⟨x19, hx, ho⟩ := elt_bind ho
  refine SP.indexP see 0 rfl Tryz.underlying138 sz152 hx.1 hx.2 rfl rfl rfl rfl (fun p17 => ?_)
  clear hx
  refine k_flow_Loop.load see 0 rfl Tryz.underlying152 rfl sz152 rfl rfl rfl ?_
  obtain ⟨t20, hc, ho⟩ := bind_some ho
  refine SP.callV see (caps := [.pointer (some ⟨b5, 0, none⟩), .pointer (some ⟨b8, 0, none⟩)]) (.bool t20) fn130 rfl rfl rfl rfl (fun w2 hP hs sub ap => flow_jumps_1_s1.ok _ _ _ _ _ _ _ _ hc w2 hP sub (ap.get 2 rfl) (ap.get 3 rfl)) ?_
  clear hc
  refine go ?_
  refine CP.cb ho (fun ho => ?_) fun ho => ?_
  ·refine go ?_
   obtain rfl := fin ho hr
   exact QE.rt (fun _ h => h)
  refine go ?_
  obtain rfl := Option.some.inj ho
  exact QE.lower m16 (by omega) fun a w2 ha hw => ⟨(IntKind.i64.wrap (x15 + 1)), (by omega), hr, ha.sub sb, (St.selP [1, 2, 3] rfl hw)⟩
 refine go ?_
 obtain rfl := fin ho hr
 exact QE.rt (fun _ h => h)
def slices_ContainsFunc_flow_Loop_flow_Loop_s1.f (s_0 : (List flow_Loop)) (f_1_2 : Int) (f_1_3 : Int) (f_1_4 : Int) (f_1_7 : Int) : Option Bool :=
  (slices_IndexFunc_flow_Loop_flow_Loop_s1.f s_0 f_1_2 f_1_3 f_1_4 f_1_7).bind fun t10 => some (decide (t10 ≥ 0))
theorem slices_ContainsFunc_flow_Loop_flow_Loop_s1.ok (s_0 : (List flow_Loop)) (f_1_2 f_1_3 : Int) (f_1_4 f_1_7 : Int) (v_s_0 : Value) (b5 : Nat) (b8 : Nat) (r : Bool) (H : slices_ContainsFunc_flow_Loop_flow_Loop_s1.f s_0 f_1_2 f_1_3 f_1_4 f_1_7 = some r) (w : World) (hV : Hp) (sV : Sub hV (hp w)) (h0 : slR k_flow_Loop hV v_s_0 s_0) (h1 : (boxP b5 [.int .u8 f_1_2, .int .i64 f_1_3, .int .i64 f_1_4] 71).p hV) (h2 : (boxP b8 [.int .i64 f_1_7] 3).p hV) :
    Trip Tryz.prog 132 [v_s_0, .func (.func 130) #[] #[.pointer (some ⟨b5, 0, none⟩), .pointer (some ⟨b8, 0, none⟩)]].toArray em hV w (fun v => HO.pure (v = .bool r)) := by
 refine Trip.go 9 Tryz.func132 sV (aS h0 (All.cons (x := boxP b5 [.int .u8 f_1_2, .int .i64 f_1_3, .int .i64 f_1_4] 71) h1 (All.cons (x := boxP b8 [.int .i64 f_1_7] 3) h2 (All.nil _)))) fun see => ?_
 have ho := H
 refine go ?_
 obtain ⟨t10, hc, ho⟩ := bind_some ho
 refine SP.callV see (caps := []) (.int .i64 t10) fn145 rfl rfl rfl rfl (fun w2 hP hs sub ap => slices_IndexFunc_flow_Loop_flow_Loop_s1.ok _ _ _ _ _ _ _ _ _ hc w2 hP sub (ap.get 0 rfl) (ap.get 1 rfl) (ap.get 2 rfl)) ?_
 clear hc
 refine go ?_
 obtain rfl := Option.some.inj ho
 exact QE.rt (fun _ h => h)
inductive flow_jumps.S where
  | start
  | l1 (x27 : Int)
def flow_jumps.j1 (l_0 : (List api_Instr)) (loops_1 : (List flow_Loop)) (x27 : Int) : Option (flow_jumps.S ⊕ Bool) :=
  some (.inl (.l1 (IntKind.i64.wrap (x27 + 1))))
def flow_jumps.F (l_0 : (List api_Instr)) (loops_1 : (List flow_Loop)) : flow_jumps.S → Option (flow_jumps.S ⊕ Bool)
  | .start => some (.inl (.l1 0))
  | .l1 x27 => if x27 < (l_0.length : Int) then ((elt l_0 x27).bind fun x31 => if ((decide (x31.Op ≠ 26)) && (decide (x31.Op ≠ 27))) = true then (flow_jumps.j1 l_0 loops_1 x27) else ((if ((decide (x31.A ≤ x27)) || (decide (x31.A ≥ (l_0.length : Int)))) = true then (some true) else ((slices_ContainsFunc_flow_Loop_flow_Loop_s1.f loops_1 x31.Op x31.A x31.B x27).bind fun t49 => some t49)).bind fun t50 => if t50 = true then (some (.inr false)) else (flow_jumps.j1 l_0 loops_1 x27))) else (some (.inr true))
def flow_jumps.f (l_0 : (List api_Instr)) (loops_1 : (List flow_Loop)) : Option Bool := runF (flow_jumps.F l_0 loops_1) .start
theorem flow_jumps.ok (l_0 : (List api_Instr)) (loops_1 : (List flow_Loop)) (v_l_0 v_loops_1 : Value) (r : Bool) (H : flow_jumps.f l_0 loops_1 = some r) (w : World) (hV : Hp) (sV : Sub hV (hp w)) (h0 : slR k_api_Instr hV v_l_0 l_0) (h1 : slR k_flow_Loop hV v_loops_1 loops_1) :
    Trip Tryz.prog 108 [v_l_0, v_loops_1].toArray em hV w (fun v => HO.pure (v = .bool r)) := by
 refine Trip.go 41 Tryz.func108 sV (aS h0 (aS h1 (All.nil _))) fun see => ?_
 obtain ⟨n0, hi⟩ := runF_iff.1 H
 obtain ⟨m0, o, hm0, ho, hr⟩ := iter_some hi
 clear hi
 refine go ?_
 refine CP.seq ?_
 refine go ?_
 obtain rfl := Option.some.inj ho
 refine CP.loop (fun cl1 a w2 => ∃ x27 : Int, cl1 ≤ m0 ∧ iter (flow_jumps.F l_0 loops_1) cl1 (.l1 x27) = some r ∧ Env ⟨41, []⟩ [(0, v_l_0), (1, v_loops_1), (8, v_l_0), (9, .int .i64 (l_0.length : Int)), (10, .int .i64 x27)] a ∧ St w em hV [slP k_api_Instr v_l_0 l_0, slP k_flow_Loop v_loops_1 loops_1] [] w2) m0 (fun a w2 ha hw => ⟨0, Nat.le_refl _, hr, ha.sub sb, hw⟩) ?_
 clear hr
 rintro cl1 a w2 ⟨x27, hc_l1, hi, ha, hw⟩
 obtain ⟨m28, o, hm_m28, ho, hr⟩ := iter_some hi
 refine CP.app ha hw ?_
 clear ha hw a w2 hi
 refine go ?_
 refine CP.seq ?_
 refine CP.ci ho (fun ho => ?_) fun ho => ?_
 ·refine go ?_
  refine CP.join (fun a w2 => ∃ (m51 : Nat) (o : (flow_jumps.S ⊕ Bool)), m51 ≤ m28 ∧ flow_jumps.j1 l_0 loops_1 x27 = some o ∧ next (flow_jumps.F l_0 loops_1) m51 o = some r ∧ Env ⟨41, []⟩ [(0, v_l_0), (1, v_loops_1), (8, v_l_0), (9, .int .i64 (l_0.length : Int)), (10, .int .i64 x27)] a ∧ St w em hV [slP k_api_Instr v_l_0 l_0, slP k_flow_Loop v_loops_1 loops_1] [] w2) ?_ ?_
  ·rintro a w2 ⟨m51, o, hm_m51, ho, hr, ha, hw⟩
   refine CP.app ha hw ?_
   clear ha hw a w2
   refine go ?_
   obtain rfl := Option.some.inj ho
   exact QE.lower m51 (by omega) fun a w2 ha hw => ⟨(IntKind.i64.wrap (x27 + 1)), (by omega), hr, ha.sub sb, hw⟩
  refine go ?_
  obtain ⟨x31, hx, ho⟩ := elt_bind ho
  refine SP.indexP see 0 rfl Tryz.underlying39 sz71 hx.1 hx.2 rfl rfl rfl rfl (fun p29 => ?_)
  clear hx
  refine k_api_Instr.load see 0 rfl Tryz.underlying71 rfl sz71 rfl rfl rfl ?_
  refine SP.alloc (cs := [.int .i64 0]) inf3 rfl rfl (fun b32 => ?_)
  refine SP.alloc (cs := [.int .u8 0, .int .i64 0, .int .i64 0]) inf71 rfl rfl (fun b34 => ?_)
  refine SP.store (v := .int .i64 x27) (vs := [.int .i64 x27]) 1 (by rfl) sz3 (by rfl) (by rfl) (by rfl) (by rfl) (by rfl) (by rfl) ?_
  refine SP.store (v := .agg #[.int .u8 x31.Op, .int .i64 x31.A, .int .i64 x31.B]) (vs := [.int .u8 x31.Op, .int .i64 x31.A, .int .i64 x31.B]) 0 (by rfl) sz71 (by rfl) (by rfl) (by rfl) (by rfl) (by rfl) (by rfl) ?_
  refine go ?_
  refine CP.seq ?_
  refine go ?_
  refine SP.jn 4 [0, 1, 8, 9, 10, 5, 6] 22 (.bool ((decide (x31.Op ≠ 26)) && (decide (x31.Op ≠ 27)))) ?_ ?_
  ·refine go ?_
   refine CP.cb ho (fun ho => ?_) fun ho => ?_
   ·refine go ?_
    exact QE.meet fun a w2 ha hw => ⟨m28, _, (by omega), ho, hr, ha.sub sb, (St.selP [1, 2] rfl (St.selO [] rfl rfl hw))⟩
   refine go ?_
   refine SP.val (Val.makeFunc (us := []) (vs := [.pointer (some ⟨b34, 0, none⟩), .pointer (some ⟨b32, 0, none⟩)]) rfl rfl) rfl rfl rfl ?_
   refine go ?_
   refine SP.jn 6 [0, 1, 8, 9, 10, 7] 34 (.bool ((decide (x31.A ≤ x27)) || (decide (x31.A ≥ (l_0.length : Int))))) ?_ ?_
   ·refine go ?_
    refine SP.freezeB see 0 rfl ?_
    refine SP.freezeB see 0 rfl ?_
    obtain ⟨t50, hg_t50, ho⟩ := bind_some ho
    refine SP.jn 4 [0, 1, 8, 9, 10] 39 (.bool t50) ?_ ?_
    ·clear hg_t50
     refine go ?_
     refine CP.cb ho (fun ho => ?_) fun ho => ?_
     ·refine go ?_
      obtain rfl := fin ho hr
      exact QE.rt (fun _ h => h)
     refine go ?_
     exact QE.meet fun a w2 ha hw => ⟨m28, _, (by omega), ho, hr, ha.sub sb, (St.selP [3, 4] rfl hw)⟩
    refine SP.cb 35 hg_t50 (fun hq48 ho => ?_) fun hq48 ho => ?_
    ·refine go ?_
     obtain rfl := Option.some.inj ho
     exact QE.jn fun w2 hw => hw
    refine go ?_
    obtain ⟨t49, hc, ho⟩ := bind_some ho
    refine SP.callV see (caps := []) (.bool t49) fn132 rfl rfl rfl rfl (fun w2 hP hs sub ap => slices_ContainsFunc_flow_Loop_flow_Loop_s1.ok _ _ _ _ _ _ _ _ _ hc w2 hP sub (ap.get 4 rfl) (ap.get 1 rfl) (ap.get 0 rfl)) ?_
    clear hc
    refine go ?_
    obtain rfl := Option.some.inj ho
    exact QE.jn fun w2 hw => hw
   refine SP.bb 28 (fun hq39 => ?_) fun hq39 => ?_
   ·refine go ?_
    exact QE.jb (or_t hq39) fun w2 hw => hw
   refine go ?_
   exact QE.jb (or_f hq39 rfl) fun w2 hw => hw
  refine SP.bb 18 (fun hq37 => ?_) fun hq37 => ?_
  ·refine go ?_
   exact QE.jb (and_t hq37 rfl) fun w2 hw => hw
  refine go ?_
  exact QE.jb (and_f hq37) fun w2 hw => hw
 refine go ?_
 obtain rfl := fin ho hr
 exact QE.rt (fun _ h => h)
shelf_lay_g SlLaysF0.n6 Slsf 6 at Tryz 109 as Tryz.sort109
shelf_lay_g SlLaysC2.n5 Slgc 5 at Tryz 111 as Tryz.cmp111
shelf_lay Lays.n125 Nm 125 at Tryz as Tryz.bitsLen70
instance : Inhabited flow_Loop := ⟨flow_Loop.zero⟩
def enc109 (x : flow_Loop) : List Value := [.int .i64 x.From, .int .i64 x.To, .int .i64 x.Turns]
def cf109 (x y : flow_Loop) : Int := Lib.compareInt x.From y.From
theorem lt109 (x y : flow_Loop) : Go.Proofs.ltOf cf109 x y = decide (x.From < y.From) := by
  unfold Go.Proofs.ltOf cf109 Lib.compareInt
  by_cases h1 : x.From < y.From
  · simp [h1]
  · by_cases h2 : y.From < x.From <;> simp [h1, h2]
theorem swo109 : Go.Sort.SWO (Go.Proofs.ltOf cf109) where
  irrefl x := by rw [lt109]; simp
  trans x y z h1 h2 := by rw [lt109] at *; simp at *; omega
  ntrans x y z h1 h2 := by rw [lt109] at *; simp at *; omega
set_option maxHeartbeats 1000000 in
theorem clos109 (x y : flow_Loop) (W : World) : Calls Tryz.prog 110 #[.agg (enc109 x).toArray, .agg (enc109 y).toArray] W fun e w' => e = .returned (.int .i64 (cf109 x y)) ∧ ∃ q os', w' = Go.Sort.grow (W.drewN q) os' := by
  have hcon := fun W' => Go.Proofs.AnyG.cmp_Compare_int Tryz.cmp111 x.From y.From W'
  change ∀ W', Calls Tryz.prog 111 _ _ _ at hcon
  unfold cf109 enc109
  generalize Lib.compareInt x.From y.From = r at hcon ⊢
  go_enter Tryz.func110, Tryz.ntmps110
  go_wp2_with (go_at_call 111; refine (hcon _).mono ?_; rintro e w' ⟨rfl, rfl⟩)
  go_ret
  exact ⟨rfl, 0, _, by rw [Go.Sort.alloc_eq_grow, Go.Sort.alloc_eq_grow, Go.Sort.grow_grow]; rfl⟩
def srt109 (d : Array flow_Loop) : Array flow_Loop := Go.Sort.pdq (Go.Proofs.ltOf cf109) d 0 d.size (Lib.bitLen d.size) true true
theorem srt109_sorts (d : Array flow_Loop) : Go.Sort.PermIn 0 d.size d (srt109 d) ∧ Go.Sort.SortedIn (Go.Proofs.ltOf cf109) 0 d.size (srt109 d) :=
  Go.Sort.pdq_sorts (Go.Proofs.ltOf cf109) swo109 d 0 d.size (Lib.bitLen d.size) true true (Nat.zero_le _) (Nat.le_refl _) (Or.inl rfl)
theorem ins109_nil (F : Value) (w : World) : Calls Tryz.prog 146 #[.slice none 0 0, .int .i64 0, .int .i64 0, F] w fun e w' => e = .returned (.tuple #[]) ∧ w' = w := by
  go_enter Tryz.func146, Tryz.ntmps146
  go_wp2
  refine wp_loop_rounds 1 ?_
  rw [rounds_succ]
  go_wp2
  go_end0
  exact ⟨rfl, rfl⟩
theorem pdq109_nil (F : Value) (w : World) : Calls Tryz.prog 133 #[.slice none 0 0, .int .i64 0, .int .i64 0, .int .i64 0, F] w fun e w' => e = .returned (.tuple #[]) ∧ w' = w := by
  have hi := ins109_nil F w
  go_enter Tryz.func133, Tryz.ntmps133
  go_wp2
  refine wp_loop_rounds 1 ?_
  rw [rounds_succ]
  go_wp2_with (go_at_call 146; refine hi.mono ?_; rintro e w' ⟨rfl, rfl⟩)
  (try simp only [Exit.inBlock, Exit.then]); refine bodyPost_ret (results_none rfl _ _ _) rfl ?_
  exact ⟨rfl, rfl⟩
theorem srt109_nil (F : Value) (w : World) : Calls Tryz.prog 109 #[.slice none 0 0, F] w fun e w' => e = .returned (.tuple #[]) ∧ w' = w := by
  have hi := pdq109_nil F w
  have hl : Calls Tryz.prog 70 #[.int .u64 0] w fun e w' => e = .returned (.int .i64 0) ∧ w' = w := by
    have h := Any.bits_Len Tryz.bitsLen70 0 w (by omega) (by omega)
    exact h
  go_enter Tryz.func109, Tryz.ntmps109
  go_wp2_with (first | (go_at_call 70; refine hl.mono ?_; rintro e w' ⟨rfl, rfl⟩) | (go_at_call 133; refine hi.mono ?_; rintro e w' ⟨rfl, rfl⟩))
  go_end0
  exact ⟨rfl, rfl⟩
theorem srt109_nilT (F : Value) (w : World) (hV : Hp) : Trip Tryz.prog 109 #[.slice none 0 0, F] em hV w (fun v => HO.pure (v = .tuple #[])) :=
  (srt109_nil F w).mono fun e w' ⟨he, hw⟩ => by
    subst hw
    exact ⟨_, he, Met.refl _, fun _ _ e _ => e, em, em, fun _ _ _ => rfl, fun _ _ _ => rfl, Dj.em_left _, Sub.em _, Sub.em _, rfl⟩
theorem srt109_trip {v : Value} {l : List flow_Loop} (hll : l.length < 4611686018427387904) {w : World} {hP h1 : Hp} (sub : Sub hP (hp w)) (s1 : Sub h1 (hp w)) (dj : Dj hP h1) (hI : (slO k_flow_Loop 152 v l).p hP h1) :
    Trip Tryz.prog 109 #[v, .func (.func 110) #[] #[]] h1 hP w (fun r => HO.pand (r = .tuple #[]) (HO.seps [slO k_flow_Loop 152 v (srt109 l.toArray).toList])) := by
  refine slO.rowTrip (fun v => #[v, .func (.func 110) #[] #[]]) (fun _ => .tuple #[]) enc109 (fun h cs x => Iff.rfl) srt109 (fun d => (srt109_sorts d).1.1) (fun blk cap d w hH hb hsz _ _ => ?_) (fun _ w hV sV => ?_) hll sub s1 dj hI
  · exact AnyQ.slices_SortFunc_eq Tryz.sort109 3 Tryz.isAgg152 Tryz.sizeOf152 enc109 (fun _ => rfl) (fun x v hv => by simp [enc109] at hv; rcases hv with rfl | rfl | rfl <;> rfl) cf109 swo109 110 #[] blk 0 cap d w (enters_of Tryz.func110 (by kernel_rfl) rfl) (fun _ _ _ _ x y => clos109 x y _) hH hb hsz
  · exact srt109_nilT _ w hV
inductive flow_Loops.S where
  | start
  | l1 (l52 : List Int) (x53 : Int) (l55 : List flow_Loop) (x57 : Int)
def flow_Loops.j1 (l_0 : (List api_Instr))  : Option (flow_Loops.S ⊕ ((List flow_Loop) × Int)) :=
  some (.inr ([], 90))
def flow_Loops.j2 (l_0 : (List api_Instr)) (x57 : Int) (l80 : List Int) (x81 : Int) (l83 : List flow_Loop) : Option (flow_Loops.S ⊕ ((List flow_Loop) × Int)) :=
  some (.inl (.l1 l80 x81 l83 (IntKind.i64.wrap (x57 + 1))))
def flow_Loops.F (l_0 : (List api_Instr)) : flow_Loops.S → Option (flow_Loops.S ⊕ ((List flow_Loop) × Int))
  | .start => (if ((decide ((l_0.length : Int) = 0)) || (decide ((l_0.length : Int) > 200))) = true then (some true) else ((slices_ContainsFunc_api_Instr_api_Instr_s1.f l_0).bind fun t6 => some t6)).bind fun t7 => if t7 = true then (some (.inr ([], 40))) else (some (.inl (.l1 (List.replicate 4 0 : List Int) 0 [] 0)))
  | .l1 l52 x53 l55 x57 => if x57 < (l_0.length : Int) then ((elt l_0 x57).bind fun x61 => if x61.Op = 28 then ((flow_open_push_s2.f l52 x53 x57).bind fun t64 => if (!t64.1) = true then (flow_Loops.j1 l_0) else (flow_Loops.j2 l_0 x57 t64.2.1 t64.2.2 l55)) else (if x61.Op = 29 then ((flow_open_pop_s2.f l52 x53 x61.A).bind fun t65 => if (!t65.1) = true then (flow_Loops.j1 l_0) else ((elt l_0 x61.A).bind fun x68 => if (l55.length + [(⟨x61.A, x57, x68.A⟩ : flow_Loop)].length) * 24 ≤ 140737488355328 then (flow_Loops.j2 l_0 x57 t65.2.1 t65.2.2 (l55 ++ [(⟨x61.A, x57, x68.A⟩ : flow_Loop)])) else none)) else (flow_Loops.j2 l_0 x57 l52 x53 l55))) else ((if x53 > 0 then (some true) else ((elt l_0 (IntKind.i64.wrap ((l_0.length : Int) - 1))).bind fun x90 => (flow_last.f x90).bind fun t91 => some (!t91))).bind fun t92 => (if t92 = true then (some true) else ((flow_jumps.f l_0 l55).bind fun t95 => some (!t95))).bind fun t96 => if t96 = true then (flow_Loops.j1 l_0) else (if l55.length < 4611686018427387904 then (some (.inr ((srt109 l55.toArray).toList, 0))) else none))
def flow_Loops.f (l_0 : (List api_Instr)) : Option ((List flow_Loop) × Int) := runF (flow_Loops.F l_0) .start
theorem flow_Loops.ok (l_0 : (List api_Instr)) (v_l_0 : Value)  (r : (List flow_Loop) × Int) (H : flow_Loops.f l_0 = some r) (w : World) (hV : Hp) (sV : Sub hV (hp w)) (h0 : slR k_api_Instr hV v_l_0 l_0) (h1 : (arrP k_arr221 0 tab0).p hV) :
    Trip Tryz.prog 71 [v_l_0].toArray em hV w (fun v => HO.ex fun u0 : Value => HO.pand (v = .tuple #[u0, .int .i64 r.2]) (HO.seps [slO k_flow_Loop 152 u0 r.1])) := by
 refine Trip.go 76 Tryz.func71 sV (aS h0 (All.cons (x := arrP k_arr221 0 tab0) h1 (All.nil _))) fun see => ?_
 obtain ⟨n0, hi⟩ := runF_iff.1 H
 obtain ⟨m0, o, hm0, ho, hr⟩ := iter_some hi
 clear hi
 refine go ?_
 refine CP.scope 0 (fun a w2 => ∃ (m107 : Nat) (o : (flow_Loops.S ⊕ ((List flow_Loop) × Int))), m107 ≤ m0 ∧ flow_Loops.j1 l_0 = some o ∧ next (flow_Loops.F l_0) m107 o = some r ∧ Env ⟨76, []⟩ [] a ∧ St w em hV [arrP k_arr221 0 tab0] [] w2) rfl (fun _ _ _ h => h) ?_ ?_
 ·rintro a w2 ⟨m107, o, hm_m107, ho, hr, ha, hw⟩
  refine CP.app ha hw ?_
  clear ha hw a w2
  refine CP.seq ?_
  refine go ?_
  obtain rfl := fin ho hr
  exact QE.rt (fun _ h => St.selO [0] rfl rfl (St.addO (slO.nil k_flow_Loop 152) h))
 refine CP.seq ?_
 refine go ?_
 refine SP.jn 4 [0] 15 (.bool ((decide ((l_0.length : Int) = 0)) || (decide ((l_0.length : Int) > 200)))) ?_ ?_
 ·refine go ?_
  obtain ⟨t7, hg_t7, ho⟩ := bind_some ho
  refine SP.jn 3 [0] 19 (.bool t7) ?_ ?_
  ·clear hg_t7
   refine go ?_
   refine CP.cb ho (fun ho => ?_) fun ho => ?_
   ·refine go ?_
    refine QE.scopeX rfl ?_
    obtain rfl := fin ho hr
    exact QE.rt (fun _ h => St.selO [0] rfl rfl (St.addO (slO.nil k_flow_Loop 152) h))
   refine go ?_
   refine SP.alloc (cs := [.int .i64 0, .int .i64 0, .int .i64 0, .int .i64 0, .int .i64 0]) inf180 rfl rfl (fun b9 => ?_)
   refine go ?_
   refine CP.seq ?_
   refine go ?_
   obtain rfl := Option.some.inj ho
   refine CP.loop (fun cl1 a w2 => ∃ l52 : List Int, ∃ x53 : Int, ∃ l55 : List flow_Loop, ∃ x57 : Int, ∃ v56 : Value, cl1 ≤ m0 ∧ iter (flow_Loops.F l_0) cl1 (.l1 l52 x53 l55 x57) = some r ∧ Env ⟨76, []⟩ [(0, v_l_0), (4, v56), (5, .pointer (some ⟨b9, 0, none⟩)), (20, v_l_0), (21, .int .i64 (l_0.length : Int)), (22, .int .i64 x57)] a ∧ St w em hV [slP k_api_Instr v_l_0 l_0, arrP k_arr221 0 tab0] [slO k_flow_Loop 152 v56 l55, arrO b9 [] (fun z : Int => Value.int .i64 z) 4 l52 [.int .i64 x53] 180] w2) m0 (fun a w2 ha hw => ⟨(List.replicate 4 0 : List Int), 0, [], 0, (.slice none 0 0), Nat.le_refl _, hr, ha.sub sb, (St.addO (slO.nil k_flow_Loop 152) (St.arr (f := (fun z : Int => Value.int .i64 z)) 0 rfl (List.replicate 4 0 : List Int) [] [.int .i64 0] rfl rfl hw))⟩) ?_
   clear hr
   rintro cl1 a w2 ⟨l52, x53, l55, x57, v56, hc_l1, hi, ha, hw⟩
   obtain ⟨m58, o, hm_m58, ho, hr⟩ := iter_some hi
   refine CP.app ha hw ?_
   clear ha hw a w2 hi
   refine go ?_
   refine CP.seq ?_
   refine CP.ci ho (fun ho => ?_) fun ho => ?_
   ·refine go ?_
    refine CP.join (fun a w2 => ∃ l80 : List Int, ∃ x81 : Int, ∃ l83 : List flow_Loop, ∃ v84 : Value, ∃ (m85 : Nat) (o : (flow_Loops.S ⊕ ((List flow_Loop) × Int))), m85 ≤ m58 ∧ flow_Loops.j2 l_0 x57 l80 x81 l83 = some o ∧ next (flow_Loops.F l_0) m85 o = some r ∧ Env ⟨76, []⟩ [(0, v_l_0), (4, v84), (5, .pointer (some ⟨b9, 0, none⟩)), (20, v_l_0), (21, .int .i64 (l_0.length : Int)), (22, .int .i64 x57)] a ∧ St w em hV [slP k_api_Instr v_l_0 l_0, arrP k_arr221 0 tab0] [slO k_flow_Loop 152 v84 l83, arrO b9 [] (fun z : Int => Value.int .i64 z) 4 l80 [.int .i64 x81] 180] w2) ?_ ?_
    ·rintro a w2 ⟨l80, x81, l83, v84, m85, o, hm_m85, ho, hr, ha, hw⟩
     refine CP.app ha hw ?_
     clear ha hw a w2
     refine go ?_
     obtain rfl := Option.some.inj ho
     exact QE.lower m85 (by omega) fun a w2 ha hw => ⟨l80, x81, l83, (IntKind.i64.wrap (x57 + 1)), v84, (by omega), hr, ha.sub sb, hw⟩
    refine go ?_
    obtain ⟨x61, hx, ho⟩ := elt_bind ho
    refine SP.indexP see 0 rfl Tryz.underlying39 sz71 hx.1 hx.2 rfl rfl rfl rfl (fun p59 => ?_)
    clear hx
    refine k_api_Instr.load see 0 rfl Tryz.underlying71 rfl sz71 rfl rfl rfl ?_
    refine SP.alloc (cs := [.int .u8 0, .int .i64 0, .int .i64 0]) inf71 rfl rfl (fun b62 => ?_)
    refine go ?_
    refine SP.store (v := .agg #[.int .u8 x61.Op, .int .i64 x61.A, .int .i64 x61.B]) (vs := [.int .u8 x61.Op, .int .i64 x61.A, .int .i64 x61.B]) 0 (by rfl) sz71 (by rfl) (by rfl) (by rfl) (by rfl) (by rfl) (by rfl) ?_
    refine go ?_
    refine CP.ci ho (fun ho => ?_) fun ho => ?_
    ·refine go ?_
     refine SP.imp (fun w2 hw => St.selO [2, 0, 1] rfl rfl hw) ?_
     obtain ⟨t64, hc, ho⟩ := bind_some ho
     refine SP.callA see (caps := []) _ fn105 rfl rfl rfl rfl (fun w2 hP h1 sub s1 d1 ap hI => flow_open_push_s2.ok _ _ _  _ hc w2 hP sub  _ h1 s1 d1 hI) (SP.k0 ?_)
     clear hc
     refine go ?_
     refine CP.cb ho (fun ho => ?_) fun ho => ?_
     ·refine CP.goto ?_
      refine QE.blockG ?_
      refine QE.blockG ?_
      refine go ?_
      refine QE.blockG ?_
      refine go ?_
      exact QE.jump fun a w2 ha hw => ⟨m58, _, (by omega), ho, hr, ha.sub trivial, (St.selP [2] rfl (St.selO [] rfl rfl hw))⟩
     refine go ?_
     exact QE.meet fun a w2 ha hw => ⟨t64.2.1, t64.2.2, l55, v56, m58, _, (by omega), ho, hr, ha.sub sb, (St.selP [1, 2] rfl (St.selO [2, 0] rfl rfl hw))⟩
    refine go ?_
    refine CP.ci ho (fun ho => ?_) fun ho => ?_
    ·refine CP.seq ?_
     refine go ?_
     refine SP.imp (fun w2 hw => St.selO [2, 0, 1] rfl rfl hw) ?_
     obtain ⟨t65, hc, ho⟩ := bind_some ho
     refine SP.callA see (caps := []) _ fn106 rfl rfl rfl rfl (fun w2 hP h1 sub s1 d1 ap hI => flow_open_pop_s2.ok _ _ _  _ hc w2 hP sub  _ h1 s1 d1 hI) (SP.k0 ?_)
     clear hc
     refine go ?_
     refine CP.cb ho (fun ho => ?_) fun ho => ?_
     ·refine CP.goto ?_
      refine go ?_
      refine QE.blockG ?_
      refine QE.blockG ?_
      refine go ?_
      refine QE.blockG ?_
      refine go ?_
      exact QE.jump fun a w2 ha hw => ⟨m58, _, (by omega), ho, hr, ha.sub trivial, (St.selP [2] rfl (St.selO [] rfl rfl hw))⟩
     refine go ?_
     refine CP.drawA (by kernel_rfl) (fun w2 k h => h.drawn k) ?_
     obtain ⟨x68, hx, ho⟩ := elt_bind ho
     refine DA.ghost (fun w2 h => h.elem see 1 rfl hx.1 hx.2) (fun p66 h_p66 => ?_)
     clear hx
     refine DA.ghost (fun w2 h => h.fieldE see 0 rfl k_api_Instr.part_A) (fun p69 h_p69 => ?_)
     refine DA.ghost (fun w2 h => h.openE see 0 rfl (fun _ : Unit => [.int .i64 x68.A]) (fun _ => []) (fun h cs e => ⟨(), e, All.nil _⟩)) (fun _ _ => ?_)
     refine DA.ph 0 12 ?_
     refine DT.tk 0 ?_
     refine DT.tk 1 ?_
     refine DT.tk 2 ?_
     refine DT.tk 3 ?_
     refine DT.tk 4 ?_
     refine DT.tk 5 ?_
     refine DT.tk 6 ?_
     refine DT.tv 7 rfl (Val.indexE h_p66 Tryz.underlying39 sz71 rfl rfl) ?_
     refine DT.tv 8 rfl (Val.fieldE h_p69 Tryz.underlying71 rfl rfl sz3 rfl) ?_
     refine DT.tv 9 rfl (Val.loadAt1 see 0 rfl Tryz.underlying3 rfl rfl) ?_
     refine DT.tv 10 rfl (Val.buildC (us := [(0, .int .i64 x61.A), (1, .int .i64 x57), (2, .int .i64 x68.A)]) (ucs := [(0, [.int .i64 x61.A]), (1, [.int .i64 x57]), (2, [.int .i64 x68.A])]) (cs := [.int .i64 x61.A, .int .i64 x57, .int .i64 x68.A]) bt152 rfl rfl ⟨rfl, rfl, ⟨rfl, rfl, ⟨rfl, rfl, trivial⟩⟩⟩ (by rfl)) ?_
     refine DT.one 11 rfl (by kernel_rfl) rfl ?_
     refine SP.lit (k := k_flow_Loop) (xs := [(⟨x61.A, x57, x68.A⟩ : flow_Loop)]) (vs := [.agg #[.int .i64 x61.A, .int .i64 x57, .int .i64 x68.A]]) (cells := [.int .i64 x61.A, .int .i64 x57, .int .i64 x68.A]) Tryz.underlying138 inf152 rfl rfl rfl rfl rfl rfl rfl rfl (fun _ ap => ⟨[.int .i64 x61.A, .int .i64 x57, .int .i64 x68.A], _, rfl, rfl, rfl⟩) rfl rfl rfl (fun v76 => ?_)
     refine go ?_
     refine QE.atT (fun w2 hw => (St.selO [1, 2, 3] rfl rfl hw)) ?_
     refine DT.next (by kernel_rfl) ?_
     refine DA.one 12 rfl (by kernel_rfl) ?_
     refine SP.freezeS see 0 rfl ?_
     obtain ⟨hb, ho⟩ := must_some ho
     refine SP.append see 2 rfl 0 rfl Tryz.underlying138 inf152 rfl rfl hb rfl rfl rfl rfl rfl (fun v78 => ?_)
     clear hb
     refine go ?_
     refine QE.atA ?_
     refine DA.one 13 rfl (by kernel_rfl) ?_
     refine go ?_
     refine QE.atA ?_
     refine DA.done (by kernel_rfl) ?_
     refine go ?_
     exact QE.meet fun a w2 ha hw => ⟨t65.2.1, t65.2.2, (l55 ++ [(⟨x61.A, x57, x68.A⟩ : flow_Loop)]), v78, m58, _, (by omega), ho, hr, ha.sub sb, (St.selP [5, 6] rfl (St.selO [2, 0] rfl rfl hw))⟩
    refine go ?_
    exact QE.meet fun a w2 ha hw => ⟨l52, x53, l55, v56, m58, _, (by omega), ho, hr, ha.sub sb, (St.selP [1, 2] rfl (St.selO [1, 2] rfl rfl hw))⟩
   refine go ?_
   refine CP.seq ?_
   refine go ?_
   refine SP.val (Val.loadArrPost (k := 0) 1 rfl Tryz.underlying3 rfl rfl rfl rfl) rfl rfl rfl ?_
   refine go ?_
   obtain ⟨t92, hg_t92, ho⟩ := bind_some ho
   refine SP.jn 9 [0, 4] 66 (.bool t92) ?_ ?_
   ·clear hg_t92
    refine go ?_
    obtain ⟨t96, hg_t96, ho⟩ := bind_some ho
    refine SP.jn 5 [4] 72 (.bool t96) ?_ ?_
    ·clear hg_t96
     refine go ?_
     refine CP.cb ho (fun ho => ?_) fun ho => ?_
     ·refine CP.goto ?_
      refine go ?_
      exact QE.jump fun a w2 ha hw => ⟨m58, _, (by omega), ho, hr, ha.sub trivial, (St.selP [1] rfl (St.selO [] rfl rfl hw))⟩
     refine go ?_
     obtain ⟨hb, ho⟩ := must_some ho
     refine SP.callA see (caps := []) (fun r => HO.pand (r = .tuple #[]) (HO.seps [slO k_flow_Loop 152 v56 ((srt109 l55.toArray).toList)])) fn109 rfl rfl rfl rfl (fun w2 hP h1 sub s1 d1 ap hI => srt109_trip hb sub s1 d1 hI) (SP.k0 ?_)
     clear hb
     refine go ?_
     refine CP.seq ?_
     refine go ?_
     refine QE.scopeX rfl ?_
     obtain rfl := fin ho hr
     exact QE.rt (fun _ h => St.selO [0] rfl rfl h)
    refine SP.cb 67 hg_t96 (fun hq94 ho => ?_) fun hq94 ho => ?_
    ·refine go ?_
     obtain rfl := Option.some.inj ho
     exact QE.jn fun w2 hw => hw
    refine go ?_
    obtain ⟨t95, hc, ho⟩ := bind_some ho
    refine SP.callVO see (caps := []) (.bool t95) fn108 rfl rfl rfl rfl (fun w2 hs => flow_jumps.ok _ _ _ _ _ hc w2 (hp w2) (Sub.refl _) ((St.pers 0 rfl see.sub see.dj hs)) (slO.read (St.own 0 rfl see.sub see.dj hs) (Sub.refl _) (Sub.refl _))) ?_
    clear hc
    refine go ?_
    obtain rfl := Option.some.inj ho
    exact QE.jn fun w2 hw => hw
   refine SP.ci 57 hg_t92 (fun hq87 ho => ?_) fun hq87 ho => ?_
   ·refine go ?_
    obtain rfl := Option.some.inj ho
    exact QE.jn fun w2 hw => hw
   refine go ?_
   obtain ⟨x90, hx, ho⟩ := elt_bind ho
   refine SP.indexP see 0 rfl Tryz.underlying39 sz71 hx.1 hx.2 rfl rfl rfl rfl (fun p88 => ?_)
   clear hx
   refine k_api_Instr.load see 0 rfl Tryz.underlying71 rfl sz71 rfl rfl rfl ?_
   obtain ⟨t91, hc, ho⟩ := bind_some ho
   refine SP.callV see (caps := []) (.bool t91) fn107 rfl rfl rfl rfl (fun w2 hP hs sub ap => flow_last.ok _  _ hc w2 hP sub ) ?_
   clear hc
   refine go ?_
   obtain rfl := Option.some.inj ho
   exact QE.jn fun w2 hw => (St.selP [1, 2] rfl hw)
  refine SP.cb 16 hg_t7 (fun hq5 ho => ?_) fun hq5 ho => ?_
  ·refine go ?_
   obtain rfl := Option.some.inj ho
   exact QE.jn fun w2 hw => hw
  refine go ?_
  obtain ⟨t6, hc, ho⟩ := bind_some ho
  refine SP.callV see (caps := []) (.bool t6) fn44 rfl rfl rfl rfl (fun w2 hP hs sub ap => slices_ContainsFunc_api_Instr_api_Instr_s1.ok _ _ _ hc w2 hP sub (ap.get 0 rfl) (ap.get 1 rfl)) ?_
  clear hc
  refine go ?_
  obtain rfl := Option.some.inj ho
  exact QE.jn fun w2 hw => hw
 refine SP.bb 11 (fun hq3 => ?_) fun hq3 => ?_
 ·refine go ?_
  exact QE.jb (or_t hq3) fun w2 hw => hw
 refine go ?_
 exact QE.jb (or_f hq3 rfl) fun w2 hw => hw
def flow_Check.f (l_0 : (List api_Instr)) : Option Int :=
  (flow_Loops.f l_0).bind fun t2 => some t2.2
theorem flow_Check.ok (l_0 : (List api_Instr)) (v_l_0 : Value)  (r : Int) (H : flow_Check.f l_0 = some r) (w : World) (hV : Hp) (sV : Sub hV (hp w)) (h0 : slR k_api_Instr hV v_l_0 l_0) (h1 : (arrP k_arr221 0 tab0).p hV) :
    Trip Tryz.prog 42 [v_l_0].toArray em hV w (fun v => HO.pure (v = .int .i64 r)) := by
 refine Trip.go 11 Tryz.func42 sV (aS h0 (All.cons (x := arrP k_arr221 0 tab0) h1 (All.nil _))) fun see => ?_
 have ho := H
 refine go ?_
 obtain ⟨t2, hc, ho⟩ := bind_some ho
 refine SP.callK see (caps := []) _ fn71 rfl rfl rfl rfl (fun w2 hP hs sub ap => flow_Loops.ok _ _ _ hc w2 hP sub (ap.get 0 rfl) (ap.get 1 rfl)) (SP.k1 fun v3 => ?_)
 clear hc
 refine go ?_
 obtain rfl := Option.some.inj ho
 exact QE.rt (fun _ h => h)
shelf_lay_g Lays8.n4 Nm8 4 at Tryz 72 as Tryz.grow72
theorem grow72_trip {n : Int} (h0 : 0 ≤ n) (hb : n * 1 ≤ 140737488355328) (w : World) (hV : Hp) :
    Trip Tryz.prog 72 #[.slice none 0 0, .int .i64 n] em hV w (fun r => HO.ex fun u : Value => HO.pand (r = u) (HO.seps [slO (kInt .u8) 5 u []])) := by
  obtain ⟨m, rfl⟩ := Int.eq_ofNat_of_zero_le h0
  obtain ⟨i0, z, hi0, hz0, hsz, hbt, hzl⟩ := growInfo (P := Tryz.prog) inf5
  by_cases hm : m = 0
  · subst hm
    exact (Any8.slices_Grow_room Tryz.grow72 none 0 0 0 w (by omega) (by omega) (by omega) (by omega)).mono fun e w' ⟨he, hw⟩ => by
      subst hw
      exact ⟨_, he, Met.refl _, fun _ _ e _ => e, em, em, fun _ _ _ => rfl, fun _ _ _ => rfl, Dj.em_left _, Sub.em _, Sub.em _, _, rfl, em, em, Dj.em_left _, Sub.em _, Sub.em _, slO.nil _ _ _, trivial⟩
  · have h := Any8.slices_Grow_grow Tryz.grow72 i0 z hi0 hz0 (by omega) none 0 0 m [] w (by omega) (by omega) (by rw [hbt]; omega) (by omega) (by simp) (fun _ => rfl) (fun a ha => by cases ha)
    exact h.mono fun e w' ⟨he, hw⟩ => grown_trip he hw (grownCap_le_maxLen _ _ _ _ (by simp only [maxLen]; omega)) (zeros_size (by have := grownCap_ge w (0 + m) 0 5; rw [Nat.zero_add] at this ⊢; exact this) hzl)
inductive slices_Concat_uint8_uint8.S where
  | start
  | l1 (x36 : Int) (x37 : Int)
  | l2 (l57 : List Int) (x59 : Int)
def slices_Concat_uint8_uint8.j1 (slices_0 : (List (List Int))) (x36 : Int) (x37 : Int) (x41 : (List Int)) : Option (slices_Concat_uint8_uint8.S ⊕ (List Int)) :=
  some (.inl (.l1 (IntKind.i64.wrap (x36 + (x41.length : Int))) (IntKind.i64.wrap (x37 + 1))))
def slices_Concat_uint8_uint8.F (slices_0 : (List (List Int))) : slices_Concat_uint8_uint8.S → Option (slices_Concat_uint8_uint8.S ⊕ (List Int))
  | .start => some (.inl (.l1 0 0))
  | .l1 x36 x37 => if x37 < (slices_0.length : Int) then ((elt slices_0 x37).bind fun x41 => if (IntKind.i64.wrap (x36 + (x41.length : Int))) < 0 then (none) else (slices_Concat_uint8_uint8.j1 slices_0 x36 x37 x41)) else (if 0 ≤ x36 ∧ x36 * 1 ≤ 140737488355328 then (some (.inl (.l2 ([] : List Int) 0))) else none)
  | .l2 l57 x59 => if x59 < (slices_0.length : Int) then ((elt slices_0 x59).bind fun x63 => if (l57.length + x63.length) * 1 ≤ 140737488355328 then (some (.inl (.l2 (l57 ++ x63) (IntKind.i64.wrap (x59 + 1))))) else none) else (some (.inr l57))
def slices_Concat_uint8_uint8.f (slices_0 : (List (List Int))) : Option (List Int) := runF (slices_Concat_uint8_uint8.F slices_0) .start
theorem slices_Concat_uint8_uint8.ok (slices_0 : (List (List Int))) (v_slices_0 : Value) (r : (List Int)) (H : slices_Concat_uint8_uint8.f slices_0 = some r) (w : World) (hV : Hp) (sV : Sub hV (hp w)) (h0 : slR (kSl (kInt .u8)) hV v_slices_0 slices_0) :
    Trip Tryz.prog 43 [v_slices_0].toArray em hV w (fun v => HO.ex fun u0 : Value => HO.pand (v = u0) (HO.seps [slO (kInt .u8) 5 u0 r])) := by
 refine Trip.go 36 Tryz.func43 sV (aS h0 (All.nil _)) fun see => ?_
 obtain ⟨n0, hi⟩ := runF_iff.1 H
 obtain ⟨m0, o, hm0, ho, hr⟩ := iter_some hi
 clear hi
 refine go ?_
 refine CP.seq ?_
 refine go ?_
 obtain rfl := Option.some.inj ho
 refine CP.loop (fun cl1 a w2 => ∃ x36 : Int, ∃ x37 : Int, cl1 ≤ m0 ∧ iter (slices_Concat_uint8_uint8.F slices_0) cl1 (.l1 x36 x37) = some r ∧ Env ⟨36, []⟩ [(0, v_slices_0), (3, .int .i64 x36), (9, v_slices_0), (10, .int .i64 (slices_0.length : Int)), (11, .int .i64 x37)] a ∧ St w em hV [slP (kSl (kInt .u8)) v_slices_0 slices_0] [] w2) m0 (fun a w2 ha hw => ⟨0, 0, Nat.le_refl _, hr, ha.sub sb, hw⟩) ?_
 clear hr
 rintro cl1 a w2 ⟨x36, x37, hc_l1, hi, ha, hw⟩
 obtain ⟨m38, o, hm_m38, ho, hr⟩ := iter_some hi
 refine CP.app ha hw ?_
 clear ha hw a w2 hi
 refine go ?_
 refine CP.seq ?_
 refine CP.ci ho (fun ho => ?_) fun ho => ?_
 ·refine go ?_
  refine CP.join (fun a w2 => ∃ x41 : (List Int), ∃ (m44 : Nat) (o : (slices_Concat_uint8_uint8.S ⊕ (List Int))), m44 ≤ m38 ∧ slices_Concat_uint8_uint8.j1 slices_0 x36 x37 x41 = some o ∧ next (slices_Concat_uint8_uint8.F slices_0) m44 o = some r ∧ Env ⟨36, []⟩ [(0, v_slices_0), (3, .int .i64 (IntKind.i64.wrap (x36 + (x41.length : Int)))), (9, v_slices_0), (10, .int .i64 (slices_0.length : Int)), (11, .int .i64 x37)] a ∧ St w em hV [slP (kSl (kInt .u8)) v_slices_0 slices_0] [] w2) ?_ ?_
  ·rintro a w2 ⟨x41, m44, o, hm_m44, ho, hr, ha, hw⟩
   refine CP.app ha hw ?_
   clear ha hw a w2
   refine go ?_
   obtain rfl := Option.some.inj ho
   exact QE.lower m44 (by omega) fun a w2 ha hw => ⟨(IntKind.i64.wrap (x36 + (x41.length : Int))), (IntKind.i64.wrap (x37 + 1)), (by omega), hr, ha.sub sb, hw⟩
  refine go ?_
  obtain ⟨x41, hx, ho⟩ := elt_bind ho
  refine SP.indexP see 0 rfl Tryz.underlying141 sz38 hx.1 hx.2 rfl rfl rfl rfl (fun p39 => ?_)
  clear hx
  refine SP.loadPS see 0 rfl Tryz.underlying38 rfl rfl rfl (fun v42 => ?_)
  refine go ?_
  refine CP.ci ho (fun ho => ?_) fun ho => ?_
  ·cases ho
  refine go ?_
  exact QE.meet fun a w2 ha hw => ⟨x41, m38, _, (by omega), ho, hr, ha.sub sb, (St.selP [2] rfl hw)⟩
 refine go ?_
 obtain ⟨hb, ho⟩ := must_some ho
 refine SP.callK see (caps := []) _ fn72 rfl rfl rfl rfl (fun w2 hP hs sub ap => grow72_trip hb.1 hb.2 w2 hP) (SP.k1 fun v46 => ?_)
 clear hb
 refine go ?_
 refine CP.seq ?_
 refine go ?_
 obtain rfl := Option.some.inj ho
 refine CP.loop (fun cl2 a w2 => ∃ l57 : List Int, ∃ x59 : Int, ∃ v58 : Value, cl2 ≤ m38 ∧ iter (slices_Concat_uint8_uint8.F slices_0) cl2 (.l2 l57 x59) = some r ∧ Env ⟨36, []⟩ [(6, v58), (25, v_slices_0), (26, .int .i64 (slices_0.length : Int)), (27, .int .i64 x59)] a ∧ St w em hV [slP (kSl (kInt .u8)) v_slices_0 slices_0] [slO (kInt .u8) 5 v58 l57] w2) m38 (fun a w2 ha hw => ⟨([] : List Int), 0, v46, Nat.le_refl _, hr, ha.sub sb, hw⟩) ?_
 clear hr
 rintro cl2 a w2 ⟨l57, x59, v58, hc_l2, hi, ha, hw⟩
 obtain ⟨m60, o, hm_m60, ho, hr⟩ := iter_some hi
 refine CP.app ha hw ?_
 clear ha hw a w2 hi
 refine go ?_
 refine CP.seq ?_
 refine CP.ci ho (fun ho => ?_) fun ho => ?_
 ·refine go ?_
  refine CP.seq ?_
  refine go ?_
  obtain ⟨x63, hx, ho⟩ := elt_bind ho
  refine SP.indexP see 0 rfl Tryz.underlying141 sz38 hx.1 hx.2 rfl rfl rfl rfl (fun p61 => ?_)
  clear hx
  refine SP.loadPS see 0 rfl Tryz.underlying38 rfl rfl rfl (fun v64 => ?_)
  refine go ?_
  obtain ⟨hb, ho⟩ := must_some ho
  refine SP.append see 0 rfl 0 rfl Tryz.underlying38 inf5 rfl rfl hb rfl rfl rfl rfl rfl (fun v66 => ?_)
  clear hb
  refine go ?_
  obtain rfl := Option.some.inj ho
  exact QE.lower m60 (by omega) fun a w2 ha hw => ⟨(l57 ++ x63), (IntKind.i64.wrap (x59 + 1)), v66, (by omega), hr, ha.sub sb, (St.selP [2] rfl hw)⟩
 refine go ?_
 obtain rfl := fin ho hr
 exact QE.rt (fun _ h => St.selO [0] rfl rfl h)
def types_look_there_s1.j1 (k_0_1 : List api_Value) (k_0_3 : List api_Value) (k_0_5 : List api_Method) (k_0_7 : Int) (k_0_8 : List Int) (k_0_10 : List Int) (k_0_12 : Int) (k_0_13 : Bool) (k_0_14 : Int) (k_0_15 : Int) (k_0_16 : Int) (k_0_17 : List api_Instr) (k_0_19 : List Int) (i_1 : api_Instr) (x27 : Int) : Option Bool :=
  some (decide (i_1.A < x27))
def types_look_there_s1.j3 (k_0_1 : List api_Value) (k_0_3 : List api_Value) (k_0_5 : List api_Method) (k_0_7 : Int) (k_0_8 : List Int) (k_0_10 : List Int) (k_0_12 : Int) (k_0_13 : Bool) (k_0_14 : Int) (k_0_15 : Int) (k_0_16 : Int) (k_0_17 : List api_Instr) (k_0_19 : List Int) (i_1 : api_Instr) (b26 : Bool) : Option Bool :=
  if b26 = true then (types_look_there_s1.j1 k_0_1 k_0_3 k_0_5 k_0_7 k_0_8 k_0_10 k_0_12 k_0_13 k_0_14 k_0_15 k_0_16 k_0_17 k_0_19 i_1 (k_0_1.length : Int)) else (if i_1.Op = 30 then (types_look_there_s1.j1 k_0_1 k_0_3 k_0_5 k_0_7 k_0_8 k_0_10 k_0_12 k_0_13 k_0_14 k_0_15 k_0_16 k_0_17 k_0_19 i_1 (k_0_5.length : Int)) else (some true))
def types_look_there_s1.j2 (k_0_1 : List api_Value) (k_0_3 : List api_Value) (k_0_5 : List api_Method) (k_0_7 : Int) (k_0_8 : List Int) (k_0_10 : List Int) (k_0_12 : Int) (k_0_13 : Bool) (k_0_14 : Int) (k_0_15 : Int) (k_0_16 : Int) (k_0_17 : List api_Instr) (k_0_19 : List Int) (i_1 : api_Instr) (b25 : Bool) : Option Bool :=
  if b25 = true then (types_look_there_s1.j1 k_0_1 k_0_3 k_0_5 k_0_7 k_0_8 k_0_10 k_0_12 k_0_13 k_0_14 k_0_15 k_0_16 k_0_17 k_0_19 i_1 (k_0_19.length : Int)) else (if i_1.Op = 4 then (types_look_there_s1.j3 k_0_1 k_0_3 k_0_5 k_0_7 k_0_8 k_0_10 k_0_12 k_0_13 k_0_14 k_0_15 k_0_16 k_0_17 k_0_19 i_1 (decide (i_1.Op = 4))) else (types_look_there_s1.j3 k_0_1 k_0_3 k_0_5 k_0_7 k_0_8 k_0_10 k_0_12 k_0_13 k_0_14 k_0_15 k_0_16 k_0_17 k_0_19 i_1 (decide (i_1.Op = 5))))
def types_look_there_s1.f (k_0_1 : List api_Value) (k_0_3 : List api_Value) (k_0_5 : List api_Method) (k_0_7 : Int) (k_0_8 : List Int) (k_0_10 : List Int) (k_0_12 : Int) (k_0_13 : Bool) (k_0_14 : Int) (k_0_15 : Int) (k_0_16 : Int) (k_0_17 : List api_Instr) (k_0_19 : List Int) (i_1 : api_Instr) : Option Bool :=
  if i_1.Op = 1 then (types_look_there_s1.j1 k_0_1 k_0_3 k_0_5 k_0_7 k_0_8 k_0_10 k_0_12 k_0_13 k_0_14 k_0_15 k_0_16 k_0_17 k_0_19 i_1 (k_0_3.length : Int)) else (if i_1.Op = 2 then (types_look_there_s1.j2 k_0_1 k_0_3 k_0_5 k_0_7 k_0_8 k_0_10 k_0_12 k_0_13 k_0_14 k_0_15 k_0_16 k_0_17 k_0_19 i_1 (decide (i_1.Op = 2))) else (types_look_there_s1.j2 k_0_1 k_0_3 k_0_5 k_0_7 k_0_8 k_0_10 k_0_12 k_0_13 k_0_14 k_0_15 k_0_16 k_0_17 k_0_19 i_1 (decide (i_1.Op = 3))))
theorem types_look_there_s1.ok (k_0_1 : List api_Value) (k_0_3 : List api_Value) (k_0_5 : List api_Method) (k_0_7 : Int) (k_0_8 : List Int) (k_0_10 : List Int) (k_0_12 : Int) (k_0_13 : Bool) (k_0_14 k_0_15 k_0_16 : Int) (k_0_17 : List api_Instr) (k_0_19 : List Int) (i_1 : api_Instr) (v_k_0_1 v_k_0_3 : Value) (v_k_0_5 v_k_0_8 : Value) (v_k_0_10 v_k_0_17 v_k_0_19 : Value) (b21 : Nat) (r : Bool) (H : types_look_there_s1.f k_0_1 k_0_3 k_0_5 k_0_7 k_0_8 k_0_10 k_0_12 k_0_13 k_0_14 k_0_15 k_0_16 k_0_17 k_0_19 i_1 = some r) (w : World) (hV : Hp) (sV : Sub hV (hp w)) (h0 : slR k_api_Value hV v_k_0_1 k_0_1) (h1 : slR k_api_Value hV v_k_0_3 k_0_3) (h2 : slR k_api_Method hV v_k_0_5 k_0_5) (h3 : slR (kInt .u8) hV v_k_0_8 k_0_8) (h4 : slR (kInt .u8) hV v_k_0_10 k_0_10) (h5 : slR k_api_Instr hV v_k_0_17 k_0_17) (h6 : slR (kInt .u8) hV v_k_0_19 k_0_19) (h7 : (preP b21 [v_k_0_1, v_k_0_3, v_k_0_5, .int .i64 k_0_7, v_k_0_8, v_k_0_10, .int .u8 k_0_12, .bool k_0_13, .int .i64 k_0_14, .int .i64 k_0_15, .int .i64 k_0_16, v_k_0_17, v_k_0_19] 97).p hV) :
    Trip Tryz.prog 46 [.pointer (some ⟨b21, 0, none⟩), .agg #[.int .u8 i_1.Op, .int .i64 i_1.A, .int .i64 i_1.B]].toArray em hV w (fun v => HO.pure (v = .bool r)) := by
 refine Trip.go 45 Tryz.func46 sV (aS h0 (aS h1 (aS h2 (aS h3 (aS h4 (aS h5 (aS h6 (All.cons (x := preP b21 [v_k_0_1, v_k_0_3, v_k_0_5, .int .i64 k_0_7, v_k_0_8, v_k_0_10, .int .u8 k_0_12, .bool k_0_13, .int .i64 k_0_14, .int .i64 k_0_15, .int .i64 k_0_16, v_k_0_17, v_k_0_19] 97) h7 (All.nil _))))))))) fun see => ?_
 have ho := H
 refine go ?_
 refine SP.box rfl rfl rfl rfl fun b23 => ?_
 refine go ?_
 refine CP.join (fun a w2 => ∃ x27 : Int, types_look_there_s1.j1 k_0_1 k_0_3 k_0_5 k_0_7 k_0_8 k_0_10 k_0_12 k_0_13 k_0_14 k_0_15 k_0_16 k_0_17 k_0_19 i_1 x27 = some r ∧ Env ⟨45, []⟩ [(3, .pointer (some ⟨b23, 0, none⟩)), (5, .int .i64 x27)] a ∧ St w em hV [] [boxO b23 [.int .u8 i_1.Op, .int .i64 i_1.A, .int .i64 i_1.B] 71] w2) ?_ ?_
 ·rintro a w2 ⟨x27, ho, ha, hw⟩
  refine CP.app ha hw ?_
  clear ha hw a w2
  refine go ?_
  obtain rfl := Option.some.inj ho
  exact QE.rt (fun _ h => h)
 refine go ?_
 refine CP.ci ho (fun ho => ?_) fun ho => ?_
 ·refine go ?_
  refine SP.val (Val.loadPre1 see 7 rfl Tryz.underlying22 rfl rfl rfl) rfl rfl rfl ?_
  refine go ?_
  exact QE.meet fun a w2 ha hw => ⟨(k_0_3.length : Int), ho, ha.sub sb, (St.selP [] rfl hw)⟩
 refine CP.join (fun a w2 => ∃ b25 : Bool, types_look_there_s1.j2 k_0_1 k_0_3 k_0_5 k_0_7 k_0_8 k_0_10 k_0_12 k_0_13 k_0_14 k_0_15 k_0_16 k_0_17 k_0_19 i_1 b25 = some r ∧ Env ⟨45, []⟩ [(0, .pointer (some ⟨b21, 0, none⟩)), (3, .pointer (some ⟨b23, 0, none⟩)), (7, .int .u8 i_1.Op), (16, .bool b25)] a ∧ St w em hV [slP k_api_Value v_k_0_1 k_0_1, slP k_api_Value v_k_0_3 k_0_3, slP k_api_Method v_k_0_5 k_0_5, slP (kInt .u8) v_k_0_8 k_0_8, slP (kInt .u8) v_k_0_10 k_0_10, slP k_api_Instr v_k_0_17 k_0_17, slP (kInt .u8) v_k_0_19 k_0_19, preP b21 [v_k_0_1, v_k_0_3, v_k_0_5, .int .i64 k_0_7, v_k_0_8, v_k_0_10, .int .u8 k_0_12, .bool k_0_13, .int .i64 k_0_14, .int .i64 k_0_15, .int .i64 k_0_16, v_k_0_17, v_k_0_19] 97] [boxO b23 [.int .u8 i_1.Op, .int .i64 i_1.A, .int .i64 i_1.B] 71] w2) ?_ ?_
 ·rintro a w2 ⟨b25, ho, ha, hw⟩
  refine CP.app ha hw ?_
  clear ha hw a w2
  refine CP.cb ho (fun ho => ?_) fun ho => ?_
  ·refine go ?_
   refine SP.val (Val.loadPre1 see 7 rfl Tryz.underlying38 rfl rfl rfl) rfl rfl rfl ?_
   refine go ?_
   exact QE.meet fun a w2 ha hw => ⟨(k_0_19.length : Int), ho, ha.sub sb, (St.selP [] rfl hw)⟩
  refine CP.join (fun a w2 => ∃ b26 : Bool, types_look_there_s1.j3 k_0_1 k_0_3 k_0_5 k_0_7 k_0_8 k_0_10 k_0_12 k_0_13 k_0_14 k_0_15 k_0_16 k_0_17 k_0_19 i_1 b26 = some r ∧ Env ⟨45, []⟩ [(0, .pointer (some ⟨b21, 0, none⟩)), (3, .pointer (some ⟨b23, 0, none⟩)), (7, .int .u8 i_1.Op), (24, .bool b26)] a ∧ St w em hV [slP k_api_Value v_k_0_1 k_0_1, slP k_api_Value v_k_0_3 k_0_3, slP k_api_Method v_k_0_5 k_0_5, slP (kInt .u8) v_k_0_8 k_0_8, slP (kInt .u8) v_k_0_10 k_0_10, slP k_api_Instr v_k_0_17 k_0_17, slP (kInt .u8) v_k_0_19 k_0_19, preP b21 [v_k_0_1, v_k_0_3, v_k_0_5, .int .i64 k_0_7, v_k_0_8, v_k_0_10, .int .u8 k_0_12, .bool k_0_13, .int .i64 k_0_14, .int .i64 k_0_15, .int .i64 k_0_16, v_k_0_17, v_k_0_19] 97] [boxO b23 [.int .u8 i_1.Op, .int .i64 i_1.A, .int .i64 i_1.B] 71] w2) ?_ ?_
  ·rintro a w2 ⟨b26, ho, ha, hw⟩
   refine CP.app ha hw ?_
   clear ha hw a w2
   refine CP.cb ho (fun ho => ?_) fun ho => ?_
   ·refine go ?_
    refine SP.val (Val.loadPre1 see 7 rfl Tryz.underlying22 rfl rfl rfl) rfl rfl rfl ?_
    refine go ?_
    exact QE.meet fun a w2 ha hw => ⟨(k_0_1.length : Int), ho, ha.sub sb, (St.selP [] rfl hw)⟩
   refine go ?_
   refine CP.ci ho (fun ho => ?_) fun ho => ?_
   ·refine go ?_
    refine SP.val (Val.loadPre1 see 7 rfl Tryz.underlying23 rfl rfl rfl) rfl rfl rfl ?_
    refine go ?_
    exact QE.meet fun a w2 ha hw => ⟨(k_0_5.length : Int), ho, ha.sub sb, (St.selP [] rfl hw)⟩
   refine go ?_
   obtain rfl := Option.some.inj ho
   exact QE.rt (fun _ h => h)
  refine go ?_
  refine CP.ci ho (fun ho => ?_) fun ho => ?_
  ·refine go ?_
   exact QE.meet fun a w2 ha hw => ⟨(decide (i_1.Op = 4)), ho, ha.sub sb, hw⟩
  refine go ?_
  exact QE.meet fun a w2 ha hw => ⟨(decide (i_1.Op = 5)), ho, ha.sub sb, hw⟩
 refine go ?_
 refine CP.ci ho (fun ho => ?_) fun ho => ?_
 ·refine go ?_
  exact QE.meet fun a w2 ha hw => ⟨(decide (i_1.Op = 2)), ho, ha.sub sb, hw⟩
 refine go ?_
 exact QE.meet fun a w2 ha hw => ⟨(decide (i_1.Op = 3)), ho, ha.sub sb, hw⟩
def types_Rows_1_s1.f (i_0 : api_Instr) (c0_1 : List api_Value) (c0_3 : List api_Value) (c0_5 : List api_Method) (c0_7 : Int) (c0_8 : List Int) (c0_10 : List Int) (c0_12 : Int) (c0_13 : Bool) (c0_14 : Int) (c0_15 : Int) (c0_16 : Int) (c0_17 : List api_Instr) (c0_19 : List Int) : Option Bool :=
  (types_look_there_s1.f c0_1 c0_3 c0_5 c0_7 c0_8 c0_10 c0_12 c0_13 c0_14 c0_15 c0_16 c0_17 c0_19 i_0).bind fun t27 => some (!t27)
theorem types_Rows_1_s1.ok (i_0 : api_Instr) (c0_1 : List api_Value) (c0_3 : List api_Value) (c0_5 : List api_Method) (c0_7 : Int) (c0_8 : List Int) (c0_10 : List Int) (c0_12 : Int) (c0_13 : Bool) (c0_14 c0_15 c0_16 : Int) (c0_17 : List api_Instr) (c0_19 : List Int) (v_c0_1 v_c0_3 : Value) (v_c0_5 v_c0_8 : Value) (v_c0_10 v_c0_17 v_c0_19 : Value) (b21 : Nat) (b23 : Nat) (r : Bool) (H : types_Rows_1_s1.f i_0 c0_1 c0_3 c0_5 c0_7 c0_8 c0_10 c0_12 c0_13 c0_14 c0_15 c0_16 c0_17 c0_19 = some r) (w : World) (hV : Hp) (sV : Sub hV (hp w)) (h0 : slR k_api_Value hV v_c0_1 c0_1) (h1 : slR k_api_Value hV v_c0_3 c0_3) (h2 : slR k_api_Method hV v_c0_5 c0_5) (h3 : slR (kInt .u8) hV v_c0_8 c0_8) (h4 : slR (kInt .u8) hV v_c0_10 c0_10) (h5 : slR k_api_Instr hV v_c0_17 c0_17) (h6 : slR (kInt .u8) hV v_c0_19 c0_19) (h7 : (preP b21 [v_c0_1, v_c0_3, v_c0_5, .int .i64 c0_7, v_c0_8, v_c0_10, .int .u8 c0_12, .bool c0_13, .int .i64 c0_14, .int .i64 c0_15, .int .i64 c0_16, v_c0_17, v_c0_19] 97).p hV) (h8 : (boxP b23 [.pointer (some ⟨b21, 0, none⟩)] 93).p hV) :
    Trip Tryz.prog 45 [.agg #[.int .u8 i_0.Op, .int .i64 i_0.A, .int .i64 i_0.B], .pointer (some ⟨b23, 0, none⟩)].toArray em hV w (fun v => HO.pure (v = .bool r)) := by
 refine Trip.go 8 Tryz.func45 sV (aS h0 (aS h1 (aS h2 (aS h3 (aS h4 (aS h5 (aS h6 (All.cons (x := preP b21 [v_c0_1, v_c0_3, v_c0_5, .int .i64 c0_7, v_c0_8, v_c0_10, .int .u8 c0_12, .bool c0_13, .int .i64 c0_14, .int .i64 c0_15, .int .i64 c0_16, v_c0_17, v_c0_19] 97) h7 (All.cons (x := boxP b23 [.pointer (some ⟨b21, 0, none⟩)] 93) h8 (All.nil _)))))))))) fun see => ?_
 have ho := H
 refine go ?_
 refine SP.box rfl rfl rfl rfl fun b25 => ?_
 refine SP.val (Val.assign rfl) rfl rfl rfl ?_
 refine SP.nil ?_
 refine QE.then ?_
 refine CP.seq ?_
 refine CP.region ?_
 refine SP.val (Val.loadB1 see 8 rfl Tryz.underlying93 rfl rfl rfl) rfl rfl rfl ?_
 refine SP.val (Val.loadA 0 rfl Tryz.underlying71 rfl sz71 rfl rfl rfl) rfl rfl rfl ?_
 obtain ⟨t27, hc, ho⟩ := bind_some ho
 refine SP.callV see (caps := []) (.bool t27) fn46 rfl rfl rfl rfl (fun w2 hP hs sub ap => types_look_there_s1.ok _ _ _ _ _ _ _ _ _ _ _ _ _ _ _ _ _ _ _ _ _ _ _ hc w2 hP sub (ap.get 0 rfl) (ap.get 1 rfl) (ap.get 2 rfl) (ap.get 3 rfl) (ap.get 4 rfl) (ap.get 5 rfl) (ap.get 6 rfl) (ap.get 7 rfl)) ?_
 clear hc
 refine go ?_
 obtain rfl := Option.some.inj ho
 exact QE.rt (fun _ h => h)
inductive slices_IndexFunc_api_Instr_api_Instr_s2.S where
  | start
  | l1 (x31 : Int)
def slices_IndexFunc_api_Instr_api_Instr_s2.F (s_0 : (List api_Instr)) (f_1_2 : List api_Value) (f_1_4 : List api_Value) (f_1_6 : List api_Method) (f_1_8 : Int) (f_1_9 : List Int) (f_1_11 : List Int) (f_1_13 : Int) (f_1_14 : Bool) (f_1_15 : Int) (f_1_16 : Int) (f_1_17 : Int) (f_1_18 : List api_Instr) (f_1_20 : List Int) : slices_IndexFunc_api_Instr_api_Instr_s2.S → Option (slices_IndexFunc_api_Instr_api_Instr_s2.S ⊕ Int)
  | .start => some (.inl (.l1 0))
  | .l1 x31 => if x31 < (s_0.length : Int) then ((elt s_0 x31).bind fun x35 => (types_Rows_1_s1.f x35 f_1_2 f_1_4 f_1_6 f_1_8 f_1_9 f_1_11 f_1_13 f_1_14 f_1_15 f_1_16 f_1_17 f_1_18 f_1_20).bind fun t36 => if t36 = true then (some (.inr x31)) else (some (.inl (.l1 (IntKind.i64.wrap (x31 + 1)))))) else (some (.inr (-1)))
def slices_IndexFunc_api_Instr_api_Instr_s2.f (s_0 : (List api_Instr)) (f_1_2 : List api_Value) (f_1_4 : List api_Value) (f_1_6 : List api_Method) (f_1_8 : Int) (f_1_9 : List Int) (f_1_11 : List Int) (f_1_13 : Int) (f_1_14 : Bool) (f_1_15 : Int) (f_1_16 : Int) (f_1_17 : Int) (f_1_18 : List api_Instr) (f_1_20 : List Int) : Option Int := runF (slices_IndexFunc_api_Instr_api_Instr_s2.F s_0 f_1_2 f_1_4 f_1_6 f_1_8 f_1_9 f_1_11 f_1_13 f_1_14 f_1_15 f_1_16 f_1_17 f_1_18 f_1_20) .start
theorem slices_IndexFunc_api_Instr_api_Instr_s2.ok (s_0 : (List api_Instr)) (f_1_2 : List api_Value) (f_1_4 : List api_Value) (f_1_6 : List api_Method) (f_1_8 : Int) (f_1_9 : List Int) (f_1_11 : List Int) (f_1_13 : Int) (f_1_14 : Bool) (f_1_15 f_1_16 f_1_17 : Int) (f_1_18 : List api_Instr) (f_1_20 : List Int) (v_s_0 v_f_1_2 : Value) (v_f_1_4 v_f_1_6 : Value) (v_f_1_9 v_f_1_11 : Value) (v_f_1_18 v_f_1_20 : Value) (b22 : Nat) (b24 : Nat) (r : Int) (H : slices_IndexFunc_api_Instr_api_Instr_s2.f s_0 f_1_2 f_1_4 f_1_6 f_1_8 f_1_9 f_1_11 f_1_13 f_1_14 f_1_15 f_1_16 f_1_17 f_1_18 f_1_20 = some r) (w : World) (hV : Hp) (sV : Sub hV (hp w)) (h0 : slR k_api_Instr hV v_s_0 s_0) (h1 : slR k_api_Value hV v_f_1_2 f_1_2) (h2 : slR k_api_Value hV v_f_1_4 f_1_4) (h3 : slR k_api_Method hV v_f_1_6 f_1_6) (h4 : slR (kInt .u8) hV v_f_1_9 f_1_9) (h5 : slR (kInt .u8) hV v_f_1_11 f_1_11) (h6 : slR k_api_Instr hV v_f_1_18 f_1_18) (h7 : slR (kInt .u8) hV v_f_1_20 f_1_20) (h8 : (preP b22 [v_f_1_2, v_f_1_4, v_f_1_6, .int .i64 f_1_8, v_f_1_9, v_f_1_11, .int .u8 f_1_13, .bool f_1_14, .int .i64 f_1_15, .int .i64 f_1_16, .int .i64 f_1_17, v_f_1_18, v_f_1_20] 97).p hV) (h9 : (boxP b24 [.pointer (some ⟨b22, 0, none⟩)] 93).p hV) :
    Trip Tryz.prog 73 [v_s_0, .func (.func 45) #[] #[.pointer (some ⟨b24, 0, none⟩)]].toArray em hV w (fun v => HO.pure (v = .int .i64 r)) := by
 refine Trip.go 19 Tryz.func73 sV (aS h0 (aS h1 (aS h2 (aS h3 (aS h4 (aS h5 (aS h6 (aS h7 (All.cons (x := preP b22 [v_f_1_2, v_f_1_4, v_f_1_6, .int .i64 f_1_8, v_f_1_9, v_f_1_11, .int .u8 f_1_13, .bool f_1_14, .int .i64 f_1_15, .int .i64 f_1_16, .int .i64 f_1_17, v_f_1_18, v_f_1_20] 97) h8 (All.cons (x := boxP b24 [.pointer (some ⟨b22, 0, none⟩)] 93) h9 (All.nil _))))))))))) fun see => ?_
 obtain ⟨n0, hi⟩ := runF_iff.1 H
 obtain ⟨m0, o, hm0, ho, hr⟩ := iter_some hi
 clear hi
 refine go ?_
 refine CP.seq ?_
 refine go ?_
 obtain rfl := Option.some.inj ho
 refine CP.loop (fun cl1 a w2 => ∃ x31 : Int, cl1 ≤ m0 ∧ iter (slices_IndexFunc_api_Instr_api_Instr_s2.F s_0 f_1_2 f_1_4 f_1_6 f_1_8 f_1_9 f_1_11 f_1_13 f_1_14 f_1_15 f_1_16 f_1_17 f_1_18 f_1_20) cl1 (.l1 x31) = some r ∧ Env ⟨19, []⟩ [(0, v_s_0), (1, .func (.func 45) #[] #[.pointer (some ⟨b24, 0, none⟩)]), (7, .int .i64 (s_0.length : Int)), (8, .int .i64 x31)] a ∧ St w em hV [slP k_api_Instr v_s_0 s_0, slP k_api_Value v_f_1_2 f_1_2, slP k_api_Value v_f_1_4 f_1_4, slP k_api_Method v_f_1_6 f_1_6, slP (kInt .u8) v_f_1_9 f_1_9, slP (kInt .u8) v_f_1_11 f_1_11, slP k_api_Instr v_f_1_18 f_1_18, slP (kInt .u8) v_f_1_20 f_1_20, preP b22 [v_f_1_2, v_f_1_4, v_f_1_6, .int .i64 f_1_8, v_f_1_9, v_f_1_11, .int .u8 f_1_13, .bool f_1_14, .int .i64 f_1_15, .int .i64 f_1_16, .int .i64 f_1_17, v_f_1_18, v_f_1_20] 97, boxP b24 [.pointer (some ⟨b22, 0, none⟩)] 93] [] w2) m0 (fun a w2 ha hw => ⟨0, Nat.le_refl _, hr, ha.sub sb, hw⟩) ?_
 clear hr
 rintro cl1 a w2 ⟨x31, hc_l1, hi, ha, hw⟩
 obtain ⟨m32, o, hm_m32, ho, hr⟩ := iter_some hi
 refine CP.app ha hw ?_
 clear ha hw a w2 hi
 refine go ?_
 refine CP.seq ?_
 refine CP.ci ho (fun ho => ?_) fun ho => ?_
 ·refine go ?_
  refine CP.seq ?_
  refine go ?_
  obtain ⟨x35, hx, ho⟩ := elt_bind ho
  refine SP.indexP see 0 rfl Tryz.underlying39 sz71 hx.1 hx.2 rfl rfl rfl rfl (fun p33 => ?_)
  clear hx
  refine k_api_Instr.load see 0 rfl Tryz.underlying71 rfl sz71 rfl rfl rfl ?_
  obtain ⟨t36, hc, ho⟩ := bind_some ho
  refine SP.callV see (caps := [.pointer (some ⟨b24, 0, none⟩)]) (.bool t36) fn45 rfl rfl rfl rfl (fun w2 hP hs sub ap => types_Rows_1_s1.ok _ _ _ _ _ _ _ _ _ _ _ _ _ _ _ _ _ _ _ _ _ _ _ _ hc w2 hP sub (ap.get 2 rfl) (ap.get 3 rfl) (ap.get 4 rfl) (ap.get 5 rfl) (ap.get 6 rfl) (ap.get 7 rfl) (ap.get 8 rfl) (ap.get 9 rfl) (ap.get 10 rfl)) ?_
  clear hc
  refine go ?_
  refine CP.cb ho (fun ho => ?_) fun ho => ?_
  ·refine go ?_
   obtain rfl := fin ho hr
   exact QE.rt (fun _ h => h)
  refine go ?_
  obtain rfl := Option.some.inj ho
  exact QE.lower m32 (by omega) fun a w2 ha hw => ⟨(IntKind.i64.wrap (x31 + 1)), (by omega), hr, ha.sub sb, (St.selP [1, 2, 3, 4, 5, 6, 7, 8, 9, 10] rfl hw)⟩
 refine go ?_
 obtain rfl := fin ho hr
 exact QE.rt (fun _ h => h)
def slices_ContainsFunc_api_Instr_api_Instr_s2.f (s_0 : (List api_Instr)) (f_1_2 : List api_Value) (f_1_4 : List api_Value) (f_1_6 : List api_Method) (f_1_8 : Int) (f_1_9 : List Int) (f_1_11 : List Int) (f_1_13 : Int) (f_1_14 : Bool) (f_1_15 : Int) (f_1_16 : Int) (f_1_17 : Int) (f_1_18 : List api_Instr) (f_1_20 : List Int) : Option Bool :=
  (slices_IndexFunc_api_Instr_api_Instr_s2.f s_0 f_1_2 f_1_4 f_1_6 f_1_8 f_1_9 f_1_11 f_1_13 f_1_14 f_1_15 f_1_16 f_1_17 f_1_18 f_1_20).bind fun t26 => some (decide (t26 ≥ 0))
theorem slices_ContainsFunc_api_Instr_api_Instr_s2.ok (s_0 : (List api_Instr)) (f_1_2 : List api_Value) (f_1_4 : List api_Value) (f_1_6 : List api_Method) (f_1_8 : Int) (f_1_9 : List Int) (f_1_11 : List Int) (f_1_13 : Int) (f_1_14 : Bool) (f_1_15 f_1_16 f_1_17 : Int) (f_1_18 : List api_Instr) (f_1_20 : List Int) (v_s_0 v_f_1_2 : Value) (v_f_1_4 v_f_1_6 : Value) (v_f_1_9 v_f_1_11 : Value) (v_f_1_18 v_f_1_20 : Value) (b22 : Nat) (b24 : Nat) (r : Bool) (H : slices_ContainsFunc_api_Instr_api_Instr_s2.f s_0 f_1_2 f_1_4 f_1_6 f_1_8 f_1_9 f_1_11 f_1_13 f_1_14 f_1_15 f_1_16 f_1_17 f_1_18 f_1_20 = some r) (w : World) (hV : Hp) (sV : Sub hV (hp w)) (h0 : slR k_api_Instr hV v_s_0 s_0) (h1 : slR k_api_Value hV v_f_1_2 f_1_2) (h2 : slR k_api_Value hV v_f_1_4 f_1_4) (h3 : slR k_api_Method hV v_f_1_6 f_1_6) (h4 : slR (kInt .u8) hV v_f_1_9 f_1_9) (h5 : slR (kInt .u8) hV v_f_1_11 f_1_11) (h6 : slR k_api_Instr hV v_f_1_18 f_1_18) (h7 : slR (kInt .u8) hV v_f_1_20 f_1_20) (h8 : (preP b22 [v_f_1_2, v_f_1_4, v_f_1_6, .int .i64 f_1_8, v_f_1_9, v_f_1_11, .int .u8 f_1_13, .bool f_1_14, .int .i64 f_1_15, .int .i64 f_1_16, .int .i64 f_1_17, v_f_1_18, v_f_1_20] 97).p hV) (h9 : (boxP b24 [.pointer (some ⟨b22, 0, none⟩)] 93).p hV) :
    Trip Tryz.prog 44 [v_s_0, .func (.func 45) #[] #[.pointer (some ⟨b24, 0, none⟩)]].toArray em hV w (fun v => HO.pure (v = .bool r)) := by
 refine Trip.go 9 Tryz.func44 sV (aS h0 (aS h1 (aS h2 (aS h3 (aS h4 (aS h5 (aS h6 (aS h7 (All.cons (x := preP b22 [v_f_1_2, v_f_1_4, v_f_1_6, .int .i64 f_1_8, v_f_1_9, v_f_1_11, .int .u8 f_1_13, .bool f_1_14, .int .i64 f_1_15, .int .i64 f_1_16, .int .i64 f_1_17, v_f_1_18, v_f_1_20] 97) h8 (All.cons (x := boxP b24 [.pointer (some ⟨b22, 0, none⟩)] 93) h9 (All.nil _))))))))))) fun see => ?_
 have ho := H
 refine go ?_
 obtain ⟨t26, hc, ho⟩ := bind_some ho
 refine SP.callV see (caps := []) (.int .i64 t26) fn73 rfl rfl rfl rfl (fun w2 hP hs sub ap => slices_IndexFunc_api_Instr_api_Instr_s2.ok _ _ _ _ _ _ _ _ _ _ _ _ _ _ _ _ _ _ _ _ _ _ _ _ _ hc w2 hP sub (ap.get 0 rfl) (ap.get 1 rfl) (ap.get 2 rfl) (ap.get 3 rfl) (ap.get 4 rfl) (ap.get 5 rfl) (ap.get 6 rfl) (ap.get 7 rfl) (ap.get 8 rfl) (ap.get 9 rfl)) ?_
 clear hc
 refine go ?_
 obtain rfl := Option.some.inj ho
 exact QE.rt (fun _ h => h)
def op_Shape_take_s2.f (s_0_2 : List Int) (s_0_5 : List Int) (kind_1 : Int) : Option ((List Int) × (List Int)) :=
  if (s_0_2.length + [kind_1].length) * 1 ≤ 140737488355328 then (some (s_0_2 ++ [kind_1], s_0_5)) else none
theorem op_Shape_take_s2.ok (s_0_2 : List Int) (s_0_5 : List Int) (kind_1 : Int) (v_s_0_2 v_s_0_5 : Value) (r : (List Int) × (List Int)) (H : op_Shape_take_s2.f s_0_2 s_0_5 kind_1 = some r) (w : World) (hV : Hp) (sV : Sub hV (hp w)) (h0 : anyP.p hV) (h1 : anyP.p hV) (b1 : Nat) (hA : Hp) (sA : Sub hA (hp w)) (dA : Dj hV hA) (hI : (HO.seps [boxO b1 [v_s_0_2, v_s_0_5] 186, slO (kInt .u8) 5 v_s_0_2 s_0_2, slO (kInt .u8) 5 v_s_0_5 s_0_5]).p hV hA) :
    Trip Tryz.prog 154 [.pointer (some ⟨b1, 0, none⟩), .int .u8 kind_1].toArray hA hV w (fun v => HO.pand (v = .tuple #[]) (HO.seps [HO.ex fun v12 : Value => HO.ex fun v13 : Value => HO.seps [boxO b1 [v12, v13] 186, slO (kInt .u8) 5 v12 r.1, slO (kInt .u8) 5 v13 r.2]])) := by
 have see : Sees w hA hV := ⟨sV, dA⟩
 refine Trip.of (P := Tryz.prog) (n := ⟨14, []⟩) Tryz.func154 rfl ⟨rfl, rfl⟩ rfl (St.beginA (os := [boxO b1 [v_s_0_2, v_s_0_5] 186, slO (kInt .u8) 5 v_s_0_2 s_0_2, slO (kInt .u8) 5 v_s_0_5 s_0_5]) sA (All.cons (x := anyP) h0 (All.cons (x := anyP) h1 (All.nil _))) hI) ?_
 have ho := H
 refine go ?_
 refine SP.lit (k := (kInt .u8)) (xs := [kind_1]) (vs := [.int .u8 kind_1]) (cells := [.int .u8 kind_1]) Tryz.underlying38 inf5 rfl rfl rfl rfl rfl rfl rfl rfl (fun _ ap => ⟨[.int .u8 kind_1], _, rfl, rfl, rfl⟩) rfl rfl rfl (fun v8 => ?_)
 refine SP.freezeS see 0 rfl ?_
 obtain ⟨hb, ho⟩ := must_some ho
 refine SP.append see 1 rfl 0 rfl Tryz.underlying38 inf5 rfl rfl hb rfl rfl rfl rfl rfl (fun v10 => ?_)
 clear hb
 refine go ?_
 refine SP.have (fun w2 hw => slO.shape (St.own 1 rfl see.sub see.dj hw)) (fun hs_v10 => ?_)
 refine SP.store (v := v10) (vs := [v10]) 0 (by rfl) sz38 (by rfl) (by rfl) (by rfl) (one_cells hs_v10) (one_cons hs_v10 (rfl)) (by rfl) ?_
 refine go ?_
 obtain rfl := Option.some.inj ho
 exact QE.over (rs := []) (vs := []) Tryz.results154 rfl trivial (fun w2 h => St.done (fun a b p s => ⟨rfl, s⟩) (St.shut v10 (St.shut v_s_0_5 (St.group [boxO b1 [v10, v_s_0_5] 186, slO (kInt .u8) 5 v10 (s_0_2 ++ [kind_1]), slO (kInt .u8) 5 v_s_0_5 s_0_5] (St.selO [0, 1, 2] rfl rfl h)))))
def op_Shape_give_s2.f (s_0_2 : List Int) (s_0_5 : List Int) (kind_1 : Int) : Option ((List Int) × (List Int)) :=
  if (s_0_5.length + [kind_1].length) * 1 ≤ 140737488355328 then (some (s_0_2, s_0_5 ++ [kind_1])) else none
theorem op_Shape_give_s2.ok (s_0_2 : List Int) (s_0_5 : List Int) (kind_1 : Int) (v_s_0_2 v_s_0_5 : Value) (r : (List Int) × (List Int)) (H : op_Shape_give_s2.f s_0_2 s_0_5 kind_1 = some r) (w : World) (hV : Hp) (sV : Sub hV (hp w)) (h0 : anyP.p hV) (h1 : anyP.p hV) (b1 : Nat) (hA : Hp) (sA : Sub hA (hp w)) (dA : Dj hV hA) (hI : (HO.seps [boxO b1 [v_s_0_2, v_s_0_5] 186, slO (kInt .u8) 5 v_s_0_2 s_0_2, slO (kInt .u8) 5 v_s_0_5 s_0_5]).p hV hA) :
    Trip Tryz.prog 155 [.pointer (some ⟨b1, 0, none⟩), .int .u8 kind_1].toArray hA hV w (fun v => HO.pand (v = .tuple #[]) (HO.seps [HO.ex fun v12 : Value => HO.ex fun v13 : Value => HO.seps [boxO b1 [v12, v13] 186, slO (kInt .u8) 5 v12 r.1, slO (kInt .u8) 5 v13 r.2]])) := by
 have see : Sees w hA hV := ⟨sV, dA⟩
 refine Trip.of (P := Tryz.prog) (n := ⟨14, []⟩) Tryz.func155 rfl ⟨rfl, rfl⟩ rfl (St.beginA (os := [boxO b1 [v_s_0_2, v_s_0_5] 186, slO (kInt .u8) 5 v_s_0_2 s_0_2, slO (kInt .u8) 5 v_s_0_5 s_0_5]) sA (All.cons (x := anyP) h0 (All.cons (x := anyP) h1 (All.nil _))) hI) ?_
 have ho := H
 refine go ?_
 refine SP.lit (k := (kInt .u8)) (xs := [kind_1]) (vs := [.int .u8 kind_1]) (cells := [.int .u8 kind_1]) Tryz.underlying38 inf5 rfl rfl rfl rfl rfl rfl rfl rfl (fun _ ap => ⟨[.int .u8 kind_1], _, rfl, rfl, rfl⟩) rfl rfl rfl (fun v8 => ?_)
 refine SP.freezeS see 0 rfl ?_
 obtain ⟨hb, ho⟩ := must_some ho
 refine SP.append see 2 rfl 0 rfl Tryz.underlying38 inf5 rfl rfl hb rfl rfl rfl rfl rfl (fun v10 => ?_)
 clear hb
 refine go ?_
 refine SP.have (fun w2 hw => slO.shape (St.own 2 rfl see.sub see.dj hw)) (fun hs_v10 => ?_)
 refine SP.store (v := v10) (vs := [v10]) 0 (by rfl) sz38 (by rfl) (by rfl) (by rfl) (one_cells hs_v10) (one_cons hs_v10 (rfl)) (by rfl) ?_
 refine go ?_
 obtain rfl := Option.some.inj ho
 exact QE.over (rs := []) (vs := []) Tryz.results155 rfl trivial (fun w2 h => St.done (fun a b p s => ⟨rfl, s⟩) (St.shut v_s_0_2 (St.shut v10 (St.group [boxO b1 [v_s_0_2, v10] 186, slO (kInt .u8) 5 v_s_0_2 s_0_2, slO (kInt .u8) 5 v10 (s_0_5 ++ [kind_1])] (St.selO [0, 1, 2] rfl rfl h)))))
end Go.Proofs.YtmhkokkphgchlaaGreatDoor
end
