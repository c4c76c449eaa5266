/- Functions of the program as plain functions, with the proof that the code computes them: printed by gen.py of this session. -/
import Derived.Test.YtpbmkaenleedoaaGreatDoorProg
import Derived.Test.YtpbmkaenleedoaaGreatDoorQ34v308309
import Derived.Test.YtpbmkaenleedoaaGreatDoorQ35v308309
import Derived.Ground.Names8Prog
import Derived.Ground.NamesProg
import Derived.Ground.SlgcProg
import Derived.Ground.SlgmProg
import Derived.Ground.SlgnProg
import Derived.Ground.SlsfProg
import Derived.Shelf.Bits.Mul64
import Derived.Shelf.Lay
import Derived.Shelf.SlGeneric
import Derived.Shelf.SlSortCmp.WholeK
import Derived.Shelf.SlicesE.Reverse
import Derived.Shelf.SlicesG.Cmp
import Derived.Shelf.SlicesG.CompactI
import Derived.Shelf.Small.Bits
import Derived.Shelf.SortM.Plain
import Derived.Shelf.SortM.SortNone
import Derived.Shelf.Spec.SlicesGrow
import Derived.Test.YtpbmkaenleedoaaGreatDoorGTypesTellsp1
set_option linter.unusedVariables false
set_option linter.unusedSimpArgs false
set_option maxRecDepth 20000
set_option maxHeartbeats 2000000
set_option linter.defProp false
set_option warn.classDefReducibility false
noncomputable section
namespace Go.Proofs.YtpbmkaenleedoaaGreatDoor
open Go.Q
attribute [local irreducible] CP SP QE DA DT Val St
/-! ### capstan/capstanref10.Rows: function 6 -/
inductive capstanref10_Rows.S where
  | start
  | l1 (x11 : api_Method) (x217 : Int)
  | l2 (x11 : api_Method) (l318 : List capstanref10_Row) (x320 : Int)
  | l3 (x11 : api_Method) (x320 : Int) (t338 : (List Int) × Int) (t342 : (List Int) × Int) (l372 : List capstanref10_Row) (x374 : Int)

def capstanref10_Rows.j1 (m_0 : api_Module) (k_1 : Int) (x11 : api_Method) (x320 : Int) (l405 : List capstanref10_Row) : Option (capstanref10_Rows.S ⊕ ((List capstanref10_Row) × Int)) :=
  some (.inl (.l2 x11 l405 (IntKind.i64.wrap (x320 + 1))))

def capstanref10_Rows.F (m_0 : api_Module) (k_1 : Int) : capstanref10_Rows.S → Option (capstanref10_Rows.S ⊕ ((List capstanref10_Row) × Int))
  | .start => if ((decide (k_1 < 0)) || (decide (k_1 ≥ (m_0.Methods.length : Int)))) = true then (some (.inr ([], 2))) else ((elt m_0.Methods k_1).bind fun x11 => (capstanref09_Loops.f x11.Code).bind fun t20 => if t20.2 ≠ 0 then (some (.inr ([], t20.2))) else (some (.inl (.l1 x11 0))))
  | .l1 x11 x217 => if x217 < (x11.Code.length : Int) then ((elt x11.Code x217).bind fun x221 => (capstanref10_there.f m_0 x11 x221).bind fun t223 => if (!t223) = true then (some (.inr ([], 100))) else (some (.inl (.l1 x11 (IntKind.i64.wrap (x217 + 1)))))) else (if (0 : Int) ≤ (x11.Code.length : Int) ∧ (32 : Int) * (x11.Code.length : Int) ≤ 281474976710656 ∧ ((x11.Code.length : Int) : Int) ≤ 9223372036854775807 then ((elt (List.replicate ((x11.Code.length : Int) : Int).toNat capstanref10_Row.zero : List capstanref10_Row) 0).bind fun x228 => some (.inl (.l2 x11 ((List.replicate ((x11.Code.length : Int) : Int).toNat capstanref10_Row.zero : List capstanref10_Row).set (0 : Int).toNat ({ x228 with Reached := true } : capstanref10_Row)) 0))) else none)
  | .l2 x11 l318 x320 => if x320 < (l318.length : Int) then ((elt l318 x320).bind fun x323 => if (!x323.Reached) = true then (capstanref10_Rows.j1 m_0 k_1 x11 x320 l318) else ((elt x11.Code x320).bind fun x327 => (elt l318 x320).bind fun x330 => (capstanref10_After.f m_0 x11 x327 x330.Kinds).bind fun t338 => if t338.2 ≠ 0 then (some (.inr ([], t338.2))) else ((capstanref09_Ways.f x11.Code x320).bind fun t342 => some (.inl (.l3 x11 x320 t338 t342 l318 0))))) else (some (.inr (l318, 0)))
  | .l3 x11 x320 t338 t342 l372 x374 => if x374 < (t342.1.length : Int) then ((elt t342.1 x374).bind fun x377 => (elt l372 x377).bind fun x379 => (if x379.Reached = true then ((elt l372 x377).bind fun x384 => (capstanref07_SameKinds.f x384.Kinds t338.1).bind fun t388 => some (!t388)) else (some false)).bind fun t389 => if t389 = true then (some (.inr ([], 100))) else ((elt l372 x377).bind fun x392 => if (([] : List Int).length + t338.1.length) * 1 ≤ 140737488355328 then ((elt (l372.set x377.toNat ({ x392 with Reached := true } : capstanref10_Row)) x377).bind fun x400 => some (.inl (.l3 x11 x320 t338 t342 ((l372.set x377.toNat ({ x392 with Reached := true } : capstanref10_Row)).set x377.toNat ({ x400 with Kinds := ([] : List Int) ++ t338.1 } : capstanref10_Row)) (IntKind.i64.wrap (x374 + 1))))) else none)) else (capstanref10_Rows.j1 m_0 k_1 x11 x320 l372)

def capstanref10_Rows.f (m_0 : api_Module) (k_1 : Int) : Option ((List capstanref10_Row) × Int) := runF (capstanref10_Rows.F m_0 k_1) .start
theorem capstanref10_Rows.ok (m_0 : api_Module) (k_1 : Int) (v_m_0_Globals v_m_0_Pool v_m_0_Methods : Value) (r : (List capstanref10_Row) × Int) (H : capstanref10_Rows.f m_0 k_1 = some r) (w : World) (hV : Hp) (sV : Sub hV (hp w)) (h0 : slR k_api_Value hV v_m_0_Globals m_0.Globals) (h1 : slR k_api_Value hV v_m_0_Pool m_0.Pool) (h2 : slR k_api_Method hV v_m_0_Methods m_0.Methods) :
    Trip Tryz.prog 6 [.agg #[v_m_0_Globals, v_m_0_Pool, v_m_0_Methods, .int .i64 m_0.Migrate], .int .i64 k_1].toArray em hV w (fun v => HO.ex fun u0 : Value => HO.pand (v = .tuple #[u0, .int .i64 r.2]) (HO.seps [slO k_capstanref10_Row 41 u0 r.1])) := by
 have see : Sees w em hV := ⟨sV, Dj.em_right _⟩
 refine Trip.of (P := Tryz.prog) (n := ⟨139, []⟩) Tryz.func6 rfl ⟨rfl, rfl⟩ rfl (St.begin (aS h0 (aS h1 (aS h2 (All.nil _))))) ?_
 obtain ⟨n0, hi⟩ := runF_iff.1 H
 obtain ⟨m0, o, hm0, ho, hr⟩ := iter_some hi
 clear hi
 refine go ?_
 refine SP.box (cs := [v_m_0_Globals, v_m_0_Pool, v_m_0_Methods, .int .i64 m_0.Migrate]) rfl rfl rfl rfl (fun b4 => ?_)
 refine go ?_
 refine CP.seq ?_
 refine go ?_
 refine SP.jn 6 [1, 2] 26 (.bool ((decide (k_1 < 0)) || (decide (k_1 ≥ (m_0.Methods.length : Int))))) ?_ ?_
 ·refine go ?_
  refine CP.cb ho (fun ho => ?_) fun ho => ?_
  ·refine go ?_
   obtain rfl := fin ho hr
   exact QE.rt fun _ h => (St.selO [0] rfl rfl (St.addO (slO.nil k_capstanref10_Row 41) h))
  refine go ?_
  obtain ⟨x11, hx, ho⟩ := elt_bind ho
  refine SP.indexP see 2 rfl Tryz.underlying23 sz48 hx.1 hx.2 rfl rfl rfl rfl (fun p9 => ?_)
  clear hx
  refine k_api_Method.load see 0 rfl Tryz.underlying48 rfl sz48 rfl rfl rfl (fun v12 v14 v16 => ?_)
  refine SP.alloc (cs := [(.slice none 0 0), (.slice none 0 0), .int .u8 0, .bool false, .int .i64 0, .int .i64 0, .int .i64 0, (.slice none 0 0)]) inf48 rfl rfl (fun b18 => ?_)
  refine SP.have (fun w2 hw => slR.shape (St.pers 0 rfl see.sub see.dj hw)) (fun hs_v12 => ?_)
  refine SP.have (fun w2 hw => slR.shape (St.pers 1 rfl see.sub see.dj hw)) (fun hs_v14 => ?_)
  refine SP.have (fun w2 hw => slR.shape (St.pers 2 rfl see.sub see.dj hw)) (fun hs_v16 => ?_)
  refine SP.store (v := .agg #[v12, v14, .int .u8 x11.Result, .bool x11.Reads, .int .i64 x11.Fuel, .int .i64 x11.Stack, .int .i64 x11.Heap, v16]) (vs := [v12, v14, .int .u8 x11.Result, .bool x11.Reads, .int .i64 x11.Fuel, .int .i64 x11.Stack, .int .i64 x11.Heap, v16]) 0 (by rfl) sz48 (by rfl) (by rfl) (by rfl) (by rfl) (one_cons hs_v12 (one_cons hs_v14 (one_cons rfl (one_cons rfl (one_cons rfl (one_cons rfl (one_cons rfl (one_cons hs_v16 (rfl))))))))) (by rfl) ?_
  refine go ?_
  obtain ⟨t20, hc, ho⟩ := bind_some (x := capstanref09_Loops.f x11.Code) ho
  refine SP.callK see (caps := []) _ fn16 rfl rfl rfl rfl (fun w2 hP hs sub ap => capstanref09_Loops.ok _ _ _ hc w2 hP sub (ap.get 2 rfl)) (SP.k1 fun v21 => ?_)
  refine SP.imp (fun w2 h => St.toP 0 rfl h) ?_
  clear hc
  refine go ?_
  refine CP.seq ?_
  refine go ?_
  refine CP.ci ho (fun ho => ?_) fun ho => ?_
  ·refine go ?_
   obtain rfl := fin ho hr
   exact QE.rt fun _ h => (St.selO [0] rfl rfl (St.addO (slO.nil k_capstanref10_Row 41) h))
  refine go ?_
  refine CP.seq ?_
  refine go ?_
  obtain rfl := Option.some.inj ho
  refine CP.loop (fun cl1 a w2 => ∃ x217 : Int, cl1 ≤ m0 ∧ iter (capstanref10_Rows.F m_0 k_1) cl1 (.l1 x11 x217) = some r ∧ Env ⟨139, []⟩ [(2, .pointer (some ⟨b4, 0, none⟩)), (6, .pointer (some ⟨b18, 0, none⟩)), (9, .int .i64 x217)] a ∧ St w em hV [slP (kInt .u8) v12 x11.Args, slP (kInt .u8) v14 x11.Locals, slP k_api_Instr v16 x11.Code, slP k_api_Value v_m_0_Globals m_0.Globals, slP k_api_Value v_m_0_Pool m_0.Pool, slP k_api_Method v_m_0_Methods m_0.Methods] [boxO b18 [v12, v14, .int .u8 x11.Result, .bool x11.Reads, .int .i64 x11.Fuel, .int .i64 x11.Stack, .int .i64 x11.Heap, v16] 48, boxO b4 [v_m_0_Globals, v_m_0_Pool, v_m_0_Methods, .int .i64 m_0.Migrate] 25] w2) m0 (fun a w2 ha hw => ⟨0, Nat.le_refl _, hr, ha.sub sb, (St.selP [1, 2, 3, 5, 6, 7] rfl hw)⟩) ?_
  clear hr
  rintro cl1 a w2 ⟨x217, hc_l1, hi, ha, hw⟩
  obtain ⟨m218, o, hm_m218, ho, hr⟩ := iter_some hi
  refine CP.app ha hw ?_
  clear ha hw a w2 hi
  refine CP.seq ?_
  refine go ?_
  refine CP.ci ho (fun ho => ?_) fun ho => ?_
  ·refine go ?_
   refine CP.seq ?_
   refine go ?_
   refine CP.seq ?_
   refine CP.drawA (by kernel_rfl) (fun w2 k h => h.drawn k) ?_
   obtain ⟨x221, hx, ho⟩ := elt_bind ho
   refine DA.ghost (fun w2 h => h.elem see 2 rfl hx.1 hx.2) (fun p219 h_p219 => ?_)
   clear hx
   refine DA.ghost (fun w2 h => h.openE see 0 rfl (fun _ : Unit => [.int .u8 x221.Op, .int .i64 x221.A, .int .i64 x221.B]) (fun _ => []) (fun h cs e => ⟨(), e, All.nil _⟩)) (fun _ _ => ?_)
   refine DA.ph 0 7 ?_
   refine DT.tv 0 rfl (Val.loadA 1 rfl Tryz.underlying25 rfl sz25 rfl rfl rfl) ?_
   refine DT.tv 1 rfl (Val.loadA 0 rfl Tryz.underlying48 rfl sz48 rfl rfl rfl) ?_
   refine DT.tk 2 ?_
   refine DT.tk 3 ?_
   refine DT.tk 4 ?_
   refine DT.tv 5 rfl (Val.indexE h_p219 Tryz.underlying46 sz56 rfl rfl) ?_
   refine DT.tv 6 rfl (Val.loadAtA see 0 rfl Tryz.underlying56 rfl sz56 rfl) ?_
   refine DT.next (by kernel_rfl) ?_
   refine DA.one 7 rfl (by kernel_rfl) ?_
   obtain ⟨t223, hc, ho⟩ := bind_some (x := capstanref10_there.f m_0 x11 x221) ho
   refine SP.callV see (caps := []) (.bool t223) fn17 rfl rfl rfl rfl (fun w2 hP hs sub ap => capstanref10_there.ok _ _ _ _ _ _ _ _ _ _ hc w2 hP sub (ap.get 5 rfl) (ap.get 6 rfl) (ap.get 7 rfl) (ap.get 2 rfl) (ap.get 3 rfl) (ap.get 4 rfl)) ?_
   clear hc
   refine go ?_
   refine QE.atA ?_
   refine DA.one 8 rfl (by kernel_rfl) ?_
   refine go ?_
   refine QE.atA ?_
   refine DA.done (by kernel_rfl) ?_
   refine go ?_
   refine CP.cb ho (fun ho => ?_) fun ho => ?_
   ·refine go ?_
    obtain rfl := fin ho hr
    exact QE.rt fun _ h => (St.selO [0] rfl rfl (St.addO (slO.nil k_capstanref10_Row 41) h))
   refine go ?_
   obtain rfl := Option.some.inj ho
   exact QE.lower m218 (by omega) fun a w2 ha hw => ⟨(IntKind.i64.wrap (x217 + 1)), (by omega), hr, ha.sub sb, (St.selP [2, 3, 4, 5, 6, 7] rfl hw)⟩
  refine go ?_
  obtain ⟨hb, ho⟩ := must_some ho
  refine SP.makeS (k := k_capstanref10_Row) (z := capstanref10_Row.zero) Tryz.underlying28 inf41 rfl rfl (fun _ => ⟨_, rfl, slP.nil _ _⟩) rfl rfl rfl rfl hb (fun v225 => ?_)
  clear hb
  refine go ?_
  obtain ⟨x228, hx_x228, ho⟩ := elt_bind ho
  refine SP.indexW (fun w2 hw => slO.whole (St.own 0 rfl see.sub see.dj hw)) Tryz.underlying28 sz41 hx_x228.1 hx_x228.2 rfl rfl rfl rfl (fun p227 h_p227 => ?_)
  refine SP.fieldO h_p227 Tryz.underlying41 rfl sz4 rfl rfl rfl (fun p229 h_p229 => ?_)
  refine SP.storeO (z0 := ({ x228 with Reached := true } : capstanref10_Row)) (off := 0) (vs := [.bool true]) see 0 rfl hx_x228.2 h_p229 rfl (by rfl) sz4 rfl (fun a cs ap r => by obtain ⟨v0_, e, p0_⟩ := r; subst e; exact ⟨v0_, rfl, p0_⟩) rfl rfl rfl ?_
  have hs230 := set_at ({ x228 with Reached := true } : capstanref10_Row) hx_x228.2
  refine go ?_
  refine CP.seq ?_
  refine go ?_
  obtain rfl := Option.some.inj ho
  refine CP.loop (fun cl2 a w2 => ∃ l318 : List capstanref10_Row, ∃ x320 : Int, ∃ v319 : Value, cl2 ≤ m218 ∧ iter (capstanref10_Rows.F m_0 k_1) cl2 (.l2 x11 l318 x320) = some r ∧ Env ⟨139, []⟩ [(2, .pointer (some ⟨b4, 0, none⟩)), (6, .pointer (some ⟨b18, 0, none⟩)), (10, v319), (11, .int .i64 x320)] a ∧ St w em hV [slP (kInt .u8) v12 x11.Args, slP (kInt .u8) v14 x11.Locals, slP k_api_Instr v16 x11.Code, slP k_api_Value v_m_0_Globals m_0.Globals, slP k_api_Value v_m_0_Pool m_0.Pool, slP k_api_Method v_m_0_Methods m_0.Methods] [slO k_capstanref10_Row 41 v319 l318, boxO b18 [v12, v14, .int .u8 x11.Result, .bool x11.Reads, .int .i64 x11.Fuel, .int .i64 x11.Stack, .int .i64 x11.Heap, v16] 48, boxO b4 [v_m_0_Globals, v_m_0_Pool, v_m_0_Methods, .int .i64 m_0.Migrate] 25] w2) m218 (fun a w2 ha hw => ⟨((List.replicate ((x11.Code.length : Int) : Int).toNat capstanref10_Row.zero : List capstanref10_Row).set (0 : Int).toNat ({ x228 with Reached := true } : capstanref10_Row)), 0, v225, Nat.le_refl _, hr, ha.sub sb, hw⟩) ?_
  clear hr
  rintro cl2 a w2 ⟨l318, x320, v319, hc_l2, hi, ha, hw⟩
  obtain ⟨m321, o, hm_m321, ho, hr⟩ := iter_some hi
  refine CP.app ha hw ?_
  clear ha hw a w2 hi
  refine CP.seq ?_
  refine go ?_
  refine SP.val (Val.lenW (fun w2 hw => slO.whole (St.own 0 rfl see.sub see.dj hw)) Tryz.underlying28 rfl) rfl rfl rfl ?_
  refine go ?_
  refine CP.ci ho (fun ho => ?_) fun ho => ?_
  ·refine go ?_
   refine CP.join (fun a w2 => ∃ l405 : List capstanref10_Row, ∃ v406 : Value, ∃ (m407 : Nat) (o : (capstanref10_Rows.S ⊕ ((List capstanref10_Row) × Int))), m407 ≤ m321 ∧ capstanref10_Rows.j1 m_0 k_1 x11 x320 l405 = some o ∧ next (capstanref10_Rows.F m_0 k_1) m407 o = some r ∧ Env ⟨139, []⟩ [(2, .pointer (some ⟨b4, 0, none⟩)), (6, .pointer (some ⟨b18, 0, none⟩)), (10, v406), (11, .int .i64 x320)] a ∧ St w em hV [slP (kInt .u8) v12 x11.Args, slP (kInt .u8) v14 x11.Locals, slP k_api_Instr v16 x11.Code, slP k_api_Value v_m_0_Globals m_0.Globals, slP k_api_Value v_m_0_Pool m_0.Pool, slP k_api_Method v_m_0_Methods m_0.Methods] [slO k_capstanref10_Row 41 v406 l405, boxO b18 [v12, v14, .int .u8 x11.Result, .bool x11.Reads, .int .i64 x11.Fuel, .int .i64 x11.Stack, .int .i64 x11.Heap, v16] 48, boxO b4 [v_m_0_Globals, v_m_0_Pool, v_m_0_Methods, .int .i64 m_0.Migrate] 25] w2) ?_ ?_
   ·rintro a w2 ⟨l405, v406, m407, o, hm_m407, ho, hr, ha, hw⟩
    refine CP.app ha hw ?_
    clear ha hw a w2
    refine go ?_
    obtain rfl := Option.some.inj ho
    exact QE.lower m407 (by omega) fun a w2 ha hw => ⟨l405, (IntKind.i64.wrap (x320 + 1)), v406, (by omega), hr, ha.sub sb, hw⟩
   refine go ?_
   refine CP.seq ?_
   refine go ?_
   obtain ⟨x323, hx_x323, ho⟩ := elt_bind ho
   refine SP.indexW (fun w2 hw => slO.whole (St.own 0 rfl see.sub see.dj hw)) Tryz.underlying28 sz41 hx_x323.1 hx_x323.2 rfl rfl rfl rfl (fun p322 h_p322 => ?_)
   refine SP.fieldO h_p322 Tryz.underlying41 rfl sz4 rfl rfl rfl (fun p324 h_p324 => ?_)
   refine SP.val (Val.loadW1 (off := 0) (k := k_capstanref10_Row) (fun w2 hw => slO.whole (St.own 0 rfl see.sub see.dj hw)) hx_x323.2 h_p324 (fun _ _ ⟨_, e, _⟩ => by subst e; rfl) Tryz.underlying4 rfl rfl) rfl rfl rfl ?_
   refine go ?_
   refine CP.cb ho (fun ho => ?_) fun ho => ?_
   ·refine go ?_
    exact QE.meet fun a w2 ha hw => ⟨l318, v319, m321, _, (by omega), ho, hr, ha.sub sb, hw⟩
   refine go ?_
   refine CP.seq ?_
   refine CP.drawA (by kernel_rfl) (fun w2 k h => h.drawn k) ?_
   obtain ⟨x327, hx, ho⟩ := elt_bind ho
   refine DA.ghost (fun w2 h => h.elem see 2 rfl hx.1 hx.2) (fun p325 h_p325 => ?_)
   clear hx
   refine DA.ghost (fun w2 h => h.openE see 0 rfl (fun _ : Unit => [.int .u8 x327.Op, .int .i64 x327.A, .int .i64 x327.B]) (fun _ => []) (fun h cs e => ⟨(), e, All.nil _⟩)) (fun _ _ => ?_)
   obtain ⟨x330, hx_x330, ho⟩ := elt_bind ho
   refine DA.ghost (fun w2 hw => let ⟨z, hz⟩ := ixC ((fun w2 hw => slO.whole (St.own 0 rfl see.sub see.dj hw)) w2 hw) hx_x330.1 hx_x330.2; ⟨z, hz, hw⟩) (fun p329 i_p329 => ?_)
   have h_p329 := i_p329.1
   obtain ⟨p331, h_p331⟩ := PtC.more h_p329 1
   refine DA.ph 0 12 ?_
   refine DT.tv 0 rfl (Val.loadA 2 rfl Tryz.underlying25 rfl sz25 rfl rfl rfl) ?_
   refine DT.tv 1 rfl (Val.loadA 1 rfl Tryz.underlying48 rfl sz48 rfl rfl rfl) ?_
   refine DT.tk 2 ?_
   refine DT.tk 3 ?_
   refine DT.tk 4 ?_
   refine DT.tv 5 rfl (Val.indexE h_p325 Tryz.underlying46 sz56 rfl rfl) ?_
   refine DT.tv 6 rfl (Val.loadAtA see 0 rfl Tryz.underlying56 rfl sz56 rfl) ?_
   refine DT.tk 7 ?_
   refine DT.tk 8 ?_
   refine DT.tv 9 rfl (Val.indexC' i_p329 Tryz.underlying28 sz41 rfl rfl) ?_
   refine DT.tv 10 rfl (Val.fieldC h_p329 h_p331 Tryz.underlying41 rfl rfl sz38 rfl) ?_
   refine DT.one 11 rfl (by kernel_rfl) rfl ?_
   refine SP.loadOS (j := x320) see 0 1 rfl hx_x330.2 h_p331 (fun _ _ ⟨v0_, e, p0_⟩ => ⟨v0_, by subst e; rfl, p0_⟩) Tryz.underlying38 rfl rfl rfl (fun v336 => ?_)
   refine go ?_
   refine QE.atT (fun w2 hw => (St.selP [1, 2, 3, 4, 5, 6, 7, 8] rfl hw)) ?_
   refine DT.next (by kernel_rfl) ?_
   refine DA.one 12 rfl (by kernel_rfl) ?_
   obtain ⟨t338, hc, ho⟩ := bind_some (x := capstanref10_After.f m_0 x11 x327 x330.Kinds) ho
   refine SP.callK see (caps := []) _ fn18 rfl rfl rfl rfl (fun w2 hP hs sub ap => capstanref10_After.ok _ _ _ _ _ _ _ _ _ _ _ _ hc w2 hP sub (ap.get 6 rfl) (ap.get 7 rfl) (ap.get 8 rfl) (ap.get 3 rfl) (ap.get 4 rfl) (ap.get 5 rfl) (ap.get 0 rfl)) (SP.k1 fun v339 => ?_)
   refine SP.imp (fun w2 h => St.toP 0 rfl h) ?_
   clear hc
   refine go ?_
   refine QE.atA ?_
   refine DA.one 13 rfl (by kernel_rfl) ?_
   refine go ?_
   refine QE.atA ?_
   refine DA.ph 14 17 ?_
   refine DT.tk 14 ?_
   refine DT.tk 15 ?_
   refine DT.tk 16 ?_
   refine DT.next (by kernel_rfl) ?_
   refine DA.one 17 rfl (by kernel_rfl) ?_
   refine go ?_
   refine QE.atA ?_
   refine DA.done (by kernel_rfl) ?_
   refine go ?_
   refine CP.seq ?_
   refine go ?_
   refine CP.ci ho (fun ho => ?_) fun ho => ?_
   ·refine go ?_
    obtain rfl := fin ho hr
    exact QE.rt fun _ h => (St.selO [0] rfl rfl (St.addO (slO.nil k_capstanref10_Row 41) h))
   refine go ?_
   obtain ⟨t342, hc, ho⟩ := bind_some (x := capstanref09_Ways.f x11.Code x320) ho
   refine SP.callK see (caps := []) _ fn19 rfl rfl rfl rfl (fun w2 hP hs sub ap => capstanref09_Ways.ok _ _ _ _ hc w2 hP sub (ap.get 6 rfl)) (SP.k1 fun v343 => ?_)
   clear hc
   refine go ?_
   obtain rfl := Option.some.inj ho
   refine CP.loop (fun cl3 a w2 => ∃ l372 : List capstanref10_Row, ∃ x374 : Int, ∃ v373 : Value, cl3 ≤ m321 ∧ iter (capstanref10_Rows.F m_0 k_1) cl3 (.l3 x11 x320 t338 t342 l372 x374) = some r ∧ Env ⟨139, []⟩ [(2, .pointer (some ⟨b4, 0, none⟩)), (6, .pointer (some ⟨b18, 0, none⟩)), (10, v373), (11, .int .i64 x320), (12, v339), (14, v343), (16, .int .i64 x374)] a ∧ St w em hV [slP (kInt .u8) v339 t338.1, slP (kInt .u8) v12 x11.Args, slP (kInt .u8) v14 x11.Locals, slP k_api_Instr v16 x11.Code, slP k_api_Value v_m_0_Globals m_0.Globals, slP k_api_Value v_m_0_Pool m_0.Pool, slP k_api_Method v_m_0_Methods m_0.Methods] [slO (kInt .i64) 3 v343 t342.1, slO k_capstanref10_Row 41 v373 l372, boxO b18 [v12, v14, .int .u8 x11.Result, .bool x11.Reads, .int .i64 x11.Fuel, .int .i64 x11.Stack, .int .i64 x11.Heap, v16] 48, boxO b4 [v_m_0_Globals, v_m_0_Pool, v_m_0_Methods, .int .i64 m_0.Migrate] 25] w2) m321 (fun a w2 ha hw => ⟨l318, 0, v319, Nat.le_refl _, hr, ha.sub sb, (St.selP [0, 4, 5, 6, 7, 8, 9] rfl hw)⟩) ?_
   clear hr
   rintro cl3 a w2 ⟨l372, x374, v373, hc_l3, hi, ha, hw⟩
   obtain ⟨m375, o, hm_m375, ho, hr⟩ := iter_some hi
   refine CP.app ha hw ?_
   clear ha hw a w2 hi
   refine CP.seq ?_
   refine go ?_
   refine SP.val (Val.lenW (fun w2 hw => slO.whole (St.own 0 rfl see.sub see.dj hw)) Tryz.underlying59 rfl) rfl rfl rfl ?_
   refine go ?_
   refine CP.ci ho (fun ho => ?_) fun ho => ?_
   ·refine go ?_
    refine CP.seq ?_
    refine go ?_
    obtain ⟨x377, hx_x377, ho⟩ := elt_bind ho
    refine SP.indexW (fun w2 hw => slO.whole (St.own 0 rfl see.sub see.dj hw)) Tryz.underlying59 sz3 hx_x377.1 hx_x377.2 rfl rfl rfl rfl (fun p376 h_p376 => ?_)
    refine SP.val (Val.loadW1 (off := 0) (k := (kInt .i64)) (fun w2 hw => slO.whole (St.own 0 rfl see.sub see.dj hw)) hx_x377.2 h_p376 (fun _ _ e => by subst e; rfl) Tryz.underlying3 rfl rfl) rfl rfl rfl ?_
    refine go ?_
    refine CP.seq ?_
    refine go ?_
    obtain ⟨x379, hx_x379, ho⟩ := elt_bind ho
    refine SP.indexW (fun w2 hw => slO.whole (St.own 1 rfl see.sub see.dj hw)) Tryz.underlying28 sz41 hx_x379.1 hx_x379.2 rfl rfl rfl rfl (fun p378 h_p378 => ?_)
    refine SP.fieldO h_p378 Tryz.underlying41 rfl sz4 rfl rfl rfl (fun p380 h_p380 => ?_)
    refine SP.val (Val.loadW1 (off := 0) (k := k_capstanref10_Row) (fun w2 hw => slO.whole (St.own 1 rfl see.sub see.dj hw)) hx_x379.2 h_p380 (fun _ _ ⟨_, e, _⟩ => by subst e; rfl) Tryz.underlying4 rfl rfl) rfl rfl rfl ?_
    refine go ?_
    obtain ⟨t389, hg_t389, ho⟩ := bind_some ho
    refine SP.jn 9 [2, 6, 10, 11, 12, 14, 16, 17] 126 (.bool t389) ?_ ?_
    ·clear hg_t389
     refine go ?_
     refine CP.cb ho (fun ho => ?_) fun ho => ?_
     ·refine go ?_
      obtain rfl := fin ho hr
      exact QE.rt fun _ h => (St.selO [0] rfl rfl (St.addO (slO.nil k_capstanref10_Row 41) h))
     refine go ?_
     obtain ⟨x392, hx_x392, ho⟩ := elt_bind ho
     refine SP.indexW (fun w2 hw => slO.whole (St.own 1 rfl see.sub see.dj hw)) Tryz.underlying28 sz41 hx_x392.1 hx_x392.2 rfl rfl rfl rfl (fun p391 h_p391 => ?_)
     refine SP.fieldO h_p391 Tryz.underlying41 rfl sz4 rfl rfl rfl (fun p393 h_p393 => ?_)
     refine SP.storeO (z0 := ({ x392 with Reached := true } : capstanref10_Row)) (off := 0) (vs := [.bool true]) see 1 rfl hx_x392.2 h_p393 rfl (by rfl) sz4 rfl (fun a cs ap r => by obtain ⟨v0_, e, p0_⟩ := r; subst e; exact ⟨v0_, rfl, p0_⟩) rfl rfl rfl ?_
     have hs394 := set_at ({ x392 with Reached := true } : capstanref10_Row) hx_x392.2
     refine go ?_
     refine SP.lit0 (k := (kInt .u8)) Tryz.underlying38 inf5 rfl rfl (fun v395 => ?_)
     refine go ?_
     obtain ⟨hb, ho⟩ := must_some ho
     refine SP.append see 0 rfl 0 rfl Tryz.underlying38 inf5 rfl rfl hb rfl rfl rfl rfl rfl (fun v397 => ?_)
     clear hb
     obtain ⟨x400, hx_x400, ho⟩ := elt_bind ho
     refine SP.indexW (fun w2 hw => slO.whole (St.own 2 rfl see.sub see.dj hw)) Tryz.underlying28 sz41 hx_x400.1 hx_x400.2 rfl rfl rfl rfl (fun p399 h_p399 => ?_)
     refine SP.fieldO h_p399 Tryz.underlying41 rfl sz38 rfl rfl rfl (fun p401 h_p401 => ?_)
     refine SP.freezeS see 0 rfl ?_
     refine SP.have (fun w2 hw => slR.shape (St.pers 0 rfl see.sub see.dj hw)) (fun hs_v397 => ?_)
     refine SP.storeO (z0 := ({ x400 with Kinds := ([] : List Int) ++ t338.1 } : capstanref10_Row)) (off := 1) (vs := [v397]) see 1 rfl hx_x400.2 h_p401 (one_cells hs_v397) (one_cons hs_v397 (rfl)) sz38 rfl (fun a cs ap r => by obtain ⟨v0_, e, p0_⟩ := r; subst e; exact ⟨v397, rfl, ap.get 0 rfl⟩) rfl rfl rfl ?_
     refine go ?_
     obtain rfl := Option.some.inj ho
     exact QE.lower m375 (by omega) fun a w2 ha hw => ⟨((l372.set x377.toNat ({ x392 with Reached := true } : capstanref10_Row)).set x377.toNat ({ x400 with Kinds := ([] : List Int) ++ t338.1 } : capstanref10_Row)), (IntKind.i64.wrap (x374 + 1)), v373, (by omega), hr, ha.sub sb, (St.selP [1, 2, 3, 4, 5, 6, 7] rfl hw)⟩
    refine SP.cb 117 hg_t389 (fun hq382 ho => ?_) fun hq382 ho => ?_
    ·refine go ?_
     obtain ⟨x384, hx_x384, ho⟩ := elt_bind ho
     refine SP.indexW (fun w2 hw => slO.whole (St.own 1 rfl see.sub see.dj hw)) Tryz.underlying28 sz41 hx_x384.1 hx_x384.2 rfl rfl rfl rfl (fun p383 h_p383 => ?_)
     refine SP.fieldO h_p383 Tryz.underlying41 rfl sz38 rfl rfl rfl (fun p385 h_p385 => ?_)
     refine SP.loadOS (j := x377) see 1 1 rfl hx_x384.2 h_p385 (fun _ _ ⟨v0_, e, p0_⟩ => ⟨v0_, by subst e; rfl, p0_⟩) Tryz.underlying38 rfl rfl rfl (fun v386 => ?_)
     refine go ?_
     obtain ⟨t388, hc, ho⟩ := bind_some (x := capstanref07_SameKinds.f x384.Kinds t338.1) ho
     refine SP.callV see (caps := []) (.bool t388) fn11 rfl rfl rfl rfl (fun w2 hP hs sub ap => capstanref07_SameKinds.ok _ _ _ _ _ hc w2 hP sub (ap.get 0 rfl) (ap.get 1 rfl)) ?_
     clear hc
     refine go ?_
     obtain rfl := Option.some.inj ho
     exact QE.jn fun w2 hw => (St.selP [1, 2, 3, 4, 5, 6, 7] rfl hw)
    refine go ?_
    obtain rfl := Option.some.inj ho
    exact QE.jn fun w2 hw => hw
   refine go ?_
   exact QE.meet fun a w2 ha hw => ⟨l372, v373, m375, _, (by omega), ho, hr, ha.sub sb, (St.selP [1, 2, 3, 4, 5, 6] rfl (St.selO [1, 2, 3] rfl rfl hw))⟩
  refine go ?_
  obtain rfl := fin ho hr
  exact QE.rt fun _ h => (St.selO [0] rfl rfl h)
 refine SP.bb 20 (fun hq7 => ?_) fun hq7 => ?_
 ·refine go ?_
  exact QE.jb (or_t hq7) fun w2 hw => hw
 refine go ?_
 exact QE.jb (or_f hq7 rfl) fun w2 hw => hw
/-! ### capstan/op.Known: function 79 -/
def op_Known.f (op_0 : Int) : Option Bool :=
  some (decide ((IntKind.i64.wrap op_0) < 33))
theorem op_Known.ok (op_0 : Int)  (r : Bool) (H : op_Known.f op_0 = some r) (w : World) (hV : Hp) (sV : Sub hV (hp w))  :
    Trip Tryz.prog 79 [.int .u8 op_0].toArray em hV w (fun v => HO.pure (v = .bool r)) := by
 have see : Sees w em hV := ⟨sV, Dj.em_right _⟩
 refine Trip.of (P := Tryz.prog) (n := ⟨6, []⟩) Tryz.func79 rfl ⟨rfl, rfl⟩ rfl (St.begin (All.nil _)) ?_
 have ho := H
 refine go ?_
 refine SP.val (Val.conv (by rw [Tryz.underlying5]; rfl) Tryz.underlying3 rfl) rfl rfl rfl ?_
 refine go ?_
 obtain rfl := Option.some.inj ho
 exact QE.rt fun _ h => h
/-! ### capstan/op.sign: function 80 -/
def op_sign.j3 (op_0 : Int) (b3 : Bool) : Option Int :=
  if b3 = true then (some 5) else (if op_0 = 30 then (some 6) else (if op_0 = 32 then (some 7) else (if op_0 = 28 then (some 8) else (some 0))))

def op_sign.j2 (op_0 : Int) (b2 : Bool) : Option Int :=
  if b2 = true then (some 3) else (if op_0 = 22 then (some 4) else (if op_0 = 26 then (op_sign.j3 op_0 (decide (op_0 = 26))) else (if op_0 = 27 then (op_sign.j3 op_0 (decide (op_0 = 27))) else (op_sign.j3 op_0 (decide (op_0 = 29))))))

def op_sign.j1 (op_0 : Int) (b1 : Bool) : Option Int :=
  if b1 = true then (some 2) else (if op_0 = 4 then (op_sign.j2 op_0 (decide (op_0 = 4))) else (op_sign.j2 op_0 (decide (op_0 = 5))))

def op_sign.f (op_0 : Int) : Option Int :=
  if op_0 = 1 then (some 1) else (if op_0 = 2 then (op_sign.j1 op_0 (decide (op_0 = 2))) else (op_sign.j1 op_0 (decide (op_0 = 3))))
theorem op_sign.ok (op_0 r : Int) (H : op_sign.f op_0 = some r) (w : World) (hV : Hp) (sV : Sub hV (hp w))  :
    Trip Tryz.prog 80 [.int .u8 op_0].toArray em hV w (fun v => HO.pure (v = .int .i64 r)) := by
 have see : Sees w em hV := ⟨sV, Dj.em_right _⟩
 refine Trip.of (P := Tryz.prog) (n := ⟨24, []⟩) Tryz.func80 rfl ⟨rfl, rfl⟩ rfl (St.begin (All.nil _)) ?_
 have ho := H
 refine go ?_
 refine CP.seq ?_
 refine go ?_
 refine CP.ci ho (fun ho => ?_) fun ho => ?_
 ·refine go ?_
  obtain rfl := Option.some.inj ho
  exact QE.rt fun _ h => h
 refine CP.join (fun a w2 => ∃ b1 : Bool, op_sign.j1 op_0 b1 = some r ∧ Env ⟨24, []⟩ [(3, .int .u8 op_0), (6, .bool b1)] a ∧ St w em hV [] [] w2) ?_ ?_
 ·rintro a w2 ⟨b1, ho, ha, hw⟩
  refine CP.app ha hw ?_
  clear ha hw a w2
  refine CP.cb ho (fun ho => ?_) fun ho => ?_
  ·refine go ?_
   obtain rfl := Option.some.inj ho
   exact QE.rt fun _ h => h
  refine CP.join (fun a w2 => ∃ b2 : Bool, op_sign.j2 op_0 b2 = some r ∧ Env ⟨24, []⟩ [(3, .int .u8 op_0), (9, .bool b2)] a ∧ St w em hV [] [] w2) ?_ ?_
  ·rintro a w2 ⟨b2, ho, ha, hw⟩
   refine CP.app ha hw ?_
   clear ha hw a w2
   refine CP.cb ho (fun ho => ?_) fun ho => ?_
   ·refine go ?_
    obtain rfl := Option.some.inj ho
    exact QE.rt fun _ h => h
   refine go ?_
   refine CP.ci ho (fun ho => ?_) fun ho => ?_
   ·refine go ?_
    obtain rfl := Option.some.inj ho
    exact QE.rt fun _ h => h
   refine CP.join (fun a w2 => ∃ b3 : Bool, op_sign.j3 op_0 b3 = some r ∧ Env ⟨24, []⟩ [(3, .int .u8 op_0), (14, .bool b3)] a ∧ St w em hV [] [] w2) ?_ ?_
   ·rintro a w2 ⟨b3, ho, ha, hw⟩
    refine CP.app ha hw ?_
    clear ha hw a w2
    refine CP.cb ho (fun ho => ?_) fun ho => ?_
    ·refine go ?_
     obtain rfl := Option.some.inj ho
     exact QE.rt fun _ h => h
    refine go ?_
    refine CP.ci ho (fun ho => ?_) fun ho => ?_
    ·refine go ?_
     obtain rfl := Option.some.inj ho
     exact QE.rt fun _ h => h
    refine go ?_
    refine CP.ci ho (fun ho => ?_) fun ho => ?_
    ·refine go ?_
     obtain rfl := Option.some.inj ho
     exact QE.rt fun _ h => h
    refine go ?_
    refine CP.ci ho (fun ho => ?_) fun ho => ?_
    ·refine go ?_
     obtain rfl := Option.some.inj ho
     exact QE.rt fun _ h => h
    refine go ?_
    obtain rfl := Option.some.inj ho
    exact QE.rt fun _ h => h
   refine go ?_
   refine CP.ci ho (fun ho => ?_) fun ho => ?_
   ·refine go ?_
    exact QE.meet fun a w2 ha hw => ⟨(decide (op_0 = 26)), ho, ha.sub sb, hw⟩
   refine go ?_
   refine CP.ci ho (fun ho => ?_) fun ho => ?_
   ·refine go ?_
    exact QE.meet fun a w2 ha hw => ⟨(decide (op_0 = 27)), ho, ha.sub sb, hw⟩
   refine go ?_
   exact QE.meet fun a w2 ha hw => ⟨(decide (op_0 = 29)), ho, ha.sub sb, hw⟩
  refine go ?_
  refine CP.ci ho (fun ho => ?_) fun ho => ?_
  ·refine go ?_
   exact QE.meet fun a w2 ha hw => ⟨(decide (op_0 = 4)), ho, ha.sub sb, hw⟩
  refine go ?_
  exact QE.meet fun a w2 ha hw => ⟨(decide (op_0 = 5)), ho, ha.sub sb, hw⟩
 refine go ?_
 refine CP.ci ho (fun ho => ?_) fun ho => ?_
 ·refine go ?_
  exact QE.meet fun a w2 ha hw => ⟨(decide (op_0 = 2)), ho, ha.sub sb, hw⟩
 refine go ?_
 exact QE.meet fun a w2 ha hw => ⟨(decide (op_0 = 3)), ho, ha.sub sb, hw⟩
/-! ### capstan/op.Bounds: function 68 -/
def op_Bounds.f (op_0 : Int) : Option (Int × Int) :=
  (op_Known.f op_0).bind fun t1 => if (!t1) = true then (some (0, (-1))) else ((op_sign.f op_0).bind fun t2 => (elt tab0 t2).bind fun x5 => some (x5.e0, x5.e1))
theorem op_Bounds.ok (op_0 : Int)  (r : Int × Int) (H : op_Bounds.f op_0 = some r) (w : World) (hV : Hp) (sV : Sub hV (hp w)) (h0 : (arrP k_arr136 0 tab0).p hV) :
    Trip Tryz.prog 68 [.int .u8 op_0].toArray em hV w (fun v => HO.pure (v = .tuple #[.int .i64 r.1, .int .i64 r.2])) := by
 have see : Sees w em hV := ⟨sV, Dj.em_right _⟩
 refine Trip.of (P := Tryz.prog) (n := ⟨16, []⟩) Tryz.func68 rfl ⟨rfl, rfl⟩ rfl (St.begin (All.cons (x := arrP k_arr136 0 tab0) h0 (All.nil _))) ?_
 have ho := H
 refine go ?_
 refine CP.seq ?_
 refine go ?_
 obtain ⟨t1, hc, ho⟩ := bind_some (x := op_Known.f op_0) ho
 refine SP.callV see (caps := []) (.bool t1) fn79 rfl rfl rfl rfl (fun w2 hP hs sub ap => op_Known.ok _  _ hc w2 hP sub ) ?_
 clear hc
 refine go ?_
 refine CP.cb ho (fun ho => ?_) fun ho => ?_
 ·refine go ?_
  obtain rfl := Option.some.inj ho
  exact QE.rt fun _ h => h
 refine go ?_
 obtain ⟨t2, hc, ho⟩ := bind_some (x := op_sign.f op_0) ho
 refine SP.callV see (caps := []) (.int .i64 t2) fn80 rfl rfl rfl rfl (fun w2 hP hs sub ap => op_sign.ok _  _ hc w2 hP sub ) ?_
 clear hc
 obtain ⟨x5, hx, ho⟩ := elt_bind ho
 refine SP.indexG see 0 rfl Tryz.underlying137 rfl sz136 hx.1 hx.2 rfl rfl rfl rfl (fun p3 => ?_)
 clear hx
 refine k_arr136.load see 0 rfl Tryz.underlying136 rfl sz136 rfl rfl rfl ?_
 refine SP.alloc (cs := [.int .i64 0, .int .i64 0]) inf136 rfl rfl (fun b6 => ?_)
 refine SP.store (v := .agg #[.int .i64 x5.e0, .int .i64 x5.e1]) (vs := [.int .i64 x5.e0, .int .i64 x5.e1]) 0 (by rfl) sz136 (by rfl) (by rfl) (by rfl) (by rfl) (by rfl) (by rfl) ?_
 refine go ?_
 refine CP.seq ?_
 refine CP.drawA (by kernel_rfl) (fun w2 k h => h.drawn k) ?_
 refine DA.ph 0 5 ?_
 refine DT.tv 0 rfl (Val.indexC (off2 := 0) Tryz.underlying136 sz3 (by decide) rfl rfl rfl) ?_
 refine DT.tk 1 ?_
 refine DT.tv 2 rfl (Val.indexC (off2 := 1) Tryz.underlying136 sz3 (by decide) rfl rfl rfl) ?_
 refine DT.tk 3 ?_
 refine DT.tk 4 ?_
 refine DT.next (by kernel_rfl) ?_
 refine DA.one 5 rfl (by kernel_rfl) ?_
 refine go ?_
 refine QE.atA ?_
 refine DA.done (by kernel_rfl) ?_
 refine go ?_
 obtain rfl := Option.some.inj ho
 exact QE.rt fun _ h => h
/-! ### capstan/op.May: function 53 -/
def op_May.f (i_0 : api_Instr) : Option Bool :=
  (op_Bounds.f i_0.Op).bind fun t3 => some (((decide (i_0.A ≥ t3.1)) && (decide (i_0.A ≤ t3.2))) && (decide (i_0.B = 0)))
theorem op_May.ok (i_0 : api_Instr)  (r : Bool) (H : op_May.f i_0 = some r) (w : World) (hV : Hp) (sV : Sub hV (hp w)) (h0 : (arrP k_arr136 0 tab0).p hV) :
    Trip Tryz.prog 53 [.agg #[.int .u8 i_0.Op, .int .i64 i_0.A, .int .i64 i_0.B]].toArray em hV w (fun v => HO.pure (v = .bool r)) := by
 have see : Sees w em hV := ⟨sV, Dj.em_right _⟩
 refine Trip.of (P := Tryz.prog) (n := ⟨26, []⟩) Tryz.func53 rfl ⟨rfl, rfl⟩ rfl (St.begin (All.cons (x := arrP k_arr136 0 tab0) h0 (All.nil _))) ?_
 have ho := H
 refine go ?_
 refine SP.box (cs := [.int .u8 i_0.Op, .int .i64 i_0.A, .int .i64 i_0.B]) rfl rfl rfl rfl (fun b1 => ?_)
 refine go ?_
 obtain ⟨t3, hc, ho⟩ := bind_some (x := op_Bounds.f i_0.Op) ho
 refine SP.callV see (caps := []) (.tuple #[.int .i64 t3.1, .int .i64 t3.2]) fn68 rfl rfl rfl rfl (fun w2 hP hs sub ap => op_Bounds.ok _  _ hc w2 hP sub (ap.get 0 rfl)) ?_
 clear hc
 refine go ?_
 refine SP.jn 5 [1] 20 (.bool ((decide (i_0.A ≥ t3.1)) && (decide (i_0.A ≤ t3.2)))) ?_ ?_
 ·refine go ?_
  refine SP.jn 4 [] 25 (.bool (((decide (i_0.A ≥ t3.1)) && (decide (i_0.A ≤ t3.2))) && (decide (i_0.B = 0)))) ?_ ?_
  ·refine go ?_
   obtain rfl := Option.some.inj ho
   exact QE.rt fun _ h => h
  refine SP.bb 21 (fun hq7 => ?_) fun hq7 => ?_
  ·refine go ?_
   exact QE.jb (and_t hq7 rfl) fun w2 hw => hw
  refine go ?_
  exact QE.jb (and_f hq7) fun w2 hw => hw
 refine SP.bb 15 (fun hq5 => ?_) fun hq5 => ?_
 ·refine go ?_
  exact QE.jb (and_t hq5 rfl) fun w2 hw => hw
 refine go ?_
 exact QE.jb (and_f hq5) fun w2 hw => hw
/-! ### capstan/flow.Loops$1: function 52 -/
def flow_Loops_1.f (i_0 : api_Instr) : Option Bool :=
  (op_May.f i_0).bind fun t3 => some (!t3)
theorem flow_Loops_1.ok (i_0 : api_Instr)  (r : Bool) (H : flow_Loops_1.f i_0 = some r) (w : World) (hV : Hp) (sV : Sub hV (hp w)) (h0 : (arrP k_arr136 0 tab0).p hV) :
    Trip Tryz.prog 52 [.agg #[.int .u8 i_0.Op, .int .i64 i_0.A, .int .i64 i_0.B]].toArray em hV w (fun v => HO.pure (v = .bool r)) := by
 have see : Sees w em hV := ⟨sV, Dj.em_right _⟩
 refine Trip.of (P := Tryz.prog) (n := ⟨6, []⟩) Tryz.func52 rfl ⟨rfl, rfl⟩ rfl (St.begin (All.cons (x := arrP k_arr136 0 tab0) h0 (All.nil _))) ?_
 have ho := H
 refine go ?_
 refine SP.box (cs := [.int .u8 i_0.Op, .int .i64 i_0.A, .int .i64 i_0.B]) rfl rfl rfl rfl (fun b1 => ?_)
 refine go ?_
 refine SP.val (Val.loadA 0 rfl Tryz.underlying56 rfl sz56 rfl rfl rfl) rfl rfl rfl ?_
 obtain ⟨t3, hc, ho⟩ := bind_some (x := op_May.f i_0) ho
 refine SP.callV see (caps := []) (.bool t3) fn53 rfl rfl rfl rfl (fun w2 hP hs sub ap => op_May.ok _  _ hc w2 hP sub (ap.get 0 rfl)) ?_
 clear hc
 refine go ?_
 obtain rfl := Option.some.inj ho
 exact QE.rt fun _ h => h
/-! ### slices.IndexFunc[[]capstan/api.Instr,capstan/api.Instr]: function 42 -/
inductive slices_IndexFunc_api_Instr_api_Instr_s1.S where
  | start
  | l1 (x7 : Int)

def slices_IndexFunc_api_Instr_api_Instr_s1.F (s_0 : (List api_Instr)) : slices_IndexFunc_api_Instr_api_Instr_s1.S → Option (slices_IndexFunc_api_Instr_api_Instr_s1.S ⊕ Int)
  | .start => some (.inl (.l1 0))
  | .l1 x7 => if x7 < (s_0.length : Int) then ((elt s_0 x7).bind fun x11 => (flow_Loops_1.f x11).bind fun t12 => if t12 = true then (some (.inr x7)) else (some (.inl (.l1 (IntKind.i64.wrap (x7 + 1)))))) else (some (.inr (-1)))

def slices_IndexFunc_api_Instr_api_Instr_s1.f (s_0 : (List api_Instr)) : Option Int := runF (slices_IndexFunc_api_Instr_api_Instr_s1.F s_0) .start
theorem slices_IndexFunc_api_Instr_api_Instr_s1.ok (s_0 : (List api_Instr)) (v_s_0 : Value)  (r : Int) (H : slices_IndexFunc_api_Instr_api_Instr_s1.f s_0 = some r) (w : World) (hV : Hp) (sV : Sub hV (hp w)) (h0 : slR k_api_Instr hV v_s_0 s_0) (h1 : (arrP k_arr136 0 tab0).p hV) :
    Trip Tryz.prog 42 [v_s_0, .func (.func 52) #[] #[]].toArray em hV w (fun v => HO.pure (v = .int .i64 r)) := by
 have see : Sees w em hV := ⟨sV, Dj.em_right _⟩
 refine Trip.of (P := Tryz.prog) (n := ⟨19, []⟩) Tryz.func42 rfl ⟨rfl, rfl⟩ rfl (St.begin (aS h0 (All.cons (x := arrP k_arr136 0 tab0) h1 (All.nil _)))) ?_
 obtain ⟨n0, hi⟩ := runF_iff.1 H
 obtain ⟨m0, o, hm0, ho, hr⟩ := iter_some hi
 clear hi
 refine go ?_
 refine CP.seq ?_
 refine go ?_
 obtain rfl := Option.some.inj ho
 refine CP.loop (fun cl1 a w2 => ∃ x7 : Int, cl1 ≤ m0 ∧ iter (slices_IndexFunc_api_Instr_api_Instr_s1.F s_0) cl1 (.l1 x7) = some r ∧ Env ⟨19, []⟩ [(0, v_s_0), (1, .func (.func 52) #[] #[]), (7, .int .i64 (s_0.length : Int)), (8, .int .i64 x7)] a ∧ St w em hV [slP k_api_Instr v_s_0 s_0, arrP k_arr136 0 tab0] [] w2) m0 (fun a w2 ha hw => ⟨0, Nat.le_refl _, hr, ha.sub sb, hw⟩) ?_
 clear hr
 rintro cl1 a w2 ⟨x7, hc_l1, hi, ha, hw⟩
 obtain ⟨m8, o, hm_m8, ho, hr⟩ := iter_some hi
 refine CP.app ha hw ?_
 clear ha hw a w2 hi
 refine go ?_
 refine CP.seq ?_
 refine CP.ci ho (fun ho => ?_) fun ho => ?_
 ·refine go ?_
  refine CP.seq ?_
  refine go ?_
  obtain ⟨x11, hx, ho⟩ := elt_bind ho
  refine SP.indexP see 0 rfl Tryz.underlying46 sz56 hx.1 hx.2 rfl rfl rfl rfl (fun p9 => ?_)
  clear hx
  refine k_api_Instr.load see 0 rfl Tryz.underlying56 rfl sz56 rfl rfl rfl ?_
  obtain ⟨t12, hc, ho⟩ := bind_some (x := flow_Loops_1.f x11) ho
  refine SP.callV see (caps := []) (.bool t12) fn52 rfl rfl rfl rfl (fun w2 hP hs sub ap => flow_Loops_1.ok _  _ hc w2 hP sub (ap.get 2 rfl)) ?_
  clear hc
  refine go ?_
  refine CP.cb ho (fun ho => ?_) fun ho => ?_
  ·refine go ?_
   obtain rfl := fin ho hr
   exact QE.rt fun _ h => h
  refine go ?_
  obtain rfl := Option.some.inj ho
  exact QE.lower m8 (by omega) fun a w2 ha hw => ⟨(IntKind.i64.wrap (x7 + 1)), (by omega), hr, ha.sub sb, (St.selP [1, 2] rfl hw)⟩
 refine go ?_
 obtain rfl := fin ho hr
 exact QE.rt fun _ h => h
/-! ### slices.ContainsFunc[[]capstan/api.Instr,capstan/api.Instr]: function 22 -/
def slices_ContainsFunc_api_Instr_api_Instr_s1.f (s_0 : (List api_Instr)) : Option Bool :=
  (slices_IndexFunc_api_Instr_api_Instr_s1.f s_0).bind fun t2 => some (decide (t2 ≥ 0))
theorem slices_ContainsFunc_api_Instr_api_Instr_s1.ok (s_0 : (List api_Instr)) (v_s_0 : Value)  (r : Bool) (H : slices_ContainsFunc_api_Instr_api_Instr_s1.f s_0 = some r) (w : World) (hV : Hp) (sV : Sub hV (hp w)) (h0 : slR k_api_Instr hV v_s_0 s_0) (h1 : (arrP k_arr136 0 tab0).p hV) :
    Trip Tryz.prog 22 [v_s_0, .func (.func 52) #[] #[]].toArray em hV w (fun v => HO.pure (v = .bool r)) := by
 have see : Sees w em hV := ⟨sV, Dj.em_right _⟩
 refine Trip.of (P := Tryz.prog) (n := ⟨9, []⟩) Tryz.func22 rfl ⟨rfl, rfl⟩ rfl (St.begin (aS h0 (All.cons (x := arrP k_arr136 0 tab0) h1 (All.nil _)))) ?_
 have ho := H
 refine go ?_
 obtain ⟨t2, hc, ho⟩ := bind_some (x := slices_IndexFunc_api_Instr_api_Instr_s1.f s_0) ho
 refine SP.callV see (caps := []) (.int .i64 t2) fn42 rfl rfl rfl rfl (fun w2 hP hs sub ap => slices_IndexFunc_api_Instr_api_Instr_s1.ok _ _ _ hc w2 hP sub (ap.get 0 rfl) (ap.get 1 rfl)) ?_
 clear hc
 refine go ?_
 obtain rfl := Option.some.inj ho
 exact QE.rt fun _ h => h
/-! ### (*capstan/flow.open).push: function 54 -/
def flow_open_push_s2.f (l2 : List Int) (a0_3 : Int) (a1 : Int) : Option (Bool × (List Int) × Int) :=
  if a0_3 = 4 then (some (false, l2, a0_3)) else ((elt l2 a0_3).bind fun x4 => some (true, l2.set a0_3.toNat a1, IntKind.i64.wrap (a0_3 + 1)))
theorem flow_open_push_s2.ok (l2 : List Int) (a0_3 a1 : Int)  (r : Bool × (List Int) × Int) (H : flow_open_push_s2.f l2 a0_3 a1 = some r) (w : World) (hV : Hp) (sV : Sub hV (hp w))  (b1 : Nat) (hA : Hp) (sA : Sub hA (hp w)) (dA : Dj hV hA) (hI : (arrO b1 [] (fun z : Int => Value.int .i64 z) 4 l2 [.int .i64 a0_3] 110).p hV hA) :
    Trip Tryz.prog 54 [.pointer (some ⟨b1, 0, none⟩), .int .i64 a1].toArray hA hV w (fun v => HO.pand (v = .bool r.1) (HO.seps [arrO b1 [] (fun z : Int => Value.int .i64 z) 4 r.2.1 [.int .i64 r.2.2] 110])) := by
 have see : Sees w hA hV := ⟨sV, dA⟩
 refine Trip.of (P := Tryz.prog) (n := ⟨26, []⟩) Tryz.func54 rfl ⟨rfl, rfl⟩ rfl (St.beginA (os := [arrO b1 [] (fun z : Int => Value.int .i64 z) 4 l2 [.int .i64 a0_3] 110]) sA (All.nil _) ⟨hA, em, Dj.em_right _, Sub.refl _, Sub.em _, hI, trivial⟩) ?_
 have ho := H
 refine go ?_
 refine CP.seq ?_
 refine go ?_
 refine SP.val (Val.loadArrPost (k := 0) 0 rfl Tryz.underlying3 rfl rfl rfl rfl) rfl rfl rfl ?_
 refine go ?_
 refine CP.ci ho (fun ho => ?_) fun ho => ?_
 ·refine go ?_
  obtain rfl := Option.some.inj ho
  exact QE.rt fun _ h => (St.selO [0] rfl rfl h)
 refine go ?_
 refine CP.seq ?_
 refine CP.drawA (by kernel_rfl) (fun w2 k h => h.drawn k) ?_
 refine DA.ph 0 8 ?_
 refine DT.tk 0 ?_
 refine DT.tk 1 ?_
 refine DT.tk 2 ?_
 refine DT.tk 3 ?_
 refine DT.tv 4 rfl (Val.loadArrPost (k := 0) 0 rfl Tryz.underlying3 rfl rfl rfl rfl) ?_
 refine DT.tk 5 ?_
 refine DT.tk 6 ?_
 refine DT.tk 7 ?_
 refine DT.next (by kernel_rfl) ?_
 refine DA.one 8 rfl (by kernel_rfl) ?_
 obtain ⟨x4, hx_x4, ho⟩ := elt_bind ho
 refine SP.val (Val.indexArr 0 rfl Tryz.underlying108 sz3 hx_x4.1 hx_x4.2 rfl rfl rfl) rfl rfl rfl ?_
 refine go ?_
 refine QE.atA ?_
 refine DA.one 9 rfl (by kernel_rfl) ?_
 refine SP.storeArr 0 rfl sz3 rfl hx_x4.2 rfl rfl rfl (fun _ => rfl) (fun _ => rfl) ?_
 refine go ?_
 refine QE.atA ?_
 refine DA.done (by kernel_rfl) ?_
 refine go ?_
 refine SP.val (Val.loadArrPost (k := 0) 0 rfl Tryz.underlying3 rfl rfl rfl rfl) rfl rfl rfl ?_
 refine go ?_
 refine SP.storeArrPost (k := 0) 0 rfl sz3 rfl rfl rfl rfl rfl rfl rfl ?_
 refine go ?_
 obtain rfl := Option.some.inj ho
 exact QE.rt fun _ h => (St.selO [0] rfl rfl h)
/-! ### (*capstan/flow.open).pop: function 55 -/
def flow_open_pop_s2.j1 (l2 : List Int) (a0_3 : Int) (a1 : Int) (b10 : Bool) : Option (Bool × (List Int) × Int) :=
  if b10 = true then (some (false, l2, a0_3)) else (some (true, l2, IntKind.i64.wrap (a0_3 - 1)))

def flow_open_pop_s2.f (l2 : List Int) (a0_3 : Int) (a1 : Int) : Option (Bool × (List Int) × Int) :=
  if a0_3 = 0 then (flow_open_pop_s2.j1 l2 a0_3 a1 true) else ((elt l2 (IntKind.i64.wrap (a0_3 - 1))).bind fun x9 => flow_open_pop_s2.j1 l2 a0_3 a1 (decide (x9 ≠ a1)))
theorem flow_open_pop_s2.ok (l2 : List Int) (a0_3 a1 : Int)  (r : Bool × (List Int) × Int) (H : flow_open_pop_s2.f l2 a0_3 a1 = some r) (w : World) (hV : Hp) (sV : Sub hV (hp w))  (b1 : Nat) (hA : Hp) (sA : Sub hA (hp w)) (dA : Dj hV hA) (hI : (arrO b1 [] (fun z : Int => Value.int .i64 z) 4 l2 [.int .i64 a0_3] 110).p hV hA) :
    Trip Tryz.prog 55 [.pointer (some ⟨b1, 0, none⟩), .int .i64 a1].toArray hA hV w (fun v => HO.pand (v = .bool r.1) (HO.seps [arrO b1 [] (fun z : Int => Value.int .i64 z) 4 r.2.1 [.int .i64 r.2.2] 110])) := by
 have see : Sees w hA hV := ⟨sV, dA⟩
 refine Trip.of (P := Tryz.prog) (n := ⟨31, []⟩) Tryz.func55 rfl ⟨rfl, rfl⟩ rfl (St.beginA (os := [arrO b1 [] (fun z : Int => Value.int .i64 z) 4 l2 [.int .i64 a0_3] 110]) sA (All.nil _) ⟨hA, em, Dj.em_right _, Sub.refl _, Sub.em _, hI, trivial⟩) ?_
 have ho := H
 refine go ?_
 refine CP.seq ?_
 refine CP.join (fun a w2 => ∃ b10 : Bool, flow_open_pop_s2.j1 l2 a0_3 a1 b10 = some r ∧ Env ⟨31, []⟩ [(0, .pointer (some ⟨b1, 0, none⟩)), (23, .bool b10)] a ∧ St w hA hV [] [arrO b1 [] (fun z : Int => Value.int .i64 z) 4 l2 [.int .i64 a0_3] 110] w2) ?_ ?_
 ·rintro a w2 ⟨b10, ho, ha, hw⟩
  refine CP.app ha hw ?_
  clear ha hw a w2
  refine CP.cb ho (fun ho => ?_) fun ho => ?_
  ·refine go ?_
   obtain rfl := Option.some.inj ho
   exact QE.rt fun _ h => (St.selO [0] rfl rfl h)
  refine go ?_
  refine SP.val (Val.loadArrPost (k := 0) 0 rfl Tryz.underlying3 rfl rfl rfl rfl) rfl rfl rfl ?_
  refine go ?_
  refine SP.storeArrPost (k := 0) 0 rfl sz3 rfl rfl rfl rfl rfl rfl rfl ?_
  refine go ?_
  obtain rfl := Option.some.inj ho
  exact QE.rt fun _ h => (St.selO [0] rfl rfl h)
 refine CP.drawA (by kernel_rfl) (fun w2 k h => h.drawn k) ?_
 refine DA.one 0 rfl (by kernel_rfl) ?_
 refine go ?_
 refine QE.atA ?_
 refine DA.one 1 rfl (by kernel_rfl) ?_
 refine go ?_
 refine QE.atA ?_
 refine DA.one 2 rfl (by kernel_rfl) ?_
 refine go ?_
 refine QE.atA ?_
 refine DA.one 3 rfl (by kernel_rfl) ?_
 refine SP.val (Val.loadArrPost (k := 0) 0 rfl Tryz.underlying3 rfl rfl rfl rfl) rfl rfl rfl ?_
 refine go ?_
 refine QE.atA ?_
 refine DA.one 4 rfl (by kernel_rfl) ?_
 refine go ?_
 refine QE.atA ?_
 refine DA.one 5 rfl (by kernel_rfl) ?_
 refine go ?_
 refine QE.atA ?_
 rcases if_some ho with ⟨hc, ho⟩ | ⟨hc, ho⟩
 ·have hg4 := (decide_eq_true hc)
  clear hc
  refine DA.ph 6 17 ?_
  refine DT.is (d := 10) (b := true) rfl hg4 ?_
  refine DT.tn 6 ?_
  refine DT.tn 7 ?_
  refine DT.tn 8 ?_
  refine DT.tn 9 ?_
  refine DT.tn 10 ?_
  refine DT.tn 11 ?_
  refine DT.tn 12 ?_
  refine DT.tn 13 ?_
  refine DT.tn 14 ?_
  refine DT.tn 15 ?_
  refine DT.tn 16 ?_
  refine DT.next (by kernel_rfl) ?_
  refine DA.ph 17 18 ?_
  refine DT.tn 17 ?_
  refine DT.next (by kernel_rfl) ?_
  refine DA.one 18 rfl (by kernel_rfl) ?_
  refine go ?_
  refine QE.atA ?_
  refine DA.done (by kernel_rfl) ?_
  exact QE.meet fun a w2 ha hw => ⟨true, ho, ha.sub sb, hw⟩
 have hg5 := (decide_eq_false hc)
 clear hc
 refine DA.ph 6 17 ?_
 refine DT.is (d := 10) (b := false) rfl hg5 ?_
 refine DT.tk 6 ?_
 refine DT.tk 7 ?_
 refine DT.tk 8 ?_
 refine DT.tk 9 ?_
 refine DT.tv 10 rfl (Val.loadArrPost (k := 0) 0 rfl Tryz.underlying3 rfl rfl rfl rfl) ?_
 refine DT.tk 11 ?_
 refine DT.tk 12 ?_
 refine DT.tk 13 ?_
 refine DT.tk 16 ?_
 refine DT.one 14 rfl (by kernel_rfl) rfl ?_
 obtain ⟨x9, hx_x9, ho⟩ := elt_bind ho
 refine SP.val (Val.indexArr 0 rfl Tryz.underlying108 sz3 hx_x9.1 hx_x9.2 rfl rfl rfl) rfl rfl rfl ?_
 refine go ?_
 refine QE.atT (fun w2 hw => hw) ?_
 refine DT.tv 15 rfl (Val.loadArr 0 rfl Tryz.underlying3 rfl hx_x9.2 rfl rfl) ?_
 refine DT.next (by kernel_rfl) ?_
 refine DA.one 17 rfl (by kernel_rfl) ?_
 refine go ?_
 refine QE.atA ?_
 refine DA.one 18 rfl (by kernel_rfl) ?_
 refine go ?_
 refine QE.atA ?_
 refine DA.done (by kernel_rfl) ?_
 exact QE.meet fun a w2 ha hw => ⟨(decide (x9 ≠ a1)), ho, ha.sub sb, hw⟩
/-! ### capstan/flow.last: function 56 -/
def flow_last.f (i_0 : api_Instr) : Option Bool :=
  some ((decide (i_0.Op = 31)) || (decide (i_0.Op = 32)))
theorem flow_last.ok (i_0 : api_Instr)  (r : Bool) (H : flow_last.f i_0 = some r) (w : World) (hV : Hp) (sV : Sub hV (hp w))  :
    Trip Tryz.prog 56 [.agg #[.int .u8 i_0.Op, .int .i64 i_0.A, .int .i64 i_0.B]].toArray em hV w (fun v => HO.pure (v = .bool r)) := by
 have see : Sees w em hV := ⟨sV, Dj.em_right _⟩
 refine Trip.of (P := Tryz.prog) (n := ⟨11, []⟩) Tryz.func56 rfl ⟨rfl, rfl⟩ rfl (St.begin (All.nil _)) ?_
 have ho := H
 refine go ?_
 refine SP.box (cs := [.int .u8 i_0.Op, .int .i64 i_0.A, .int .i64 i_0.B]) rfl rfl rfl rfl (fun b1 => ?_)
 refine go ?_
 refine SP.jn 4 [] 10 (.bool ((decide (i_0.Op = 31)) || (decide (i_0.Op = 32)))) ?_ ?_
 ·refine go ?_
  obtain rfl := Option.some.inj ho
  exact QE.rt fun _ h => h
 refine SP.bb 6 (fun hq4 => ?_) fun hq4 => ?_
 ·refine go ?_
  exact QE.jb (or_t hq4) fun w2 hw => hw
 refine go ?_
 exact QE.jb (or_f hq4 rfl) fun w2 hw => hw
/-! ### (capstan/flow.Loop).has: function 70 -/
def flow_Loop_has.f (x_0 : flow_Loop) (a1 : Int) : Option Bool :=
  some ((decide (a1 > x_0.From)) && (decide (a1 ≤ x_0.To)))
theorem flow_Loop_has.ok (x_0 : flow_Loop) (a1 : Int)  (r : Bool) (H : flow_Loop_has.f x_0 a1 = some r) (w : World) (hV : Hp) (sV : Sub hV (hp w))  :
    Trip Tryz.prog 70 [.agg #[.int .i64 x_0.From, .int .i64 x_0.To, .int .i64 x_0.Turns], .int .i64 a1].toArray em hV w (fun v => HO.pure (v = .bool r)) := by
 have see : Sees w em hV := ⟨sV, Dj.em_right _⟩
 refine Trip.of (P := Tryz.prog) (n := ⟨15, []⟩) Tryz.func70 rfl ⟨rfl, rfl⟩ rfl (St.begin (All.nil _)) ?_
 have ho := H
 refine go ?_
 refine SP.box (cs := [.int .i64 x_0.From, .int .i64 x_0.To, .int .i64 x_0.Turns]) rfl rfl rfl rfl (fun b1 => ?_)
 refine go ?_
 refine SP.jn 5 [] 14 (.bool ((decide (a1 > x_0.From)) && (decide (a1 ≤ x_0.To)))) ?_ ?_
 ·refine go ?_
  obtain rfl := Option.some.inj ho
  exact QE.rt fun _ h => h
 refine SP.bb 9 (fun hq4 => ?_) fun hq4 => ?_
 ·refine go ?_
  exact QE.jb (and_t hq4 rfl) fun w2 hw => hw
 refine go ?_
 exact QE.jb (and_f hq4) fun w2 hw => hw
/-! ### capstan/flow.jumps$1: function 69 -/
def flow_jumps_1_s1.f (x_0 : flow_Loop) (c0_1 : Int) (c0_2 : Int) (c0_3 : Int) (c1_6 : Int) : Option Bool :=
  (flow_Loop_has.f x_0 c0_2).bind fun t11 => (if t11 = true then ((flow_Loop_has.f x_0 c1_6).bind fun t14 => some (!t14)) else (some false)).bind fun t15 => some t15
theorem flow_jumps_1_s1.ok (x_0 : flow_Loop) (c0_1 c0_2 : Int) (c0_3 c1_6 : Int) (b4 : Nat) (b7 : Nat) (r : Bool) (H : flow_jumps_1_s1.f x_0 c0_1 c0_2 c0_3 c1_6 = some r) (w : World) (hV : Hp) (sV : Sub hV (hp w)) (h0 : (boxP b4 [.int .u8 c0_1, .int .i64 c0_2, .int .i64 c0_3] 56).p hV) (h1 : (boxP b7 [.int .i64 c1_6] 3).p hV) :
    Trip Tryz.prog 69 [.agg #[.int .i64 x_0.From, .int .i64 x_0.To, .int .i64 x_0.Turns], .pointer (some ⟨b4, 0, none⟩), .pointer (some ⟨b7, 0, none⟩)].toArray em hV w (fun v => HO.pure (v = .bool r)) := by
 have see : Sees w em hV := ⟨sV, Dj.em_right _⟩
 refine Trip.of (P := Tryz.prog) (n := ⟨15, []⟩) Tryz.func69 rfl ⟨rfl, rfl⟩ rfl (St.begin (All.cons (x := boxP b4 [.int .u8 c0_1, .int .i64 c0_2, .int .i64 c0_3] 56) h0 (All.cons (x := boxP b7 [.int .i64 c1_6] 3) h1 (All.nil _)))) ?_
 have ho := H
 refine go ?_
 refine SP.box (cs := [.int .i64 x_0.From, .int .i64 x_0.To, .int .i64 x_0.Turns]) rfl rfl rfl rfl (fun b9 => ?_)
 refine go ?_
 refine SP.val (Val.loadA 0 rfl Tryz.underlying112 rfl sz112 rfl rfl rfl) rfl rfl rfl ?_
 refine SP.val (Val.fieldAddr Tryz.underlying56 rfl sz3 rfl) rfl rfl rfl ?_
 refine SP.val (Val.loadB1 see 0 rfl Tryz.underlying3 rfl rfl rfl) rfl rfl rfl ?_
 obtain ⟨t11, hc, ho⟩ := bind_some (x := flow_Loop_has.f x_0 c0_2) ho
 refine SP.callV see (caps := []) (.bool t11) fn70 rfl rfl rfl rfl (fun w2 hP hs sub ap => flow_Loop_has.ok _ _  _ hc w2 hP sub ) ?_
 clear hc
 refine go ?_
 obtain ⟨t15, hg_t15, ho⟩ := bind_some ho
 refine SP.jn 5 [] 14 (.bool t15) ?_ ?_
 ·clear hg_t15
  refine go ?_
  obtain rfl := Option.some.inj ho
  exact QE.rt fun _ h => h
 refine SP.cb 9 hg_t15 (fun hq13 ho => ?_) fun hq13 ho => ?_
 ·refine SP.val (Val.loadA 0 rfl Tryz.underlying112 rfl sz112 rfl rfl rfl) rfl rfl rfl ?_
  refine SP.val (Val.loadB1 see 1 rfl Tryz.underlying3 rfl rfl rfl) rfl rfl rfl ?_
  obtain ⟨t14, hc, ho⟩ := bind_some (x := flow_Loop_has.f x_0 c1_6) ho
  refine SP.callV see (caps := []) (.bool t14) fn70 rfl rfl rfl rfl (fun w2 hP hs sub ap => flow_Loop_has.ok _ _  _ hc w2 hP sub ) ?_
  clear hc
  refine go ?_
  obtain rfl := Option.some.inj ho
  exact QE.jn fun w2 hw => hw
 refine go ?_
 obtain rfl := Option.some.inj ho
 exact QE.jn fun w2 hw => hw
/-! ### slices.IndexFunc[[]capstan/flow.Loop,capstan/flow.Loop]: function 82 -/
inductive slices_IndexFunc_flow_Loop_flow_Loop_s1.S where
  | start
  | l1 (x15 : Int)

def slices_IndexFunc_flow_Loop_flow_Loop_s1.F (s_0 : (List flow_Loop)) (f_1_2 : Int) (f_1_3 : Int) (f_1_4 : Int) (f_1_7 : Int) : slices_IndexFunc_flow_Loop_flow_Loop_s1.S → Option (slices_IndexFunc_flow_Loop_flow_Loop_s1.S ⊕ Int)
  | .start => some (.inl (.l1 0))
  | .l1 x15 => if x15 < (s_0.length : Int) then ((elt s_0 x15).bind fun x19 => (flow_jumps_1_s1.f x19 f_1_2 f_1_3 f_1_4 f_1_7).bind fun t20 => if t20 = true then (some (.inr x15)) else (some (.inl (.l1 (IntKind.i64.wrap (x15 + 1)))))) else (some (.inr (-1)))

def slices_IndexFunc_flow_Loop_flow_Loop_s1.f (s_0 : (List flow_Loop)) (f_1_2 : Int) (f_1_3 : Int) (f_1_4 : Int) (f_1_7 : Int) : Option Int := runF (slices_IndexFunc_flow_Loop_flow_Loop_s1.F s_0 f_1_2 f_1_3 f_1_4 f_1_7) .start
theorem slices_IndexFunc_flow_Loop_flow_Loop_s1.ok (s_0 : (List flow_Loop)) (f_1_2 f_1_3 : Int) (f_1_4 f_1_7 : Int) (v_s_0 : Value) (b5 : Nat) (b8 : Nat) (r : Int) (H : slices_IndexFunc_flow_Loop_flow_Loop_s1.f s_0 f_1_2 f_1_3 f_1_4 f_1_7 = some r) (w : World) (hV : Hp) (sV : Sub hV (hp w)) (h0 : slR k_flow_Loop hV v_s_0 s_0) (h1 : (boxP b5 [.int .u8 f_1_2, .int .i64 f_1_3, .int .i64 f_1_4] 56).p hV) (h2 : (boxP b8 [.int .i64 f_1_7] 3).p hV) :
    Trip Tryz.prog 82 [v_s_0, .func (.func 69) #[] #[.pointer (some ⟨b5, 0, none⟩), .pointer (some ⟨b8, 0, none⟩)]].toArray em hV w (fun v => HO.pure (v = .int .i64 r)) := by
 have see : Sees w em hV := ⟨sV, Dj.em_right _⟩
 refine Trip.of (P := Tryz.prog) (n := ⟨19, []⟩) Tryz.func82 rfl ⟨rfl, rfl⟩ rfl (St.begin (aS h0 (All.cons (x := boxP b5 [.int .u8 f_1_2, .int .i64 f_1_3, .int .i64 f_1_4] 56) h1 (All.cons (x := boxP b8 [.int .i64 f_1_7] 3) h2 (All.nil _))))) ?_
 obtain ⟨n0, hi⟩ := runF_iff.1 H
 obtain ⟨m0, o, hm0, ho, hr⟩ := iter_some hi
 clear hi
 refine go ?_
 refine CP.seq ?_
 refine go ?_
 obtain rfl := Option.some.inj ho
 refine CP.loop (fun cl1 a w2 => ∃ x15 : Int, cl1 ≤ m0 ∧ iter (slices_IndexFunc_flow_Loop_flow_Loop_s1.F s_0 f_1_2 f_1_3 f_1_4 f_1_7) cl1 (.l1 x15) = some r ∧ Env ⟨19, []⟩ [(0, v_s_0), (1, .func (.func 69) #[] #[.pointer (some ⟨b5, 0, none⟩), .pointer (some ⟨b8, 0, none⟩)]), (7, .int .i64 (s_0.length : Int)), (8, .int .i64 x15)] a ∧ St w em hV [slP k_flow_Loop v_s_0 s_0, boxP b5 [.int .u8 f_1_2, .int .i64 f_1_3, .int .i64 f_1_4] 56, boxP b8 [.int .i64 f_1_7] 3] [] w2) m0 (fun a w2 ha hw => ⟨0, Nat.le_refl _, hr, ha.sub sb, hw⟩) ?_
 clear hr
 rintro cl1 a w2 ⟨x15, hc_l1, hi, ha, hw⟩
 obtain ⟨m16, o, hm_m16, ho, hr⟩ := iter_some hi
 refine CP.app ha hw ?_
 clear ha hw a w2 hi
 refine go ?_
 refine CP.seq ?_
 refine CP.ci ho (fun ho => ?_) fun ho => ?_
 ·refine go ?_
  refine CP.seq ?_
  refine go ?_
  obtain ⟨x19, hx, ho⟩ := elt_bind ho
  refine SP.indexP see 0 rfl Tryz.underlying90 sz112 hx.1 hx.2 rfl rfl rfl rfl (fun p17 => ?_)
  clear hx
  refine k_flow_Loop.load see 0 rfl Tryz.underlying112 rfl sz112 rfl rfl rfl ?_
  obtain ⟨t20, hc, ho⟩ := bind_some (x := flow_jumps_1_s1.f x19 f_1_2 f_1_3 f_1_4 f_1_7) ho
  refine SP.callV see (caps := [.pointer (some ⟨b5, 0, none⟩), .pointer (some ⟨b8, 0, none⟩)]) (.bool t20) fn69 rfl rfl rfl rfl (fun w2 hP hs sub ap => flow_jumps_1_s1.ok _ _ _ _ _ _ _ _ hc w2 hP sub (ap.get 2 rfl) (ap.get 3 rfl)) ?_
  clear hc
  refine go ?_
  refine CP.cb ho (fun ho => ?_) fun ho => ?_
  ·refine go ?_
   obtain rfl := fin ho hr
   exact QE.rt fun _ h => h
  refine go ?_
  obtain rfl := Option.some.inj ho
  exact QE.lower m16 (by omega) fun a w2 ha hw => ⟨(IntKind.i64.wrap (x15 + 1)), (by omega), hr, ha.sub sb, (St.selP [1, 2, 3] rfl hw)⟩
 refine go ?_
 obtain rfl := fin ho hr
 exact QE.rt fun _ h => h
/-! ### slices.ContainsFunc[[]capstan/flow.Loop,capstan/flow.Loop]: function 71 -/
def slices_ContainsFunc_flow_Loop_flow_Loop_s1.f (s_0 : (List flow_Loop)) (f_1_2 : Int) (f_1_3 : Int) (f_1_4 : Int) (f_1_7 : Int) : Option Bool :=
  (slices_IndexFunc_flow_Loop_flow_Loop_s1.f s_0 f_1_2 f_1_3 f_1_4 f_1_7).bind fun t10 => some (decide (t10 ≥ 0))
theorem slices_ContainsFunc_flow_Loop_flow_Loop_s1.ok (s_0 : (List flow_Loop)) (f_1_2 f_1_3 : Int) (f_1_4 f_1_7 : Int) (v_s_0 : Value) (b5 : Nat) (b8 : Nat) (r : Bool) (H : slices_ContainsFunc_flow_Loop_flow_Loop_s1.f s_0 f_1_2 f_1_3 f_1_4 f_1_7 = some r) (w : World) (hV : Hp) (sV : Sub hV (hp w)) (h0 : slR k_flow_Loop hV v_s_0 s_0) (h1 : (boxP b5 [.int .u8 f_1_2, .int .i64 f_1_3, .int .i64 f_1_4] 56).p hV) (h2 : (boxP b8 [.int .i64 f_1_7] 3).p hV) :
    Trip Tryz.prog 71 [v_s_0, .func (.func 69) #[] #[.pointer (some ⟨b5, 0, none⟩), .pointer (some ⟨b8, 0, none⟩)]].toArray em hV w (fun v => HO.pure (v = .bool r)) := by
 have see : Sees w em hV := ⟨sV, Dj.em_right _⟩
 refine Trip.of (P := Tryz.prog) (n := ⟨9, []⟩) Tryz.func71 rfl ⟨rfl, rfl⟩ rfl (St.begin (aS h0 (All.cons (x := boxP b5 [.int .u8 f_1_2, .int .i64 f_1_3, .int .i64 f_1_4] 56) h1 (All.cons (x := boxP b8 [.int .i64 f_1_7] 3) h2 (All.nil _))))) ?_
 have ho := H
 refine go ?_
 obtain ⟨t10, hc, ho⟩ := bind_some (x := slices_IndexFunc_flow_Loop_flow_Loop_s1.f s_0 f_1_2 f_1_3 f_1_4 f_1_7) ho
 refine SP.callV see (caps := []) (.int .i64 t10) fn82 rfl rfl rfl rfl (fun w2 hP hs sub ap => slices_IndexFunc_flow_Loop_flow_Loop_s1.ok _ _ _ _ _ _ _ _ _ hc w2 hP sub (ap.get 0 rfl) (ap.get 1 rfl) (ap.get 2 rfl)) ?_
 clear hc
 refine go ?_
 obtain rfl := Option.some.inj ho
 exact QE.rt fun _ h => h
/-! ### capstan/flow.jumps: function 57 -/
inductive flow_jumps.S where
  | start
  | l1 (x27 : Int)

def flow_jumps.j1 (l_0 : (List api_Instr)) (loops_1 : (List flow_Loop)) (x27 : Int) : Option (flow_jumps.S ⊕ Bool) :=
  some (.inl (.l1 (IntKind.i64.wrap (x27 + 1))))

def flow_jumps.F (l_0 : (List api_Instr)) (loops_1 : (List flow_Loop)) : flow_jumps.S → Option (flow_jumps.S ⊕ Bool)
  | .start => some (.inl (.l1 0))
  | .l1 x27 => if x27 < (l_0.length : Int) then ((elt l_0 x27).bind fun x31 => if ((decide (x31.Op ≠ 26)) && (decide (x31.Op ≠ 27))) = true then (flow_jumps.j1 l_0 loops_1 x27) else ((if ((decide (x31.A ≤ x27)) || (decide (x31.A ≥ (l_0.length : Int)))) = true then (some true) else ((slices_ContainsFunc_flow_Loop_flow_Loop_s1.f loops_1 x31.Op x31.A x31.B x27).bind fun t49 => some t49)).bind fun t50 => if t50 = true then (some (.inr false)) else (flow_jumps.j1 l_0 loops_1 x27))) else (some (.inr true))

def flow_jumps.f (l_0 : (List api_Instr)) (loops_1 : (List flow_Loop)) : Option Bool := runF (flow_jumps.F l_0 loops_1) .start
theorem flow_jumps.ok (l_0 : (List api_Instr)) (loops_1 : (List flow_Loop)) (v_l_0 v_loops_1 : Value) (r : Bool) (H : flow_jumps.f l_0 loops_1 = some r) (w : World) (hV : Hp) (sV : Sub hV (hp w)) (h0 : slR k_api_Instr hV v_l_0 l_0) (h1 : slR k_flow_Loop hV v_loops_1 loops_1) :
    Trip Tryz.prog 57 [v_l_0, v_loops_1].toArray em hV w (fun v => HO.pure (v = .bool r)) := by
 have see : Sees w em hV := ⟨sV, Dj.em_right _⟩
 refine Trip.of (P := Tryz.prog) (n := ⟨41, []⟩) Tryz.func57 rfl ⟨rfl, rfl⟩ rfl (St.begin (aS h0 (aS h1 (All.nil _)))) ?_
 obtain ⟨n0, hi⟩ := runF_iff.1 H
 obtain ⟨m0, o, hm0, ho, hr⟩ := iter_some hi
 clear hi
 refine go ?_
 refine CP.seq ?_
 refine go ?_
 obtain rfl := Option.some.inj ho
 refine CP.loop (fun cl1 a w2 => ∃ x27 : Int, cl1 ≤ m0 ∧ iter (flow_jumps.F l_0 loops_1) cl1 (.l1 x27) = some r ∧ Env ⟨41, []⟩ [(0, v_l_0), (1, v_loops_1), (8, v_l_0), (9, .int .i64 (l_0.length : Int)), (10, .int .i64 x27)] a ∧ St w em hV [slP k_api_Instr v_l_0 l_0, slP k_flow_Loop v_loops_1 loops_1] [] w2) m0 (fun a w2 ha hw => ⟨0, Nat.le_refl _, hr, ha.sub sb, hw⟩) ?_
 clear hr
 rintro cl1 a w2 ⟨x27, hc_l1, hi, ha, hw⟩
 obtain ⟨m28, o, hm_m28, ho, hr⟩ := iter_some hi
 refine CP.app ha hw ?_
 clear ha hw a w2 hi
 refine go ?_
 refine CP.seq ?_
 refine CP.ci ho (fun ho => ?_) fun ho => ?_
 ·refine go ?_
  refine CP.join (fun a w2 => ∃ (m51 : Nat) (o : (flow_jumps.S ⊕ Bool)), m51 ≤ m28 ∧ flow_jumps.j1 l_0 loops_1 x27 = some o ∧ next (flow_jumps.F l_0 loops_1) m51 o = some r ∧ Env ⟨41, []⟩ [(0, v_l_0), (1, v_loops_1), (8, v_l_0), (9, .int .i64 (l_0.length : Int)), (10, .int .i64 x27)] a ∧ St w em hV [slP k_api_Instr v_l_0 l_0, slP k_flow_Loop v_loops_1 loops_1] [] w2) ?_ ?_
  ·rintro a w2 ⟨m51, o, hm_m51, ho, hr, ha, hw⟩
   refine CP.app ha hw ?_
   clear ha hw a w2
   refine go ?_
   obtain rfl := Option.some.inj ho
   exact QE.lower m51 (by omega) fun a w2 ha hw => ⟨(IntKind.i64.wrap (x27 + 1)), (by omega), hr, ha.sub sb, hw⟩
  refine go ?_
  obtain ⟨x31, hx, ho⟩ := elt_bind ho
  refine SP.indexP see 0 rfl Tryz.underlying46 sz56 hx.1 hx.2 rfl rfl rfl rfl (fun p29 => ?_)
  clear hx
  refine k_api_Instr.load see 0 rfl Tryz.underlying56 rfl sz56 rfl rfl rfl ?_
  refine SP.alloc (cs := [.int .i64 0]) inf3 rfl rfl (fun b32 => ?_)
  refine SP.alloc (cs := [.int .u8 0, .int .i64 0, .int .i64 0]) inf56 rfl rfl (fun b34 => ?_)
  refine SP.store (v := .int .i64 x27) (vs := [.int .i64 x27]) 1 (by rfl) sz3 (by rfl) (by rfl) (by rfl) (by rfl) (by rfl) (by rfl) ?_
  refine SP.store (v := .agg #[.int .u8 x31.Op, .int .i64 x31.A, .int .i64 x31.B]) (vs := [.int .u8 x31.Op, .int .i64 x31.A, .int .i64 x31.B]) 0 (by rfl) sz56 (by rfl) (by rfl) (by rfl) (by rfl) (by rfl) (by rfl) ?_
  refine go ?_
  refine CP.seq ?_
  refine go ?_
  refine SP.jn 4 [0, 1, 8, 9, 10, 5, 6] 22 (.bool ((decide (x31.Op ≠ 26)) && (decide (x31.Op ≠ 27)))) ?_ ?_
  ·refine go ?_
   refine CP.cb ho (fun ho => ?_) fun ho => ?_
   ·refine go ?_
    exact QE.meet fun a w2 ha hw => ⟨m28, _, (by omega), ho, hr, ha.sub sb, (St.selP [1, 2] rfl (St.selO [] rfl rfl hw))⟩
   refine go ?_
   refine SP.val (Val.makeFunc (us := []) (vs := [.pointer (some ⟨b34, 0, none⟩), .pointer (some ⟨b32, 0, none⟩)]) rfl rfl) rfl rfl rfl ?_
   refine go ?_
   refine SP.jn 6 [0, 1, 8, 9, 10, 7] 34 (.bool ((decide (x31.A ≤ x27)) || (decide (x31.A ≥ (l_0.length : Int))))) ?_ ?_
   ·refine go ?_
    refine SP.freezeB see 0 rfl ?_
    refine SP.freezeB see 0 rfl ?_
    obtain ⟨t50, hg_t50, ho⟩ := bind_some ho
    refine SP.jn 4 [0, 1, 8, 9, 10] 39 (.bool t50) ?_ ?_
    ·clear hg_t50
     refine go ?_
     refine CP.cb ho (fun ho => ?_) fun ho => ?_
     ·refine go ?_
      obtain rfl := fin ho hr
      exact QE.rt fun _ h => h
     refine go ?_
     exact QE.meet fun a w2 ha hw => ⟨m28, _, (by omega), ho, hr, ha.sub sb, (St.selP [3, 4] rfl hw)⟩
    refine SP.cb 35 hg_t50 (fun hq48 ho => ?_) fun hq48 ho => ?_
    ·refine go ?_
     obtain rfl := Option.some.inj ho
     exact QE.jn fun w2 hw => hw
    refine go ?_
    obtain ⟨t49, hc, ho⟩ := bind_some (x := slices_ContainsFunc_flow_Loop_flow_Loop_s1.f loops_1 x31.Op x31.A x31.B x27) ho
    refine SP.callV see (caps := []) (.bool t49) fn71 rfl rfl rfl rfl (fun w2 hP hs sub ap => slices_ContainsFunc_flow_Loop_flow_Loop_s1.ok _ _ _ _ _ _ _ _ _ hc w2 hP sub (ap.get 4 rfl) (ap.get 1 rfl) (ap.get 0 rfl)) ?_
    clear hc
    refine go ?_
    obtain rfl := Option.some.inj ho
    exact QE.jn fun w2 hw => hw
   refine SP.bb 28 (fun hq39 => ?_) fun hq39 => ?_
   ·refine go ?_
    exact QE.jb (or_t hq39) fun w2 hw => hw
   refine go ?_
   exact QE.jb (or_f hq39 rfl) fun w2 hw => hw
  refine SP.bb 18 (fun hq37 => ?_) fun hq37 => ?_
  ·refine go ?_
   exact QE.jb (and_t hq37 rfl) fun w2 hw => hw
  refine go ?_
  exact QE.jb (and_f hq37) fun w2 hw => hw
 refine go ?_
 obtain rfl := fin ho hr
 exact QE.rt fun _ h => h
/-! ### slices.SortFunc[[]capstan/flow.Loop,capstan/flow.Loop]: function 58 -/
shelf_lay_g SlLaysF0.n6 Slsf 6 at Tryz 58 as Tryz.sort58
shelf_lay_g SlLaysC2.n5 Slgc 5 at Tryz 60 as Tryz.cmp60
shelf_lay Lays.n125 Nm 125 at Tryz as Tryz.bitsLen73
instance : Inhabited flow_Loop := ⟨flow_Loop.zero⟩
def enc58 (x : flow_Loop) : List Value := [.int .i64 x.From, .int .i64 x.To, .int .i64 x.Turns]
def cf58 (x y : flow_Loop) : Int := Lib.compareInt x.From y.From
theorem lt58 (x y : flow_Loop) : Go.Proofs.ltOf cf58 x y = decide (x.From < y.From) := by
  unfold Go.Proofs.ltOf cf58 Lib.compareInt
  by_cases h1 : x.From < y.From
  · simp [h1]
  · by_cases h2 : y.From < x.From <;> simp [h1, h2]
theorem swo58 : Go.Sort.SWO (Go.Proofs.ltOf cf58) where
  irrefl x := by rw [lt58]; simp
  trans x y z h1 h2 := by rw [lt58] at *; simp at *; omega
  ntrans x y z h1 h2 := by rw [lt58] at *; simp at *; omega
set_option maxHeartbeats 1000000 in
theorem clos58 (x y : flow_Loop) (W : World) : Calls Tryz.prog 59 #[.agg (enc58 x).toArray, .agg (enc58 y).toArray] W fun e w' => e = .returned (.int .i64 (cf58 x y)) ∧ ∃ q os', w' = Go.Sort.grow (W.drewN q) os' := by
  have hcon := fun W' => Go.Proofs.AnyG.cmp_Compare_int Tryz.cmp60 x.From y.From W'
  change ∀ W', Calls Tryz.prog 60 _ _ _ at hcon
  unfold cf58 enc58
  generalize Lib.compareInt x.From y.From = r at hcon ⊢
  go_enter Tryz.func59, Tryz.ntmps59
  go_wp2_with (go_at_call 60; refine (hcon _).mono ?_; rintro e w' ⟨rfl, rfl⟩)
  go_ret
  exact ⟨rfl, 0, _, by rw [Go.Sort.alloc_eq_grow, Go.Sort.alloc_eq_grow, Go.Sort.grow_grow]; rfl⟩
/-- The library's sort, of a plain row. -/
def srt58 (d : Array flow_Loop) : Array flow_Loop := Go.Sort.pdq (Go.Proofs.ltOf cf58) d 0 d.size (Lib.bitLen d.size) true true
theorem srt58_sorts (d : Array flow_Loop) : Go.Sort.PermIn 0 d.size d (srt58 d) ∧ Go.Sort.SortedIn (Go.Proofs.ltOf cf58) 0 d.size (srt58 d) :=
  Go.Sort.pdq_sorts (Go.Proofs.ltOf cf58) swo58 d 0 d.size (Lib.bitLen d.size) true true (Nat.zero_le _) (Nat.le_refl _) (Or.inl rfl)
theorem ins58_nil (F : Value) (w : World) : Calls Tryz.prog 83 #[.slice none 0 0, .int .i64 0, .int .i64 0, F] w fun e w' => e = .returned (.tuple #[]) ∧ w' = w := by
  go_enter Tryz.func83, Tryz.ntmps83
  go_wp2
  refine wp_loop_rounds 1 ?_
  rw [rounds_succ]
  go_wp2
  go_end0
  exact ⟨rfl, rfl⟩
theorem pdq58_nil (F : Value) (w : World) : Calls Tryz.prog 72 #[.slice none 0 0, .int .i64 0, .int .i64 0, .int .i64 0, F] w fun e w' => e = .returned (.tuple #[]) ∧ w' = w := by
  have hi := ins58_nil F w
  go_enter Tryz.func72, Tryz.ntmps72
  go_wp2
  refine wp_loop_rounds 1 ?_
  rw [rounds_succ]
  go_wp2_with (go_at_call 83; refine hi.mono ?_; rintro e w' ⟨rfl, rfl⟩)
  (try simp only [Exit.inBlock, Exit.then]); refine bodyPost_ret (results_none rfl _ _ _) rfl ?_
  exact ⟨rfl, rfl⟩
theorem srt58_nil (F : Value) (w : World) : Calls Tryz.prog 58 #[.slice none 0 0, F] w fun e w' => e = .returned (.tuple #[]) ∧ w' = w := by
  have hi := pdq58_nil F w
  have hl : Calls Tryz.prog 73 #[.int .u64 0] w fun e w' => e = .returned (.int .i64 0) ∧ w' = w := by
    have h := Any.bits_Len Tryz.bitsLen73 0 w (by omega) (by omega)
    exact h
  go_enter Tryz.func58, Tryz.ntmps58
  go_wp2_with (first | (go_at_call 73; refine hl.mono ?_; rintro e w' ⟨rfl, rfl⟩) | (go_at_call 72; refine hi.mono ?_; rintro e w' ⟨rfl, rfl⟩))
  go_end0
  exact ⟨rfl, rfl⟩
theorem srt58_nilT (F : Value) (w : World) (hV : Hp) : Trip Tryz.prog 58 #[.slice none 0 0, F] em hV w (fun v => HO.pure (v = .tuple #[])) :=
  (srt58_nil F w).mono fun e w' ⟨he, hw⟩ => by
    subst hw
    exact ⟨_, he, Met.refl _, fun _ _ e _ => e, em, em, fun _ _ _ => rfl, fun _ _ _ => rfl, Dj.em_left _, Sub.em _, Sub.em _, rfl⟩
/-- A row of one's own, sorted where it lies. -/
theorem srt58_trip {v : Value} {l : List flow_Loop} (hll : l.length < 4611686018427387904) {w : World} {hP h1 : Hp} (sub : Sub hP (hp w)) (s1 : Sub h1 (hp w)) (dj : Dj hP h1) (hI : (slO k_flow_Loop 112 v l).p hP h1) :
    Trip Tryz.prog 58 #[v, .func (.func 59) #[] #[]] h1 hP w (fun r => HO.pand (r = .tuple #[]) (HO.seps [slO k_flow_Loop 112 v (srt58 l.toArray).toList])) := by
  refine slO.rowTrip (fun v => #[v, .func (.func 59) #[] #[]]) (fun _ => .tuple #[]) enc58 (fun h cs x => Iff.rfl) srt58 (fun d => (srt58_sorts d).1.1) (fun blk cap d w hH hb hsz _ _ => ?_) (fun _ w hV sV => ?_) hll sub s1 dj hI
  · exact AnyQ.slices_SortFunc_eq Tryz.sort58 3 Tryz.isAgg112 Tryz.sizeOf112 enc58 (fun _ => rfl) (fun x v hv => by simp [enc58] at hv; rcases hv with rfl | rfl | rfl <;> rfl) cf58 swo58 59 #[] blk 0 cap d w (enters_of Tryz.func59 (by kernel_rfl) rfl) (fun _ _ _ _ x y => clos58 x y _) hH hb hsz
  · exact srt58_nilT _ w hV


/-! ### capstan/flow.Loops: function 40 -/
inductive flow_Loops.S where
  | start
  | l1 (l52 : List Int) (x53 : Int) (l55 : List flow_Loop) (x57 : Int)

def flow_Loops.j1 (l_0 : (List api_Instr))  : Option (flow_Loops.S ⊕ ((List flow_Loop) × Int)) :=
  some (.inr ([], 90))

def flow_Loops.j2 (l_0 : (List api_Instr)) (x57 : Int) (l80 : List Int) (x81 : Int) (l83 : List flow_Loop) : Option (flow_Loops.S ⊕ ((List flow_Loop) × Int)) :=
  some (.inl (.l1 l80 x81 l83 (IntKind.i64.wrap (x57 + 1))))

def flow_Loops.F (l_0 : (List api_Instr)) : flow_Loops.S → Option (flow_Loops.S ⊕ ((List flow_Loop) × Int))
  | .start => (if ((decide ((l_0.length : Int) = 0)) || (decide ((l_0.length : Int) > 200))) = true then (some true) else ((slices_ContainsFunc_api_Instr_api_Instr_s1.f l_0).bind fun t6 => some t6)).bind fun t7 => if t7 = true then (some (.inr ([], 40))) else (some (.inl (.l1 (List.replicate 4 0 : List Int) 0 [] 0)))
  | .l1 l52 x53 l55 x57 => if x57 < (l_0.length : Int) then ((elt l_0 x57).bind fun x61 => if x61.Op = 28 then ((flow_open_push_s2.f l52 x53 x57).bind fun t64 => if (!t64.1) = true then (flow_Loops.j1 l_0) else (flow_Loops.j2 l_0 x57 t64.2.1 t64.2.2 l55)) else (if x61.Op = 29 then ((flow_open_pop_s2.f l52 x53 x61.A).bind fun t65 => if (!t65.1) = true then (flow_Loops.j1 l_0) else ((elt l_0 x61.A).bind fun x68 => if (l55.length + [(⟨x61.A, x57, x68.A⟩ : flow_Loop)].length) * 24 ≤ 140737488355328 then (flow_Loops.j2 l_0 x57 t65.2.1 t65.2.2 (l55 ++ [(⟨x61.A, x57, x68.A⟩ : flow_Loop)])) else none)) else (flow_Loops.j2 l_0 x57 l52 x53 l55))) else ((if x53 > 0 then (some true) else ((elt l_0 (IntKind.i64.wrap ((l_0.length : Int) - 1))).bind fun x90 => (flow_last.f x90).bind fun t91 => some (!t91))).bind fun t92 => (if t92 = true then (some true) else ((flow_jumps.f l_0 l55).bind fun t95 => some (!t95))).bind fun t96 => if t96 = true then (flow_Loops.j1 l_0) else (if l55.length < 4611686018427387904 then (some (.inr ((srt58 l55.toArray).toList, 0))) else none))

def flow_Loops.f (l_0 : (List api_Instr)) : Option ((List flow_Loop) × Int) := runF (flow_Loops.F l_0) .start
theorem flow_Loops.ok (l_0 : (List api_Instr)) (v_l_0 : Value)  (r : (List flow_Loop) × Int) (H : flow_Loops.f l_0 = some r) (w : World) (hV : Hp) (sV : Sub hV (hp w)) (h0 : slR k_api_Instr hV v_l_0 l_0) (h1 : (arrP k_arr136 0 tab0).p hV) :
    Trip Tryz.prog 40 [v_l_0].toArray em hV w (fun v => HO.ex fun u0 : Value => HO.pand (v = .tuple #[u0, .int .i64 r.2]) (HO.seps [slO k_flow_Loop 112 u0 r.1])) := by
 have see : Sees w em hV := ⟨sV, Dj.em_right _⟩
 refine Trip.of (P := Tryz.prog) (n := ⟨76, []⟩) Tryz.func40 rfl ⟨rfl, rfl⟩ rfl (St.begin (aS h0 (All.cons (x := arrP k_arr136 0 tab0) h1 (All.nil _)))) ?_
 obtain ⟨n0, hi⟩ := runF_iff.1 H
 obtain ⟨m0, o, hm0, ho, hr⟩ := iter_some hi
 clear hi
 refine go ?_
 refine CP.scope 0 (fun a w2 => ∃ (m107 : Nat) (o : (flow_Loops.S ⊕ ((List flow_Loop) × Int))), m107 ≤ m0 ∧ flow_Loops.j1 l_0 = some o ∧ next (flow_Loops.F l_0) m107 o = some r ∧ Env ⟨76, []⟩ [] a ∧ St w em hV [arrP k_arr136 0 tab0] [] w2) rfl (fun _ _ _ h => h) ?_ ?_
 ·rintro a w2 ⟨m107, o, hm_m107, ho, hr, ha, hw⟩
  refine CP.app ha hw ?_
  clear ha hw a w2
  refine CP.seq ?_
  refine go ?_
  obtain rfl := fin ho hr
  exact QE.rt fun _ h => (St.selO [0] rfl rfl (St.addO (slO.nil k_flow_Loop 112) h))
 refine CP.seq ?_
 refine go ?_
 refine SP.jn 4 [0] 15 (.bool ((decide ((l_0.length : Int) = 0)) || (decide ((l_0.length : Int) > 200)))) ?_ ?_
 ·refine go ?_
  obtain ⟨t7, hg_t7, ho⟩ := bind_some ho
  refine SP.jn 3 [0] 19 (.bool t7) ?_ ?_
  ·clear hg_t7
   refine go ?_
   refine CP.cb ho (fun ho => ?_) fun ho => ?_
   ·refine go ?_
    refine QE.scopeX rfl ?_
    obtain rfl := fin ho hr
    exact QE.rt fun _ h => (St.selO [0] rfl rfl (St.addO (slO.nil k_flow_Loop 112) h))
   refine go ?_
   refine SP.alloc (cs := [.int .i64 0, .int .i64 0, .int .i64 0, .int .i64 0, .int .i64 0]) inf110 rfl rfl (fun b9 => ?_)
   refine go ?_
   refine CP.seq ?_
   refine go ?_
   obtain rfl := Option.some.inj ho
   refine CP.loop (fun cl1 a w2 => ∃ l52 : List Int, ∃ x53 : Int, ∃ l55 : List flow_Loop, ∃ x57 : Int, ∃ v56 : Value, cl1 ≤ m0 ∧ iter (flow_Loops.F l_0) cl1 (.l1 l52 x53 l55 x57) = some r ∧ Env ⟨76, []⟩ [(0, v_l_0), (4, v56), (5, .pointer (some ⟨b9, 0, none⟩)), (20, v_l_0), (21, .int .i64 (l_0.length : Int)), (22, .int .i64 x57)] a ∧ St w em hV [slP k_api_Instr v_l_0 l_0, arrP k_arr136 0 tab0] [slO k_flow_Loop 112 v56 l55, arrO b9 [] (fun z : Int => Value.int .i64 z) 4 l52 [.int .i64 x53] 110] w2) m0 (fun a w2 ha hw => ⟨(List.replicate 4 0 : List Int), 0, [], 0, (.slice none 0 0), Nat.le_refl _, hr, ha.sub sb, (St.addO (slO.nil k_flow_Loop 112) (St.arr (f := (fun z : Int => Value.int .i64 z)) 0 rfl (List.replicate 4 0 : List Int) [] [.int .i64 0] rfl rfl hw))⟩) ?_
   clear hr
   rintro cl1 a w2 ⟨l52, x53, l55, x57, v56, hc_l1, hi, ha, hw⟩
   obtain ⟨m58, o, hm_m58, ho, hr⟩ := iter_some hi
   refine CP.app ha hw ?_
   clear ha hw a w2 hi
   refine go ?_
   refine CP.seq ?_
   refine CP.ci ho (fun ho => ?_) fun ho => ?_
   ·refine go ?_
    refine CP.join (fun a w2 => ∃ l80 : List Int, ∃ x81 : Int, ∃ l83 : List flow_Loop, ∃ v84 : Value, ∃ (m85 : Nat) (o : (flow_Loops.S ⊕ ((List flow_Loop) × Int))), m85 ≤ m58 ∧ flow_Loops.j2 l_0 x57 l80 x81 l83 = some o ∧ next (flow_Loops.F l_0) m85 o = some r ∧ Env ⟨76, []⟩ [(0, v_l_0), (4, v84), (5, .pointer (some ⟨b9, 0, none⟩)), (20, v_l_0), (21, .int .i64 (l_0.length : Int)), (22, .int .i64 x57)] a ∧ St w em hV [slP k_api_Instr v_l_0 l_0, arrP k_arr136 0 tab0] [slO k_flow_Loop 112 v84 l83, arrO b9 [] (fun z : Int => Value.int .i64 z) 4 l80 [.int .i64 x81] 110] w2) ?_ ?_
    ·rintro a w2 ⟨l80, x81, l83, v84, m85, o, hm_m85, ho, hr, ha, hw⟩
     refine CP.app ha hw ?_
     clear ha hw a w2
     refine go ?_
     obtain rfl := Option.some.inj ho
     exact QE.lower m85 (by omega) fun a w2 ha hw => ⟨l80, x81, l83, (IntKind.i64.wrap (x57 + 1)), v84, (by omega), hr, ha.sub sb, hw⟩
    refine go ?_
    obtain ⟨x61, hx, ho⟩ := elt_bind ho
    refine SP.indexP see 0 rfl Tryz.underlying46 sz56 hx.1 hx.2 rfl rfl rfl rfl (fun p59 => ?_)
    clear hx
    refine k_api_Instr.load see 0 rfl Tryz.underlying56 rfl sz56 rfl rfl rfl ?_
    refine SP.alloc (cs := [.int .u8 0, .int .i64 0, .int .i64 0]) inf56 rfl rfl (fun b62 => ?_)
    refine go ?_
    refine SP.store (v := .agg #[.int .u8 x61.Op, .int .i64 x61.A, .int .i64 x61.B]) (vs := [.int .u8 x61.Op, .int .i64 x61.A, .int .i64 x61.B]) 0 (by rfl) sz56 (by rfl) (by rfl) (by rfl) (by rfl) (by rfl) (by rfl) ?_
    refine go ?_
    refine CP.ci ho (fun ho => ?_) fun ho => ?_
    ·refine go ?_
     refine SP.imp (fun w2 hw => St.selO [2, 0, 1] rfl rfl hw) ?_
     obtain ⟨t64, hc, ho⟩ := bind_some (x := flow_open_push_s2.f l52 x53 x57) ho
     refine SP.callA see (caps := []) (X := arrO b9 [] (fun z : Int => Value.int .i64 z) 4 l52 [.int .i64 x53] 110) _ fn54 rfl rfl rfl rfl (fun w2 hP h1 sub s1 d1 ap hI => flow_open_push_s2.ok _ _ _  _ hc w2 hP sub  _ h1 s1 d1 hI) (SP.k0 ?_)
     clear hc
     refine go ?_
     refine CP.cb ho (fun ho => ?_) fun ho => ?_
     ·refine CP.goto ?_
      refine QE.blockG ?_
      refine QE.blockG ?_
      refine go ?_
      refine QE.blockG ?_
      refine go ?_
      exact QE.jump fun a w2 ha hw => ⟨m58, _, (by omega), ho, hr, ha.sub trivial, (St.selP [2] rfl (St.selO [] rfl rfl hw))⟩
     refine go ?_
     exact QE.meet fun a w2 ha hw => ⟨t64.2.1, t64.2.2, l55, v56, m58, _, (by omega), ho, hr, ha.sub sb, (St.selP [1, 2] rfl (St.selO [2, 0] rfl rfl hw))⟩
    refine go ?_
    refine CP.ci ho (fun ho => ?_) fun ho => ?_
    ·refine CP.seq ?_
     refine go ?_
     refine SP.imp (fun w2 hw => St.selO [2, 0, 1] rfl rfl hw) ?_
     obtain ⟨t65, hc, ho⟩ := bind_some (x := flow_open_pop_s2.f l52 x53 x61.A) ho
     refine SP.callA see (caps := []) (X := arrO b9 [] (fun z : Int => Value.int .i64 z) 4 l52 [.int .i64 x53] 110) _ fn55 rfl rfl rfl rfl (fun w2 hP h1 sub s1 d1 ap hI => flow_open_pop_s2.ok _ _ _  _ hc w2 hP sub  _ h1 s1 d1 hI) (SP.k0 ?_)
     clear hc
     refine go ?_
     refine CP.cb ho (fun ho => ?_) fun ho => ?_
     ·refine CP.goto ?_
      refine go ?_
      refine QE.blockG ?_
      refine QE.blockG ?_
      refine go ?_
      refine QE.blockG ?_
      refine go ?_
      exact QE.jump fun a w2 ha hw => ⟨m58, _, (by omega), ho, hr, ha.sub trivial, (St.selP [2] rfl (St.selO [] rfl rfl hw))⟩
     refine go ?_
     refine CP.drawA (by kernel_rfl) (fun w2 k h => h.drawn k) ?_
     obtain ⟨x68, hx, ho⟩ := elt_bind ho
     refine DA.ghost (fun w2 h => h.elem see 1 rfl hx.1 hx.2) (fun p66 h_p66 => ?_)
     clear hx
     refine DA.ghost (fun w2 h => h.fieldE see 0 rfl k_api_Instr.part_A) (fun p69 h_p69 => ?_)
     refine DA.ghost (fun w2 h => h.openE see 0 rfl (fun _ : Unit => [.int .i64 x68.A]) (fun _ => []) (fun h cs e => ⟨(), e, All.nil _⟩)) (fun _ _ => ?_)
     refine DA.ph 0 12 ?_
     refine DT.tk 0 ?_
     refine DT.tk 1 ?_
     refine DT.tk 2 ?_
     refine DT.tk 3 ?_
     refine DT.tk 4 ?_
     refine DT.tk 5 ?_
     refine DT.tk 6 ?_
     refine DT.tv 7 rfl (Val.indexE h_p66 Tryz.underlying46 sz56 rfl rfl) ?_
     refine DT.tv 8 rfl (Val.fieldE h_p69 Tryz.underlying56 rfl rfl sz3 rfl) ?_
     refine DT.tv 9 rfl (Val.loadAt1 see 0 rfl Tryz.underlying3 rfl rfl) ?_
     refine DT.tv 10 rfl (Val.buildC (us := [(0, .int .i64 x61.A), (1, .int .i64 x57), (2, .int .i64 x68.A)]) (ucs := [(0, [.int .i64 x61.A]), (1, [.int .i64 x57]), (2, [.int .i64 x68.A])]) (cs := [.int .i64 x61.A, .int .i64 x57, .int .i64 x68.A]) bt112 rfl rfl ⟨rfl, rfl, ⟨rfl, rfl, ⟨rfl, rfl, trivial⟩⟩⟩ (by rfl)) ?_
     refine DT.one 11 rfl (by kernel_rfl) rfl ?_
     refine SP.lit (k := k_flow_Loop) (xs := [(⟨x61.A, x57, x68.A⟩ : flow_Loop)]) (vs := [.agg #[.int .i64 x61.A, .int .i64 x57, .int .i64 x68.A]]) (cells := [.int .i64 x61.A, .int .i64 x57, .int .i64 x68.A]) Tryz.underlying90 inf112 rfl rfl rfl rfl rfl rfl rfl rfl (fun _ ap => ⟨[.int .i64 x61.A, .int .i64 x57, .int .i64 x68.A], _, rfl, rfl, rfl⟩) rfl rfl rfl (fun v76 => ?_)
     refine go ?_
     refine QE.atT (fun w2 hw => (St.selO [1, 2, 3] rfl rfl hw)) ?_
     refine DT.next (by kernel_rfl) ?_
     refine DA.one 12 rfl (by kernel_rfl) ?_
     refine SP.freezeS see 0 rfl ?_
     obtain ⟨hb, ho⟩ := must_some ho
     refine SP.append see 2 rfl 0 rfl Tryz.underlying90 inf112 rfl rfl hb rfl rfl rfl rfl rfl (fun v78 => ?_)
     clear hb
     refine go ?_
     refine QE.atA ?_
     refine DA.one 13 rfl (by kernel_rfl) ?_
     refine go ?_
     refine QE.atA ?_
     refine DA.done (by kernel_rfl) ?_
     refine go ?_
     exact QE.meet fun a w2 ha hw => ⟨t65.2.1, t65.2.2, (l55 ++ [(⟨x61.A, x57, x68.A⟩ : flow_Loop)]), v78, m58, _, (by omega), ho, hr, ha.sub sb, (St.selP [5, 6] rfl (St.selO [2, 0] rfl rfl hw))⟩
    refine go ?_
    exact QE.meet fun a w2 ha hw => ⟨l52, x53, l55, v56, m58, _, (by omega), ho, hr, ha.sub sb, (St.selP [1, 2] rfl (St.selO [1, 2] rfl rfl hw))⟩
   refine go ?_
   refine CP.seq ?_
   refine go ?_
   refine SP.val (Val.loadArrPost (k := 0) 1 rfl Tryz.underlying3 rfl rfl rfl rfl) rfl rfl rfl ?_
   refine go ?_
   obtain ⟨t92, hg_t92, ho⟩ := bind_some ho
   refine SP.jn 9 [0, 4] 66 (.bool t92) ?_ ?_
   ·clear hg_t92
    refine go ?_
    obtain ⟨t96, hg_t96, ho⟩ := bind_some ho
    refine SP.jn 5 [4] 72 (.bool t96) ?_ ?_
    ·clear hg_t96
     refine go ?_
     refine CP.cb ho (fun ho => ?_) fun ho => ?_
     ·refine CP.goto ?_
      refine go ?_
      exact QE.jump fun a w2 ha hw => ⟨m58, _, (by omega), ho, hr, ha.sub trivial, (St.selP [1] rfl (St.selO [] rfl rfl hw))⟩
     refine go ?_
     obtain ⟨hb, ho⟩ := must_some ho
     refine SP.callA see (caps := []) (X := slO k_flow_Loop 112 v56 l55) (fun r => HO.pand (r = .tuple #[]) (HO.seps [slO k_flow_Loop 112 v56 ((srt58 l55.toArray).toList)])) fn58 rfl rfl rfl rfl (fun w2 hP h1 sub s1 d1 ap hI => srt58_trip hb sub s1 d1 hI) (SP.k0 ?_)
     clear hb
     refine go ?_
     refine CP.seq ?_
     refine go ?_
     refine QE.scopeX rfl ?_
     obtain rfl := fin ho hr
     exact QE.rt fun _ h => (St.selO [0] rfl rfl h)
    refine SP.cb 67 hg_t96 (fun hq94 ho => ?_) fun hq94 ho => ?_
    ·refine go ?_
     obtain rfl := Option.some.inj ho
     exact QE.jn fun w2 hw => hw
    refine go ?_
    obtain ⟨t95, hc, ho⟩ := bind_some (x := flow_jumps.f l_0 l55) ho
    refine SP.callVO see (caps := []) (.bool t95) fn57 rfl rfl rfl rfl (fun w2 hs => flow_jumps.ok _ _ _ _ _ hc w2 (hp w2) (Sub.refl _) ((St.pers 0 rfl see.sub see.dj hs)) (slO.read (St.own 0 rfl see.sub see.dj hs) (Sub.refl _) (Sub.refl _))) ?_
    clear hc
    refine go ?_
    obtain rfl := Option.some.inj ho
    exact QE.jn fun w2 hw => hw
   refine SP.ci 57 hg_t92 (fun hq87 ho => ?_) fun hq87 ho => ?_
   ·refine go ?_
    obtain rfl := Option.some.inj ho
    exact QE.jn fun w2 hw => hw
   refine go ?_
   obtain ⟨x90, hx, ho⟩ := elt_bind ho
   refine SP.indexP see 0 rfl Tryz.underlying46 sz56 hx.1 hx.2 rfl rfl rfl rfl (fun p88 => ?_)
   clear hx
   refine k_api_Instr.load see 0 rfl Tryz.underlying56 rfl sz56 rfl rfl rfl ?_
   obtain ⟨t91, hc, ho⟩ := bind_some (x := flow_last.f x90) ho
   refine SP.callV see (caps := []) (.bool t91) fn56 rfl rfl rfl rfl (fun w2 hP hs sub ap => flow_last.ok _  _ hc w2 hP sub ) ?_
   clear hc
   refine go ?_
   obtain rfl := Option.some.inj ho
   exact QE.jn fun w2 hw => (St.selP [1, 2] rfl hw)
  refine SP.cb 16 hg_t7 (fun hq5 ho => ?_) fun hq5 ho => ?_
  ·refine go ?_
   obtain rfl := Option.some.inj ho
   exact QE.jn fun w2 hw => hw
  refine go ?_
  obtain ⟨t6, hc, ho⟩ := bind_some (x := slices_ContainsFunc_api_Instr_api_Instr_s1.f l_0) ho
  refine SP.callV see (caps := []) (.bool t6) fn22 rfl rfl rfl rfl (fun w2 hP hs sub ap => slices_ContainsFunc_api_Instr_api_Instr_s1.ok _ _ _ hc w2 hP sub (ap.get 0 rfl) (ap.get 1 rfl)) ?_
  clear hc
  refine go ?_
  obtain rfl := Option.some.inj ho
  exact QE.jn fun w2 hw => hw
 refine SP.bb 11 (fun hq3 => ?_) fun hq3 => ?_
 ·refine go ?_
  exact QE.jb (or_t hq3) fun w2 hw => hw
 refine go ?_
 exact QE.jb (or_f hq3 rfl) fun w2 hw => hw
/-! ### capstan/flow.Check: function 20 -/
def flow_Check.f (l_0 : (List api_Instr)) : Option Int :=
  (flow_Loops.f l_0).bind fun t2 => some t2.2
theorem flow_Check.ok (l_0 : (List api_Instr)) (v_l_0 : Value)  (r : Int) (H : flow_Check.f l_0 = some r) (w : World) (hV : Hp) (sV : Sub hV (hp w)) (h0 : slR k_api_Instr hV v_l_0 l_0) (h1 : (arrP k_arr136 0 tab0).p hV) :
    Trip Tryz.prog 20 [v_l_0].toArray em hV w (fun v => HO.pure (v = .int .i64 r)) := by
 have see : Sees w em hV := ⟨sV, Dj.em_right _⟩
 refine Trip.of (P := Tryz.prog) (n := ⟨11, []⟩) Tryz.func20 rfl ⟨rfl, rfl⟩ rfl (St.begin (aS h0 (All.cons (x := arrP k_arr136 0 tab0) h1 (All.nil _)))) ?_
 have ho := H
 refine go ?_
 obtain ⟨t2, hc, ho⟩ := bind_some (x := flow_Loops.f l_0) ho
 refine SP.callK see (caps := []) _ fn40 rfl rfl rfl rfl (fun w2 hP hs sub ap => flow_Loops.ok _ _ _ hc w2 hP sub (ap.get 0 rfl) (ap.get 1 rfl)) (SP.k1 fun v3 => ?_)
 clear hc
 refine go ?_
 obtain rfl := Option.some.inj ho
 exact QE.rt fun _ h => h
/-! ### slices.Grow[[]uint8,uint8]: function 41 -/
shelf_lay_g Lays8.n4 Nm8 4 at Tryz 41 as Tryz.grow41
/-- Room for a row of numbers where there was none. -/
theorem grow41_trip {n : Int} (h0 : 0 ≤ n) (hb : n * 1 ≤ 140737488355328) (w : World) (hV : Hp) :
    Trip Tryz.prog 41 #[.slice none 0 0, .int .i64 n] em hV w (fun r => HO.ex fun u : Value => HO.pand (r = u) (HO.seps [slO (kInt .u8) 5 u []])) := by
  obtain ⟨m, rfl⟩ := Int.eq_ofNat_of_zero_le h0
  obtain ⟨i0, z, hi0, hz0, hsz, hbt, hzl⟩ := growInfo (P := Tryz.prog) inf5
  by_cases hm : m = 0
  · subst hm
    exact (Any8.slices_Grow_room Tryz.grow41 none 0 0 0 w (by omega) (by omega) (by omega) (by omega)).mono fun e w' ⟨he, hw⟩ => by
      subst hw
      exact ⟨_, he, Met.refl _, fun _ _ e _ => e, em, em, fun _ _ _ => rfl, fun _ _ _ => rfl, Dj.em_left _, Sub.em _, Sub.em _, _, rfl, em, em, Dj.em_left _, Sub.em _, Sub.em _, slO.nil _ _ _, trivial⟩
  · have h := Any8.slices_Grow_grow Tryz.grow41 i0 z hi0 hz0 (by omega) none 0 0 m [] w (by omega) (by omega) (by rw [hbt]; omega) (by omega) (by simp) (fun _ => rfl) (fun a ha => by cases ha)
    exact h.mono fun e w' ⟨he, hw⟩ => grown_trip he hw (grownCap_le_maxLen _ _ _ _ (by simp only [maxLen]; omega)) (zeros_size (by have := grownCap_ge w (0 + m) 0 5; rw [Nat.zero_add] at this ⊢; exact this) hzl)


/-! ### slices.Concat[[]uint8,uint8]: function 21 -/
inductive slices_Concat_uint8_uint8.S where
  | start
  | l1 (x36 : Int) (x37 : Int)
  | l2 (l57 : List Int) (x59 : Int)

def slices_Concat_uint8_uint8.j1 (slices_0 : (List (List Int))) (x36 : Int) (x37 : Int) (x41 : (List Int)) : Option (slices_Concat_uint8_uint8.S ⊕ (List Int)) :=
  some (.inl (.l1 (IntKind.i64.wrap (x36 + (x41.length : Int))) (IntKind.i64.wrap (x37 + 1))))

def slices_Concat_uint8_uint8.F (slices_0 : (List (List Int))) : slices_Concat_uint8_uint8.S → Option (slices_Concat_uint8_uint8.S ⊕ (List Int))
  | .start => some (.inl (.l1 0 0))
  | .l1 x36 x37 => if x37 < (slices_0.length : Int) then ((elt slices_0 x37).bind fun x41 => if (IntKind.i64.wrap (x36 + (x41.length : Int))) < 0 then (none) else (slices_Concat_uint8_uint8.j1 slices_0 x36 x37 x41)) else (if 0 ≤ x36 ∧ x36 * 1 ≤ 140737488355328 then (some (.inl (.l2 ([] : List Int) 0))) else none)
  | .l2 l57 x59 => if x59 < (slices_0.length : Int) then ((elt slices_0 x59).bind fun x63 => if (l57.length + x63.length) * 1 ≤ 140737488355328 then (some (.inl (.l2 (l57 ++ x63) (IntKind.i64.wrap (x59 + 1))))) else none) else (some (.inr l57))

def slices_Concat_uint8_uint8.f (slices_0 : (List (List Int))) : Option (List Int) := runF (slices_Concat_uint8_uint8.F slices_0) .start
theorem slices_Concat_uint8_uint8.ok (slices_0 : (List (List Int))) (v_slices_0 : Value) (r : (List Int)) (H : slices_Concat_uint8_uint8.f slices_0 = some r) (w : World) (hV : Hp) (sV : Sub hV (hp w)) (h0 : slR (kSl (kInt .u8)) hV v_slices_0 slices_0) :
    Trip Tryz.prog 21 [v_slices_0].toArray em hV w (fun v => HO.ex fun u0 : Value => HO.pand (v = u0) (HO.seps [slO (kInt .u8) 5 u0 r])) := by
 have see : Sees w em hV := ⟨sV, Dj.em_right _⟩
 refine Trip.of (P := Tryz.prog) (n := ⟨36, []⟩) Tryz.func21 rfl ⟨rfl, rfl⟩ rfl (St.begin (aS h0 (All.nil _))) ?_
 obtain ⟨n0, hi⟩ := runF_iff.1 H
 obtain ⟨m0, o, hm0, ho, hr⟩ := iter_some hi
 clear hi
 refine go ?_
 refine CP.seq ?_
 refine go ?_
 obtain rfl := Option.some.inj ho
 refine CP.loop (fun cl1 a w2 => ∃ x36 : Int, ∃ x37 : Int, cl1 ≤ m0 ∧ iter (slices_Concat_uint8_uint8.F slices_0) cl1 (.l1 x36 x37) = some r ∧ Env ⟨36, []⟩ [(0, v_slices_0), (3, .int .i64 x36), (9, v_slices_0), (10, .int .i64 (slices_0.length : Int)), (11, .int .i64 x37)] a ∧ St w em hV [slP (kSl (kInt .u8)) v_slices_0 slices_0] [] w2) m0 (fun a w2 ha hw => ⟨0, 0, Nat.le_refl _, hr, ha.sub sb, hw⟩) ?_
 clear hr
 rintro cl1 a w2 ⟨x36, x37, hc_l1, hi, ha, hw⟩
 obtain ⟨m38, o, hm_m38, ho, hr⟩ := iter_some hi
 refine CP.app ha hw ?_
 clear ha hw a w2 hi
 refine go ?_
 refine CP.seq ?_
 refine CP.ci ho (fun ho => ?_) fun ho => ?_
 ·refine go ?_
  refine CP.join (fun a w2 => ∃ x41 : (List Int), ∃ (m44 : Nat) (o : (slices_Concat_uint8_uint8.S ⊕ (List Int))), m44 ≤ m38 ∧ slices_Concat_uint8_uint8.j1 slices_0 x36 x37 x41 = some o ∧ next (slices_Concat_uint8_uint8.F slices_0) m44 o = some r ∧ Env ⟨36, []⟩ [(0, v_slices_0), (3, .int .i64 (IntKind.i64.wrap (x36 + (x41.length : Int)))), (9, v_slices_0), (10, .int .i64 (slices_0.length : Int)), (11, .int .i64 x37)] a ∧ St w em hV [slP (kSl (kInt .u8)) v_slices_0 slices_0] [] w2) ?_ ?_
  ·rintro a w2 ⟨x41, m44, o, hm_m44, ho, hr, ha, hw⟩
   refine CP.app ha hw ?_
   clear ha hw a w2
   refine go ?_
   obtain rfl := Option.some.inj ho
   exact QE.lower m44 (by omega) fun a w2 ha hw => ⟨(IntKind.i64.wrap (x36 + (x41.length : Int))), (IntKind.i64.wrap (x37 + 1)), (by omega), hr, ha.sub sb, hw⟩
  refine go ?_
  obtain ⟨x41, hx, ho⟩ := elt_bind ho
  refine SP.indexP see 0 rfl Tryz.underlying93 sz38 hx.1 hx.2 rfl rfl rfl rfl (fun p39 => ?_)
  clear hx
  refine SP.loadPS see 0 rfl Tryz.underlying38 rfl rfl rfl (fun v42 => ?_)
  refine go ?_
  refine CP.ci ho (fun ho => ?_) fun ho => ?_
  ·cases ho
  refine go ?_
  exact QE.meet fun a w2 ha hw => ⟨x41, m38, _, (by omega), ho, hr, ha.sub sb, (St.selP [2] rfl hw)⟩
 refine go ?_
 obtain ⟨hb, ho⟩ := must_some ho
 refine SP.callK see (caps := []) _ fn41 rfl rfl rfl rfl (fun w2 hP hs sub ap => grow41_trip hb.1 hb.2 w2 hP) (SP.k1 fun v46 => ?_)
 clear hb
 refine go ?_
 refine CP.seq ?_
 refine go ?_
 obtain rfl := Option.some.inj ho
 refine CP.loop (fun cl2 a w2 => ∃ l57 : List Int, ∃ x59 : Int, ∃ v58 : Value, cl2 ≤ m38 ∧ iter (slices_Concat_uint8_uint8.F slices_0) cl2 (.l2 l57 x59) = some r ∧ Env ⟨36, []⟩ [(6, v58), (25, v_slices_0), (26, .int .i64 (slices_0.length : Int)), (27, .int .i64 x59)] a ∧ St w em hV [slP (kSl (kInt .u8)) v_slices_0 slices_0] [slO (kInt .u8) 5 v58 l57] w2) m38 (fun a w2 ha hw => ⟨([] : List Int), 0, v46, Nat.le_refl _, hr, ha.sub sb, hw⟩) ?_
 clear hr
 rintro cl2 a w2 ⟨l57, x59, v58, hc_l2, hi, ha, hw⟩
 obtain ⟨m60, o, hm_m60, ho, hr⟩ := iter_some hi
 refine CP.app ha hw ?_
 clear ha hw a w2 hi
 refine go ?_
 refine CP.seq ?_
 refine CP.ci ho (fun ho => ?_) fun ho => ?_
 ·refine go ?_
  refine CP.seq ?_
  refine go ?_
  obtain ⟨x63, hx, ho⟩ := elt_bind ho
  refine SP.indexP see 0 rfl Tryz.underlying93 sz38 hx.1 hx.2 rfl rfl rfl rfl (fun p61 => ?_)
  clear hx
  refine SP.loadPS see 0 rfl Tryz.underlying38 rfl rfl rfl (fun v64 => ?_)
  refine go ?_
  obtain ⟨hb, ho⟩ := must_some ho
  refine SP.append see 0 rfl 0 rfl Tryz.underlying38 inf5 rfl rfl hb rfl rfl rfl rfl rfl (fun v66 => ?_)
  clear hb
  refine go ?_
  obtain rfl := Option.some.inj ho
  exact QE.lower m60 (by omega) fun a w2 ha hw => ⟨(l57 ++ x63), (IntKind.i64.wrap (x59 + 1)), v66, (by omega), hr, ha.sub sb, (St.selP [2] rfl hw)⟩
 refine go ?_
 obtain rfl := fin ho hr
 exact QE.rt fun _ h => (St.selO [0] rfl rfl h)
/-! ### (*capstan/types.look).there: function 24 -/
def types_look_there_s1.j1 (k_0_1 : List api_Value) (k_0_3 : List api_Value) (k_0_5 : List api_Method) (k_0_7 : Int) (k_0_8 : List Int) (k_0_10 : List Int) (k_0_12 : Int) (k_0_13 : Bool) (k_0_14 : Int) (k_0_15 : Int) (k_0_16 : Int) (k_0_17 : List api_Instr) (k_0_19 : List Int) (i_1 : api_Instr) (x27 : Int) : Option Bool :=
  some (decide (i_1.A < x27))

def types_look_there_s1.j3 (k_0_1 : List api_Value) (k_0_3 : List api_Value) (k_0_5 : List api_Method) (k_0_7 : Int) (k_0_8 : List Int) (k_0_10 : List Int) (k_0_12 : Int) (k_0_13 : Bool) (k_0_14 : Int) (k_0_15 : Int) (k_0_16 : Int) (k_0_17 : List api_Instr) (k_0_19 : List Int) (i_1 : api_Instr) (b26 : Bool) : Option Bool :=
  if b26 = true then (types_look_there_s1.j1 k_0_1 k_0_3 k_0_5 k_0_7 k_0_8 k_0_10 k_0_12 k_0_13 k_0_14 k_0_15 k_0_16 k_0_17 k_0_19 i_1 (k_0_1.length : Int)) else (if i_1.Op = 30 then (types_look_there_s1.j1 k_0_1 k_0_3 k_0_5 k_0_7 k_0_8 k_0_10 k_0_12 k_0_13 k_0_14 k_0_15 k_0_16 k_0_17 k_0_19 i_1 (k_0_5.length : Int)) else (some true))

def types_look_there_s1.j2 (k_0_1 : List api_Value) (k_0_3 : List api_Value) (k_0_5 : List api_Method) (k_0_7 : Int) (k_0_8 : List Int) (k_0_10 : List Int) (k_0_12 : Int) (k_0_13 : Bool) (k_0_14 : Int) (k_0_15 : Int) (k_0_16 : Int) (k_0_17 : List api_Instr) (k_0_19 : List Int) (i_1 : api_Instr) (b25 : Bool) : Option Bool :=
  if b25 = true then (types_look_there_s1.j1 k_0_1 k_0_3 k_0_5 k_0_7 k_0_8 k_0_10 k_0_12 k_0_13 k_0_14 k_0_15 k_0_16 k_0_17 k_0_19 i_1 (k_0_19.length : Int)) else (if i_1.Op = 4 then (types_look_there_s1.j3 k_0_1 k_0_3 k_0_5 k_0_7 k_0_8 k_0_10 k_0_12 k_0_13 k_0_14 k_0_15 k_0_16 k_0_17 k_0_19 i_1 (decide (i_1.Op = 4))) else (types_look_there_s1.j3 k_0_1 k_0_3 k_0_5 k_0_7 k_0_8 k_0_10 k_0_12 k_0_13 k_0_14 k_0_15 k_0_16 k_0_17 k_0_19 i_1 (decide (i_1.Op = 5))))

def types_look_there_s1.f (k_0_1 : List api_Value) (k_0_3 : List api_Value) (k_0_5 : List api_Method) (k_0_7 : Int) (k_0_8 : List Int) (k_0_10 : List Int) (k_0_12 : Int) (k_0_13 : Bool) (k_0_14 : Int) (k_0_15 : Int) (k_0_16 : Int) (k_0_17 : List api_Instr) (k_0_19 : List Int) (i_1 : api_Instr) : Option Bool :=
  if i_1.Op = 1 then (types_look_there_s1.j1 k_0_1 k_0_3 k_0_5 k_0_7 k_0_8 k_0_10 k_0_12 k_0_13 k_0_14 k_0_15 k_0_16 k_0_17 k_0_19 i_1 (k_0_3.length : Int)) else (if i_1.Op = 2 then (types_look_there_s1.j2 k_0_1 k_0_3 k_0_5 k_0_7 k_0_8 k_0_10 k_0_12 k_0_13 k_0_14 k_0_15 k_0_16 k_0_17 k_0_19 i_1 (decide (i_1.Op = 2))) else (types_look_there_s1.j2 k_0_1 k_0_3 k_0_5 k_0_7 k_0_8 k_0_10 k_0_12 k_0_13 k_0_14 k_0_15 k_0_16 k_0_17 k_0_19 i_1 (decide (i_1.Op = 3))))
theorem types_look_there_s1.ok (k_0_1 : List api_Value) (k_0_3 : List api_Value) (k_0_5 : List api_Method) (k_0_7 : Int) (k_0_8 : List Int) (k_0_10 : List Int) (k_0_12 : Int) (k_0_13 : Bool) (k_0_14 k_0_15 k_0_16 : Int) (k_0_17 : List api_Instr) (k_0_19 : List Int) (i_1 : api_Instr) (v_k_0_1 v_k_0_3 : Value) (v_k_0_5 v_k_0_8 : Value) (v_k_0_10 v_k_0_17 v_k_0_19 : Value) (b21 : Nat) (r : Bool) (H : types_look_there_s1.f k_0_1 k_0_3 k_0_5 k_0_7 k_0_8 k_0_10 k_0_12 k_0_13 k_0_14 k_0_15 k_0_16 k_0_17 k_0_19 i_1 = some r) (w : World) (hV : Hp) (sV : Sub hV (hp w)) (h0 : slR k_api_Value hV v_k_0_1 k_0_1) (h1 : slR k_api_Value hV v_k_0_3 k_0_3) (h2 : slR k_api_Method hV v_k_0_5 k_0_5) (h3 : slR (kInt .u8) hV v_k_0_8 k_0_8) (h4 : slR (kInt .u8) hV v_k_0_10 k_0_10) (h5 : slR k_api_Instr hV v_k_0_17 k_0_17) (h6 : slR (kInt .u8) hV v_k_0_19 k_0_19) (h7 : (preP b21 [v_k_0_1, v_k_0_3, v_k_0_5, .int .i64 k_0_7, v_k_0_8, v_k_0_10, .int .u8 k_0_12, .bool k_0_13, .int .i64 k_0_14, .int .i64 k_0_15, .int .i64 k_0_16, v_k_0_17, v_k_0_19] 67).p hV) :
    Trip Tryz.prog 24 [.pointer (some ⟨b21, 0, none⟩), .agg #[.int .u8 i_1.Op, .int .i64 i_1.A, .int .i64 i_1.B]].toArray em hV w (fun v => HO.pure (v = .bool r)) := by
 have see : Sees w em hV := ⟨sV, Dj.em_right _⟩
 refine Trip.of (P := Tryz.prog) (n := ⟨45, []⟩) Tryz.func24 rfl ⟨rfl, rfl⟩ rfl (St.begin (aS h0 (aS h1 (aS h2 (aS h3 (aS h4 (aS h5 (aS h6 (All.cons (x := preP b21 [v_k_0_1, v_k_0_3, v_k_0_5, .int .i64 k_0_7, v_k_0_8, v_k_0_10, .int .u8 k_0_12, .bool k_0_13, .int .i64 k_0_14, .int .i64 k_0_15, .int .i64 k_0_16, v_k_0_17, v_k_0_19] 67) h7 (All.nil _)))))))))) ?_
 have ho := H
 refine go ?_
 refine SP.box (cs := [.int .u8 i_1.Op, .int .i64 i_1.A, .int .i64 i_1.B]) rfl rfl rfl rfl (fun b23 => ?_)
 refine go ?_
 refine CP.join (fun a w2 => ∃ x27 : Int, types_look_there_s1.j1 k_0_1 k_0_3 k_0_5 k_0_7 k_0_8 k_0_10 k_0_12 k_0_13 k_0_14 k_0_15 k_0_16 k_0_17 k_0_19 i_1 x27 = some r ∧ Env ⟨45, []⟩ [(3, .pointer (some ⟨b23, 0, none⟩)), (5, .int .i64 x27)] a ∧ St w em hV [] [boxO b23 [.int .u8 i_1.Op, .int .i64 i_1.A, .int .i64 i_1.B] 56] w2) ?_ ?_
 ·rintro a w2 ⟨x27, ho, ha, hw⟩
  refine CP.app ha hw ?_
  clear ha hw a w2
  refine go ?_
  obtain rfl := Option.some.inj ho
  exact QE.rt fun _ h => h
 refine go ?_
 refine CP.ci ho (fun ho => ?_) fun ho => ?_
 ·refine go ?_
  refine SP.val (Val.loadPre1 see 7 rfl Tryz.underlying22 rfl rfl rfl) rfl rfl rfl ?_
  refine go ?_
  exact QE.meet fun a w2 ha hw => ⟨(k_0_3.length : Int), ho, ha.sub sb, (St.selP [] rfl hw)⟩
 refine CP.join (fun a w2 => ∃ b25 : Bool, types_look_there_s1.j2 k_0_1 k_0_3 k_0_5 k_0_7 k_0_8 k_0_10 k_0_12 k_0_13 k_0_14 k_0_15 k_0_16 k_0_17 k_0_19 i_1 b25 = some r ∧ Env ⟨45, []⟩ [(0, .pointer (some ⟨b21, 0, none⟩)), (3, .pointer (some ⟨b23, 0, none⟩)), (7, .int .u8 i_1.Op), (16, .bool b25)] a ∧ St w em hV [slP k_api_Value v_k_0_1 k_0_1, slP k_api_Value v_k_0_3 k_0_3, slP k_api_Method v_k_0_5 k_0_5, slP (kInt .u8) v_k_0_8 k_0_8, slP (kInt .u8) v_k_0_10 k_0_10, slP k_api_Instr v_k_0_17 k_0_17, slP (kInt .u8) v_k_0_19 k_0_19, preP b21 [v_k_0_1, v_k_0_3, v_k_0_5, .int .i64 k_0_7, v_k_0_8, v_k_0_10, .int .u8 k_0_12, .bool k_0_13, .int .i64 k_0_14, .int .i64 k_0_15, .int .i64 k_0_16, v_k_0_17, v_k_0_19] 67] [boxO b23 [.int .u8 i_1.Op, .int .i64 i_1.A, .int .i64 i_1.B] 56] w2) ?_ ?_
 ·rintro a w2 ⟨b25, ho, ha, hw⟩
  refine CP.app ha hw ?_
  clear ha hw a w2
  refine CP.cb ho (fun ho => ?_) fun ho => ?_
  ·refine go ?_
   refine SP.val (Val.loadPre1 see 7 rfl Tryz.underlying38 rfl rfl rfl) rfl rfl rfl ?_
   refine go ?_
   exact QE.meet fun a w2 ha hw => ⟨(k_0_19.length : Int), ho, ha.sub sb, (St.selP [] rfl hw)⟩
  refine CP.join (fun a w2 => ∃ b26 : Bool, types_look_there_s1.j3 k_0_1 k_0_3 k_0_5 k_0_7 k_0_8 k_0_10 k_0_12 k_0_13 k_0_14 k_0_15 k_0_16 k_0_17 k_0_19 i_1 b26 = some r ∧ Env ⟨45, []⟩ [(0, .pointer (some ⟨b21, 0, none⟩)), (3, .pointer (some ⟨b23, 0, none⟩)), (7, .int .u8 i_1.Op), (24, .bool b26)] a ∧ St w em hV [slP k_api_Value v_k_0_1 k_0_1, slP k_api_Value v_k_0_3 k_0_3, slP k_api_Method v_k_0_5 k_0_5, slP (kInt .u8) v_k_0_8 k_0_8, slP (kInt .u8) v_k_0_10 k_0_10, slP k_api_Instr v_k_0_17 k_0_17, slP (kInt .u8) v_k_0_19 k_0_19, preP b21 [v_k_0_1, v_k_0_3, v_k_0_5, .int .i64 k_0_7, v_k_0_8, v_k_0_10, .int .u8 k_0_12, .bool k_0_13, .int .i64 k_0_14, .int .i64 k_0_15, .int .i64 k_0_16, v_k_0_17, v_k_0_19] 67] [boxO b23 [.int .u8 i_1.Op, .int .i64 i_1.A, .int .i64 i_1.B] 56] w2) ?_ ?_
  ·rintro a w2 ⟨b26, ho, ha, hw⟩
   refine CP.app ha hw ?_
   clear ha hw a w2
   refine CP.cb ho (fun ho => ?_) fun ho => ?_
   ·refine go ?_
    refine SP.val (Val.loadPre1 see 7 rfl Tryz.underlying22 rfl rfl rfl) rfl rfl rfl ?_
    refine go ?_
    exact QE.meet fun a w2 ha hw => ⟨(k_0_1.length : Int), ho, ha.sub sb, (St.selP [] rfl hw)⟩
   refine go ?_
   refine CP.ci ho (fun ho => ?_) fun ho => ?_
   ·refine go ?_
    refine SP.val (Val.loadPre1 see 7 rfl Tryz.underlying23 rfl rfl rfl) rfl rfl rfl ?_
    refine go ?_
    exact QE.meet fun a w2 ha hw => ⟨(k_0_5.length : Int), ho, ha.sub sb, (St.selP [] rfl hw)⟩
   refine go ?_
   obtain rfl := Option.some.inj ho
   exact QE.rt fun _ h => h
  refine go ?_
  refine CP.ci ho (fun ho => ?_) fun ho => ?_
  ·refine go ?_
   exact QE.meet fun a w2 ha hw => ⟨(decide (i_1.Op = 4)), ho, ha.sub sb, hw⟩
  refine go ?_
  exact QE.meet fun a w2 ha hw => ⟨(decide (i_1.Op = 5)), ho, ha.sub sb, hw⟩
 refine go ?_
 refine CP.ci ho (fun ho => ?_) fun ho => ?_
 ·refine go ?_
  exact QE.meet fun a w2 ha hw => ⟨(decide (i_1.Op = 2)), ho, ha.sub sb, hw⟩
 refine go ?_
 exact QE.meet fun a w2 ha hw => ⟨(decide (i_1.Op = 3)), ho, ha.sub sb, hw⟩
/-! ### capstan/types.Rows$1: function 23 -/
def types_Rows_1_s1.f (i_0 : api_Instr) (c0_1 : List api_Value) (c0_3 : List api_Value) (c0_5 : List api_Method) (c0_7 : Int) (c0_8 : List Int) (c0_10 : List Int) (c0_12 : Int) (c0_13 : Bool) (c0_14 : Int) (c0_15 : Int) (c0_16 : Int) (c0_17 : List api_Instr) (c0_19 : List Int) : Option Bool :=
  (types_look_there_s1.f c0_1 c0_3 c0_5 c0_7 c0_8 c0_10 c0_12 c0_13 c0_14 c0_15 c0_16 c0_17 c0_19 i_0).bind fun t27 => some (!t27)
theorem types_Rows_1_s1.ok (i_0 : api_Instr) (c0_1 : List api_Value) (c0_3 : List api_Value) (c0_5 : List api_Method) (c0_7 : Int) (c0_8 : List Int) (c0_10 : List Int) (c0_12 : Int) (c0_13 : Bool) (c0_14 c0_15 c0_16 : Int) (c0_17 : List api_Instr) (c0_19 : List Int) (v_c0_1 v_c0_3 : Value) (v_c0_5 v_c0_8 : Value) (v_c0_10 v_c0_17 v_c0_19 : Value) (b21 : Nat) (b23 : Nat) (r : Bool) (H : types_Rows_1_s1.f i_0 c0_1 c0_3 c0_5 c0_7 c0_8 c0_10 c0_12 c0_13 c0_14 c0_15 c0_16 c0_17 c0_19 = some r) (w : World) (hV : Hp) (sV : Sub hV (hp w)) (h0 : slR k_api_Value hV v_c0_1 c0_1) (h1 : slR k_api_Value hV v_c0_3 c0_3) (h2 : slR k_api_Method hV v_c0_5 c0_5) (h3 : slR (kInt .u8) hV v_c0_8 c0_8) (h4 : slR (kInt .u8) hV v_c0_10 c0_10) (h5 : slR k_api_Instr hV v_c0_17 c0_17) (h6 : slR (kInt .u8) hV v_c0_19 c0_19) (h7 : (preP b21 [v_c0_1, v_c0_3, v_c0_5, .int .i64 c0_7, v_c0_8, v_c0_10, .int .u8 c0_12, .bool c0_13, .int .i64 c0_14, .int .i64 c0_15, .int .i64 c0_16, v_c0_17, v_c0_19] 67).p hV) (h8 : (boxP b23 [.pointer (some ⟨b21, 0, none⟩)] 63).p hV) :
    Trip Tryz.prog 23 [.agg #[.int .u8 i_0.Op, .int .i64 i_0.A, .int .i64 i_0.B], .pointer (some ⟨b23, 0, none⟩)].toArray em hV w (fun v => HO.pure (v = .bool r)) := by
 have see : Sees w em hV := ⟨sV, Dj.em_right _⟩
 refine Trip.of (P := Tryz.prog) (n := ⟨8, []⟩) Tryz.func23 rfl ⟨rfl, rfl⟩ rfl (St.begin (aS h0 (aS h1 (aS h2 (aS h3 (aS h4 (aS h5 (aS h6 (All.cons (x := preP b21 [v_c0_1, v_c0_3, v_c0_5, .int .i64 c0_7, v_c0_8, v_c0_10, .int .u8 c0_12, .bool c0_13, .int .i64 c0_14, .int .i64 c0_15, .int .i64 c0_16, v_c0_17, v_c0_19] 67) h7 (All.cons (x := boxP b23 [.pointer (some ⟨b21, 0, none⟩)] 63) h8 (All.nil _))))))))))) ?_
 have ho := H
 refine go ?_
 refine SP.box (cs := [.int .u8 i_0.Op, .int .i64 i_0.A, .int .i64 i_0.B]) rfl rfl rfl rfl (fun b25 => ?_)
 refine SP.val (Val.assign rfl) rfl rfl rfl ?_
 refine SP.nil ?_
 refine QE.then ?_
 refine CP.seq ?_
 refine CP.region ?_
 refine SP.val (Val.loadB1 see 8 rfl Tryz.underlying63 rfl rfl rfl) rfl rfl rfl ?_
 refine SP.val (Val.loadA 0 rfl Tryz.underlying56 rfl sz56 rfl rfl rfl) rfl rfl rfl ?_
 obtain ⟨t27, hc, ho⟩ := bind_some (x := types_look_there_s1.f c0_1 c0_3 c0_5 c0_7 c0_8 c0_10 c0_12 c0_13 c0_14 c0_15 c0_16 c0_17 c0_19 i_0) ho
 refine SP.callV see (caps := []) (.bool t27) fn24 rfl rfl rfl rfl (fun w2 hP hs sub ap => types_look_there_s1.ok _ _ _ _ _ _ _ _ _ _ _ _ _ _ _ _ _ _ _ _ _ _ _ hc w2 hP sub (ap.get 0 rfl) (ap.get 1 rfl) (ap.get 2 rfl) (ap.get 3 rfl) (ap.get 4 rfl) (ap.get 5 rfl) (ap.get 6 rfl) (ap.get 7 rfl)) ?_
 clear hc
 refine go ?_
 obtain rfl := Option.some.inj ho
 exact QE.rt fun _ h => h
/-! ### slices.IndexFunc[[]capstan/api.Instr,capstan/api.Instr]: function 42 -/
inductive slices_IndexFunc_api_Instr_api_Instr_s2.S where
  | start
  | l1 (x31 : Int)

def slices_IndexFunc_api_Instr_api_Instr_s2.F (s_0 : (List api_Instr)) (f_1_2 : List api_Value) (f_1_4 : List api_Value) (f_1_6 : List api_Method) (f_1_8 : Int) (f_1_9 : List Int) (f_1_11 : List Int) (f_1_13 : Int) (f_1_14 : Bool) (f_1_15 : Int) (f_1_16 : Int) (f_1_17 : Int) (f_1_18 : List api_Instr) (f_1_20 : List Int) : slices_IndexFunc_api_Instr_api_Instr_s2.S → Option (slices_IndexFunc_api_Instr_api_Instr_s2.S ⊕ Int)
  | .start => some (.inl (.l1 0))
  | .l1 x31 => if x31 < (s_0.length : Int) then ((elt s_0 x31).bind fun x35 => (types_Rows_1_s1.f x35 f_1_2 f_1_4 f_1_6 f_1_8 f_1_9 f_1_11 f_1_13 f_1_14 f_1_15 f_1_16 f_1_17 f_1_18 f_1_20).bind fun t36 => if t36 = true then (some (.inr x31)) else (some (.inl (.l1 (IntKind.i64.wrap (x31 + 1)))))) else (some (.inr (-1)))

def slices_IndexFunc_api_Instr_api_Instr_s2.f (s_0 : (List api_Instr)) (f_1_2 : List api_Value) (f_1_4 : List api_Value) (f_1_6 : List api_Method) (f_1_8 : Int) (f_1_9 : List Int) (f_1_11 : List Int) (f_1_13 : Int) (f_1_14 : Bool) (f_1_15 : Int) (f_1_16 : Int) (f_1_17 : Int) (f_1_18 : List api_Instr) (f_1_20 : List Int) : Option Int := runF (slices_IndexFunc_api_Instr_api_Instr_s2.F s_0 f_1_2 f_1_4 f_1_6 f_1_8 f_1_9 f_1_11 f_1_13 f_1_14 f_1_15 f_1_16 f_1_17 f_1_18 f_1_20) .start
theorem slices_IndexFunc_api_Instr_api_Instr_s2.ok (s_0 : (List api_Instr)) (f_1_2 : List api_Value) (f_1_4 : List api_Value) (f_1_6 : List api_Method) (f_1_8 : Int) (f_1_9 : List Int) (f_1_11 : List Int) (f_1_13 : Int) (f_1_14 : Bool) (f_1_15 f_1_16 f_1_17 : Int) (f_1_18 : List api_Instr) (f_1_20 : List Int) (v_s_0 v_f_1_2 : Value) (v_f_1_4 v_f_1_6 : Value) (v_f_1_9 v_f_1_11 : Value) (v_f_1_18 v_f_1_20 : Value) (b22 : Nat) (b24 : Nat) (r : Int) (H : slices_IndexFunc_api_Instr_api_Instr_s2.f s_0 f_1_2 f_1_4 f_1_6 f_1_8 f_1_9 f_1_11 f_1_13 f_1_14 f_1_15 f_1_16 f_1_17 f_1_18 f_1_20 = some r) (w : World) (hV : Hp) (sV : Sub hV (hp w)) (h0 : slR k_api_Instr hV v_s_0 s_0) (h1 : slR k_api_Value hV v_f_1_2 f_1_2) (h2 : slR k_api_Value hV v_f_1_4 f_1_4) (h3 : slR k_api_Method hV v_f_1_6 f_1_6) (h4 : slR (kInt .u8) hV v_f_1_9 f_1_9) (h5 : slR (kInt .u8) hV v_f_1_11 f_1_11) (h6 : slR k_api_Instr hV v_f_1_18 f_1_18) (h7 : slR (kInt .u8) hV v_f_1_20 f_1_20) (h8 : (preP b22 [v_f_1_2, v_f_1_4, v_f_1_6, .int .i64 f_1_8, v_f_1_9, v_f_1_11, .int .u8 f_1_13, .bool f_1_14, .int .i64 f_1_15, .int .i64 f_1_16, .int .i64 f_1_17, v_f_1_18, v_f_1_20] 67).p hV) (h9 : (boxP b24 [.pointer (some ⟨b22, 0, none⟩)] 63).p hV) :
    Trip Tryz.prog 42 [v_s_0, .func (.func 23) #[] #[.pointer (some ⟨b24, 0, none⟩)]].toArray em hV w (fun v => HO.pure (v = .int .i64 r)) := by
 have see : Sees w em hV := ⟨sV, Dj.em_right _⟩
 refine Trip.of (P := Tryz.prog) (n := ⟨19, []⟩) Tryz.func42 rfl ⟨rfl, rfl⟩ rfl (St.begin (aS h0 (aS h1 (aS h2 (aS h3 (aS h4 (aS h5 (aS h6 (aS h7 (All.cons (x := preP b22 [v_f_1_2, v_f_1_4, v_f_1_6, .int .i64 f_1_8, v_f_1_9, v_f_1_11, .int .u8 f_1_13, .bool f_1_14, .int .i64 f_1_15, .int .i64 f_1_16, .int .i64 f_1_17, v_f_1_18, v_f_1_20] 67) h8 (All.cons (x := boxP b24 [.pointer (some ⟨b22, 0, none⟩)] 63) h9 (All.nil _)))))))))))) ?_
 obtain ⟨n0, hi⟩ := runF_iff.1 H
 obtain ⟨m0, o, hm0, ho, hr⟩ := iter_some hi
 clear hi
 refine go ?_
 refine CP.seq ?_
 refine go ?_
 obtain rfl := Option.some.inj ho
 refine CP.loop (fun cl1 a w2 => ∃ x31 : Int, cl1 ≤ m0 ∧ iter (slices_IndexFunc_api_Instr_api_Instr_s2.F s_0 f_1_2 f_1_4 f_1_6 f_1_8 f_1_9 f_1_11 f_1_13 f_1_14 f_1_15 f_1_16 f_1_17 f_1_18 f_1_20) cl1 (.l1 x31) = some r ∧ Env ⟨19, []⟩ [(0, v_s_0), (1, .func (.func 23) #[] #[.pointer (some ⟨b24, 0, none⟩)]), (7, .int .i64 (s_0.length : Int)), (8, .int .i64 x31)] a ∧ St w em hV [slP k_api_Instr v_s_0 s_0, slP k_api_Value v_f_1_2 f_1_2, slP k_api_Value v_f_1_4 f_1_4, slP k_api_Method v_f_1_6 f_1_6, slP (kInt .u8) v_f_1_9 f_1_9, slP (kInt .u8) v_f_1_11 f_1_11, slP k_api_Instr v_f_1_18 f_1_18, slP (kInt .u8) v_f_1_20 f_1_20, preP b22 [v_f_1_2, v_f_1_4, v_f_1_6, .int .i64 f_1_8, v_f_1_9, v_f_1_11, .int .u8 f_1_13, .bool f_1_14, .int .i64 f_1_15, .int .i64 f_1_16, .int .i64 f_1_17, v_f_1_18, v_f_1_20] 67, boxP b24 [.pointer (some ⟨b22, 0, none⟩)] 63] [] w2) m0 (fun a w2 ha hw => ⟨0, Nat.le_refl _, hr, ha.sub sb, hw⟩) ?_
 clear hr
 rintro cl1 a w2 ⟨x31, hc_l1, hi, ha, hw⟩
 obtain ⟨m32, o, hm_m32, ho, hr⟩ := iter_some hi
 refine CP.app ha hw ?_
 clear ha hw a w2 hi
 refine go ?_
 refine CP.seq ?_
 refine CP.ci ho (fun ho => ?_) fun ho => ?_
 ·refine go ?_
  refine CP.seq ?_
  refine go ?_
  obtain ⟨x35, hx, ho⟩ := elt_bind ho
  refine SP.indexP see 0 rfl Tryz.underlying46 sz56 hx.1 hx.2 rfl rfl rfl rfl (fun p33 => ?_)
  clear hx
  refine k_api_Instr.load see 0 rfl Tryz.underlying56 rfl sz56 rfl rfl rfl ?_
  obtain ⟨t36, hc, ho⟩ := bind_some (x := types_Rows_1_s1.f x35 f_1_2 f_1_4 f_1_6 f_1_8 f_1_9 f_1_11 f_1_13 f_1_14 f_1_15 f_1_16 f_1_17 f_1_18 f_1_20) ho
  refine SP.callV see (caps := [.pointer (some ⟨b24, 0, none⟩)]) (.bool t36) fn23 rfl rfl rfl rfl (fun w2 hP hs sub ap => types_Rows_1_s1.ok _ _ _ _ _ _ _ _ _ _ _ _ _ _ _ _ _ _ _ _ _ _ _ _ hc w2 hP sub (ap.get 2 rfl) (ap.get 3 rfl) (ap.get 4 rfl) (ap.get 5 rfl) (ap.get 6 rfl) (ap.get 7 rfl) (ap.get 8 rfl) (ap.get 9 rfl) (ap.get 10 rfl)) ?_
  clear hc
  refine go ?_
  refine CP.cb ho (fun ho => ?_) fun ho => ?_
  ·refine go ?_
   obtain rfl := fin ho hr
   exact QE.rt fun _ h => h
  refine go ?_
  obtain rfl := Option.some.inj ho
  exact QE.lower m32 (by omega) fun a w2 ha hw => ⟨(IntKind.i64.wrap (x31 + 1)), (by omega), hr, ha.sub sb, (St.selP [1, 2, 3, 4, 5, 6, 7, 8, 9, 10] rfl hw)⟩
 refine go ?_
 obtain rfl := fin ho hr
 exact QE.rt fun _ h => h
/-! ### slices.ContainsFunc[[]capstan/api.Instr,capstan/api.Instr]: function 22 -/
def slices_ContainsFunc_api_Instr_api_Instr_s2.f (s_0 : (List api_Instr)) (f_1_2 : List api_Value) (f_1_4 : List api_Value) (f_1_6 : List api_Method) (f_1_8 : Int) (f_1_9 : List Int) (f_1_11 : List Int) (f_1_13 : Int) (f_1_14 : Bool) (f_1_15 : Int) (f_1_16 : Int) (f_1_17 : Int) (f_1_18 : List api_Instr) (f_1_20 : List Int) : Option Bool :=
  (slices_IndexFunc_api_Instr_api_Instr_s2.f s_0 f_1_2 f_1_4 f_1_6 f_1_8 f_1_9 f_1_11 f_1_13 f_1_14 f_1_15 f_1_16 f_1_17 f_1_18 f_1_20).bind fun t26 => some (decide (t26 ≥ 0))
theorem slices_ContainsFunc_api_Instr_api_Instr_s2.ok (s_0 : (List api_Instr)) (f_1_2 : List api_Value) (f_1_4 : List api_Value) (f_1_6 : List api_Method) (f_1_8 : Int) (f_1_9 : List Int) (f_1_11 : List Int) (f_1_13 : Int) (f_1_14 : Bool) (f_1_15 f_1_16 f_1_17 : Int) (f_1_18 : List api_Instr) (f_1_20 : List Int) (v_s_0 v_f_1_2 : Value) (v_f_1_4 v_f_1_6 : Value) (v_f_1_9 v_f_1_11 : Value) (v_f_1_18 v_f_1_20 : Value) (b22 : Nat) (b24 : Nat) (r : Bool) (H : slices_ContainsFunc_api_Instr_api_Instr_s2.f s_0 f_1_2 f_1_4 f_1_6 f_1_8 f_1_9 f_1_11 f_1_13 f_1_14 f_1_15 f_1_16 f_1_17 f_1_18 f_1_20 = some r) (w : World) (hV : Hp) (sV : Sub hV (hp w)) (h0 : slR k_api_Instr hV v_s_0 s_0) (h1 : slR k_api_Value hV v_f_1_2 f_1_2) (h2 : slR k_api_Value hV v_f_1_4 f_1_4) (h3 : slR k_api_Method hV v_f_1_6 f_1_6) (h4 : slR (kInt .u8) hV v_f_1_9 f_1_9) (h5 : slR (kInt .u8) hV v_f_1_11 f_1_11) (h6 : slR k_api_Instr hV v_f_1_18 f_1_18) (h7 : slR (kInt .u8) hV v_f_1_20 f_1_20) (h8 : (preP b22 [v_f_1_2, v_f_1_4, v_f_1_6, .int .i64 f_1_8, v_f_1_9, v_f_1_11, .int .u8 f_1_13, .bool f_1_14, .int .i64 f_1_15, .int .i64 f_1_16, .int .i64 f_1_17, v_f_1_18, v_f_1_20] 67).p hV) (h9 : (boxP b24 [.pointer (some ⟨b22, 0, none⟩)] 63).p hV) :
    Trip Tryz.prog 22 [v_s_0, .func (.func 23) #[] #[.pointer (some ⟨b24, 0, none⟩)]].toArray em hV w (fun v => HO.pure (v = .bool r)) := by
 have see : Sees w em hV := ⟨sV, Dj.em_right _⟩
 refine Trip.of (P := Tryz.prog) (n := ⟨9, []⟩) Tryz.func22 rfl ⟨rfl, rfl⟩ rfl (St.begin (aS h0 (aS h1 (aS h2 (aS h3 (aS h4 (aS h5 (aS h6 (aS h7 (All.cons (x := preP b22 [v_f_1_2, v_f_1_4, v_f_1_6, .int .i64 f_1_8, v_f_1_9, v_f_1_11, .int .u8 f_1_13, .bool f_1_14, .int .i64 f_1_15, .int .i64 f_1_16, .int .i64 f_1_17, v_f_1_18, v_f_1_20] 67) h8 (All.cons (x := boxP b24 [.pointer (some ⟨b22, 0, none⟩)] 63) h9 (All.nil _)))))))))))) ?_
 have ho := H
 refine go ?_
 obtain ⟨t26, hc, ho⟩ := bind_some (x := slices_IndexFunc_api_Instr_api_Instr_s2.f s_0 f_1_2 f_1_4 f_1_6 f_1_8 f_1_9 f_1_11 f_1_13 f_1_14 f_1_15 f_1_16 f_1_17 f_1_18 f_1_20) ho
 refine SP.callV see (caps := []) (.int .i64 t26) fn42 rfl rfl rfl rfl (fun w2 hP hs sub ap => slices_IndexFunc_api_Instr_api_Instr_s2.ok _ _ _ _ _ _ _ _ _ _ _ _ _ _ _ _ _ _ _ _ _ _ _ _ _ hc w2 hP sub (ap.get 0 rfl) (ap.get 1 rfl) (ap.get 2 rfl) (ap.get 3 rfl) (ap.get 4 rfl) (ap.get 5 rfl) (ap.get 6 rfl) (ap.get 7 rfl) (ap.get 8 rfl) (ap.get 9 rfl)) ?_
 clear hc
 refine go ?_
 obtain rfl := Option.some.inj ho
 exact QE.rt fun _ h => h
/-! ### (*capstan/op.Shape).take: function 93 -/
def op_Shape_take_s2.f (s_0_2 : List Int) (s_0_5 : List Int) (kind_1 : Int) : Option ((List Int) × (List Int)) :=
  if (s_0_2.length + [kind_1].length) * 1 ≤ 140737488355328 then (some (s_0_2 ++ [kind_1], s_0_5)) else none
theorem op_Shape_take_s2.ok (s_0_2 : List Int) (s_0_5 : List Int) (kind_1 : Int) (v_s_0_2 v_s_0_5 : Value) (r : (List Int) × (List Int)) (H : op_Shape_take_s2.f s_0_2 s_0_5 kind_1 = some r) (w : World) (hV : Hp) (sV : Sub hV (hp w)) (h0 : anyP.p hV) (h1 : anyP.p hV) (b1 : Nat) (hA : Hp) (sA : Sub hA (hp w)) (dA : Dj hV hA) (hI : (HO.seps [boxO b1 [v_s_0_2, v_s_0_5] 118, slO (kInt .u8) 5 v_s_0_2 s_0_2, slO (kInt .u8) 5 v_s_0_5 s_0_5]).p hV hA) :
    Trip Tryz.prog 93 [.pointer (some ⟨b1, 0, none⟩), .int .u8 kind_1].toArray hA hV w (fun v => HO.pand (v = .tuple #[]) (HO.seps [HO.ex fun v12 : Value => HO.ex fun v13 : Value => HO.seps [boxO b1 [v12, v13] 118, slO (kInt .u8) 5 v12 r.1, slO (kInt .u8) 5 v13 r.2]])) := by
 have see : Sees w hA hV := ⟨sV, dA⟩
 refine Trip.of (P := Tryz.prog) (n := ⟨14, []⟩) Tryz.func93 rfl ⟨rfl, rfl⟩ rfl (St.beginA (os := [boxO b1 [v_s_0_2, v_s_0_5] 118, slO (kInt .u8) 5 v_s_0_2 s_0_2, slO (kInt .u8) 5 v_s_0_5 s_0_5]) sA (All.cons (x := anyP) h0 (All.cons (x := anyP) h1 (All.nil _))) hI) ?_
 have ho := H
 refine go ?_
 refine SP.lit (k := (kInt .u8)) (xs := [kind_1]) (vs := [.int .u8 kind_1]) (cells := [.int .u8 kind_1]) Tryz.underlying38 inf5 rfl rfl rfl rfl rfl rfl rfl rfl (fun _ ap => ⟨[.int .u8 kind_1], _, rfl, rfl, rfl⟩) rfl rfl rfl (fun v8 => ?_)
 refine SP.freezeS see 0 rfl ?_
 obtain ⟨hb, ho⟩ := must_some ho
 refine SP.append see 1 rfl 0 rfl Tryz.underlying38 inf5 rfl rfl hb rfl rfl rfl rfl rfl (fun v10 => ?_)
 clear hb
 refine go ?_
 refine SP.have (fun w2 hw => slO.shape (St.own 1 rfl see.sub see.dj hw)) (fun hs_v10 => ?_)
 refine SP.store (v := v10) (vs := [v10]) 0 (by rfl) sz38 (by rfl) (by rfl) (by rfl) (one_cells hs_v10) (one_cons hs_v10 (rfl)) (by rfl) ?_
 refine go ?_
 obtain rfl := Option.some.inj ho
 exact QE.over (rs := []) (vs := []) Tryz.results93 rfl trivial (fun w2 h => St.done (fun a b p s => ⟨rfl, s⟩) (St.shut v10 (St.shut v_s_0_5 (St.group [boxO b1 [v10, v_s_0_5] 118, slO (kInt .u8) 5 v10 (s_0_2 ++ [kind_1]), slO (kInt .u8) 5 v_s_0_5 s_0_5] (St.selO [0, 1, 2] rfl rfl h)))))
/-! ### (*capstan/op.Shape).give: function 94 -/
def op_Shape_give_s2.f (s_0_2 : List Int) (s_0_5 : List Int) (kind_1 : Int) : Option ((List Int) × (List Int)) :=
  if (s_0_5.length + [kind_1].length) * 1 ≤ 140737488355328 then (some (s_0_2, s_0_5 ++ [kind_1])) else none
theorem op_Shape_give_s2.ok (s_0_2 : List Int) (s_0_5 : List Int) (kind_1 : Int) (v_s_0_2 v_s_0_5 : Value) (r : (List Int) × (List Int)) (H : op_Shape_give_s2.f s_0_2 s_0_5 kind_1 = some r) (w : World) (hV : Hp) (sV : Sub hV (hp w)) (h0 : anyP.p hV) (h1 : anyP.p hV) (b1 : Nat) (hA : Hp) (sA : Sub hA (hp w)) (dA : Dj hV hA) (hI : (HO.seps [boxO b1 [v_s_0_2, v_s_0_5] 118, slO (kInt .u8) 5 v_s_0_2 s_0_2, slO (kInt .u8) 5 v_s_0_5 s_0_5]).p hV hA) :
    Trip Tryz.prog 94 [.pointer (some ⟨b1, 0, none⟩), .int .u8 kind_1].toArray hA hV w (fun v => HO.pand (v = .tuple #[]) (HO.seps [HO.ex fun v12 : Value => HO.ex fun v13 : Value => HO.seps [boxO b1 [v12, v13] 118, slO (kInt .u8) 5 v12 r.1, slO (kInt .u8) 5 v13 r.2]])) := by
 have see : Sees w hA hV := ⟨sV, dA⟩
 refine Trip.of (P := Tryz.prog) (n := ⟨14, []⟩) Tryz.func94 rfl ⟨rfl, rfl⟩ rfl (St.beginA (os := [boxO b1 [v_s_0_2, v_s_0_5] 118, slO (kInt .u8) 5 v_s_0_2 s_0_2, slO (kInt .u8) 5 v_s_0_5 s_0_5]) sA (All.cons (x := anyP) h0 (All.cons (x := anyP) h1 (All.nil _))) hI) ?_
 have ho := H
 refine go ?_
 refine SP.lit (k := (kInt .u8)) (xs := [kind_1]) (vs := [.int .u8 kind_1]) (cells := [.int .u8 kind_1]) Tryz.underlying38 inf5 rfl rfl rfl rfl rfl rfl rfl rfl (fun _ ap => ⟨[.int .u8 kind_1], _, rfl, rfl, rfl⟩) rfl rfl rfl (fun v8 => ?_)
 refine SP.freezeS see 0 rfl ?_
 obtain ⟨hb, ho⟩ := must_some ho
 refine SP.append see 2 rfl 0 rfl Tryz.underlying38 inf5 rfl rfl hb rfl rfl rfl rfl rfl (fun v10 => ?_)
 clear hb
 refine go ?_
 refine SP.have (fun w2 hw => slO.shape (St.own 2 rfl see.sub see.dj hw)) (fun hs_v10 => ?_)
 refine SP.store (v := v10) (vs := [v10]) 0 (by rfl) sz38 (by rfl) (by rfl) (by rfl) (one_cells hs_v10) (one_cons hs_v10 (rfl)) (by rfl) ?_
 refine go ?_
 obtain rfl := Option.some.inj ho
 exact QE.over (rs := []) (vs := []) Tryz.results94 rfl trivial (fun w2 h => St.done (fun a b p s => ⟨rfl, s⟩) (St.shut v_s_0_2 (St.shut v10 (St.group [boxO b1 [v_s_0_2, v10] 118, slO (kInt .u8) 5 v_s_0_2 s_0_2, slO (kInt .u8) 5 v10 (s_0_5 ++ [kind_1])] (St.selO [0, 1, 2] rfl rfl h)))))
/-! ### capstan/op.Of: function 75 -/
def op_Of.j1 (op_0 : Int) (l112 : List Int) (l115 : List Int) : Option (op_Shape × Bool) :=
  some ((⟨l112, l115⟩ : op_Shape), true)

def op_Of.j2 (op_0 : Int) (l98 : List Int) (l101 : List Int) : Option (op_Shape × Bool) :=
  (op_Shape_take_s2.f l98 l101 2).bind fun t103 => (op_Shape_give_s2.f t103.1 t103.2 2).bind fun t106 => op_Of.j1 op_0 t106.1 t106.2

def op_Of.j3 (op_0 : Int) (l87 : List Int) (l90 : List Int) : Option (op_Shape × Bool) :=
  (op_Shape_take_s2.f l87 l90 1).bind fun t92 => op_Of.j1 op_0 t92.1 t92.2

def op_Of.j7 (op_0 : Int) (b51 : Bool) : Option (op_Shape × Bool) :=
  if b51 = true then ((op_Shape_take_s2.f ([] : List Int) ([] : List Int) 2).bind fun t52 => op_Of.j2 op_0 t52.1 t52.2) else (if op_0 = 21 then (op_Of.j2 op_0 [] []) else (if op_0 = 22 then ((op_Shape_take_s2.f ([] : List Int) ([] : List Int) 1).bind fun t57 => (op_Shape_give_s2.f t57.1 t57.2 3).bind fun t62 => op_Of.j1 op_0 t62.1 t62.2) else (if op_0 = 23 then ((op_Shape_take_s2.f ([] : List Int) ([] : List Int) 3).bind fun t65 => (op_Shape_take_s2.f t65.1 t65.2 1).bind fun t70 => (op_Shape_give_s2.f t70.1 t70.2 1).bind fun t73 => op_Of.j1 op_0 t73.1 t73.2) else (if op_0 = 25 then ((op_Shape_take_s2.f ([] : List Int) ([] : List Int) 3).bind fun t76 => (op_Shape_give_s2.f t76.1 t76.2 1).bind fun t81 => op_Of.j1 op_0 t81.1 t81.2) else (some ((⟨[], []⟩ : op_Shape), false))))))

def op_Of.j6 (op_0 : Int) (b42 : Bool) : Option (op_Shape × Bool) :=
  if b42 = true then ((op_Shape_give_s2.f ([] : List Int) ([] : List Int) 1).bind fun t43 => (op_Shape_take_s2.f t43.1 t43.2 2).bind fun t48 => op_Of.j1 op_0 t48.1 t48.2) else (if op_0 = 19 then (op_Of.j7 op_0 (decide (op_0 = 19))) else (op_Of.j7 op_0 (decide (op_0 = 20))))

def op_Of.j5 (op_0 : Int) (b19 : Bool) : Option (op_Shape × Bool) :=
  if b19 = true then ((op_Shape_give_s2.f ([] : List Int) ([] : List Int) 1).bind fun t20 => (op_Shape_take_s2.f t20.1 t20.2 1).bind fun t25 => (op_Shape_take_s2.f t25.1 t25.2 1).bind fun t28 => op_Of.j1 op_0 t28.1 t28.2) else (if op_0 = 16 then ((op_Shape_give_s2.f ([] : List Int) ([] : List Int) 2).bind fun t31 => (op_Shape_take_s2.f t31.1 t31.2 1).bind fun t36 => (op_Shape_take_s2.f t36.1 t36.2 1).bind fun t39 => op_Of.j1 op_0 t39.1 t39.2) else (if op_0 = 17 then (op_Of.j6 op_0 (decide (op_0 = 17))) else (op_Of.j6 op_0 (decide (op_0 = 18)))))

def op_Of.j4 (op_0 : Int) (b5 : Bool) : Option (op_Shape × Bool) :=
  if b5 = true then (op_Of.j1 op_0 [] []) else (if op_0 = 6 then ((op_Shape_take_s2.f ([] : List Int) ([] : List Int) 0).bind fun t6 => op_Of.j1 op_0 t6.1 t6.2) else (if op_0 = 24 then ((op_Shape_take_s2.f ([] : List Int) ([] : List Int) 3).bind fun t11 => (op_Shape_take_s2.f t11.1 t11.2 1).bind fun t16 => op_Of.j3 op_0 t16.1 t16.2) else (if op_0 = 27 then (op_Of.j3 op_0 [] []) else (if op_0 = 9 then (op_Of.j5 op_0 (decide (op_0 = 9))) else (if op_0 = 10 then (op_Of.j5 op_0 (decide (op_0 = 10))) else (if op_0 = 11 then (op_Of.j5 op_0 (decide (op_0 = 11))) else (if op_0 = 12 then (op_Of.j5 op_0 (decide (op_0 = 12))) else (if op_0 = 13 then (op_Of.j5 op_0 (decide (op_0 = 13))) else (if op_0 = 14 then (op_Of.j5 op_0 (decide (op_0 = 14))) else (op_Of.j5 op_0 (decide (op_0 = 15))))))))))))

def op_Of.f (op_0 : Int) : Option (op_Shape × Bool) :=
  if op_0 = 0 then (op_Of.j4 op_0 (decide (op_0 = 0))) else (if op_0 = 26 then (op_Of.j4 op_0 (decide (op_0 = 26))) else (if op_0 = 28 then (op_Of.j4 op_0 (decide (op_0 = 28))) else (if op_0 = 29 then (op_Of.j4 op_0 (decide (op_0 = 29))) else (op_Of.j4 op_0 (decide (op_0 = 32))))))
theorem op_Of.ok (op_0 : Int)  (r : op_Shape × Bool) (H : op_Of.f op_0 = some r) (w : World) (hV : Hp) (sV : Sub hV (hp w))  :
    Trip Tryz.prog 75 [.int .u8 op_0].toArray em hV w (fun v => HO.ex fun u0 : Value => HO.ex fun u1 : Value => HO.pand (v = .tuple #[.agg #[u0, u1], .bool r.2]) (HO.seps [slO (kInt .u8) 5 u0 r.1.Takes, slO (kInt .u8) 5 u1 r.1.Gives])) := by
 have see : Sees w em hV := ⟨sV, Dj.em_right _⟩
 refine Trip.of (P := Tryz.prog) (n := ⟨66, []⟩) Tryz.func75 rfl ⟨rfl, rfl⟩ rfl (St.begin (All.nil _)) ?_
 have ho := H
 refine go ?_
 refine SP.alloc (cs := [(.slice none 0 0), (.slice none 0 0)]) inf118 rfl rfl (fun b1 => ?_)
 refine go ?_
 refine SP.alloc (cs := [(.slice none 0 0), (.slice none 0 0)]) inf118 rfl rfl (fun b3 => ?_)
 refine go ?_
 refine CP.join (fun a w2 => ∃ l112 : List Int, ∃ l115 : List Int, ∃ v113 : Value, ∃ v116 : Value, op_Of.j1 op_0 l112 l115 = some r ∧ Env ⟨66, []⟩ [(2, .pointer (some ⟨b1, 0, none⟩)), (4, .pointer (some ⟨b3, 0, none⟩))] a ∧ St w em hV [] [slO (kInt .u8) 5 v116 l115, slO (kInt .u8) 5 v113 l112, boxO b3 [v113, v116] 118, boxO b1 [(.slice none 0 0), (.slice none 0 0)] 118] w2) ?_ ?_
 ·rintro a w2 ⟨l112, l115, v113, v116, ho, ha, hw⟩
  refine CP.app ha hw ?_
  clear ha hw a w2
  refine go ?_
  refine SP.val (Val.loadA 2 rfl Tryz.underlying118 rfl sz118 rfl rfl rfl) rfl rfl rfl ?_
  refine SP.have (fun w2 hw => slO.shape (St.own 1 rfl see.sub see.dj hw)) (fun hs_v113 => ?_)
  refine SP.have (fun w2 hw => slO.shape (St.own 0 rfl see.sub see.dj hw)) (fun hs_v116 => ?_)
  refine SP.store (v := .agg #[v113, v116]) (vs := [v113, v116]) 3 (by rfl) sz118 (by rfl) (by rfl) (by rfl) (by rfl) (one_cons hs_v113 (one_cons hs_v116 (rfl))) (by rfl) ?_
  refine go ?_
  obtain rfl := Option.some.inj ho
  exact QE.rets (rs := [.cell 2 118, .tmp 3]) (vs := [.agg #[v113, v116], .bool true]) Tryz.results75 rfl ⟨RVs.cellA 3 rfl rfl Tryz.underlying118 rfl sz118, RVs.tmp rfl, trivial⟩ (fun w2 h => St.done (fun a b p s => ⟨_, _, rfl, s⟩) (St.selO [1, 0] rfl rfl h))
 refine go ?_
 refine CP.seq ?_
 refine go ?_
 refine CP.seq ?_
 refine go ?_
 refine CP.seq ?_
 refine go ?_
 refine CP.seq ?_
 refine go ?_
 refine CP.join (fun a w2 => ∃ l98 : List Int, ∃ l101 : List Int, ∃ v99 : Value, ∃ v102 : Value, op_Of.j2 op_0 l98 l101 = some r ∧ Env ⟨66, []⟩ [(2, .pointer (some ⟨b1, 0, none⟩)), (4, .pointer (some ⟨b3, 0, none⟩))] a ∧ St w em hV [] [slO (kInt .u8) 5 v102 l101, slO (kInt .u8) 5 v99 l98, boxO b3 [v99, v102] 118, boxO b1 [(.slice none 0 0), (.slice none 0 0)] 118] w2) ?_ ?_
 ·rintro a w2 ⟨l98, l101, v99, v102, ho, ha, hw⟩
  refine CP.app ha hw ?_
  clear ha hw a w2
  refine CP.seq ?_
  refine go ?_
  refine SP.imp (fun w2 hw => St.selO [2, 1, 0, 3] rfl rfl hw) ?_
  refine SP.imp (fun w2 hw => St.group [boxO b3 [v99, v102] 118, slO (kInt .u8) 5 v99 l98, slO (kInt .u8) 5 v102 l101] hw) ?_
  obtain ⟨t103, hc, ho⟩ := bind_some (x := op_Shape_take_s2.f l98 l101 2) ho
  refine SP.callA see (caps := []) (X := HO.seps [boxO b3 [v99, v102] 118, slO (kInt .u8) 5 v99 l98, slO (kInt .u8) 5 v102 l101]) _ fn93 rfl rfl rfl rfl (fun w2 hP h1 sub s1 d1 ap hI => op_Shape_take_s2.ok _ _ _ v99 v102 _ hc w2 hP sub trivial trivial _ h1 s1 d1 hI) (SP.k0 ?_)
  refine SP.ex (fun w2 h => St.open h) (fun v104 => ?_)
  refine SP.ex (fun w2 h => St.open h) (fun v105 => ?_)
  refine SP.imp (fun w2 h => St.seps h) ?_
  clear hc
  refine go ?_
  refine SP.imp (fun w2 hw => St.group [boxO b3 [v104, v105] 118, slO (kInt .u8) 5 v104 t103.1, slO (kInt .u8) 5 v105 t103.2] hw) ?_
  obtain ⟨t106, hc, ho⟩ := bind_some (x := op_Shape_give_s2.f t103.1 t103.2 2) ho
  refine SP.callA see (caps := []) (X := HO.seps [boxO b3 [v104, v105] 118, slO (kInt .u8) 5 v104 t103.1, slO (kInt .u8) 5 v105 t103.2]) _ fn94 rfl rfl rfl rfl (fun w2 hP h1 sub s1 d1 ap hI => op_Shape_give_s2.ok _ _ _ v104 v105 _ hc w2 hP sub trivial trivial _ h1 s1 d1 hI) (SP.k0 ?_)
  refine SP.ex (fun w2 h => St.open h) (fun v107 => ?_)
  refine SP.ex (fun w2 h => St.open h) (fun v108 => ?_)
  refine SP.imp (fun w2 h => St.seps h) ?_
  clear hc
  refine go ?_
  exact QE.meet fun a w2 ha hw => ⟨t106.1, t106.2, v107, v108, ho, ha.sub sb, (St.selO [2, 1, 0, 3] rfl rfl hw)⟩
 refine go ?_
 refine CP.seq ?_
 refine go ?_
 refine CP.seq ?_
 refine go ?_
 refine CP.seq ?_
 refine go ?_
 refine CP.seq ?_
 refine go ?_
 refine CP.join (fun a w2 => ∃ l87 : List Int, ∃ l90 : List Int, ∃ v88 : Value, ∃ v91 : Value, op_Of.j3 op_0 l87 l90 = some r ∧ Env ⟨66, []⟩ [(2, .pointer (some ⟨b1, 0, none⟩)), (4, .pointer (some ⟨b3, 0, none⟩))] a ∧ St w em hV [] [slO (kInt .u8) 5 v91 l90, slO (kInt .u8) 5 v88 l87, boxO b3 [v88, v91] 118, boxO b1 [(.slice none 0 0), (.slice none 0 0)] 118] w2) ?_ ?_
 ·rintro a w2 ⟨l87, l90, v88, v91, ho, ha, hw⟩
  refine CP.app ha hw ?_
  clear ha hw a w2
  refine go ?_
  refine SP.imp (fun w2 hw => St.selO [2, 1, 0, 3] rfl rfl hw) ?_
  refine SP.imp (fun w2 hw => St.group [boxO b3 [v88, v91] 118, slO (kInt .u8) 5 v88 l87, slO (kInt .u8) 5 v91 l90] hw) ?_
  obtain ⟨t92, hc, ho⟩ := bind_some (x := op_Shape_take_s2.f l87 l90 1) ho
  refine SP.callA see (caps := []) (X := HO.seps [boxO b3 [v88, v91] 118, slO (kInt .u8) 5 v88 l87, slO (kInt .u8) 5 v91 l90]) _ fn93 rfl rfl rfl rfl (fun w2 hP h1 sub s1 d1 ap hI => op_Shape_take_s2.ok _ _ _ v88 v91 _ hc w2 hP sub trivial trivial _ h1 s1 d1 hI) (SP.k0 ?_)
  refine SP.ex (fun w2 h => St.open h) (fun v93 => ?_)
  refine SP.ex (fun w2 h => St.open h) (fun v94 => ?_)
  refine SP.imp (fun w2 h => St.seps h) ?_
  clear hc
  refine go ?_
  exact QE.meet fun a w2 ha hw => ⟨t92.1, t92.2, v93, v94, ho, ha.sub sb, (St.selO [2, 1, 0, 3] rfl rfl hw)⟩
 refine go ?_
 refine CP.seq ?_
 refine go ?_
 refine CP.seq ?_
 refine go ?_
 refine CP.seq ?_
 refine go ?_
 refine CP.seq ?_
 refine CP.seq ?_
 refine CP.join (fun a w2 => ∃ b5 : Bool, op_Of.j4 op_0 b5 = some r ∧ Env ⟨66, []⟩ [(2, .pointer (some ⟨b1, 0, none⟩)), (4, .pointer (some ⟨b3, 0, none⟩)), (5, .int .u8 op_0), (6, .bool b5)] a ∧ St w em hV [] [boxO b3 [(.slice none 0 0), (.slice none 0 0)] 118, boxO b1 [(.slice none 0 0), (.slice none 0 0)] 118] w2) ?_ ?_
 ·rintro a w2 ⟨b5, ho, ha, hw⟩
  refine CP.app ha hw ?_
  clear ha hw a w2
  refine CP.cb ho (fun ho => ?_) fun ho => ?_
  ·refine go ?_
   exact QE.meet fun a w2 ha hw => ⟨[], [], (.slice none 0 0), (.slice none 0 0), ho, ha.sub sb, (St.addO (slO.nil (kInt .u8) 5) (St.addO (slO.nil (kInt .u8) 5) hw))⟩
  refine go ?_
  refine CP.seq ?_
  refine go ?_
  refine CP.ci ho (fun ho => ?_) fun ho => ?_
  ·refine go ?_
   refine SP.imp (fun w2 hw => St.addO (slO.nil (kInt .u8) 5) hw) ?_
   refine SP.imp (fun w2 hw => St.addO (slO.nil (kInt .u8) 5) hw) ?_
   refine SP.imp (fun w2 hw => St.selO [2, 1, 0, 3] rfl rfl hw) ?_
   refine SP.imp (fun w2 hw => St.group [boxO b3 [(.slice none 0 0), (.slice none 0 0)] 118, slO (kInt .u8) 5 (.slice none 0 0) ([] : List Int), slO (kInt .u8) 5 (.slice none 0 0) ([] : List Int)] hw) ?_
   obtain ⟨t6, hc, ho⟩ := bind_some (x := op_Shape_take_s2.f ([] : List Int) ([] : List Int) 0) ho
   refine SP.callA see (caps := []) (X := HO.seps [boxO b3 [(.slice none 0 0), (.slice none 0 0)] 118, slO (kInt .u8) 5 (.slice none 0 0) ([] : List Int), slO (kInt .u8) 5 (.slice none 0 0) ([] : List Int)]) _ fn93 rfl rfl rfl rfl (fun w2 hP h1 sub s1 d1 ap hI => op_Shape_take_s2.ok _ _ _ (.slice none 0 0) (.slice none 0 0) _ hc w2 hP sub trivial trivial _ h1 s1 d1 hI) (SP.k0 ?_)
   refine SP.ex (fun w2 h => St.open h) (fun v9 => ?_)
   refine SP.ex (fun w2 h => St.open h) (fun v10 => ?_)
   refine SP.imp (fun w2 h => St.seps h) ?_
   clear hc
   refine go ?_
   exact QE.meet fun a w2 ha hw => ⟨t6.1, t6.2, v9, v10, ho, ha.sub sb, (St.selO [2, 1, 0, 3] rfl rfl hw)⟩
  refine go ?_
  refine CP.seq ?_
  refine go ?_
  refine CP.ci ho (fun ho => ?_) fun ho => ?_
  ·refine go ?_
   refine SP.imp (fun w2 hw => St.addO (slO.nil (kInt .u8) 5) hw) ?_
   refine SP.imp (fun w2 hw => St.addO (slO.nil (kInt .u8) 5) hw) ?_
   refine SP.imp (fun w2 hw => St.selO [2, 1, 0, 3] rfl rfl hw) ?_
   refine SP.imp (fun w2 hw => St.group [boxO b3 [(.slice none 0 0), (.slice none 0 0)] 118, slO (kInt .u8) 5 (.slice none 0 0) ([] : List Int), slO (kInt .u8) 5 (.slice none 0 0) ([] : List Int)] hw) ?_
   obtain ⟨t11, hc, ho⟩ := bind_some (x := op_Shape_take_s2.f ([] : List Int) ([] : List Int) 3) ho
   refine SP.callA see (caps := []) (X := HO.seps [boxO b3 [(.slice none 0 0), (.slice none 0 0)] 118, slO (kInt .u8) 5 (.slice none 0 0) ([] : List Int), slO (kInt .u8) 5 (.slice none 0 0) ([] : List Int)]) _ fn93 rfl rfl rfl rfl (fun w2 hP h1 sub s1 d1 ap hI => op_Shape_take_s2.ok _ _ _ (.slice none 0 0) (.slice none 0 0) _ hc w2 hP sub trivial trivial _ h1 s1 d1 hI) (SP.k0 ?_)
   refine SP.ex (fun w2 h => St.open h) (fun v14 => ?_)
   refine SP.ex (fun w2 h => St.open h) (fun v15 => ?_)
   refine SP.imp (fun w2 h => St.seps h) ?_
   clear hc
   refine go ?_
   refine SP.imp (fun w2 hw => St.group [boxO b3 [v14, v15] 118, slO (kInt .u8) 5 v14 t11.1, slO (kInt .u8) 5 v15 t11.2] hw) ?_
   obtain ⟨t16, hc, ho⟩ := bind_some (x := op_Shape_take_s2.f t11.1 t11.2 1) ho
   refine SP.callA see (caps := []) (X := HO.seps [boxO b3 [v14, v15] 118, slO (kInt .u8) 5 v14 t11.1, slO (kInt .u8) 5 v15 t11.2]) _ fn93 rfl rfl rfl rfl (fun w2 hP h1 sub s1 d1 ap hI => op_Shape_take_s2.ok _ _ _ v14 v15 _ hc w2 hP sub trivial trivial _ h1 s1 d1 hI) (SP.k0 ?_)
   refine SP.ex (fun w2 h => St.open h) (fun v17 => ?_)
   refine SP.ex (fun w2 h => St.open h) (fun v18 => ?_)
   refine SP.imp (fun w2 h => St.seps h) ?_
   clear hc
   refine go ?_
   exact QE.meet fun a w2 ha hw => ⟨t16.1, t16.2, v17, v18, ho, ha.sub sb, (St.selO [2, 1, 0, 3] rfl rfl hw)⟩
  refine go ?_
  refine CP.seq ?_
  refine go ?_
  refine CP.ci ho (fun ho => ?_) fun ho => ?_
  ·refine go ?_
   exact QE.meet fun a w2 ha hw => ⟨[], [], (.slice none 0 0), (.slice none 0 0), ho, ha.sub sb, (St.addO (slO.nil (kInt .u8) 5) (St.addO (slO.nil (kInt .u8) 5) hw))⟩
  refine go ?_
  refine CP.seq ?_
  refine CP.join (fun a w2 => ∃ b19 : Bool, op_Of.j5 op_0 b19 = some r ∧ Env ⟨66, []⟩ [(2, .pointer (some ⟨b1, 0, none⟩)), (4, .pointer (some ⟨b3, 0, none⟩)), (5, .int .u8 op_0), (18, .bool b19)] a ∧ St w em hV [] [boxO b3 [(.slice none 0 0), (.slice none 0 0)] 118, boxO b1 [(.slice none 0 0), (.slice none 0 0)] 118] w2) ?_ ?_
  ·rintro a w2 ⟨b19, ho, ha, hw⟩
   refine CP.app ha hw ?_
   clear ha hw a w2
   refine CP.cb ho (fun ho => ?_) fun ho => ?_
   ·refine go ?_
    refine CP.seq ?_
    refine go ?_
    refine SP.imp (fun w2 hw => St.addO (slO.nil (kInt .u8) 5) hw) ?_
    refine SP.imp (fun w2 hw => St.addO (slO.nil (kInt .u8) 5) hw) ?_
    refine SP.imp (fun w2 hw => St.selO [2, 1, 0, 3] rfl rfl hw) ?_
    refine SP.imp (fun w2 hw => St.group [boxO b3 [(.slice none 0 0), (.slice none 0 0)] 118, slO (kInt .u8) 5 (.slice none 0 0) ([] : List Int), slO (kInt .u8) 5 (.slice none 0 0) ([] : List Int)] hw) ?_
    obtain ⟨t20, hc, ho⟩ := bind_some (x := op_Shape_give_s2.f ([] : List Int) ([] : List Int) 1) ho
    refine SP.callA see (caps := []) (X := HO.seps [boxO b3 [(.slice none 0 0), (.slice none 0 0)] 118, slO (kInt .u8) 5 (.slice none 0 0) ([] : List Int), slO (kInt .u8) 5 (.slice none 0 0) ([] : List Int)]) _ fn94 rfl rfl rfl rfl (fun w2 hP h1 sub s1 d1 ap hI => op_Shape_give_s2.ok _ _ _ (.slice none 0 0) (.slice none 0 0) _ hc w2 hP sub trivial trivial _ h1 s1 d1 hI) (SP.k0 ?_)
    refine SP.ex (fun w2 h => St.open h) (fun v23 => ?_)
    refine SP.ex (fun w2 h => St.open h) (fun v24 => ?_)
    refine SP.imp (fun w2 h => St.seps h) ?_
    clear hc
    refine go ?_
    refine SP.imp (fun w2 hw => St.group [boxO b3 [v23, v24] 118, slO (kInt .u8) 5 v23 t20.1, slO (kInt .u8) 5 v24 t20.2] hw) ?_
    obtain ⟨t25, hc, ho⟩ := bind_some (x := op_Shape_take_s2.f t20.1 t20.2 1) ho
    refine SP.callA see (caps := []) (X := HO.seps [boxO b3 [v23, v24] 118, slO (kInt .u8) 5 v23 t20.1, slO (kInt .u8) 5 v24 t20.2]) _ fn93 rfl rfl rfl rfl (fun w2 hP h1 sub s1 d1 ap hI => op_Shape_take_s2.ok _ _ _ v23 v24 _ hc w2 hP sub trivial trivial _ h1 s1 d1 hI) (SP.k0 ?_)
    refine SP.ex (fun w2 h => St.open h) (fun v26 => ?_)
    refine SP.ex (fun w2 h => St.open h) (fun v27 => ?_)
    refine SP.imp (fun w2 h => St.seps h) ?_
    clear hc
    refine go ?_
    refine SP.imp (fun w2 hw => St.group [boxO b3 [v26, v27] 118, slO (kInt .u8) 5 v26 t25.1, slO (kInt .u8) 5 v27 t25.2] hw) ?_
    obtain ⟨t28, hc, ho⟩ := bind_some (x := op_Shape_take_s2.f t25.1 t25.2 1) ho
    refine SP.callA see (caps := []) (X := HO.seps [boxO b3 [v26, v27] 118, slO (kInt .u8) 5 v26 t25.1, slO (kInt .u8) 5 v27 t25.2]) _ fn93 rfl rfl rfl rfl (fun w2 hP h1 sub s1 d1 ap hI => op_Shape_take_s2.ok _ _ _ v26 v27 _ hc w2 hP sub trivial trivial _ h1 s1 d1 hI) (SP.k0 ?_)
    refine SP.ex (fun w2 h => St.open h) (fun v29 => ?_)
    refine SP.ex (fun w2 h => St.open h) (fun v30 => ?_)
    refine SP.imp (fun w2 h => St.seps h) ?_
    clear hc
    refine go ?_
    exact QE.meet fun a w2 ha hw => ⟨t28.1, t28.2, v29, v30, ho, ha.sub sb, (St.selO [2, 1, 0, 3] rfl rfl hw)⟩
   refine go ?_
   refine CP.seq ?_
   refine go ?_
   refine CP.ci ho (fun ho => ?_) fun ho => ?_
   ·refine go ?_
    refine CP.seq ?_
    refine go ?_
    refine SP.imp (fun w2 hw => St.addO (slO.nil (kInt .u8) 5) hw) ?_
    refine SP.imp (fun w2 hw => St.addO (slO.nil (kInt .u8) 5) hw) ?_
    refine SP.imp (fun w2 hw => St.selO [2, 1, 0, 3] rfl rfl hw) ?_
    refine SP.imp (fun w2 hw => St.group [boxO b3 [(.slice none 0 0), (.slice none 0 0)] 118, slO (kInt .u8) 5 (.slice none 0 0) ([] : List Int), slO (kInt .u8) 5 (.slice none 0 0) ([] : List Int)] hw) ?_
    obtain ⟨t31, hc, ho⟩ := bind_some (x := op_Shape_give_s2.f ([] : List Int) ([] : List Int) 2) ho
    refine SP.callA see (caps := []) (X := HO.seps [boxO b3 [(.slice none 0 0), (.slice none 0 0)] 118, slO (kInt .u8) 5 (.slice none 0 0) ([] : List Int), slO (kInt .u8) 5 (.slice none 0 0) ([] : List Int)]) _ fn94 rfl rfl rfl rfl (fun w2 hP h1 sub s1 d1 ap hI => op_Shape_give_s2.ok _ _ _ (.slice none 0 0) (.slice none 0 0) _ hc w2 hP sub trivial trivial _ h1 s1 d1 hI) (SP.k0 ?_)
    refine SP.ex (fun w2 h => St.open h) (fun v34 => ?_)
    refine SP.ex (fun w2 h => St.open h) (fun v35 => ?_)
    refine SP.imp (fun w2 h => St.seps h) ?_
    clear hc
    refine go ?_
    refine SP.imp (fun w2 hw => St.group [boxO b3 [v34, v35] 118, slO (kInt .u8) 5 v34 t31.1, slO (kInt .u8) 5 v35 t31.2] hw) ?_
    obtain ⟨t36, hc, ho⟩ := bind_some (x := op_Shape_take_s2.f t31.1 t31.2 1) ho
    refine SP.callA see (caps := []) (X := HO.seps [boxO b3 [v34, v35] 118, slO (kInt .u8) 5 v34 t31.1, slO (kInt .u8) 5 v35 t31.2]) _ fn93 rfl rfl rfl rfl (fun w2 hP h1 sub s1 d1 ap hI => op_Shape_take_s2.ok _ _ _ v34 v35 _ hc w2 hP sub trivial trivial _ h1 s1 d1 hI) (SP.k0 ?_)
    refine SP.ex (fun w2 h => St.open h) (fun v37 => ?_)
    refine SP.ex (fun w2 h => St.open h) (fun v38 => ?_)
    refine SP.imp (fun w2 h => St.seps h) ?_
    clear hc
    refine go ?_
    refine SP.imp (fun w2 hw => St.group [boxO b3 [v37, v38] 118, slO (kInt .u8) 5 v37 t36.1, slO (kInt .u8) 5 v38 t36.2] hw) ?_
    obtain ⟨t39, hc, ho⟩ := bind_some (x := op_Shape_take_s2.f t36.1 t36.2 1) ho
    refine SP.callA see (caps := []) (X := HO.seps [boxO b3 [v37, v38] 118, slO (kInt .u8) 5 v37 t36.1, slO (kInt .u8) 5 v38 t36.2]) _ fn93 rfl rfl rfl rfl (fun w2 hP h1 sub s1 d1 ap hI => op_Shape_take_s2.ok _ _ _ v37 v38 _ hc w2 hP sub trivial trivial _ h1 s1 d1 hI) (SP.k0 ?_)
    refine SP.ex (fun w2 h => St.open h) (fun v40 => ?_)
    refine SP.ex (fun w2 h => St.open h) (fun v41 => ?_)
    refine SP.imp (fun w2 h => St.seps h) ?_
    clear hc
    refine go ?_
    exact QE.meet fun a w2 ha hw => ⟨t39.1, t39.2, v40, v41, ho, ha.sub sb, (St.selO [2, 1, 0, 3] rfl rfl hw)⟩
   refine go ?_
   refine CP.seq ?_
   refine CP.join (fun a w2 => ∃ b42 : Bool, op_Of.j6 op_0 b42 = some r ∧ Env ⟨66, []⟩ [(2, .pointer (some ⟨b1, 0, none⟩)), (4, .pointer (some ⟨b3, 0, none⟩)), (5, .int .u8 op_0), (28, .bool b42)] a ∧ St w em hV [] [boxO b3 [(.slice none 0 0), (.slice none 0 0)] 118, boxO b1 [(.slice none 0 0), (.slice none 0 0)] 118] w2) ?_ ?_
   ·rintro a w2 ⟨b42, ho, ha, hw⟩
    refine CP.app ha hw ?_
    clear ha hw a w2
    refine CP.cb ho (fun ho => ?_) fun ho => ?_
    ·refine go ?_
     refine CP.seq ?_
     refine go ?_
     refine SP.imp (fun w2 hw => St.addO (slO.nil (kInt .u8) 5) hw) ?_
     refine SP.imp (fun w2 hw => St.addO (slO.nil (kInt .u8) 5) hw) ?_
     refine SP.imp (fun w2 hw => St.selO [2, 1, 0, 3] rfl rfl hw) ?_
     refine SP.imp (fun w2 hw => St.group [boxO b3 [(.slice none 0 0), (.slice none 0 0)] 118, slO (kInt .u8) 5 (.slice none 0 0) ([] : List Int), slO (kInt .u8) 5 (.slice none 0 0) ([] : List Int)] hw) ?_
     obtain ⟨t43, hc, ho⟩ := bind_some (x := op_Shape_give_s2.f ([] : List Int) ([] : List Int) 1) ho
     refine SP.callA see (caps := []) (X := HO.seps [boxO b3 [(.slice none 0 0), (.slice none 0 0)] 118, slO (kInt .u8) 5 (.slice none 0 0) ([] : List Int), slO (kInt .u8) 5 (.slice none 0 0) ([] : List Int)]) _ fn94 rfl rfl rfl rfl (fun w2 hP h1 sub s1 d1 ap hI => op_Shape_give_s2.ok _ _ _ (.slice none 0 0) (.slice none 0 0) _ hc w2 hP sub trivial trivial _ h1 s1 d1 hI) (SP.k0 ?_)
     refine SP.ex (fun w2 h => St.open h) (fun v46 => ?_)
     refine SP.ex (fun w2 h => St.open h) (fun v47 => ?_)
     refine SP.imp (fun w2 h => St.seps h) ?_
     clear hc
     refine go ?_
     refine SP.imp (fun w2 hw => St.group [boxO b3 [v46, v47] 118, slO (kInt .u8) 5 v46 t43.1, slO (kInt .u8) 5 v47 t43.2] hw) ?_
     obtain ⟨t48, hc, ho⟩ := bind_some (x := op_Shape_take_s2.f t43.1 t43.2 2) ho
     refine SP.callA see (caps := []) (X := HO.seps [boxO b3 [v46, v47] 118, slO (kInt .u8) 5 v46 t43.1, slO (kInt .u8) 5 v47 t43.2]) _ fn93 rfl rfl rfl rfl (fun w2 hP h1 sub s1 d1 ap hI => op_Shape_take_s2.ok _ _ _ v46 v47 _ hc w2 hP sub trivial trivial _ h1 s1 d1 hI) (SP.k0 ?_)
     refine SP.ex (fun w2 h => St.open h) (fun v49 => ?_)
     refine SP.ex (fun w2 h => St.open h) (fun v50 => ?_)
     refine SP.imp (fun w2 h => St.seps h) ?_
     clear hc
     refine go ?_
     exact QE.meet fun a w2 ha hw => ⟨t48.1, t48.2, v49, v50, ho, ha.sub sb, (St.selO [2, 1, 0, 3] rfl rfl hw)⟩
    refine go ?_
    refine CP.seq ?_
    refine CP.join (fun a w2 => ∃ b51 : Bool, op_Of.j7 op_0 b51 = some r ∧ Env ⟨66, []⟩ [(2, .pointer (some ⟨b1, 0, none⟩)), (4, .pointer (some ⟨b3, 0, none⟩)), (5, .int .u8 op_0), (31, .bool b51)] a ∧ St w em hV [] [boxO b3 [(.slice none 0 0), (.slice none 0 0)] 118, boxO b1 [(.slice none 0 0), (.slice none 0 0)] 118] w2) ?_ ?_
    ·rintro a w2 ⟨b51, ho, ha, hw⟩
     refine CP.app ha hw ?_
     clear ha hw a w2
     refine CP.cb ho (fun ho => ?_) fun ho => ?_
     ·refine go ?_
      refine SP.imp (fun w2 hw => St.addO (slO.nil (kInt .u8) 5) hw) ?_
      refine SP.imp (fun w2 hw => St.addO (slO.nil (kInt .u8) 5) hw) ?_
      refine SP.imp (fun w2 hw => St.selO [2, 1, 0, 3] rfl rfl hw) ?_
      refine SP.imp (fun w2 hw => St.group [boxO b3 [(.slice none 0 0), (.slice none 0 0)] 118, slO (kInt .u8) 5 (.slice none 0 0) ([] : List Int), slO (kInt .u8) 5 (.slice none 0 0) ([] : List Int)] hw) ?_
      obtain ⟨t52, hc, ho⟩ := bind_some (x := op_Shape_take_s2.f ([] : List Int) ([] : List Int) 2) ho
      refine SP.callA see (caps := []) (X := HO.seps [boxO b3 [(.slice none 0 0), (.slice none 0 0)] 118, slO (kInt .u8) 5 (.slice none 0 0) ([] : List Int), slO (kInt .u8) 5 (.slice none 0 0) ([] : List Int)]) _ fn93 rfl rfl rfl rfl (fun w2 hP h1 sub s1 d1 ap hI => op_Shape_take_s2.ok _ _ _ (.slice none 0 0) (.slice none 0 0) _ hc w2 hP sub trivial trivial _ h1 s1 d1 hI) (SP.k0 ?_)
      refine SP.ex (fun w2 h => St.open h) (fun v55 => ?_)
      refine SP.ex (fun w2 h => St.open h) (fun v56 => ?_)
      refine SP.imp (fun w2 h => St.seps h) ?_
      clear hc
      refine go ?_
      exact QE.meet fun a w2 ha hw => ⟨t52.1, t52.2, v55, v56, ho, ha.sub sb, (St.selO [2, 1, 0, 3] rfl rfl hw)⟩
     refine go ?_
     refine CP.seq ?_
     refine go ?_
     refine CP.ci ho (fun ho => ?_) fun ho => ?_
     ·refine go ?_
      exact QE.meet fun a w2 ha hw => ⟨[], [], (.slice none 0 0), (.slice none 0 0), ho, ha.sub sb, (St.addO (slO.nil (kInt .u8) 5) (St.addO (slO.nil (kInt .u8) 5) hw))⟩
     refine go ?_
     refine CP.seq ?_
     refine go ?_
     refine CP.ci ho (fun ho => ?_) fun ho => ?_
     ·refine go ?_
      refine CP.seq ?_
      refine go ?_
      refine SP.imp (fun w2 hw => St.addO (slO.nil (kInt .u8) 5) hw) ?_
      refine SP.imp (fun w2 hw => St.addO (slO.nil (kInt .u8) 5) hw) ?_
      refine SP.imp (fun w2 hw => St.selO [2, 1, 0, 3] rfl rfl hw) ?_
      refine SP.imp (fun w2 hw => St.group [boxO b3 [(.slice none 0 0), (.slice none 0 0)] 118, slO (kInt .u8) 5 (.slice none 0 0) ([] : List Int), slO (kInt .u8) 5 (.slice none 0 0) ([] : List Int)] hw) ?_
      obtain ⟨t57, hc, ho⟩ := bind_some (x := op_Shape_take_s2.f ([] : List Int) ([] : List Int) 1) ho
      refine SP.callA see (caps := []) (X := HO.seps [boxO b3 [(.slice none 0 0), (.slice none 0 0)] 118, slO (kInt .u8) 5 (.slice none 0 0) ([] : List Int), slO (kInt .u8) 5 (.slice none 0 0) ([] : List Int)]) _ fn93 rfl rfl rfl rfl (fun w2 hP h1 sub s1 d1 ap hI => op_Shape_take_s2.ok _ _ _ (.slice none 0 0) (.slice none 0 0) _ hc w2 hP sub trivial trivial _ h1 s1 d1 hI) (SP.k0 ?_)
      refine SP.ex (fun w2 h => St.open h) (fun v60 => ?_)
      refine SP.ex (fun w2 h => St.open h) (fun v61 => ?_)
      refine SP.imp (fun w2 h => St.seps h) ?_
      clear hc
      refine go ?_
      refine SP.imp (fun w2 hw => St.group [boxO b3 [v60, v61] 118, slO (kInt .u8) 5 v60 t57.1, slO (kInt .u8) 5 v61 t57.2] hw) ?_
      obtain ⟨t62, hc, ho⟩ := bind_some (x := op_Shape_give_s2.f t57.1 t57.2 3) ho
      refine SP.callA see (caps := []) (X := HO.seps [boxO b3 [v60, v61] 118, slO (kInt .u8) 5 v60 t57.1, slO (kInt .u8) 5 v61 t57.2]) _ fn94 rfl rfl rfl rfl (fun w2 hP h1 sub s1 d1 ap hI => op_Shape_give_s2.ok _ _ _ v60 v61 _ hc w2 hP sub trivial trivial _ h1 s1 d1 hI) (SP.k0 ?_)
      refine SP.ex (fun w2 h => St.open h) (fun v63 => ?_)
      refine SP.ex (fun w2 h => St.open h) (fun v64 => ?_)
      refine SP.imp (fun w2 h => St.seps h) ?_
      clear hc
      refine go ?_
      exact QE.meet fun a w2 ha hw => ⟨t62.1, t62.2, v63, v64, ho, ha.sub sb, (St.selO [2, 1, 0, 3] rfl rfl hw)⟩
     refine go ?_
     refine CP.seq ?_
     refine go ?_
     refine CP.ci ho (fun ho => ?_) fun ho => ?_
     ·refine go ?_
      refine CP.seq ?_
      refine go ?_
      refine SP.imp (fun w2 hw => St.addO (slO.nil (kInt .u8) 5) hw) ?_
      refine SP.imp (fun w2 hw => St.addO (slO.nil (kInt .u8) 5) hw) ?_
      refine SP.imp (fun w2 hw => St.selO [2, 1, 0, 3] rfl rfl hw) ?_
      refine SP.imp (fun w2 hw => St.group [boxO b3 [(.slice none 0 0), (.slice none 0 0)] 118, slO (kInt .u8) 5 (.slice none 0 0) ([] : List Int), slO (kInt .u8) 5 (.slice none 0 0) ([] : List Int)] hw) ?_
      obtain ⟨t65, hc, ho⟩ := bind_some (x := op_Shape_take_s2.f ([] : List Int) ([] : List Int) 3) ho
      refine SP.callA see (caps := []) (X := HO.seps [boxO b3 [(.slice none 0 0), (.slice none 0 0)] 118, slO (kInt .u8) 5 (.slice none 0 0) ([] : List Int), slO (kInt .u8) 5 (.slice none 0 0) ([] : List Int)]) _ fn93 rfl rfl rfl rfl (fun w2 hP h1 sub s1 d1 ap hI => op_Shape_take_s2.ok _ _ _ (.slice none 0 0) (.slice none 0 0) _ hc w2 hP sub trivial trivial _ h1 s1 d1 hI) (SP.k0 ?_)
      refine SP.ex (fun w2 h => St.open h) (fun v68 => ?_)
      refine SP.ex (fun w2 h => St.open h) (fun v69 => ?_)
      refine SP.imp (fun w2 h => St.seps h) ?_
      clear hc
      refine go ?_
      refine SP.imp (fun w2 hw => St.group [boxO b3 [v68, v69] 118, slO (kInt .u8) 5 v68 t65.1, slO (kInt .u8) 5 v69 t65.2] hw) ?_
      obtain ⟨t70, hc, ho⟩ := bind_some (x := op_Shape_take_s2.f t65.1 t65.2 1) ho
      refine SP.callA see (caps := []) (X := HO.seps [boxO b3 [v68, v69] 118, slO (kInt .u8) 5 v68 t65.1, slO (kInt .u8) 5 v69 t65.2]) _ fn93 rfl rfl rfl rfl (fun w2 hP h1 sub s1 d1 ap hI => op_Shape_take_s2.ok _ _ _ v68 v69 _ hc w2 hP sub trivial trivial _ h1 s1 d1 hI) (SP.k0 ?_)
      refine SP.ex (fun w2 h => St.open h) (fun v71 => ?_)
      refine SP.ex (fun w2 h => St.open h) (fun v72 => ?_)
      refine SP.imp (fun w2 h => St.seps h) ?_
      clear hc
      refine go ?_
      refine SP.imp (fun w2 hw => St.group [boxO b3 [v71, v72] 118, slO (kInt .u8) 5 v71 t70.1, slO (kInt .u8) 5 v72 t70.2] hw) ?_
      obtain ⟨t73, hc, ho⟩ := bind_some (x := op_Shape_give_s2.f t70.1 t70.2 1) ho
      refine SP.callA see (caps := []) (X := HO.seps [boxO b3 [v71, v72] 118, slO (kInt .u8) 5 v71 t70.1, slO (kInt .u8) 5 v72 t70.2]) _ fn94 rfl rfl rfl rfl (fun w2 hP h1 sub s1 d1 ap hI => op_Shape_give_s2.ok _ _ _ v71 v72 _ hc w2 hP sub trivial trivial _ h1 s1 d1 hI) (SP.k0 ?_)
      refine SP.ex (fun w2 h => St.open h) (fun v74 => ?_)
      refine SP.ex (fun w2 h => St.open h) (fun v75 => ?_)
      refine SP.imp (fun w2 h => St.seps h) ?_
      clear hc
      refine go ?_
      exact QE.meet fun a w2 ha hw => ⟨t73.1, t73.2, v74, v75, ho, ha.sub sb, (St.selO [2, 1, 0, 3] rfl rfl hw)⟩
     refine go ?_
     refine CP.ci ho (fun ho => ?_) fun ho => ?_
     ·refine go ?_
      refine CP.seq ?_
      refine go ?_
      refine SP.imp (fun w2 hw => St.addO (slO.nil (kInt .u8) 5) hw) ?_
      refine SP.imp (fun w2 hw => St.addO (slO.nil (kInt .u8) 5) hw) ?_
      refine SP.imp (fun w2 hw => St.selO [2, 1, 0, 3] rfl rfl hw) ?_
      refine SP.imp (fun w2 hw => St.group [boxO b3 [(.slice none 0 0), (.slice none 0 0)] 118, slO (kInt .u8) 5 (.slice none 0 0) ([] : List Int), slO (kInt .u8) 5 (.slice none 0 0) ([] : List Int)] hw) ?_
      obtain ⟨t76, hc, ho⟩ := bind_some (x := op_Shape_take_s2.f ([] : List Int) ([] : List Int) 3) ho
      refine SP.callA see (caps := []) (X := HO.seps [boxO b3 [(.slice none 0 0), (.slice none 0 0)] 118, slO (kInt .u8) 5 (.slice none 0 0) ([] : List Int), slO (kInt .u8) 5 (.slice none 0 0) ([] : List Int)]) _ fn93 rfl rfl rfl rfl (fun w2 hP h1 sub s1 d1 ap hI => op_Shape_take_s2.ok _ _ _ (.slice none 0 0) (.slice none 0 0) _ hc w2 hP sub trivial trivial _ h1 s1 d1 hI) (SP.k0 ?_)
      refine SP.ex (fun w2 h => St.open h) (fun v79 => ?_)
      refine SP.ex (fun w2 h => St.open h) (fun v80 => ?_)
      refine SP.imp (fun w2 h => St.seps h) ?_
      clear hc
      refine go ?_
      refine SP.imp (fun w2 hw => St.group [boxO b3 [v79, v80] 118, slO (kInt .u8) 5 v79 t76.1, slO (kInt .u8) 5 v80 t76.2] hw) ?_
      obtain ⟨t81, hc, ho⟩ := bind_some (x := op_Shape_give_s2.f t76.1 t76.2 1) ho
      refine SP.callA see (caps := []) (X := HO.seps [boxO b3 [v79, v80] 118, slO (kInt .u8) 5 v79 t76.1, slO (kInt .u8) 5 v80 t76.2]) _ fn94 rfl rfl rfl rfl (fun w2 hP h1 sub s1 d1 ap hI => op_Shape_give_s2.ok _ _ _ v79 v80 _ hc w2 hP sub trivial trivial _ h1 s1 d1 hI) (SP.k0 ?_)
      refine SP.ex (fun w2 h => St.open h) (fun v82 => ?_)
      refine SP.ex (fun w2 h => St.open h) (fun v83 => ?_)
      refine SP.imp (fun w2 h => St.seps h) ?_
      clear hc
      refine go ?_
      exact QE.meet fun a w2 ha hw => ⟨t81.1, t81.2, v82, v83, ho, ha.sub sb, (St.selO [2, 1, 0, 3] rfl rfl hw)⟩
     refine go ?_
     refine CP.seq ?_
     refine go ?_
     refine SP.val (Val.buildC (us := []) (ucs := []) (cs := [(.slice none 0 0), (.slice none 0 0)]) bt118 rfl rfl trivial (by rfl)) rfl rfl rfl ?_
     refine SP.store (v := .agg #[(.slice none 0 0), (.slice none 0 0)]) (vs := [(.slice none 0 0), (.slice none 0 0)]) 1 (by rfl) sz118 (by rfl) (by rfl) (by rfl) (by rfl) (by rfl) (by rfl) ?_
     refine go ?_
     obtain rfl := Option.some.inj ho
     exact QE.rets (rs := [.cell 2 118, .tmp 3]) (vs := [.agg #[(.slice none 0 0), (.slice none 0 0)], .bool false]) Tryz.results75 rfl ⟨RVs.cellA 1 rfl rfl Tryz.underlying118 rfl sz118, RVs.tmp rfl, trivial⟩ (fun w2 h => St.done (fun a b p s => ⟨_, _, rfl, s⟩) (St.selO [1, 0] rfl rfl (St.addO (slO.nil (kInt .u8) 5) (St.addO (slO.nil (kInt .u8) 5) h))))
    refine go ?_
    refine CP.ci ho (fun ho => ?_) fun ho => ?_
    ·refine go ?_
     exact QE.meet fun a w2 ha hw => ⟨(decide (op_0 = 19)), ho, ha.sub sb, hw⟩
    refine go ?_
    exact QE.meet fun a w2 ha hw => ⟨(decide (op_0 = 20)), ho, ha.sub sb, hw⟩
   refine go ?_
   refine CP.ci ho (fun ho => ?_) fun ho => ?_
   ·refine go ?_
    exact QE.meet fun a w2 ha hw => ⟨(decide (op_0 = 17)), ho, ha.sub sb, hw⟩
   refine go ?_
   exact QE.meet fun a w2 ha hw => ⟨(decide (op_0 = 18)), ho, ha.sub sb, hw⟩
  refine go ?_
  refine CP.ci ho (fun ho => ?_) fun ho => ?_
  ·refine go ?_
   exact QE.meet fun a w2 ha hw => ⟨(decide (op_0 = 9)), ho, ha.sub sb, hw⟩
  refine go ?_
  refine CP.ci ho (fun ho => ?_) fun ho => ?_
  ·refine go ?_
   exact QE.meet fun a w2 ha hw => ⟨(decide (op_0 = 10)), ho, ha.sub sb, hw⟩
  refine go ?_
  refine CP.ci ho (fun ho => ?_) fun ho => ?_
  ·refine go ?_
   exact QE.meet fun a w2 ha hw => ⟨(decide (op_0 = 11)), ho, ha.sub sb, hw⟩
  refine go ?_
  refine CP.ci ho (fun ho => ?_) fun ho => ?_
  ·refine go ?_
   exact QE.meet fun a w2 ha hw => ⟨(decide (op_0 = 12)), ho, ha.sub sb, hw⟩
  refine go ?_
  refine CP.ci ho (fun ho => ?_) fun ho => ?_
  ·refine go ?_
   exact QE.meet fun a w2 ha hw => ⟨(decide (op_0 = 13)), ho, ha.sub sb, hw⟩
  refine go ?_
  refine CP.ci ho (fun ho => ?_) fun ho => ?_
  ·refine go ?_
   exact QE.meet fun a w2 ha hw => ⟨(decide (op_0 = 14)), ho, ha.sub sb, hw⟩
  refine go ?_
  exact QE.meet fun a w2 ha hw => ⟨(decide (op_0 = 15)), ho, ha.sub sb, hw⟩
 refine go ?_
 refine CP.ci ho (fun ho => ?_) fun ho => ?_
 ·refine go ?_
  exact QE.meet fun a w2 ha hw => ⟨(decide (op_0 = 0)), ho, ha.sub sb, hw⟩
 refine go ?_
 refine CP.ci ho (fun ho => ?_) fun ho => ?_
 ·refine go ?_
  exact QE.meet fun a w2 ha hw => ⟨(decide (op_0 = 26)), ho, ha.sub sb, hw⟩
 refine go ?_
 refine CP.ci ho (fun ho => ?_) fun ho => ?_
 ·refine go ?_
  exact QE.meet fun a w2 ha hw => ⟨(decide (op_0 = 28)), ho, ha.sub sb, hw⟩
 refine go ?_
 refine CP.ci ho (fun ho => ?_) fun ho => ?_
 ·refine go ?_
  exact QE.meet fun a w2 ha hw => ⟨(decide (op_0 = 29)), ho, ha.sub sb, hw⟩
 refine go ?_
 exact QE.meet fun a w2 ha hw => ⟨(decide (op_0 = 32)), ho, ha.sub sb, hw⟩
/-! ### slices.Clone[[]uint8,uint8]: function 27 -/
def slices_Clone_uint8_uint8.f (s_0 : (List Int)) : Option (List Int) :=
  nilOr s_0 (some []) (if (([] : List Int).length + s_0.length) * 1 ≤ 140737488355328 then (some (([] : List Int) ++ s_0)) else none)
theorem slices_Clone_uint8_uint8.ok (s_0 : (List Int)) (v_s_0 : Value) (r : (List Int)) (H : slices_Clone_uint8_uint8.f s_0 = some r) (w : World) (hV : Hp) (sV : Sub hV (hp w)) (h0 : slR (kInt .u8) hV v_s_0 s_0) :
    Trip Tryz.prog 27 [v_s_0].toArray em hV w (fun v => HO.ex fun u0 : Value => HO.pand (v = u0) (HO.seps [slO (kInt .u8) 5 u0 r])) := by
 have see : Sees w em hV := ⟨sV, Dj.em_right _⟩
 refine Trip.of (P := Tryz.prog) (n := ⟨8, []⟩) Tryz.func27 rfl ⟨rfl, rfl⟩ rfl (St.begin (aS h0 (All.nil _))) ?_
 have ho := H
 refine go ?_
 refine CP.seq ?_
 refine go ?_
 refine SP.val (Val.eqlNP see 0 rfl Tryz.underlying38 rfl rfl) rfl rfl rfl ?_
 refine go ?_
 refine CP.have (fun w2 hw => slR.isNil (v := v_s_0) (St.pers 0 rfl see.sub see.dj hw)) (fun hnil => ?_)
 rcases Bool.eq_false_or_eq_true (nilB v_s_0) with hc | hc
 ·replace ho := nilOr_t ho (hnil hc)
  refine CP.condT rfl hc ?_
  refine go ?_
  obtain rfl := Option.some.inj ho
  exact QE.rt fun _ h => (St.selO [0] rfl rfl (St.addO (slO.nil (kInt .u8) 5) h))
 replace ho := nilOr_f ho
 refine CP.condF rfl hc ?_
 refine go ?_
 refine SP.lit0 (k := (kInt .u8)) Tryz.underlying38 inf5 rfl rfl (fun v3 => ?_)
 refine go ?_
 obtain ⟨hb, ho⟩ := must_some ho
 refine SP.append see 0 rfl 0 rfl Tryz.underlying38 inf5 rfl rfl hb rfl rfl rfl rfl rfl (fun v5 => ?_)
 clear hb
 refine go ?_
 obtain rfl := Option.some.inj ho
 exact QE.rt fun _ h => (St.selO [0] rfl rfl h)
/-! ### (*capstan/types.look).named: function 76 -/
def types_look_named_s1.j1 (k_0_2 : List api_Value) (k_0_4 : List api_Value) (k_0_6 : List api_Method) (k_0_8 : Int) (k_0_9 : List Int) (k_0_11 : List Int) (k_0_13 : Int) (k_0_14 : Bool) (k_0_15 : Int) (k_0_16 : Int) (k_0_17 : Int) (k_0_18 : List api_Instr) (k_0_20 : List Int) (l22 : List types_Row) (i_1 : api_Instr) (b30 : Bool) : Option (Int × (List types_Row)) :=
  if b30 = true then ((elt k_0_2 i_1.A).bind fun x33 => some (x33.Kind, l22)) else ((elt k_0_20 i_1.A).bind fun x38 => some (x38, l22))

def types_look_named_s1.f (k_0_2 : List api_Value) (k_0_4 : List api_Value) (k_0_6 : List api_Method) (k_0_8 : Int) (k_0_9 : List Int) (k_0_11 : List Int) (k_0_13 : Int) (k_0_14 : Bool) (k_0_15 : Int) (k_0_16 : Int) (k_0_17 : Int) (k_0_18 : List api_Instr) (k_0_20 : List Int) (l22 : List types_Row) (i_1 : api_Instr) : Option (Int × (List types_Row)) :=
  if i_1.Op = 1 then ((elt k_0_4 i_1.A).bind fun x27 => some (x27.Kind, l22)) else (if i_1.Op = 4 then (types_look_named_s1.j1 k_0_2 k_0_4 k_0_6 k_0_8 k_0_9 k_0_11 k_0_13 k_0_14 k_0_15 k_0_16 k_0_17 k_0_18 k_0_20 l22 i_1 (decide (i_1.Op = 4))) else (types_look_named_s1.j1 k_0_2 k_0_4 k_0_6 k_0_8 k_0_9 k_0_11 k_0_13 k_0_14 k_0_15 k_0_16 k_0_17 k_0_18 k_0_20 l22 i_1 (decide (i_1.Op = 5))))
theorem types_look_named_s1.ok (k_0_2 : List api_Value) (k_0_4 : List api_Value) (k_0_6 : List api_Method) (k_0_8 : Int) (k_0_9 : List Int) (k_0_11 : List Int) (k_0_13 : Int) (k_0_14 : Bool) (k_0_15 k_0_16 k_0_17 : Int) (k_0_18 : List api_Instr) (k_0_20 : List Int) (l22 : List types_Row) (i_1 : api_Instr) (v_k_0_2 v_k_0_4 : Value) (v_k_0_6 v_k_0_9 : Value) (v_k_0_11 v_k_0_18 v_k_0_20 : Value) (r : Int × (List types_Row)) (H : types_look_named_s1.f k_0_2 k_0_4 k_0_6 k_0_8 k_0_9 k_0_11 k_0_13 k_0_14 k_0_15 k_0_16 k_0_17 k_0_18 k_0_20 l22 i_1 = some r) (w : World) (hV : Hp) (sV : Sub hV (hp w)) (h0 : slR k_api_Value hV v_k_0_2 k_0_2) (h1 : slR k_api_Value hV v_k_0_4 k_0_4) (h2 : slR k_api_Method hV v_k_0_6 k_0_6) (h3 : slR (kInt .u8) hV v_k_0_9 k_0_9) (h4 : slR (kInt .u8) hV v_k_0_11 k_0_11) (h5 : slR k_api_Instr hV v_k_0_18 k_0_18) (h6 : slR (kInt .u8) hV v_k_0_20 k_0_20) (b1 : Nat) (hA : Hp) (sA : Sub hA (hp w)) (dA : Dj hV hA) (hI : (arrK k_types_Row b1 [v_k_0_2, v_k_0_4, v_k_0_6, .int .i64 k_0_8, v_k_0_9, v_k_0_11, .int .u8 k_0_13, .bool k_0_14, .int .i64 k_0_15, .int .i64 k_0_16, .int .i64 k_0_17, v_k_0_18, v_k_0_20] 200 l22 [] 67).p hV hA) :
    Trip Tryz.prog 76 [.pointer (some ⟨b1, 0, none⟩), .agg #[.int .u8 i_1.Op, .int .i64 i_1.A, .int .i64 i_1.B]].toArray hA hV w (fun v => HO.pand (v = .int .u8 r.1) (HO.seps [arrK k_types_Row b1 [v_k_0_2, v_k_0_4, v_k_0_6, .int .i64 k_0_8, v_k_0_9, v_k_0_11, .int .u8 k_0_13, .bool k_0_14, .int .i64 k_0_15, .int .i64 k_0_16, .int .i64 k_0_17, v_k_0_18, v_k_0_20] 200 r.2 [] 67])) := by
 have see : Sees w hA hV := ⟨sV, dA⟩
 refine Trip.of (P := Tryz.prog) (n := ⟨40, []⟩) Tryz.func76 rfl ⟨rfl, rfl⟩ rfl (St.beginA (os := [arrK k_types_Row b1 [v_k_0_2, v_k_0_4, v_k_0_6, .int .i64 k_0_8, v_k_0_9, v_k_0_11, .int .u8 k_0_13, .bool k_0_14, .int .i64 k_0_15, .int .i64 k_0_16, .int .i64 k_0_17, v_k_0_18, v_k_0_20] 200 l22 [] 67]) sA (aS h0 (aS h1 (aS h2 (aS h3 (aS h4 (aS h5 (aS h6 (All.nil _)))))))) ⟨hA, em, Dj.em_right _, Sub.refl _, Sub.em _, hI, trivial⟩) ?_
 have ho := H
 refine go ?_
 refine SP.box (cs := [.int .u8 i_1.Op, .int .i64 i_1.A, .int .i64 i_1.B]) rfl rfl rfl rfl (fun b23 => ?_)
 refine go ?_
 refine CP.seq ?_
 refine go ?_
 refine CP.ci ho (fun ho => ?_) fun ho => ?_
 ·refine CP.seq ?_
  refine CP.drawA (by kernel_rfl) (fun w2 k h => h.drawn k) ?_
  refine DA.ph 0 7 ?_
  refine DT.tk 0 ?_
  refine DT.tk 1 ?_
  refine DT.tk 2 ?_
  refine DT.tk 3 ?_
  refine DT.tv 4 rfl (Val.loadKPre1 see 1 rfl Tryz.underlying22 rfl rfl rfl) ?_
  refine DT.tk 5 ?_
  refine DT.tk 6 ?_
  refine DT.next (by kernel_rfl) ?_
  refine DA.one 7 rfl (by kernel_rfl) ?_
  obtain ⟨x27, hx, ho⟩ := elt_bind ho
  refine SP.indexP see 1 rfl Tryz.underlying22 sz84 hx.1 hx.2 rfl rfl rfl rfl (fun p25 => ?_)
  clear hx
  refine go ?_
  refine QE.atA ?_
  refine DA.one 8 rfl (by kernel_rfl) ?_
  refine SP.fieldP see 0 rfl Tryz.underlying84 rfl sz5 k_api_Value.part_Kind rfl rfl rfl (fun p28 => ?_)
  refine go ?_
  refine QE.atA ?_
  refine DA.one 9 rfl (by kernel_rfl) ?_
  refine SP.val (Val.loadP1 see 0 rfl (fun _ _ e => e) Tryz.underlying5 rfl rfl) rfl rfl rfl ?_
  refine go ?_
  refine QE.atA ?_
  refine DA.one 10 rfl (by kernel_rfl) ?_
  refine go ?_
  refine QE.atA ?_
  refine DA.done (by kernel_rfl) ?_
  refine go ?_
  obtain rfl := Option.some.inj ho
  exact QE.rt fun _ h => (St.selO [1] rfl rfl h)
 refine CP.join (fun a w2 => ∃ b30 : Bool, types_look_named_s1.j1 k_0_2 k_0_4 k_0_6 k_0_8 k_0_9 k_0_11 k_0_13 k_0_14 k_0_15 k_0_16 k_0_17 k_0_18 k_0_20 l22 i_1 b30 = some r ∧ Env ⟨40, []⟩ [(0, .pointer (some ⟨b1, 0, none⟩)), (3, .pointer (some ⟨b23, 0, none⟩)), (19, .bool b30)] a ∧ St w hA hV [slP k_api_Value v_k_0_2 k_0_2, slP k_api_Value v_k_0_4 k_0_4, slP k_api_Method v_k_0_6 k_0_6, slP (kInt .u8) v_k_0_9 k_0_9, slP (kInt .u8) v_k_0_11 k_0_11, slP k_api_Instr v_k_0_18 k_0_18, slP (kInt .u8) v_k_0_20 k_0_20] [boxO b23 [.int .u8 i_1.Op, .int .i64 i_1.A, .int .i64 i_1.B] 56, arrK k_types_Row b1 [v_k_0_2, v_k_0_4, v_k_0_6, .int .i64 k_0_8, v_k_0_9, v_k_0_11, .int .u8 k_0_13, .bool k_0_14, .int .i64 k_0_15, .int .i64 k_0_16, .int .i64 k_0_17, v_k_0_18, v_k_0_20] 200 l22 [] 67] w2) ?_ ?_
 ·rintro a w2 ⟨b30, ho, ha, hw⟩
  refine CP.app ha hw ?_
  clear ha hw a w2
  refine CP.cb ho (fun ho => ?_) fun ho => ?_
  ·refine CP.seq ?_
   refine CP.drawA (by kernel_rfl) (fun w2 k h => h.drawn k) ?_
   refine DA.ph 0 7 ?_
   refine DT.tk 0 ?_
   refine DT.tk 1 ?_
   refine DT.tk 2 ?_
   refine DT.tk 3 ?_
   refine DT.tv 4 rfl (Val.loadKPre1 see 1 rfl Tryz.underlying22 rfl rfl rfl) ?_
   refine DT.tk 5 ?_
   refine DT.tk 6 ?_
   refine DT.next (by kernel_rfl) ?_
   refine DA.one 7 rfl (by kernel_rfl) ?_
   obtain ⟨x33, hx, ho⟩ := elt_bind ho
   refine SP.indexP see 0 rfl Tryz.underlying22 sz84 hx.1 hx.2 rfl rfl rfl rfl (fun p31 => ?_)
   clear hx
   refine go ?_
   refine QE.atA ?_
   refine DA.one 8 rfl (by kernel_rfl) ?_
   refine SP.fieldP see 0 rfl Tryz.underlying84 rfl sz5 k_api_Value.part_Kind rfl rfl rfl (fun p34 => ?_)
   refine go ?_
   refine QE.atA ?_
   refine DA.one 9 rfl (by kernel_rfl) ?_
   refine SP.val (Val.loadP1 see 0 rfl (fun _ _ e => e) Tryz.underlying5 rfl rfl) rfl rfl rfl ?_
   refine go ?_
   refine QE.atA ?_
   refine DA.one 10 rfl (by kernel_rfl) ?_
   refine go ?_
   refine QE.atA ?_
   refine DA.done (by kernel_rfl) ?_
   refine go ?_
   obtain rfl := Option.some.inj ho
   exact QE.rt fun _ h => (St.selO [1] rfl rfl h)
  refine go ?_
  refine CP.seq ?_
  refine CP.drawA (by kernel_rfl) (fun w2 k h => h.drawn k) ?_
  refine DA.ph 0 6 ?_
  refine DT.tk 0 ?_
  refine DT.tk 1 ?_
  refine DT.tk 2 ?_
  refine DT.tv 3 rfl (Val.loadKPre1 see 1 rfl Tryz.underlying38 rfl rfl rfl) ?_
  refine DT.tk 4 ?_
  refine DT.tk 5 ?_
  refine DT.next (by kernel_rfl) ?_
  refine DA.one 6 rfl (by kernel_rfl) ?_
  obtain ⟨x38, hx, ho⟩ := elt_bind ho
  refine SP.indexP see 6 rfl Tryz.underlying38 sz5 hx.1 hx.2 rfl rfl rfl rfl (fun p36 => ?_)
  clear hx
  refine go ?_
  refine QE.atA ?_
  refine DA.one 7 rfl (by kernel_rfl) ?_
  refine SP.val (Val.loadP1 see 0 rfl (fun _ _ e => e) Tryz.underlying5 rfl rfl) rfl rfl rfl ?_
  refine go ?_
  refine QE.atA ?_
  refine DA.one 8 rfl (by kernel_rfl) ?_
  refine go ?_
  refine QE.atA ?_
  refine DA.done (by kernel_rfl) ?_
  refine go ?_
  obtain rfl := Option.some.inj ho
  exact QE.rt fun _ h => (St.selO [1] rfl rfl h)
 refine go ?_
 refine CP.ci ho (fun ho => ?_) fun ho => ?_
 ·refine go ?_
  exact QE.meet fun a w2 ha hw => ⟨(decide (i_1.Op = 4)), ho, ha.sub sb, hw⟩
 refine go ?_
 exact QE.meet fun a w2 ha hw => ⟨(decide (i_1.Op = 5)), ho, ha.sub sb, hw⟩
/-! ### slices.Reverse[[]uint8,uint8]: function 77 -/
shelf_lay_g SlLaysE.n35 Slgn 35 at Tryz 77 as Tryz.reverse77
/-- A row of numbers of one's own, turned round where it lies. -/
theorem reverse77_trip {v : Value} {l : List Int} (hll : l.length < 4611686018427387904) {w : World} {hP h1 : Hp} (sub : Sub hP (hp w)) (s1 : Sub h1 (hp w)) (dj : Dj hP h1) (hI : (slO (kInt .u8) 5 v l).p hP h1) :
    Trip Tryz.prog 77 #[v] h1 hP w (fun r => HO.pand (r = .tuple #[]) (HO.seps [slO (kInt .u8) 5 v l.reverse])) := by
  have h := slO.rowTrip (P := Tryz.prog) (f := 77) (fun v => #[v]) (fun _ => .tuple #[]) (fun x => [Value.int .u8 x]) (fun h cs x => Iff.rfl) (fun d : Array Int => d.toList.reverse.toArray) (fun d => by simp) (fun blk cap d w hH hb hsz _ _ => ?_) (fun _ w hV sV => ?_) hll sub s1 dj hI
  · simpa using h
  · have := AnyE.slices_Reverse Tryz.reverse77 (Value.int .u8) (fun _ => rfl) blk 0 cap d.toList w (holdsOne.1 hH) (by simp; omega)
    refine this.mono fun e w' ⟨h1, n, h2⟩ => ⟨h1, n, #[], h2.trans (Eq.trans ?_ (Eq.symm sortOne))⟩
    rw [grow_none]
  · refine (AnyE.slices_Reverse_empty Tryz.reverse77 none 0 w).mono fun e w' ⟨he, hw⟩ => ?_
    subst hw
    exact ⟨_, he, Met.refl _, fun _ _ e _ => e, em, em, fun _ _ _ => rfl, fun _ _ _ => rfl, Dj.em_left _, Sub.em _, Sub.em _, rfl⟩


/-! ### math/bits.Mul: function 95 -/
shelf_lay Lays.n212 Nm 212 at Tryz as Tryz.bitsMul95
def math_bits_Mul.f (x : Int) (y : Int) : Option (Int × Int) := if 0 ≤ x ∧ x < 18446744073709551616 ∧ 0 ≤ y ∧ y < 18446744073709551616 then some (x * y / 18446744073709551616, x * y % 18446744073709551616) else none
theorem math_bits_Mul.ok (x : Int) (y : Int) (r : Int × Int) (H : math_bits_Mul.f x y = some r) (w : World) (hV : Hp) (sV : Sub hV (hp w)) :
    Trip Tryz.prog 95 [.int .u64 x, .int .u64 y].toArray em hV w (fun v => HO.pure (v = .tuple #[.int .u64 r.1, .int .u64 r.2])) := by
  unfold math_bits_Mul.f at H
  obtain ⟨⟨h1, h2, h3, h4⟩, H⟩ := must_some H
  obtain rfl := Option.some.inj H
  obtain ⟨a, rfl⟩ := Int.eq_ofNat_of_zero_le h1
  obtain ⟨b, rfl⟩ := Int.eq_ofNat_of_zero_le h3
  refine (Any.bits_Mul Tryz.bitsMul95 a b (by omega) (by omega) w).mono fun e w' ⟨he, hw⟩ => ?_
  subst hw
  refine ⟨_, he, Met.refl _, fun _ _ e _ => e, em, em, fun _ _ _ => rfl, fun _ _ _ => rfl, Dj.em_left _, Sub.em _, Sub.em _, ?_⟩
  show Value.tuple _ = Value.tuple _
  simp


/-! ### slices.Repeat[[]uint8,uint8]: function 78 -/
inductive slices_Repeat_uint8_uint8.S where
  | start
  | l1 (l12 : List Int) (x14 : Int)

def slices_Repeat_uint8_uint8.j2 (x_0 : (List Int)) (count_1 : Int) (t3 : Int × Int) : Option (slices_Repeat_uint8_uint8.S ⊕ (List Int)) :=
  if (0 : Int) ≤ (IntKind.i64.wrap t3.2) ∧ (1 : Int) * (IntKind.i64.wrap t3.2) ≤ 281474976710656 ∧ ((IntKind.i64.wrap t3.2) : Int) ≤ 9223372036854775807 then (some (.inl (.l1 (x_0.take (List.replicate (IntKind.i64.wrap t3.2 : Int).toNat 0 : List Int).length ++ (List.replicate (IntKind.i64.wrap t3.2 : Int).toNat 0 : List Int).drop x_0.length) ((min x_0.length (List.replicate (IntKind.i64.wrap t3.2 : Int).toNat 0 : List Int).length : Nat) : Int)))) else none

def slices_Repeat_uint8_uint8.j1 (x_0 : (List Int)) (count_1 : Int)  : Option (slices_Repeat_uint8_uint8.S ⊕ (List Int)) :=
  (math_bits_Mul.f (IntKind.u64.wrap (x_0.length : Int)) (IntKind.u64.wrap count_1)).bind fun t3 => if ((decide (t3.1 > 0)) || (decide (t3.2 > 9223372036854775807))) = true then (none) else (slices_Repeat_uint8_uint8.j2 x_0 count_1 t3)

def slices_Repeat_uint8_uint8.F (x_0 : (List Int)) (count_1 : Int) : slices_Repeat_uint8_uint8.S → Option (slices_Repeat_uint8_uint8.S ⊕ (List Int))
  | .start => if count_1 < 0 then (none) else (slices_Repeat_uint8_uint8.j1 x_0 count_1)
  | .l1 l12 x14 => if x14 < (l12.length : Int) then (if (0 : Int) ≤ x14 ∧ x14 ≤ (l12.length : Int) then (if (0 : Int) ≤ x14 ∧ x14 ≤ (l12.length : Int) then (some (.inl (.l1 (l12.take (x14 : Int).toNat ++ l12.take (min (x14 : Int).toNat (l12.length - (x14 : Int).toNat)) ++ l12.drop ((x14 : Int).toNat + min (x14 : Int).toNat (l12.length - (x14 : Int).toNat))) (IntKind.i64.wrap (x14 + ((min (x14 : Int).toNat (l12.length - (x14 : Int).toNat) : Nat) : Int)))))) else none) else none) else (some (.inr l12))

def slices_Repeat_uint8_uint8.f (x_0 : (List Int)) (count_1 : Int) : Option (List Int) := runF (slices_Repeat_uint8_uint8.F x_0 count_1) .start
theorem slices_Repeat_uint8_uint8.ok (x_0 : (List Int)) (count_1 : Int) (v_x_0 : Value) (r : (List Int)) (H : slices_Repeat_uint8_uint8.f x_0 count_1 = some r) (w : World) (hV : Hp) (sV : Sub hV (hp w)) (h0 : slR (kInt .u8) hV v_x_0 x_0) :
    Trip Tryz.prog 78 [v_x_0, .int .i64 count_1].toArray em hV w (fun v => HO.ex fun u0 : Value => HO.pand (v = u0) (HO.seps [slO (kInt .u8) 5 u0 r])) := by
 have see : Sees w em hV := ⟨sV, Dj.em_right _⟩
 refine Trip.of (P := Tryz.prog) (n := ⟨48, []⟩) Tryz.func78 rfl ⟨rfl, rfl⟩ rfl (St.begin (aS h0 (All.nil _))) ?_
 obtain ⟨n0, hi⟩ := runF_iff.1 H
 obtain ⟨m0, o, hm0, ho, hr⟩ := iter_some hi
 clear hi
 refine go ?_
 refine CP.join (fun a w2 => ∃ (m2 : Nat) (o : (slices_Repeat_uint8_uint8.S ⊕ (List Int))), m2 ≤ m0 ∧ slices_Repeat_uint8_uint8.j1 x_0 count_1 = some o ∧ next (slices_Repeat_uint8_uint8.F x_0 count_1) m2 o = some r ∧ Env ⟨48, []⟩ [(0, v_x_0), (1, .int .i64 count_1)] a ∧ St w em hV [slP (kInt .u8) v_x_0 x_0] [] w2) ?_ ?_
 ·rintro a w2 ⟨m2, o, hm_m2, ho, hr, ha, hw⟩
  refine CP.app ha hw ?_
  clear ha hw a w2
  refine go ?_
  refine SP.val (Val.conv (by rw [Tryz.underlying3]; rfl) Tryz.underlying129 rfl) rfl rfl rfl ?_
  refine go ?_
  refine SP.val (Val.conv (by rw [Tryz.underlying3]; rfl) Tryz.underlying129 rfl) rfl rfl rfl ?_
  obtain ⟨t3, hc, ho⟩ := bind_some (x := math_bits_Mul.f (IntKind.u64.wrap (x_0.length : Int)) (IntKind.u64.wrap count_1)) ho
  refine SP.callV see (caps := []) (.tuple #[.int .u64 t3.1, .int .u64 t3.2]) fn95 rfl rfl rfl rfl (fun w2 hP hs sub ap => math_bits_Mul.ok _ _  _ hc w2 hP sub ) ?_
  clear hc
  refine go ?_
  refine CP.join (fun a w2 => ∃ (m6 : Nat) (o : (slices_Repeat_uint8_uint8.S ⊕ (List Int))), m6 ≤ m2 ∧ slices_Repeat_uint8_uint8.j2 x_0 count_1 t3 = some o ∧ next (slices_Repeat_uint8_uint8.F x_0 count_1) m6 o = some r ∧ Env ⟨48, []⟩ [(0, v_x_0), (6, .int .u64 t3.2)] a ∧ St w em hV [slP (kInt .u8) v_x_0 x_0] [] w2) ?_ ?_
  ·rintro a w2 ⟨m6, o, hm_m6, ho, hr, ha, hw⟩
   refine CP.app ha hw ?_
   clear ha hw a w2
   refine go ?_
   refine SP.val (Val.conv (by rw [Tryz.underlying129]; rfl) Tryz.underlying3 rfl) rfl rfl rfl ?_
   obtain ⟨hb, ho⟩ := must_some ho
   refine SP.makeO (k := (kInt .u8)) (z := 0) Tryz.underlying38 inf5 rfl (fun _ => rfl) rfl rfl rfl rfl hb (fun v7 => ?_)
   clear hb
   refine go ?_
   refine SP.copyIn see 0 rfl 0 rfl Tryz.underlying38 sz5 rfl rfl rfl rfl rfl ?_
   refine go ?_
   refine CP.seq ?_
   refine go ?_
   obtain rfl := Option.some.inj ho
   refine CP.loop (fun cl1 a w2 => ∃ l12 : List Int, ∃ x14 : Int, ∃ v13 : Value, cl1 ≤ m6 ∧ iter (slices_Repeat_uint8_uint8.F x_0 count_1) cl1 (.l1 l12 x14) = some r ∧ Env ⟨48, []⟩ [(7, v13), (8, .int .i64 x14)] a ∧ St w em hV [] [slO (kInt .u8) 5 v13 l12] w2) m6 (fun a w2 ha hw => ⟨(x_0.take (List.replicate (IntKind.i64.wrap t3.2 : Int).toNat 0 : List Int).length ++ (List.replicate (IntKind.i64.wrap t3.2 : Int).toNat 0 : List Int).drop x_0.length), ((min x_0.length (List.replicate (IntKind.i64.wrap t3.2 : Int).toNat 0 : List Int).length : Nat) : Int), v7, Nat.le_refl _, hr, ha.sub sb, (St.selP [] rfl hw)⟩) ?_
   clear hr
   rintro cl1 a w2 ⟨l12, x14, v13, hc_l1, hi, ha, hw⟩
   obtain ⟨m15, o, hm_m15, ho, hr⟩ := iter_some hi
   refine CP.app ha hw ?_
   clear ha hw a w2 hi
   refine CP.seq ?_
   refine go ?_
   refine SP.val (Val.lenW (fun w2 hw => slO.whole (St.own 0 rfl see.sub see.dj hw)) Tryz.underlying38 rfl) rfl rfl rfl ?_
   refine go ?_
   refine CP.ci ho (fun ho => ?_) fun ho => ?_
   ·refine go ?_
    refine CP.drawA (by kernel_rfl) (fun w2 k h => h.drawn k) ?_
    refine DA.phase (fun _ => true) (fun _ => True) ?_
    refine DT.take 0 rfl rfl rfl rfl (by kernel_rfl) (fun _ _ _ h => h) (Val.move rfl) (fun _ _ => trivial) ?_
    refine DT.take 1 rfl rfl rfl rfl (by kernel_rfl) (fun _ _ _ h => h) (Val.move rfl) (fun _ _ => trivial) ?_
    refine DT.take 2 rfl rfl rfl rfl (by kernel_rfl) (fun _ _ _ h => h) (Val.move rfl) (fun _ _ => trivial) ?_
    refine DT.take 4 rfl rfl rfl rfl (by kernel_rfl) (fun _ _ _ h => h) (Val.move rfl) (fun _ _ => trivial) ?_
    refine DT.take 5 rfl rfl rfl rfl (by kernel_rfl) (fun _ _ _ h => h) (Val.move rfl) (fun _ _ => trivial) ?_
    refine DT.list (l2 := #[true, true, true, false, true, true, false, false, false, false]) (by kernel_rfl) ?_
    refine DT.free ?_
    obtain ⟨hz16, ho⟩ := must_some ho
    obtain ⟨hz17, ho⟩ := must_some ho
    refine DA.ph 0 7 ?_
    refine DT.tv 3 rfl (Val.sliceFrom see 0 rfl Tryz.underlying38 sz5 rfl rfl hz16) ?_
    refine DT.tv 6 rfl (Val.sliceTo see 0 rfl Tryz.underlying38 sz5 rfl rfl hz17) ?_
    refine DT.next (by kernel_rfl) ?_
    refine DA.one 7 rfl (by kernel_rfl) ?_
    refine SP.copyOver see 0 rfl Tryz.underlying38 sz5 rfl (by omega) rfl rfl rfl rfl ?_
    refine go ?_
    refine QE.atA ?_
    refine DA.one 8 rfl (by kernel_rfl) ?_
    refine go ?_
    refine QE.atA ?_
    refine DA.one 9 rfl (by kernel_rfl) ?_
    refine go ?_
    refine QE.atA ?_
    refine DA.done (by kernel_rfl) ?_
    refine go ?_
    obtain rfl := Option.some.inj ho
    exact QE.lower m15 (by omega) fun a w2 ha hw => ⟨(l12.take (x14 : Int).toNat ++ l12.take (min (x14 : Int).toNat (l12.length - (x14 : Int).toNat)) ++ l12.drop ((x14 : Int).toNat + min (x14 : Int).toNat (l12.length - (x14 : Int).toNat))), (IntKind.i64.wrap (x14 + ((min (x14 : Int).toNat (l12.length - (x14 : Int).toNat) : Nat) : Int))), v13, (by omega), hr, ha.sub sb, hw⟩
   refine go ?_
   obtain rfl := fin ho hr
   exact QE.rt fun _ h => (St.selO [0] rfl rfl h)
  refine go ?_
  refine SP.jn 3 [0, 6] 26 (.bool ((decide (t3.1 > 0)) || (decide (t3.2 > 9223372036854775807)))) ?_ ?_
  ·refine go ?_
   refine CP.cb ho (fun ho => ?_) fun ho => ?_
   ·cases ho
   refine go ?_
   exact QE.meet fun a w2 ha hw => ⟨m2, _, (by omega), ho, hr, ha.sub sb, hw⟩
  refine SP.bb 23 (fun hq5 => ?_) fun hq5 => ?_
  ·refine go ?_
   exact QE.jb (or_t hq5) fun w2 hw => hw
  refine go ?_
  exact QE.jb (or_f hq5 rfl) fun w2 hw => hw
 refine go ?_
 refine CP.ci ho (fun ho => ?_) fun ho => ?_
 ·cases ho
 refine go ?_
 exact QE.meet fun a w2 ha hw => ⟨m0, _, (by omega), ho, hr, ha.sub sb, hw⟩
/-! ### (*capstan/types.look).shape: function 61 -/
def types_look_shape_s1.j1 (k_0_2 : List api_Value) (k_0_4 : List api_Value) (k_0_6 : List api_Method) (k_0_8 : Int) (k_0_9 : List Int) (k_0_11 : List Int) (k_0_13 : Int) (k_0_14 : Bool) (k_0_15 : Int) (k_0_16 : Int) (k_0_17 : Int) (k_0_18 : List api_Instr) (k_0_20 : List Int) (l22 : List types_Row) (i_1 : api_Instr) (row_2 : (List Int)) (l5302 : List types_Row) (l5304 : List Int) (l5307 : List Int) : Option (op_Shape × (List types_Row)) :=
  some ((⟨l5304, l5307⟩ : op_Shape), l5302)

def types_look_shape_s1.j2 (k_0_2 : List api_Value) (k_0_4 : List api_Value) (k_0_6 : List api_Method) (k_0_8 : Int) (k_0_9 : List Int) (k_0_11 : List Int) (k_0_13 : Int) (k_0_14 : Bool) (k_0_15 : Int) (k_0_16 : Int) (k_0_17 : Int) (k_0_18 : List api_Instr) (k_0_20 : List Int) (l22 : List types_Row) (i_1 : api_Instr) (row_2 : (List Int)) (t28 : op_Shape × Bool) (l5300 : List Int) : Option (op_Shape × (List types_Row)) :=
  types_look_shape_s1.j1 k_0_2 k_0_4 k_0_6 k_0_8 k_0_9 k_0_11 k_0_13 k_0_14 k_0_15 k_0_16 k_0_17 k_0_18 k_0_20 l22 i_1 row_2 l22 [0] l5300

def types_look_shape_s1.j4 (k_0_2 : List api_Value) (k_0_4 : List api_Value) (k_0_6 : List api_Method) (k_0_8 : Int) (k_0_9 : List Int) (k_0_11 : List Int) (k_0_13 : Int) (k_0_14 : Bool) (k_0_15 : Int) (k_0_16 : Int) (k_0_17 : Int) (k_0_18 : List api_Instr) (k_0_20 : List Int) (l22 : List types_Row) (i_1 : api_Instr) (row_2 : (List Int)) (t28 : op_Shape × Bool) (t37 : (List Int)) (b46 : Bool) : Option (op_Shape × (List types_Row)) :=
  if b46 = true then ((types_look_named_s1.f k_0_2 k_0_4 k_0_6 k_0_8 k_0_9 k_0_11 k_0_13 k_0_14 k_0_15 k_0_16 k_0_17 k_0_18 k_0_20 l22 i_1).bind fun t47 => types_look_shape_s1.j1 k_0_2 k_0_4 k_0_6 k_0_8 k_0_9 k_0_11 k_0_13 k_0_14 k_0_15 k_0_16 k_0_17 k_0_18 k_0_20 l22 i_1 row_2 t47.2 [t47.1] t28.1.Gives) else (if i_1.Op = 30 then ((elt k_0_6 i_1.A).bind fun x52 => (elt k_0_6 i_1.A).bind fun x60 => types_look_shape_s1.j1 k_0_2 k_0_4 k_0_6 k_0_8 k_0_9 k_0_11 k_0_13 k_0_14 k_0_15 k_0_16 k_0_17 k_0_18 k_0_20 l22 i_1 row_2 l22 x52.Args [x60.Result]) else (if i_1.Op = 31 then (types_look_shape_s1.j1 k_0_2 k_0_4 k_0_6 k_0_8 k_0_9 k_0_11 k_0_13 k_0_14 k_0_15 k_0_16 k_0_17 k_0_18 k_0_20 l22 i_1 row_2 l22 [k_0_13] t28.1.Gives) else (if i_1.Op = 8 then (if t37.length < 4611686018427387904 then (if ([0].length + [0].length) * 1 ≤ 140737488355328 then (types_look_shape_s1.j1 k_0_2 k_0_4 k_0_6 k_0_8 k_0_9 k_0_11 k_0_13 k_0_14 k_0_15 k_0_16 k_0_17 k_0_18 k_0_20 l22 i_1 row_2 l22 ([0] ++ [0]) t37.reverse) else none) else none) else (if i_1.Op = 7 then (if (t37.length : Int) > 0 then (if (0 : Int) ≤ (IntKind.i64.wrap ((t37.length : Int) - 1)) ∧ (IntKind.i64.wrap ((t37.length : Int) - 1)) ≤ (t37.length : Int) then ((slices_Repeat_uint8_uint8.f (t37.drop (IntKind.i64.wrap ((t37.length : Int) - 1) : Int).toNat) 2).bind fun t5296 => types_look_shape_s1.j2 k_0_2 k_0_4 k_0_6 k_0_8 k_0_9 k_0_11 k_0_13 k_0_14 k_0_15 k_0_16 k_0_17 k_0_18 k_0_20 l22 i_1 row_2 t28 t5296) else none) else (types_look_shape_s1.j2 k_0_2 k_0_4 k_0_6 k_0_8 k_0_9 k_0_11 k_0_13 k_0_14 k_0_15 k_0_16 k_0_17 k_0_18 k_0_20 l22 i_1 row_2 t28 t28.1.Gives)) else (types_look_shape_s1.j2 k_0_2 k_0_4 k_0_6 k_0_8 k_0_9 k_0_11 k_0_13 k_0_14 k_0_15 k_0_16 k_0_17 k_0_18 k_0_20 l22 i_1 row_2 t28 t28.1.Gives)))))

def types_look_shape_s1.j3 (k_0_2 : List api_Value) (k_0_4 : List api_Value) (k_0_6 : List api_Method) (k_0_8 : Int) (k_0_9 : List Int) (k_0_11 : List Int) (k_0_13 : Int) (k_0_14 : Bool) (k_0_15 : Int) (k_0_16 : Int) (k_0_17 : Int) (k_0_18 : List api_Instr) (k_0_20 : List Int) (l22 : List types_Row) (i_1 : api_Instr) (row_2 : (List Int)) (t28 : op_Shape × Bool) (t37 : (List Int)) (b42 : Bool) : Option (op_Shape × (List types_Row)) :=
  if b42 = true then ((types_look_named_s1.f k_0_2 k_0_4 k_0_6 k_0_8 k_0_9 k_0_11 k_0_13 k_0_14 k_0_15 k_0_16 k_0_17 k_0_18 k_0_20 l22 i_1).bind fun t43 => types_look_shape_s1.j1 k_0_2 k_0_4 k_0_6 k_0_8 k_0_9 k_0_11 k_0_13 k_0_14 k_0_15 k_0_16 k_0_17 k_0_18 k_0_20 l22 i_1 row_2 t43.2 t28.1.Takes [t43.1]) else (if i_1.Op = 3 then (types_look_shape_s1.j4 k_0_2 k_0_4 k_0_6 k_0_8 k_0_9 k_0_11 k_0_13 k_0_14 k_0_15 k_0_16 k_0_17 k_0_18 k_0_20 l22 i_1 row_2 t28 t37 (decide (i_1.Op = 3))) else (types_look_shape_s1.j4 k_0_2 k_0_4 k_0_6 k_0_8 k_0_9 k_0_11 k_0_13 k_0_14 k_0_15 k_0_16 k_0_17 k_0_18 k_0_20 l22 i_1 row_2 t28 t37 (decide (i_1.Op = 5))))

def types_look_shape_s1.f (k_0_2 : List api_Value) (k_0_4 : List api_Value) (k_0_6 : List api_Method) (k_0_8 : Int) (k_0_9 : List Int) (k_0_11 : List Int) (k_0_13 : Int) (k_0_14 : Bool) (k_0_15 : Int) (k_0_16 : Int) (k_0_17 : Int) (k_0_18 : List api_Instr) (k_0_20 : List Int) (l22 : List types_Row) (i_1 : api_Instr) (row_2 : (List Int)) : Option (op_Shape × (List types_Row)) :=
  (op_Of.f i_1.Op).bind fun t28 => if t28.2 = true then (some (t28.1, l22)) else (if (0 : Int) ≤ (if (IntKind.i64.wrap ((row_2.length : Int) - 2)) > 0 then IntKind.i64.wrap ((row_2.length : Int) - 2) else 0) ∧ (if (IntKind.i64.wrap ((row_2.length : Int) - 2)) > 0 then IntKind.i64.wrap ((row_2.length : Int) - 2) else 0) ≤ (row_2.length : Int) then ((slices_Clone_uint8_uint8.f (row_2.drop (if (IntKind.i64.wrap ((row_2.length : Int) - 2)) > 0 then IntKind.i64.wrap ((row_2.length : Int) - 2) else 0 : Int).toNat)).bind fun t37 => if i_1.Op = 1 then (types_look_shape_s1.j3 k_0_2 k_0_4 k_0_6 k_0_8 k_0_9 k_0_11 k_0_13 k_0_14 k_0_15 k_0_16 k_0_17 k_0_18 k_0_20 l22 i_1 row_2 t28 t37 (decide (i_1.Op = 1))) else (if i_1.Op = 2 then (types_look_shape_s1.j3 k_0_2 k_0_4 k_0_6 k_0_8 k_0_9 k_0_11 k_0_13 k_0_14 k_0_15 k_0_16 k_0_17 k_0_18 k_0_20 l22 i_1 row_2 t28 t37 (decide (i_1.Op = 2))) else (types_look_shape_s1.j3 k_0_2 k_0_4 k_0_6 k_0_8 k_0_9 k_0_11 k_0_13 k_0_14 k_0_15 k_0_16 k_0_17 k_0_18 k_0_20 l22 i_1 row_2 t28 t37 (decide (i_1.Op = 4))))) else none)
theorem types_look_shape_s1.ok (k_0_2 : List api_Value) (k_0_4 : List api_Value) (k_0_6 : List api_Method) (k_0_8 : Int) (k_0_9 : List Int) (k_0_11 : List Int) (k_0_13 : Int) (k_0_14 : Bool) (k_0_15 k_0_16 k_0_17 : Int) (k_0_18 : List api_Instr) (k_0_20 : List Int) (l22 : List types_Row) (i_1 : api_Instr) (row_2 : (List Int)) (v_k_0_2 v_k_0_4 : Value) (v_k_0_6 v_k_0_9 : Value) (v_k_0_11 v_k_0_18 : Value) (v_k_0_20 v_row_2 : Value) (r : op_Shape × (List types_Row)) (H : types_look_shape_s1.f k_0_2 k_0_4 k_0_6 k_0_8 k_0_9 k_0_11 k_0_13 k_0_14 k_0_15 k_0_16 k_0_17 k_0_18 k_0_20 l22 i_1 row_2 = some r) (w : World) (hV : Hp) (sV : Sub hV (hp w)) (h0 : slR k_api_Value hV v_k_0_2 k_0_2) (h1 : slR k_api_Value hV v_k_0_4 k_0_4) (h2 : slR k_api_Method hV v_k_0_6 k_0_6) (h3 : slR (kInt .u8) hV v_k_0_9 k_0_9) (h4 : slR (kInt .u8) hV v_k_0_11 k_0_11) (h5 : slR k_api_Instr hV v_k_0_18 k_0_18) (h6 : slR (kInt .u8) hV v_k_0_20 k_0_20) (h7 : slR (kInt .u8) hV v_row_2 row_2) (b1 : Nat) (hA : Hp) (sA : Sub hA (hp w)) (dA : Dj hV hA) (hI : (arrK k_types_Row b1 [v_k_0_2, v_k_0_4, v_k_0_6, .int .i64 k_0_8, v_k_0_9, v_k_0_11, .int .u8 k_0_13, .bool k_0_14, .int .i64 k_0_15, .int .i64 k_0_16, .int .i64 k_0_17, v_k_0_18, v_k_0_20] 200 l22 [] 67).p hV hA) :
    Trip Tryz.prog 61 [.pointer (some ⟨b1, 0, none⟩), .agg #[.int .u8 i_1.Op, .int .i64 i_1.A, .int .i64 i_1.B], v_row_2].toArray hA hV w (fun v => HO.ex fun u0 : Value => HO.ex fun u1 : Value => HO.pand (v = .agg #[u0, u1]) (HO.seps [HO.ofP (slP (kInt .u8) u0 r.1.Takes), slO (kInt .u8) 5 u1 r.1.Gives, arrK k_types_Row b1 [v_k_0_2, v_k_0_4, v_k_0_6, .int .i64 k_0_8, v_k_0_9, v_k_0_11, .int .u8 k_0_13, .bool k_0_14, .int .i64 k_0_15, .int .i64 k_0_16, .int .i64 k_0_17, v_k_0_18, v_k_0_20] 200 r.2 [] 67])) := by
 have see : Sees w hA hV := ⟨sV, dA⟩
 refine Trip.of (P := Tryz.prog) (n := ⟨106, []⟩) Tryz.func61 rfl ⟨rfl, rfl⟩ rfl (St.beginA (os := [arrK k_types_Row b1 [v_k_0_2, v_k_0_4, v_k_0_6, .int .i64 k_0_8, v_k_0_9, v_k_0_11, .int .u8 k_0_13, .bool k_0_14, .int .i64 k_0_15, .int .i64 k_0_16, .int .i64 k_0_17, v_k_0_18, v_k_0_20] 200 l22 [] 67]) sA (aS h0 (aS h1 (aS h2 (aS h3 (aS h4 (aS h5 (aS h6 (aS h7 (All.nil _))))))))) ⟨hA, em, Dj.em_right _, Sub.refl _, Sub.em _, hI, trivial⟩) ?_
 have ho := H
 refine go ?_
 refine SP.box (cs := [.int .u8 i_1.Op, .int .i64 i_1.A, .int .i64 i_1.B]) rfl rfl rfl rfl (fun b24 => ?_)
 refine SP.alloc (cs := [(.slice none 0 0), (.slice none 0 0)]) inf118 rfl rfl (fun b26 => ?_)
 refine go ?_
 obtain ⟨t28, hc, ho⟩ := bind_some (x := op_Of.f i_1.Op) ho
 refine SP.callK see (caps := []) _ fn75 rfl rfl rfl rfl (fun w2 hP hs sub ap => op_Of.ok _  _ hc w2 hP sub ) (SP.k2 fun v29 v30 => ?_)
 clear hc
 refine go ?_
 refine SP.alloc (cs := [(.slice none 0 0), (.slice none 0 0)]) inf118 rfl rfl (fun b33 => ?_)
 refine SP.have (fun w2 hw => slO.shape (St.own 1 rfl see.sub see.dj hw)) (fun hs_v29 => ?_)
 refine SP.have (fun w2 hw => slO.shape (St.own 2 rfl see.sub see.dj hw)) (fun hs_v30 => ?_)
 refine SP.store (v := .agg #[v29, v30]) (vs := [v29, v30]) 0 (by rfl) sz118 (by rfl) (by rfl) (by rfl) (by rfl) (one_cons hs_v29 (one_cons hs_v30 (rfl))) (by rfl) ?_
 refine go ?_
 refine CP.seq ?_
 refine go ?_
 refine CP.cb ho (fun ho => ?_) fun ho => ?_
 ·refine go ?_
  refine SP.val (Val.loadA 0 rfl Tryz.underlying118 rfl sz118 rfl rfl rfl) rfl rfl rfl ?_
  refine SP.have (fun w2 hw => slO.shape (St.own 1 rfl see.sub see.dj hw)) (fun hs_v29 => ?_)
  refine SP.have (fun w2 hw => slO.shape (St.own 2 rfl see.sub see.dj hw)) (fun hs_v30 => ?_)
  refine SP.store (v := .agg #[v29, v30]) (vs := [v29, v30]) 3 (by rfl) sz118 (by rfl) (by rfl) (by rfl) (by rfl) (one_cons hs_v29 (one_cons hs_v30 (rfl))) (by rfl) ?_
  refine go ?_
  obtain rfl := Option.some.inj ho
  exact QE.rets (rs := [.cell 6 118]) (vs := [.agg #[v29, v30]]) Tryz.results61 rfl ⟨RVs.cellA 3 rfl rfl Tryz.underlying118 rfl sz118, trivial⟩ (fun w2 h => St.done (fun a b p s => ⟨_, _, rfl, ⟨em, _, Dj.em_left _, Sub.em _, Sub.refl _, p.get 0 rfl, s⟩⟩) (St.selO [1, 4] rfl rfl (St.freezeS h 1 rfl see)))
 refine go ?_
 refine SP.val (Val.max2 rfl rfl) rfl rfl rfl ?_
 obtain ⟨hz, ho⟩ := must_some ho
 refine SP.sliceFromP see 7 rfl Tryz.underlying38 sz5 rfl rfl hz rfl rfl (fun v35 => ?_)
 clear hz
 obtain ⟨t37, hc, ho⟩ := bind_some (x := slices_Clone_uint8_uint8.f (row_2.drop (if (IntKind.i64.wrap ((row_2.length : Int) - 2)) > 0 then IntKind.i64.wrap ((row_2.length : Int) - 2) else 0 : Int).toNat)) ho
 refine SP.callK see (caps := []) _ fn27 rfl rfl rfl rfl (fun w2 hP hs sub ap => slices_Clone_uint8_uint8.ok _ _ _ hc w2 hP sub (ap.get 0 rfl)) (SP.k1 fun v38 => ?_)
 clear hc
 refine go ?_
 refine SP.lit (k := (kInt .u8)) (xs := [0]) (vs := [.int .u8 0]) (cells := [.int .u8 0]) Tryz.underlying38 inf5 rfl rfl rfl rfl rfl rfl rfl rfl (fun _ ap => ⟨[.int .u8 0], _, rfl, rfl, rfl⟩) rfl rfl rfl (fun v40 => ?_)
 refine go ?_
 refine CP.join (fun a w2 => ∃ l5302 : List types_Row, ∃ l5304 : List Int, ∃ l5307 : List Int, ∃ v5305 : Value, ∃ v5308 : Value, types_look_shape_s1.j1 k_0_2 k_0_4 k_0_6 k_0_8 k_0_9 k_0_11 k_0_13 k_0_14 k_0_15 k_0_16 k_0_17 k_0_18 k_0_20 l22 i_1 row_2 l5302 l5304 l5307 = some r ∧ Env ⟨106, []⟩ [(6, .pointer (some ⟨b26, 0, none⟩)), (7, .pointer (some ⟨b33, 0, none⟩))] a ∧ St w hA hV [slP (kInt .u8) v5305 l5304, slP k_api_Value v_k_0_2 k_0_2, slP k_api_Value v_k_0_4 k_0_4, slP k_api_Method v_k_0_6 k_0_6, slP (kInt .u8) v_k_0_9 k_0_9, slP (kInt .u8) v_k_0_11 k_0_11, slP k_api_Instr v_k_0_18 k_0_18, slP (kInt .u8) v_k_0_20 k_0_20] [slO (kInt .u8) 5 v5308 l5307, arrK k_types_Row b1 [v_k_0_2, v_k_0_4, v_k_0_6, .int .i64 k_0_8, v_k_0_9, v_k_0_11, .int .u8 k_0_13, .bool k_0_14, .int .i64 k_0_15, .int .i64 k_0_16, .int .i64 k_0_17, v_k_0_18, v_k_0_20] 200 l5302 [] 67, boxO b33 [v5305, v5308] 118, boxO b26 [(.slice none 0 0), (.slice none 0 0)] 118] w2) ?_ ?_
 ·rintro a w2 ⟨l5302, l5304, l5307, v5305, v5308, ho, ha, hw⟩
  refine CP.app ha hw ?_
  clear ha hw a w2
  refine go ?_
  refine SP.val (Val.loadA 2 rfl Tryz.underlying118 rfl sz118 rfl rfl rfl) rfl rfl rfl ?_
  refine SP.have (fun w2 hw => slR.shape (St.pers 0 rfl see.sub see.dj hw)) (fun hs_v5305 => ?_)
  refine SP.have (fun w2 hw => slO.shape (St.own 0 rfl see.sub see.dj hw)) (fun hs_v5308 => ?_)
  refine SP.store (v := .agg #[v5305, v5308]) (vs := [v5305, v5308]) 3 (by rfl) sz118 (by rfl) (by rfl) (by rfl) (by rfl) (one_cons hs_v5305 (one_cons hs_v5308 (rfl))) (by rfl) ?_
  refine go ?_
  obtain rfl := Option.some.inj ho
  exact QE.rets (rs := [.cell 6 118]) (vs := [.agg #[v5305, v5308]]) Tryz.results61 rfl ⟨RVs.cellA 3 rfl rfl Tryz.underlying118 rfl sz118, trivial⟩ (fun w2 h => St.done (fun a b p s => ⟨_, _, rfl, ⟨em, _, Dj.em_left _, Sub.em _, Sub.refl _, p.get 0 rfl, s⟩⟩) (St.selO [0, 1] rfl rfl h))
 refine go ?_
 refine CP.join (fun a w2 => ∃ l5300 : List Int, ∃ v5301 : Value, types_look_shape_s1.j2 k_0_2 k_0_4 k_0_6 k_0_8 k_0_9 k_0_11 k_0_13 k_0_14 k_0_15 k_0_16 k_0_17 k_0_18 k_0_20 l22 i_1 row_2 t28 l5300 = some r ∧ Env ⟨106, []⟩ [(6, .pointer (some ⟨b26, 0, none⟩)), (7, .pointer (some ⟨b33, 0, none⟩)), (10, v40)] a ∧ St w hA hV [slP k_api_Value v_k_0_2 k_0_2, slP k_api_Value v_k_0_4 k_0_4, slP k_api_Method v_k_0_6 k_0_6, slP (kInt .u8) v_k_0_9 k_0_9, slP (kInt .u8) v_k_0_11 k_0_11, slP k_api_Instr v_k_0_18 k_0_18, slP (kInt .u8) v_k_0_20 k_0_20] [slO (kInt .u8) 5 v5301 l5300, slO (kInt .u8) 5 v40 [0], boxO b33 [v29, v5301] 118, slO (kInt .u8) 5 v29 t28.1.Takes, boxO b26 [(.slice none 0 0), (.slice none 0 0)] 118, arrK k_types_Row b1 [v_k_0_2, v_k_0_4, v_k_0_6, .int .i64 k_0_8, v_k_0_9, v_k_0_11, .int .u8 k_0_13, .bool k_0_14, .int .i64 k_0_15, .int .i64 k_0_16, .int .i64 k_0_17, v_k_0_18, v_k_0_20] 200 l22 [] 67] w2) ?_ ?_
 ·rintro a w2 ⟨l5300, v5301, ho, ha, hw⟩
  refine CP.app ha hw ?_
  clear ha hw a w2
  refine go ?_
  refine SP.have (fun w2 hw => slO.shape (St.own 1 rfl see.sub see.dj hw)) (fun hs_v40 => ?_)
  refine SP.store (v := v40) (vs := [v40]) 2 (by rfl) sz38 (by rfl) (by rfl) (by rfl) (one_cells hs_v40) (one_cons hs_v40 (rfl)) (by rfl) ?_
  refine go ?_
  exact QE.meet fun a w2 ha hw => ⟨l22, [0], l5300, v40, v5301, ho, ha.sub sb, (St.selO [0, 4, 1, 3] rfl rfl (St.freezeS hw 1 rfl see))⟩
 refine go ?_
 refine CP.seq ?_
 refine go ?_
 refine CP.seq ?_
 refine go ?_
 refine CP.seq ?_
 refine go ?_
 refine CP.seq ?_
 refine go ?_
 refine CP.seq ?_
 refine go ?_
 refine CP.seq ?_
 refine go ?_
 refine CP.seq ?_
 refine CP.seq ?_
 refine CP.join (fun a w2 => ∃ b42 : Bool, types_look_shape_s1.j3 k_0_2 k_0_4 k_0_6 k_0_8 k_0_9 k_0_11 k_0_13 k_0_14 k_0_15 k_0_16 k_0_17 k_0_18 k_0_20 l22 i_1 row_2 t28 t37 b42 = some r ∧ Env ⟨106, []⟩ [(0, .pointer (some ⟨b1, 0, none⟩)), (4, .pointer (some ⟨b24, 0, none⟩)), (6, .pointer (some ⟨b26, 0, none⟩)), (7, .pointer (some ⟨b33, 0, none⟩)), (9, v38), (10, v40), (28, .int .u8 i_1.Op), (29, .bool b42)] a ∧ St w hA hV [slP k_api_Value v_k_0_2 k_0_2, slP k_api_Value v_k_0_4 k_0_4, slP k_api_Method v_k_0_6 k_0_6, slP (kInt .u8) v_k_0_9 k_0_9, slP (kInt .u8) v_k_0_11 k_0_11, slP k_api_Instr v_k_0_18 k_0_18, slP (kInt .u8) v_k_0_20 k_0_20] [slO (kInt .u8) 5 v40 [0], slO (kInt .u8) 5 v38 t37, boxO b33 [v29, v30] 118, slO (kInt .u8) 5 v29 t28.1.Takes, slO (kInt .u8) 5 v30 t28.1.Gives, boxO b26 [(.slice none 0 0), (.slice none 0 0)] 118, boxO b24 [.int .u8 i_1.Op, .int .i64 i_1.A, .int .i64 i_1.B] 56, arrK k_types_Row b1 [v_k_0_2, v_k_0_4, v_k_0_6, .int .i64 k_0_8, v_k_0_9, v_k_0_11, .int .u8 k_0_13, .bool k_0_14, .int .i64 k_0_15, .int .i64 k_0_16, .int .i64 k_0_17, v_k_0_18, v_k_0_20] 200 l22 [] 67] w2) ?_ ?_
 ·rintro a w2 ⟨b42, ho, ha, hw⟩
  refine CP.app ha hw ?_
  clear ha hw a w2
  refine CP.cb ho (fun ho => ?_) fun ho => ?_
  ·refine go ?_
   refine SP.val (Val.loadA 6 rfl Tryz.underlying56 rfl sz56 rfl rfl rfl) rfl rfl rfl ?_
   refine SP.imp (fun w2 hw => St.selO [7, 0, 1, 2, 3, 4, 5, 6] rfl rfl hw) ?_
   obtain ⟨t43, hc, ho⟩ := bind_some (x := types_look_named_s1.f k_0_2 k_0_4 k_0_6 k_0_8 k_0_9 k_0_11 k_0_13 k_0_14 k_0_15 k_0_16 k_0_17 k_0_18 k_0_20 l22 i_1) ho
   refine SP.callA see (caps := []) (X := arrK k_types_Row b1 [v_k_0_2, v_k_0_4, v_k_0_6, .int .i64 k_0_8, v_k_0_9, v_k_0_11, .int .u8 k_0_13, .bool k_0_14, .int .i64 k_0_15, .int .i64 k_0_16, .int .i64 k_0_17, v_k_0_18, v_k_0_20] 200 l22 [] 67) _ fn76 rfl rfl rfl rfl (fun w2 hP h1 sub s1 d1 ap hI => types_look_named_s1.ok _ _ _ _ _ _ _ _ _ _ _ _ _ _ _ _ _ _ _ _ _ _ _ hc w2 hP sub (ap.get 0 rfl) (ap.get 1 rfl) (ap.get 2 rfl) (ap.get 3 rfl) (ap.get 4 rfl) (ap.get 5 rfl) (ap.get 6 rfl) _ h1 s1 d1 hI) (SP.k0 ?_)
   clear hc
   refine SP.lit (k := (kInt .u8)) (xs := [t43.1]) (vs := [.int .u8 t43.1]) (cells := [.int .u8 t43.1]) Tryz.underlying38 inf5 rfl rfl rfl rfl rfl rfl rfl rfl (fun _ ap => ⟨[.int .u8 t43.1], _, rfl, rfl, rfl⟩) rfl rfl rfl (fun v44 => ?_)
   refine go ?_
   refine SP.have (fun w2 hw => slO.shape (St.own 0 rfl see.sub see.dj hw)) (fun hs_v44 => ?_)
   refine SP.store (v := v44) (vs := [v44]) 4 (by rfl) sz38 (by rfl) (by rfl) (by rfl) (one_cells hs_v44) (one_cons hs_v44 (rfl)) (by rfl) ?_
   refine go ?_
   exact QE.meet fun a w2 ha hw => ⟨t43.2, t28.1.Takes, [t43.1], v29, v44, ho, ha.sub sb, (St.selO [0, 1, 4, 6] rfl rfl (St.freezeS hw 5 rfl see))⟩
  refine go ?_
  refine CP.seq ?_
  refine CP.join (fun a w2 => ∃ b46 : Bool, types_look_shape_s1.j4 k_0_2 k_0_4 k_0_6 k_0_8 k_0_9 k_0_11 k_0_13 k_0_14 k_0_15 k_0_16 k_0_17 k_0_18 k_0_20 l22 i_1 row_2 t28 t37 b46 = some r ∧ Env ⟨106, []⟩ [(0, .pointer (some ⟨b1, 0, none⟩)), (4, .pointer (some ⟨b24, 0, none⟩)), (6, .pointer (some ⟨b26, 0, none⟩)), (7, .pointer (some ⟨b33, 0, none⟩)), (9, v38), (10, v40), (28, .int .u8 i_1.Op), (33, .bool b46)] a ∧ St w hA hV [slP k_api_Value v_k_0_2 k_0_2, slP k_api_Value v_k_0_4 k_0_4, slP k_api_Method v_k_0_6 k_0_6, slP (kInt .u8) v_k_0_9 k_0_9, slP (kInt .u8) v_k_0_11 k_0_11, slP k_api_Instr v_k_0_18 k_0_18, slP (kInt .u8) v_k_0_20 k_0_20] [slO (kInt .u8) 5 v40 [0], slO (kInt .u8) 5 v38 t37, boxO b33 [v29, v30] 118, slO (kInt .u8) 5 v29 t28.1.Takes, slO (kInt .u8) 5 v30 t28.1.Gives, boxO b26 [(.slice none 0 0), (.slice none 0 0)] 118, boxO b24 [.int .u8 i_1.Op, .int .i64 i_1.A, .int .i64 i_1.B] 56, arrK k_types_Row b1 [v_k_0_2, v_k_0_4, v_k_0_6, .int .i64 k_0_8, v_k_0_9, v_k_0_11, .int .u8 k_0_13, .bool k_0_14, .int .i64 k_0_15, .int .i64 k_0_16, .int .i64 k_0_17, v_k_0_18, v_k_0_20] 200 l22 [] 67] w2) ?_ ?_
  ·rintro a w2 ⟨b46, ho, ha, hw⟩
   refine CP.app ha hw ?_
   clear ha hw a w2
   refine CP.cb ho (fun ho => ?_) fun ho => ?_
   ·refine go ?_
    refine SP.val (Val.loadA 6 rfl Tryz.underlying56 rfl sz56 rfl rfl rfl) rfl rfl rfl ?_
    refine SP.imp (fun w2 hw => St.selO [7, 0, 1, 2, 3, 4, 5, 6] rfl rfl hw) ?_
    obtain ⟨t47, hc, ho⟩ := bind_some (x := types_look_named_s1.f k_0_2 k_0_4 k_0_6 k_0_8 k_0_9 k_0_11 k_0_13 k_0_14 k_0_15 k_0_16 k_0_17 k_0_18 k_0_20 l22 i_1) ho
    refine SP.callA see (caps := []) (X := arrK k_types_Row b1 [v_k_0_2, v_k_0_4, v_k_0_6, .int .i64 k_0_8, v_k_0_9, v_k_0_11, .int .u8 k_0_13, .bool k_0_14, .int .i64 k_0_15, .int .i64 k_0_16, .int .i64 k_0_17, v_k_0_18, v_k_0_20] 200 l22 [] 67) _ fn76 rfl rfl rfl rfl (fun w2 hP h1 sub s1 d1 ap hI => types_look_named_s1.ok _ _ _ _ _ _ _ _ _ _ _ _ _ _ _ _ _ _ _ _ _ _ _ hc w2 hP sub (ap.get 0 rfl) (ap.get 1 rfl) (ap.get 2 rfl) (ap.get 3 rfl) (ap.get 4 rfl) (ap.get 5 rfl) (ap.get 6 rfl) _ h1 s1 d1 hI) (SP.k0 ?_)
    clear hc
    refine SP.lit (k := (kInt .u8)) (xs := [t47.1]) (vs := [.int .u8 t47.1]) (cells := [.int .u8 t47.1]) Tryz.underlying38 inf5 rfl rfl rfl rfl rfl rfl rfl rfl (fun _ ap => ⟨[.int .u8 t47.1], _, rfl, rfl, rfl⟩) rfl rfl rfl (fun v48 => ?_)
    refine go ?_
    refine SP.have (fun w2 hw => slO.shape (St.own 0 rfl see.sub see.dj hw)) (fun hs_v48 => ?_)
    refine SP.store (v := v48) (vs := [v48]) 4 (by rfl) sz38 (by rfl) (by rfl) (by rfl) (one_cells hs_v48) (one_cons hs_v48 (rfl)) (by rfl) ?_
    refine go ?_
    exact QE.meet fun a w2 ha hw => ⟨t47.2, [t47.1], t28.1.Gives, v48, v30, ho, ha.sub sb, (St.selO [5, 0, 3, 6] rfl rfl (St.freezeS hw 0 rfl see))⟩
   refine go ?_
   refine CP.seq ?_
   refine go ?_
   refine CP.ci ho (fun ho => ?_) fun ho => ?_
   ·refine go ?_
    refine CP.seq ?_
    refine CP.drawA (by kernel_rfl) (fun w2 k h => h.drawn k) ?_
    obtain ⟨x52, hx, ho⟩ := elt_bind ho
    refine DA.ghost (fun w2 h => h.elem see 2 rfl hx.1 hx.2) (fun p50 h_p50 => ?_)
    clear hx
    refine DA.ghost (fun w2 h => h.fieldE see 0 rfl k_api_Method.part_Args) (fun p53 h_p53 => ?_)
    refine DA.ghost (fun w2 h => h.openE see 0 rfl (fun (v55 : Value) => [v55]) (fun (v55 : Value) => [slP (kInt .u8) v55 x52.Args]) (fun h cs ⟨v55, e, p0⟩ => ⟨v55, e, All.cons p0 (All.nil _)⟩)) (fun z_ _ => ?_)
    rename Value => v55
    obtain ⟨x60, hx, ho⟩ := elt_bind ho
    refine DA.ghost (fun w2 h => h.elem see 6 rfl hx.1 hx.2) (fun p58 h_p58 => ?_)
    clear hx
    refine DA.ghost (fun w2 h => h.fieldE see 0 rfl k_api_Method.part_Result) (fun p61 h_p61 => ?_)
    refine DA.ghost (fun w2 h => h.openE see 0 rfl (fun _ : Unit => [.int .u8 x60.Result]) (fun _ => []) (fun h cs e => ⟨(), e, All.nil _⟩)) (fun _ _ => ?_)
    refine (DA.phase (fun i => Nat.ble 0 i && Nat.blt i 23) (fun w2 => St w hA hV [atP p61 [.int .u8 x60.Result], elP (kInt .u8) p61 x60.Result, elP k_api_Method p58 x60, atP p53 [v55], slP (kInt .u8) v55 x52.Args, elP (kSl (kInt .u8)) p53 x52.Args, elP k_api_Method p50 x52, slP k_api_Value v_k_0_2 k_0_2, slP k_api_Value v_k_0_4 k_0_4, slP k_api_Method v_k_0_6 k_0_6, slP (kInt .u8) v_k_0_9 k_0_9, slP (kInt .u8) v_k_0_11 k_0_11, slP k_api_Instr v_k_0_18 k_0_18, slP (kInt .u8) v_k_0_20 k_0_20] [slO (kInt .u8) 5 v40 [0], slO (kInt .u8) 5 v38 t37, slO (kInt .u8) 5 v29 t28.1.Takes, slO (kInt .u8) 5 v30 t28.1.Gives, boxO b26 [(.slice none 0 0), (.slice none 0 0)] 118, boxO b24 [.int .u8 i_1.Op, .int .i64 i_1.A, .int .i64 i_1.B] 56, arrK k_types_Row b1 [v_k_0_2, v_k_0_4, v_k_0_6, .int .i64 k_0_8, v_k_0_9, v_k_0_11, .int .u8 k_0_13, .bool k_0_14, .int .i64 k_0_15, .int .i64 k_0_16, .int .i64 k_0_17, v_k_0_18, v_k_0_20] 200 l22 [] 67] w2) ?_)
    refine DT.ts 0 rfl (Val.move rfl) (fun w2 hw => (St.selO [0, 1, 3, 4, 5, 6, 7] rfl rfl hw)) ?_
    refine DT.ts 1 rfl (Val.nilCheck rfl) (fun w2 hw => (St.selO [0, 1, 3, 4, 5, 6, 7] rfl rfl hw)) ?_
    refine DT.ts 2 rfl (Val.fieldAddr Tryz.underlying67 rfl sz25 rfl) (fun w2 hw => (St.selO [0, 1, 3, 4, 5, 6, 7] rfl rfl hw)) ?_
    refine DT.ts 3 rfl (Val.fieldAddr Tryz.underlying25 rfl sz23 rfl) (fun w2 hw => (St.selO [0, 1, 3, 4, 5, 6, 7] rfl rfl hw)) ?_
    refine DT.ts 4 rfl (Val.loadKPre1 see 6 rfl Tryz.underlying23 rfl rfl rfl) (fun w2 hw => (St.selO [0, 1, 3, 4, 5, 6, 7] rfl rfl hw)) ?_
    refine DT.ts 5 rfl (Val.fieldAddr Tryz.underlying56 rfl sz3 rfl) (fun w2 hw => (St.selO [0, 1, 3, 4, 5, 6, 7] rfl rfl hw)) ?_
    refine DT.ts 6 rfl (Val.load1 5 rfl Tryz.underlying3 rfl rfl rfl) (fun w2 hw => (St.selO [0, 1, 3, 4, 5, 6, 7] rfl rfl hw)) ?_
    refine DT.ts 7 rfl (Val.indexE h_p50 Tryz.underlying23 sz48 rfl rfl) (fun w2 hw => (St.selO [0, 1, 3, 4, 5, 6, 7] rfl rfl hw)) ?_
    refine DT.ts 8 rfl (Val.fieldE h_p53 Tryz.underlying48 rfl rfl sz38 rfl) (fun w2 hw => (St.selO [0, 1, 3, 4, 5, 6, 7] rfl rfl hw)) ?_
    refine DT.ts 9 rfl (Val.loadAt1 see 3 rfl Tryz.underlying38 rfl rfl) (fun w2 hw => (St.selO [0, 1, 3, 4, 5, 6, 7] rfl rfl hw)) ?_
    refine DT.ts 10 rfl (Val.move rfl) (fun w2 hw => (St.selO [0, 1, 3, 4, 5, 6, 7] rfl rfl hw)) ?_
    refine DT.ts 11 rfl (Val.nilCheck rfl) (fun w2 hw => (St.selO [0, 1, 3, 4, 5, 6, 7] rfl rfl hw)) ?_
    refine DT.ts 12 rfl (Val.fieldAddr Tryz.underlying67 rfl sz25 rfl) (fun w2 hw => (St.selO [0, 1, 3, 4, 5, 6, 7] rfl rfl hw)) ?_
    refine DT.ts 13 rfl (Val.fieldAddr Tryz.underlying25 rfl sz23 rfl) (fun w2 hw => (St.selO [0, 1, 3, 4, 5, 6, 7] rfl rfl hw)) ?_
    refine DT.ts 14 rfl (Val.loadKPre1 see 6 rfl Tryz.underlying23 rfl rfl rfl) (fun w2 hw => (St.selO [0, 1, 3, 4, 5, 6, 7] rfl rfl hw)) ?_
    refine DT.ts 15 rfl (Val.fieldAddr Tryz.underlying56 rfl sz3 rfl) (fun w2 hw => (St.selO [0, 1, 3, 4, 5, 6, 7] rfl rfl hw)) ?_
    refine DT.ts 16 rfl (Val.load1 5 rfl Tryz.underlying3 rfl rfl rfl) (fun w2 hw => (St.selO [0, 1, 3, 4, 5, 6, 7] rfl rfl hw)) ?_
    refine DT.ts 17 rfl (Val.indexE h_p58 Tryz.underlying23 sz48 rfl rfl) (fun w2 hw => (St.selO [0, 1, 3, 4, 5, 6, 7] rfl rfl hw)) ?_
    refine DT.ts 18 rfl (Val.fieldE h_p61 Tryz.underlying48 rfl rfl sz5 rfl) (fun w2 hw => (St.selO [0, 1, 3, 4, 5, 6, 7] rfl rfl hw)) ?_
    refine DT.ts 19 rfl (Val.loadAt1 see 0 rfl Tryz.underlying5 rfl rfl) (fun w2 hw => (St.selO [0, 1, 3, 4, 5, 6, 7] rfl rfl hw)) ?_
    refine DT.ts 21 rfl (Val.fieldAddr Tryz.underlying118 rfl sz38 rfl) (fun w2 hw => (St.selO [0, 1, 3, 4, 5, 6, 7] rfl rfl hw)) ?_
    refine DT.list (l2 := #[true, true, true, true, true, true, true, true, true, true, true, true, true, true, true, true, true, true, true, true, false, true, false, false, false]) (by kernel_rfl) ?_
    refine DT.cut (ι := Value) (fun z => [(6, .pointer (some ⟨b26, 0, none⟩)), (7, .pointer (some ⟨b33, 0, none⟩)), (74, z)]) (fun z w2 => St w hA hV [atP p61 [.int .u8 x60.Result], elP (kInt .u8) p61 x60.Result, elP k_api_Method p58 x60, atP p53 [v55], slP (kInt .u8) v55 x52.Args, elP (kSl (kInt .u8)) p53 x52.Args, elP k_api_Method p50 x52, slP k_api_Value v_k_0_2 k_0_2, slP k_api_Value v_k_0_4 k_0_4, slP k_api_Method v_k_0_6 k_0_6, slP (kInt .u8) v_k_0_9 k_0_9, slP (kInt .u8) v_k_0_11 k_0_11, slP k_api_Instr v_k_0_18 k_0_18, slP (kInt .u8) v_k_0_20 k_0_20] [slO (kInt .u8) 5 z [x60.Result], slO (kInt .u8) 5 v40 [0], slO (kInt .u8) 5 v38 t37, boxO b33 [v55, v30] 118, slO (kInt .u8) 5 v29 t28.1.Takes, slO (kInt .u8) 5 v30 t28.1.Gives, boxO b26 [(.slice none 0 0), (.slice none 0 0)] 118, boxO b24 [.int .u8 i_1.Op, .int .i64 i_1.A, .int .i64 i_1.B] 56, arrK k_types_Row b1 [v_k_0_2, v_k_0_4, v_k_0_6, .int .i64 k_0_8, v_k_0_9, v_k_0_11, .int .u8 k_0_13, .bool k_0_14, .int .i64 k_0_15, .int .i64 k_0_16, .int .i64 k_0_17, v_k_0_18, v_k_0_20] 200 l22 [] 67] w2) 2 #[true, true, true, true, true, true, true, true, true, true, true, true, true, true, true, true, true, true, true, true, true, true, true, false, false] (fun z => ?_) (fun J5282 => ?_)
    ·rename Value => v4270
     refine DT.next (by kernel_rfl) ?_
     refine DA.one 23 rfl (by kernel_rfl) ?_
     refine go ?_
     refine QE.atA ?_
     refine DA.one 24 rfl (by kernel_rfl) ?_
     refine SP.have (fun w2 hw => slO.shape (St.own 0 rfl see.sub see.dj hw)) (fun hs_v4270 => ?_)
     refine SP.store (v := v4270) (vs := [v4270]) 3 (by rfl) sz38 (by rfl) (by rfl) (by rfl) (one_cells hs_v4270) (one_cons hs_v4270 (rfl)) (by rfl) ?_
     refine go ?_
     refine QE.atA ?_
     refine DA.done (by kernel_rfl) ?_
     refine go ?_
     exact QE.meet fun a w2 ha hw => ⟨l22, x52.Args, [x60.Result], v55, v4270, ho, ha.sub sb, (St.selP [4, 7, 8, 9, 10, 11, 12, 13] rfl (St.selO [0, 8, 3, 6] rfl rfl hw))⟩
    refine DT.cut (ι := Value) (fun z => [(6, .pointer (some ⟨b26, 0, none⟩)), (7, .pointer (some ⟨b33, 0, none⟩)), (63, v55), (74, z), (75, .pointer (some ⟨b33, 0, none⟩))]) (fun z w2 => St w hA hV [atP p61 [.int .u8 x60.Result], elP (kInt .u8) p61 x60.Result, elP k_api_Method p58 x60, atP p53 [v55], slP (kInt .u8) v55 x52.Args, elP (kSl (kInt .u8)) p53 x52.Args, elP k_api_Method p50 x52, slP k_api_Value v_k_0_2 k_0_2, slP k_api_Value v_k_0_4 k_0_4, slP k_api_Method v_k_0_6 k_0_6, slP (kInt .u8) v_k_0_9 k_0_9, slP (kInt .u8) v_k_0_11 k_0_11, slP k_api_Instr v_k_0_18 k_0_18, slP (kInt .u8) v_k_0_20 k_0_20] [slO (kInt .u8) 5 z [x60.Result], slO (kInt .u8) 5 v40 [0], slO (kInt .u8) 5 v38 t37, boxO b33 [v29, v30] 118, slO (kInt .u8) 5 v29 t28.1.Takes, slO (kInt .u8) 5 v30 t28.1.Gives, boxO b26 [(.slice none 0 0), (.slice none 0 0)] 118, boxO b24 [.int .u8 i_1.Op, .int .i64 i_1.A, .int .i64 i_1.B] 56, arrK k_types_Row b1 [v_k_0_2, v_k_0_4, v_k_0_6, .int .i64 k_0_8, v_k_0_9, v_k_0_11, .int .u8 k_0_13, .bool k_0_14, .int .i64 k_0_15, .int .i64 k_0_16, .int .i64 k_0_17, v_k_0_18, v_k_0_20] 200 l22 [] 67] w2) 3 #[true, true, true, true, true, true, true, true, true, true, true, true, true, true, true, true, true, true, true, true, true, true, false, false, false] (fun z => ?_) (fun J5283 => ?_)
    ·rename Value => v4270
     refine DT.one 22 rfl (by kernel_rfl) rfl ?_
     refine SP.have (fun w2 hw => slR.shape (St.pers 4 rfl see.sub see.dj hw)) (fun hs_v55 => ?_)
     refine SP.store (v := v55) (vs := [v55]) 3 (by rfl) sz38 (by rfl) (by rfl) (by rfl) (one_cells hs_v55) (one_cons hs_v55 (rfl)) (by rfl) ?_
     refine go ?_
     refine QE.atT (fun w2 hw => (St.selO [1, 2, 4, 5, 6, 7, 8] rfl rfl hw)) ?_
     refine DT.list (l2 := #[true, true, true, true, true, true, true, true, true, true, true, true, true, true, true, true, true, true, true, true, true, true, true, false, false]) (by kernel_rfl) ?_
     exact DT.weak (by exact ⟨rfl, rfl, rfl, trivial⟩) (by exact fun w2 hw => hw) (J5282 v4270)
    refine DT.cut (ι := Unit) (fun z => [(6, .pointer (some ⟨b26, 0, none⟩)), (7, .pointer (some ⟨b33, 0, none⟩)), (73, .int .u8 x60.Result)]) (fun z w2 => St w hA hV [atP p61 [.int .u8 x60.Result], elP (kInt .u8) p61 x60.Result, elP k_api_Method p58 x60, atP p53 [v55], slP (kInt .u8) v55 x52.Args, elP (kSl (kInt .u8)) p53 x52.Args, elP k_api_Method p50 x52, slP k_api_Value v_k_0_2 k_0_2, slP k_api_Value v_k_0_4 k_0_4, slP k_api_Method v_k_0_6 k_0_6, slP (kInt .u8) v_k_0_9 k_0_9, slP (kInt .u8) v_k_0_11 k_0_11, slP k_api_Instr v_k_0_18 k_0_18, slP (kInt .u8) v_k_0_20 k_0_20] [slO (kInt .u8) 5 v40 [0], slO (kInt .u8) 5 v38 t37, boxO b33 [v55, v30] 118, slO (kInt .u8) 5 v29 t28.1.Takes, slO (kInt .u8) 5 v30 t28.1.Gives, boxO b26 [(.slice none 0 0), (.slice none 0 0)] 118, boxO b24 [.int .u8 i_1.Op, .int .i64 i_1.A, .int .i64 i_1.B] 56, arrK k_types_Row b1 [v_k_0_2, v_k_0_4, v_k_0_6, .int .i64 k_0_8, v_k_0_9, v_k_0_11, .int .u8 k_0_13, .bool k_0_14, .int .i64 k_0_15, .int .i64 k_0_16, .int .i64 k_0_17, v_k_0_18, v_k_0_20] 200 l22 [] 67] w2) 3 #[true, true, true, true, true, true, true, true, true, true, true, true, true, true, true, true, true, true, true, true, false, true, true, false, false] (fun z => ?_) (fun J5284 => ?_)
    ·refine DT.one 20 rfl (by kernel_rfl) rfl ?_
     refine SP.lit (k := (kInt .u8)) (xs := [x60.Result]) (vs := [.int .u8 x60.Result]) (cells := [.int .u8 x60.Result]) Tryz.underlying38 inf5 rfl rfl rfl rfl rfl rfl rfl rfl (fun _ ap => ⟨[.int .u8 x60.Result], _, rfl, rfl, rfl⟩) rfl rfl rfl (fun v4270 => ?_)
     refine go ?_
     refine QE.atT (fun w2 hw => (St.selO [1, 2, 4, 5, 6, 7, 8] rfl rfl hw)) ?_
     refine DT.list (l2 := #[true, true, true, true, true, true, true, true, true, true, true, true, true, true, true, true, true, true, true, true, true, true, true, false, false]) (by kernel_rfl) ?_
     exact DT.weak (by exact ⟨rfl, rfl, rfl, trivial⟩) (by exact fun w2 hw => hw) (J5282 v4270)
    refine DT.any 20 [22] (by kernel_rfl) ⟨⟨_, rfl, rfl, ?_⟩, ⟨_, rfl, rfl, ?_⟩, trivial⟩
    ·refine SP.lit (k := (kInt .u8)) (xs := [x60.Result]) (vs := [.int .u8 x60.Result]) (cells := [.int .u8 x60.Result]) Tryz.underlying38 inf5 rfl rfl rfl rfl rfl rfl rfl rfl (fun _ ap => ⟨[.int .u8 x60.Result], _, rfl, rfl, rfl⟩) rfl rfl rfl (fun v4270 => ?_)
     refine go ?_
     refine QE.atT (fun w2 hw => (St.selO [1, 2, 4, 5, 6, 7, 8] rfl rfl hw)) ?_
     refine DT.list (l2 := #[true, true, true, true, true, true, true, true, true, true, true, true, true, true, true, true, true, true, true, true, true, true, false, false, false]) (by kernel_rfl) ?_
     exact DT.weak (by exact ⟨rfl, rfl, rfl, rfl, rfl, trivial⟩) (by exact fun w2 hw => hw) (J5283 v4270)
    refine SP.have (fun w2 hw => slR.shape (St.pers 4 rfl see.sub see.dj hw)) (fun hs_v55 => ?_)
    refine SP.store (v := v55) (vs := [v55]) 2 (by rfl) sz38 (by rfl) (by rfl) (by rfl) (one_cells hs_v55) (one_cons hs_v55 (rfl)) (by rfl) ?_
    refine go ?_
    refine QE.atT (fun w2 hw => (St.selO [0, 1, 3, 4, 5, 6, 7] rfl rfl hw)) ?_
    refine DT.list (l2 := #[true, true, true, true, true, true, true, true, true, true, true, true, true, true, true, true, true, true, true, true, false, true, true, false, false]) (by kernel_rfl) ?_
    exact DT.weak (by exact ⟨rfl, rfl, rfl, trivial⟩) (by exact fun w2 hw => hw) (J5284 ())
   refine go ?_
   refine CP.seq ?_
   refine go ?_
   refine CP.ci ho (fun ho => ?_) fun ho => ?_
   ·refine go ?_
    refine SP.val (Val.loadKPre1 see 7 rfl Tryz.underlying5 rfl rfl rfl) rfl rfl rfl ?_
    refine SP.lit (k := (kInt .u8)) (xs := [k_0_13]) (vs := [.int .u8 k_0_13]) (cells := [.int .u8 k_0_13]) Tryz.underlying38 inf5 rfl rfl rfl rfl rfl rfl rfl rfl (fun _ ap => ⟨[.int .u8 k_0_13], _, rfl, rfl, rfl⟩) rfl rfl rfl (fun v5287 => ?_)
    refine go ?_
    refine SP.have (fun w2 hw => slO.shape (St.own 0 rfl see.sub see.dj hw)) (fun hs_v5287 => ?_)
    refine SP.store (v := v5287) (vs := [v5287]) 3 (by rfl) sz38 (by rfl) (by rfl) (by rfl) (one_cells hs_v5287) (one_cons hs_v5287 (rfl)) (by rfl) ?_
    refine go ?_
    exact QE.meet fun a w2 ha hw => ⟨l22, [k_0_13], t28.1.Gives, v5287, v30, ho, ha.sub sb, (St.selO [4, 7, 2, 5] rfl rfl (St.freezeS hw 0 rfl see))⟩
   refine go ?_
   refine CP.seq ?_
   refine go ?_
   refine CP.ci ho (fun ho => ?_) fun ho => ?_
   ·refine go ?_
    refine CP.seq ?_
    refine go ?_
    refine SP.have (fun w2 hw => slO.shape (St.own 1 rfl see.sub see.dj hw)) (fun hs_v38 => ?_)
    refine SP.store (v := v38) (vs := [v38]) 2 (by rfl) sz38 (by rfl) (by rfl) (by rfl) (one_cells hs_v38) (one_cons hs_v38 (rfl)) (by rfl) ?_
    refine go ?_
    refine SP.imp (fun w2 hw => St.selO [1, 0, 2, 3, 4, 5, 6, 7] rfl rfl hw) ?_
    obtain ⟨hb, ho⟩ := must_some ho
    refine SP.callA see (caps := []) (X := slO (kInt .u8) 5 v38 t37) (fun r => HO.pand (r = .tuple #[]) (HO.seps [slO (kInt .u8) 5 v38 t37.reverse])) fn77 rfl rfl rfl rfl (fun w2 hP h1 sub s1 d1 ap hI => reverse77_trip hb sub s1 d1 hI) (SP.k0 ?_)
    clear hb
    refine go ?_
    refine SP.lit (k := (kInt .u8)) (xs := [0]) (vs := [.int .u8 0]) (cells := [.int .u8 0]) Tryz.underlying38 inf5 rfl rfl rfl rfl rfl rfl rfl rfl (fun _ ap => ⟨[.int .u8 0], _, rfl, rfl, rfl⟩) rfl rfl rfl (fun v5290 => ?_)
    refine SP.freezeS see 0 rfl ?_
    obtain ⟨hb, ho⟩ := must_some ho
    refine SP.append see 1 rfl 0 rfl Tryz.underlying38 inf5 rfl rfl hb rfl rfl rfl rfl rfl (fun v5292 => ?_)
    clear hb
    refine go ?_
    refine SP.have (fun w2 hw => slO.shape (St.own 1 rfl see.sub see.dj hw)) (fun hs_v5292 => ?_)
    refine SP.store (v := v5292) (vs := [v5292]) 2 (by rfl) sz38 (by rfl) (by rfl) (by rfl) (one_cells hs_v5292) (one_cons hs_v5292 (rfl)) (by rfl) ?_
    refine go ?_
    exact QE.meet fun a w2 ha hw => ⟨l22, ([0] ++ [0]), t37.reverse, v5292, v38, ho, ha.sub sb, (St.selP [0, 2, 3, 4, 5, 6, 7, 8] rfl (St.selO [0, 6, 1, 4] rfl rfl (St.freezeS hw 1 rfl see)))⟩
   refine go ?_
   refine CP.ci ho (fun ho => ?_) fun ho => ?_
   ·refine go ?_
    refine SP.val (Val.lenW (fun w2 hw => slO.whole (St.own 1 rfl see.sub see.dj hw)) Tryz.underlying38 rfl) rfl rfl rfl ?_
    refine go ?_
    refine CP.ci ho (fun ho => ?_) fun ho => ?_
    ·refine go ?_
     refine SP.val (Val.lenW (fun w2 hw => slO.whole (St.own 1 rfl see.sub see.dj hw)) Tryz.underlying38 rfl) rfl rfl rfl ?_
     refine go ?_
     refine SP.freezeS see 1 rfl ?_
     obtain ⟨hz, ho⟩ := must_some ho
     refine SP.sliceFromP see 0 rfl Tryz.underlying38 sz5 rfl rfl hz rfl rfl (fun v5294 => ?_)
     clear hz
     obtain ⟨t5296, hc, ho⟩ := bind_some (x := slices_Repeat_uint8_uint8.f (t37.drop (IntKind.i64.wrap ((t37.length : Int) - 1) : Int).toNat) 2) ho
     refine SP.callK see (caps := []) _ fn78 rfl rfl rfl rfl (fun w2 hP hs sub ap => slices_Repeat_uint8_uint8.ok _ _ _ _ hc w2 hP sub (ap.get 0 rfl)) (SP.k1 fun v5297 => ?_)
     clear hc
     refine go ?_
     refine SP.have (fun w2 hw => slO.shape (St.own 0 rfl see.sub see.dj hw)) (fun hs_v5297 => ?_)
     refine SP.store (v := v5297) (vs := [v5297]) 2 (by rfl) sz38 (by rfl) (by rfl) (by rfl) (one_cells hs_v5297) (one_cons hs_v5297 (rfl)) (by rfl) ?_
     refine go ?_
     exact QE.meet fun a w2 ha hw => ⟨t5296, v5297, ho, ha.sub sb, (St.selP [2, 3, 4, 5, 6, 7, 8] rfl (St.selO [0, 1, 2, 3, 5, 7] rfl rfl hw))⟩
    refine go ?_
    exact QE.meet fun a w2 ha hw => ⟨t28.1.Gives, v30, ho, ha.sub sb, (St.selO [4, 0, 2, 3, 5, 7] rfl rfl hw)⟩
   refine go ?_
   exact QE.meet fun a w2 ha hw => ⟨t28.1.Gives, v30, ho, ha.sub sb, (St.selO [4, 0, 2, 3, 5, 7] rfl rfl hw)⟩
  refine go ?_
  refine CP.ci ho (fun ho => ?_) fun ho => ?_
  ·refine go ?_
   exact QE.meet fun a w2 ha hw => ⟨(decide (i_1.Op = 3)), ho, ha.sub sb, hw⟩
  refine go ?_
  exact QE.meet fun a w2 ha hw => ⟨(decide (i_1.Op = 5)), ho, ha.sub sb, hw⟩
 refine go ?_
 refine CP.ci ho (fun ho => ?_) fun ho => ?_
 ·refine go ?_
  exact QE.meet fun a w2 ha hw => ⟨(decide (i_1.Op = 1)), ho, ha.sub sb, (St.selP [1, 2, 3, 4, 5, 6, 7] rfl hw)⟩
 refine go ?_
 refine CP.ci ho (fun ho => ?_) fun ho => ?_
 ·refine go ?_
  exact QE.meet fun a w2 ha hw => ⟨(decide (i_1.Op = 2)), ho, ha.sub sb, (St.selP [1, 2, 3, 4, 5, 6, 7] rfl hw)⟩
 refine go ?_
 exact QE.meet fun a w2 ha hw => ⟨(decide (i_1.Op = 4)), ho, ha.sub sb, (St.selP [1, 2, 3, 4, 5, 6, 7] rfl hw)⟩
/-! ### (*capstan/types.look).after: function 43 -/
inductive types_look_after_s1.S where
  | start
  | l1 (t26 : op_Shape × (List types_Row)) (x60 : Int)

def types_look_after_s1.F (k_0_2 : List api_Value) (k_0_4 : List api_Value) (k_0_6 : List api_Method) (k_0_8 : Int) (k_0_9 : List Int) (k_0_11 : List Int) (k_0_13 : Int) (k_0_14 : Bool) (k_0_15 : Int) (k_0_16 : Int) (k_0_17 : Int) (k_0_18 : List api_Instr) (k_0_20 : List Int) (l22 : List types_Row) (i_1 : api_Instr) (row_2 : (List Int)) : types_look_after_s1.S → Option (types_look_after_s1.S ⊕ (((List Int) × Int) × (List types_Row)))
  | .start => (types_look_shape_s1.f k_0_2 k_0_4 k_0_6 k_0_8 k_0_9 k_0_11 k_0_13 k_0_14 k_0_15 k_0_16 k_0_17 k_0_18 k_0_20 l22 i_1 row_2).bind fun t26 => if (IntKind.i64.wrap ((row_2.length : Int) - (t26.1.Takes.length : Int))) < 0 then (some (.inr (([], 101), t26.2))) else (some (.inl (.l1 t26 0)))
  | .l1 t26 x60 => if x60 < (t26.1.Takes.length : Int) then ((elt t26.1.Takes x60).bind fun x64 => (if x64 ≠ 0 then ((elt row_2 (IntKind.i64.wrap ((IntKind.i64.wrap ((row_2.length : Int) - (t26.1.Takes.length : Int))) + x60))).bind fun x69 => some (decide (x64 ≠ x69))) else (some false)).bind fun t70 => if t70 = true then (some (.inr (([], 100), t26.2))) else (some (.inl (.l1 t26 (IntKind.i64.wrap (x60 + 1)))))) else (if (0 : Int) ≤ (IntKind.i64.wrap ((row_2.length : Int) - (t26.1.Takes.length : Int))) ∧ (IntKind.i64.wrap ((row_2.length : Int) - (t26.1.Takes.length : Int))) ≤ (row_2.length : Int) then ((slices_Concat_uint8_uint8.f [(row_2.take (IntKind.i64.wrap ((row_2.length : Int) - (t26.1.Takes.length : Int)) : Int).toNat), t26.1.Gives]).bind fun t84 => some (.inr ((t84, 0), t26.2))) else none)

def types_look_after_s1.f (k_0_2 : List api_Value) (k_0_4 : List api_Value) (k_0_6 : List api_Method) (k_0_8 : Int) (k_0_9 : List Int) (k_0_11 : List Int) (k_0_13 : Int) (k_0_14 : Bool) (k_0_15 : Int) (k_0_16 : Int) (k_0_17 : Int) (k_0_18 : List api_Instr) (k_0_20 : List Int) (l22 : List types_Row) (i_1 : api_Instr) (row_2 : (List Int)) : Option (((List Int) × Int) × (List types_Row)) := runF (types_look_after_s1.F k_0_2 k_0_4 k_0_6 k_0_8 k_0_9 k_0_11 k_0_13 k_0_14 k_0_15 k_0_16 k_0_17 k_0_18 k_0_20 l22 i_1 row_2) .start
theorem types_look_after_s1.ok (k_0_2 : List api_Value) (k_0_4 : List api_Value) (k_0_6 : List api_Method) (k_0_8 : Int) (k_0_9 : List Int) (k_0_11 : List Int) (k_0_13 : Int) (k_0_14 : Bool) (k_0_15 k_0_16 k_0_17 : Int) (k_0_18 : List api_Instr) (k_0_20 : List Int) (l22 : List types_Row) (i_1 : api_Instr) (row_2 : (List Int)) (v_k_0_2 v_k_0_4 : Value) (v_k_0_6 v_k_0_9 : Value) (v_k_0_11 v_k_0_18 : Value) (v_k_0_20 v_row_2 : Value) (r : ((List Int) × Int) × (List types_Row)) (H : types_look_after_s1.f k_0_2 k_0_4 k_0_6 k_0_8 k_0_9 k_0_11 k_0_13 k_0_14 k_0_15 k_0_16 k_0_17 k_0_18 k_0_20 l22 i_1 row_2 = some r) (w : World) (hV : Hp) (sV : Sub hV (hp w)) (h0 : slR k_api_Value hV v_k_0_2 k_0_2) (h1 : slR k_api_Value hV v_k_0_4 k_0_4) (h2 : slR k_api_Method hV v_k_0_6 k_0_6) (h3 : slR (kInt .u8) hV v_k_0_9 k_0_9) (h4 : slR (kInt .u8) hV v_k_0_11 k_0_11) (h5 : slR k_api_Instr hV v_k_0_18 k_0_18) (h6 : slR (kInt .u8) hV v_k_0_20 k_0_20) (h7 : slR (kInt .u8) hV v_row_2 row_2) (b1 : Nat) (hA : Hp) (sA : Sub hA (hp w)) (dA : Dj hV hA) (hI : (arrK k_types_Row b1 [v_k_0_2, v_k_0_4, v_k_0_6, .int .i64 k_0_8, v_k_0_9, v_k_0_11, .int .u8 k_0_13, .bool k_0_14, .int .i64 k_0_15, .int .i64 k_0_16, .int .i64 k_0_17, v_k_0_18, v_k_0_20] 200 l22 [] 67).p hV hA) :
    Trip Tryz.prog 43 [.pointer (some ⟨b1, 0, none⟩), .agg #[.int .u8 i_1.Op, .int .i64 i_1.A, .int .i64 i_1.B], v_row_2].toArray hA hV w (fun v => HO.ex fun u0 : Value => HO.pand (v = .tuple #[u0, .int .i64 r.1.2]) (HO.seps [slO (kInt .u8) 5 u0 r.1.1, arrK k_types_Row b1 [v_k_0_2, v_k_0_4, v_k_0_6, .int .i64 k_0_8, v_k_0_9, v_k_0_11, .int .u8 k_0_13, .bool k_0_14, .int .i64 k_0_15, .int .i64 k_0_16, .int .i64 k_0_17, v_k_0_18, v_k_0_20] 200 r.2 [] 67])) := by
 have see : Sees w hA hV := ⟨sV, dA⟩
 refine Trip.of (P := Tryz.prog) (n := ⟨52, []⟩) Tryz.func43 rfl ⟨rfl, rfl⟩ rfl (St.beginA (os := [arrK k_types_Row b1 [v_k_0_2, v_k_0_4, v_k_0_6, .int .i64 k_0_8, v_k_0_9, v_k_0_11, .int .u8 k_0_13, .bool k_0_14, .int .i64 k_0_15, .int .i64 k_0_16, .int .i64 k_0_17, v_k_0_18, v_k_0_20] 200 l22 [] 67]) sA (aS h0 (aS h1 (aS h2 (aS h3 (aS h4 (aS h5 (aS h6 (aS h7 (All.nil _))))))))) ⟨hA, em, Dj.em_right _, Sub.refl _, Sub.em _, hI, trivial⟩) ?_
 obtain ⟨n0, hi⟩ := runF_iff.1 H
 obtain ⟨m0, o, hm0, ho, hr⟩ := iter_some hi
 clear hi
 refine go ?_
 refine SP.box (cs := [.int .u8 i_1.Op, .int .i64 i_1.A, .int .i64 i_1.B]) rfl rfl rfl rfl (fun b24 => ?_)
 refine go ?_
 refine SP.val (Val.loadA 0 rfl Tryz.underlying56 rfl sz56 rfl rfl rfl) rfl rfl rfl ?_
 refine go ?_
 refine SP.imp (fun w2 hw => St.selO [1, 0] rfl rfl hw) ?_
 obtain ⟨t26, hc, ho⟩ := bind_some (x := types_look_shape_s1.f k_0_2 k_0_4 k_0_6 k_0_8 k_0_9 k_0_11 k_0_13 k_0_14 k_0_15 k_0_16 k_0_17 k_0_18 k_0_20 l22 i_1 row_2) ho
 refine SP.callA see (caps := []) (X := arrK k_types_Row b1 [v_k_0_2, v_k_0_4, v_k_0_6, .int .i64 k_0_8, v_k_0_9, v_k_0_11, .int .u8 k_0_13, .bool k_0_14, .int .i64 k_0_15, .int .i64 k_0_16, .int .i64 k_0_17, v_k_0_18, v_k_0_20] 200 l22 [] 67) _ fn61 rfl rfl rfl rfl (fun w2 hP h1 sub s1 d1 ap hI => types_look_shape_s1.ok _ _ _ _ _ _ _ _ _ _ _ _ _ _ _ _ _ _ _ _ _ _ _ _ _ hc w2 hP sub (ap.get 0 rfl) (ap.get 1 rfl) (ap.get 2 rfl) (ap.get 3 rfl) (ap.get 4 rfl) (ap.get 5 rfl) (ap.get 6 rfl) (ap.get 7 rfl) _ h1 s1 d1 hI) (SP.k2 fun v27 v28 => ?_)
 refine SP.imp (fun w2 h => St.toP 0 rfl h) ?_
 clear hc
 refine SP.alloc (cs := [(.slice none 0 0), (.slice none 0 0)]) inf118 rfl rfl (fun b31 => ?_)
 refine SP.have (fun w2 hw => slR.shape (St.pers 0 rfl see.sub see.dj hw)) (fun hs_v27 => ?_)
 refine SP.have (fun w2 hw => slO.shape (St.own 1 rfl see.sub see.dj hw)) (fun hs_v28 => ?_)
 refine SP.store (v := .agg #[v27, v28]) (vs := [v27, v28]) 0 (by rfl) sz118 (by rfl) (by rfl) (by rfl) (by rfl) (one_cons hs_v27 (one_cons hs_v28 (rfl))) (by rfl) ?_
 refine go ?_
 refine CP.seq ?_
 refine go ?_
 refine CP.ci ho (fun ho => ?_) fun ho => ?_
 ·refine go ?_
  obtain rfl := fin ho hr
  exact QE.rt fun _ h => (St.selO [0, 3] rfl rfl (St.addO (slO.nil (kInt .u8) 5) h))
 refine go ?_
 refine CP.seq ?_
 refine go ?_
 obtain rfl := Option.some.inj ho
 refine CP.loop (fun cl1 a w2 => ∃ x60 : Int, cl1 ≤ m0 ∧ iter (types_look_after_s1.F k_0_2 k_0_4 k_0_6 k_0_8 k_0_9 k_0_11 k_0_13 k_0_14 k_0_15 k_0_16 k_0_17 k_0_18 k_0_20 l22 i_1 row_2) cl1 (.l1 t26 x60) = some r ∧ Env ⟨52, []⟩ [(2, v_row_2), (8, .pointer (some ⟨b31, 0, none⟩)), (9, .int .i64 (IntKind.i64.wrap ((row_2.length : Int) - (t26.1.Takes.length : Int)))), (25, v27), (26, .int .i64 (t26.1.Takes.length : Int)), (27, .int .i64 x60)] a ∧ St w hA hV [slP (kInt .u8) v27 t26.1.Takes, slP k_api_Value v_k_0_2 k_0_2, slP k_api_Value v_k_0_4 k_0_4, slP k_api_Method v_k_0_6 k_0_6, slP (kInt .u8) v_k_0_9 k_0_9, slP (kInt .u8) v_k_0_11 k_0_11, slP k_api_Instr v_k_0_18 k_0_18, slP (kInt .u8) v_k_0_20 k_0_20, slP (kInt .u8) v_row_2 row_2] [boxO b31 [v27, v28] 118, slO (kInt .u8) 5 v28 t26.1.Gives, arrK k_types_Row b1 [v_k_0_2, v_k_0_4, v_k_0_6, .int .i64 k_0_8, v_k_0_9, v_k_0_11, .int .u8 k_0_13, .bool k_0_14, .int .i64 k_0_15, .int .i64 k_0_16, .int .i64 k_0_17, v_k_0_18, v_k_0_20] 200 t26.2 [] 67] w2) m0 (fun a w2 ha hw => ⟨0, Nat.le_refl _, hr, ha.sub sb, (St.selO [0, 1, 2] rfl rfl hw)⟩) ?_
 clear hr
 rintro cl1 a w2 ⟨x60, hc_l1, hi, ha, hw⟩
 obtain ⟨m61, o, hm_m61, ho, hr⟩ := iter_some hi
 refine CP.app ha hw ?_
 clear ha hw a w2 hi
 refine go ?_
 refine CP.seq ?_
 refine CP.ci ho (fun ho => ?_) fun ho => ?_
 ·refine go ?_
  refine CP.seq ?_
  refine go ?_
  obtain ⟨x64, hx, ho⟩ := elt_bind ho
  refine SP.indexP see 0 rfl Tryz.underlying38 sz5 hx.1 hx.2 rfl rfl rfl rfl (fun p62 => ?_)
  clear hx
  refine SP.val (Val.loadP1 see 0 rfl (fun _ _ e => e) Tryz.underlying5 rfl rfl) rfl rfl rfl ?_
  refine go ?_
  obtain ⟨t70, hg_t70, ho⟩ := bind_some ho
  refine SP.jn 9 [2, 8, 9, 25, 26, 27] 43 (.bool t70) ?_ ?_
  ·clear hg_t70
   refine go ?_
   refine CP.cb ho (fun ho => ?_) fun ho => ?_
   ·refine go ?_
    obtain rfl := fin ho hr
    exact QE.rt fun _ h => (St.selO [0, 3] rfl rfl (St.addO (slO.nil (kInt .u8) 5) h))
   refine go ?_
   obtain rfl := Option.some.inj ho
   exact QE.lower m61 (by omega) fun a w2 ha hw => ⟨(IntKind.i64.wrap (x60 + 1)), (by omega), hr, ha.sub sb, (St.selP [1, 2, 3, 4, 5, 6, 7, 8, 9] rfl hw)⟩
  refine SP.ci 34 hg_t70 (fun hq66 ho => ?_) fun hq66 ho => ?_
  ·refine go ?_
   obtain ⟨x69, hx, ho⟩ := elt_bind ho
   refine SP.indexP see 9 rfl Tryz.underlying38 sz5 hx.1 hx.2 rfl rfl rfl rfl (fun p67 => ?_)
   clear hx
   refine SP.val (Val.loadP1 see 0 rfl (fun _ _ e => e) Tryz.underlying5 rfl rfl) rfl rfl rfl ?_
   refine go ?_
   obtain rfl := Option.some.inj ho
   exact QE.jn fun w2 hw => (St.selP [1, 2, 3, 4, 5, 6, 7, 8, 9, 10] rfl hw)
  refine go ?_
  obtain rfl := Option.some.inj ho
  exact QE.jn fun w2 hw => hw
 refine go ?_
 refine CP.seq ?_
 refine CP.drawA (by kernel_rfl) (fun w2 k h => h.drawn k) ?_
 refine DA.ph 0 5 ?_
 refine DT.tk 0 ?_
 refine DT.tk 1 ?_
 refine DT.tk 3 ?_
 refine DT.tk 4 ?_
 refine DT.one 2 rfl (by kernel_rfl) rfl ?_
 obtain ⟨hz, ho⟩ := must_some ho
 refine SP.sliceToP see 8 rfl Tryz.underlying38 sz5 rfl rfl hz rfl rfl (fun v80 => ?_)
 clear hz
 refine go ?_
 refine QE.atT (fun w2 hw => (St.selP [1, 2, 3, 4, 5, 6, 7, 8, 9] rfl hw)) ?_
 refine DT.next (by kernel_rfl) ?_
 refine DA.one 5 rfl (by kernel_rfl) ?_
 refine SP.freezeS see 1 rfl ?_
 refine SP.litS (k := (kSl (kInt .u8))) (xs := [(row_2.take (IntKind.i64.wrap ((row_2.length : Int) - (t26.1.Takes.length : Int)) : Int).toNat), t26.1.Gives]) (vs := [v80, v28]) Tryz.underlying93 inf38 rfl rfl rfl rfl rfl rfl (fun _ ap => ⟨slR.cells1 (ap.get 1 rfl), slR.cells1 (ap.get 0 rfl), trivial⟩) (fun _ ap => ⟨[v80], _, rfl, ⟨_, rfl, ap.get 1 rfl⟩, ⟨[v28], _, rfl, ⟨_, rfl, ap.get 0 rfl⟩, rfl⟩⟩) rfl rfl rfl (fun v82 => ?_)
 refine go ?_
 refine QE.atA ?_
 refine DA.one 6 rfl (by kernel_rfl) ?_
 obtain ⟨t84, hc, ho⟩ := bind_some (x := slices_Concat_uint8_uint8.f [(row_2.take (IntKind.i64.wrap ((row_2.length : Int) - (t26.1.Takes.length : Int)) : Int).toNat), t26.1.Gives]) ho
 refine SP.callKO see (caps := []) _ fn21 rfl rfl rfl rfl (fun w2 hs => slices_Concat_uint8_uint8.ok _ _ _ hc w2 (hp w2) (Sub.refl _) (slO.read (St.own 0 rfl see.sub see.dj hs) (Sub.refl _) (Sub.refl _))) (fun v a a2 b ⟨v85, e, h⟩ => ⟨v85, e, (Sep.fcons (fun _ => slO.flip (fun _ _ _ _ h => h)) (fun _ => Sep.fnil)) h⟩) (SP.k1 fun v85 => ?_)
 clear hc
 refine go ?_
 refine QE.atA ?_
 refine DA.one 7 rfl (by kernel_rfl) ?_
 refine go ?_
 refine QE.atA ?_
 refine DA.one 8 rfl (by kernel_rfl) ?_
 refine go ?_
 refine QE.atA ?_
 refine DA.done (by kernel_rfl) ?_
 refine go ?_
 obtain rfl := fin ho hr
 exact QE.rt fun _ h => (St.selO [0, 3] rfl rfl h)
/-! ### capstan/op.Goes: function 62 -/
def op_Goes.f (op_0 : Int) : Option Bool :=
  (op_Known.f op_0).bind fun t1 => some (((t1 && (decide (op_0 ≠ 26))) && (decide (op_0 ≠ 31))) && (decide (op_0 ≠ 32)))
theorem op_Goes.ok (op_0 : Int)  (r : Bool) (H : op_Goes.f op_0 = some r) (w : World) (hV : Hp) (sV : Sub hV (hp w))  :
    Trip Tryz.prog 62 [.int .u8 op_0].toArray em hV w (fun v => HO.pure (v = .bool r)) := by
 have see : Sees w em hV := ⟨sV, Dj.em_right _⟩
 refine Trip.of (P := Tryz.prog) (n := ⟨17, []⟩) Tryz.func62 rfl ⟨rfl, rfl⟩ rfl (St.begin (All.nil _)) ?_
 have ho := H
 refine go ?_
 obtain ⟨t1, hc, ho⟩ := bind_some (x := op_Known.f op_0) ho
 refine SP.callV see (caps := []) (.bool t1) fn79 rfl rfl rfl rfl (fun w2 hP hs sub ap => op_Known.ok _  _ hc w2 hP sub ) ?_
 clear hc
 refine go ?_
 refine SP.jn 3 [0] 8 (.bool (t1 && (decide (op_0 ≠ 26)))) ?_ ?_
 ·refine go ?_
  refine SP.jn 3 [0] 12 (.bool ((t1 && (decide (op_0 ≠ 26))) && (decide (op_0 ≠ 31)))) ?_ ?_
  ·refine go ?_
   refine SP.jn 3 [] 16 (.bool (((t1 && (decide (op_0 ≠ 26))) && (decide (op_0 ≠ 31))) && (decide (op_0 ≠ 32)))) ?_ ?_
   ·refine go ?_
    obtain rfl := Option.some.inj ho
    exact QE.rt fun _ h => h
   refine SP.bb 13 (fun hq7 => ?_) fun hq7 => ?_
   ·refine go ?_
    exact QE.jb (and_t hq7 rfl) fun w2 hw => hw
   refine go ?_
   exact QE.jb (and_f hq7) fun w2 hw => hw
  refine SP.bb 9 (fun hq5 => ?_) fun hq5 => ?_
  ·refine go ?_
   exact QE.jb (and_t hq5 rfl) fun w2 hw => hw
  refine go ?_
  exact QE.jb (and_f hq5) fun w2 hw => hw
 refine SP.bb 5 (fun hq3 => ?_) fun hq3 => ?_
 ·refine go ?_
  exact QE.jb (and_t hq3 rfl) fun w2 hw => hw
 refine go ?_
 exact QE.jb (and_f hq3) fun w2 hw => hw
/-! ### capstan/op.Leads: function 63 -/
def op_Leads.f (op_0 : Int) : Option Bool :=
  (op_sign.f op_0).bind fun t1 => some (decide (t1 = 5))
theorem op_Leads.ok (op_0 : Int)  (r : Bool) (H : op_Leads.f op_0 = some r) (w : World) (hV : Hp) (sV : Sub hV (hp w))  :
    Trip Tryz.prog 63 [.int .u8 op_0].toArray em hV w (fun v => HO.pure (v = .bool r)) := by
 have see : Sees w em hV := ⟨sV, Dj.em_right _⟩
 refine Trip.of (P := Tryz.prog) (n := ⟨6, []⟩) Tryz.func63 rfl ⟨rfl, rfl⟩ rfl (St.begin (All.nil _)) ?_
 have ho := H
 refine go ?_
 obtain ⟨t1, hc, ho⟩ := bind_some (x := op_sign.f op_0) ho
 refine SP.callV see (caps := []) (.int .i64 t1) fn80 rfl rfl rfl rfl (fun w2 hP hs sub ap => op_sign.ok _  _ hc w2 hP sub ) ?_
 clear hc
 refine go ?_
 obtain rfl := Option.some.inj ho
 exact QE.rt fun _ h => h
/-! ### slices.Sort[[]int,int]: function 64 -/
shelf_lay_g SlLaysM.n5 Slgm 5 at Tryz 64 as Tryz.sorti64
/-- A row of numbers of one's own, sorted where it lies. -/
theorem srti64_trip {v : Value} {l : List Int} (hll : l.length < 4611686018427387904) {w : World} {hP h1 : Hp} (sub : Sub hP (hp w)) (s1 : Sub h1 (hp w)) (dj : Dj hP h1) (hI : (slO (kInt .i64) 3 v l).p hP h1) :
    Trip Tryz.prog 64 #[v] h1 hP w (fun r => HO.pand (r = .tuple #[]) (HO.seps [slO (kInt .i64) 3 v (l.mergeSort fun x y => decide (x ≤ y))])) := by
  have h := slO.rowTrip (P := Tryz.prog) (f := 64) (fun v => #[v]) (fun _ => .tuple #[]) (fun x => [Value.int .i64 x]) (fun h cs x => Iff.rfl) (fun d : Array Int => (d.toList.mergeSort fun x y => decide (x ≤ y)).toArray) (fun d => by simp) (fun blk cap d w hH hb hsz _ _ => ?_) (fun _ w hV sV => ?_) hll sub s1 dj hI
  · simpa using h
  · have := AnyM.slices_Sort_int Tryz.sorti64 blk 0 cap d.toList w (holdsOne.1 hH) hb (by simpa using hsz)
    refine this.mono fun e w' ⟨h1, n, os, h2⟩ => ⟨h1, n, os, h2.trans (Eq.symm sortOne)⟩
  · refine (AnyM.slices_Sort_int_none Tryz.sorti64 none 0 w).mono fun e w' ⟨he, hw⟩ => ?_
    subst hw
    exact ⟨_, he, Met.refl _, fun _ _ e _ => e, em, em, fun _ _ _ => rfl, fun _ _ _ => rfl, Dj.em_left _, Sub.em _, Sub.em _, rfl⟩


/-! ### slices.Compact[[]int,int]: function 65 -/
shelf_lay_g SlLaysN.n43 Slgn 43 at Tryz 65 as Tryz.compacti65
/-- A row of numbers of one's own, of which none stands behind its like. -/
theorem compacti65_trip {v : Value} {l : List Int} (hll : l.length < 4611686018427387904) {w : World} {hP h1 : Hp} (sub : Sub hP (hp w)) (s1 : Sub h1 (hp w)) (dj : Dj hP h1) (hI : (slO (kInt .i64) 3 v l).p hP h1) :
    Trip Tryz.prog 65 #[v] h1 hP w (fun r => HO.ex fun u : Value => HO.pand (r = u) (HO.seps [slO (kInt .i64) 3 u (Lib.compact l)])) := by
  have hle : (Lib.compact l).length ≤ l.length := compact_le l
  have h := slO.rowTrip (P := Tryz.prog) (f := 65) (fun v => #[v]) (fun v => shrinkV v (Lib.compact l).length) (fun x => [Value.int .i64 x]) (fun h cs x => Iff.rfl) (fun d : Array Int => (Lib.compact d.toList ++ List.replicate (d.size - (Lib.compact d.toList).length) 0).toArray) (fun d => by have := compact_le d.toList; simp at this ⊢; omega) (fun blk cap d w hH hb hsz hcap hd => ?_) (fun h0 w hV sV => ?_) hll sub s1 dj hI
  · exact slO.shrinkT (by simp only [List.length_append]; omega) (by simp) h
  · have := AnyG.slices_Compact_int Tryz.compacti65 blk 0 cap d.toList w (holdsOne.1 hH) (by simp; omega) (by simpa using hcap)
    refine this.mono fun e w' ⟨h1, n, h2⟩ => ⟨?_, n, #[], h2.trans (Eq.trans ?_ (Eq.symm sortOne))⟩
    · rw [h1, hd]; rfl
    · rw [grow_none]; simp
  · refine (AnyG.slices_Compact_int_empty Tryz.compacti65 none 0 w).mono fun e w' ⟨he, hw⟩ => ?_
    subst hw
    exact ⟨_, he, Met.refl _, fun _ _ e _ => e, em, em, fun _ _ _ => rfl, fun _ _ _ => rfl, Dj.em_left _, Sub.em _, Sub.em _, rfl⟩


/-! ### capstan/flow.Ways: function 44 -/
def flow_Ways.j2 (l_0 : (List api_Instr)) (a1 : Int) (l31 : List Int) : Option ((List Int) × Int) :=
  if l31.length < 4611686018427387904 then (if (l31.mergeSort fun x y => decide (x ≤ y)).length < 4611686018427387904 then (some ((Lib.compact (l31.mergeSort fun x y => decide (x ≤ y))), 0)) else none) else none

def flow_Ways.j1 (l_0 : (List api_Instr)) (a1 : Int) (x9 : api_Instr) (l19 : List Int) : Option ((List Int) × Int) :=
  if x9.Op = 29 then (if (l19.length + [IntKind.i64.wrap (x9.A + 1)].length) * 8 ≤ 140737488355328 then (flow_Ways.j2 l_0 a1 (l19 ++ [IntKind.i64.wrap (x9.A + 1)])) else none) else ((op_Leads.f x9.Op).bind fun t25 => if t25 = true then (if (l19.length + [x9.A].length) * 8 ≤ 140737488355328 then (flow_Ways.j2 l_0 a1 (l19 ++ [x9.A])) else none) else (flow_Ways.j2 l_0 a1 l19))

def flow_Ways.f (l_0 : (List api_Instr)) (a1 : Int) : Option ((List Int) × Int) :=
  (flow_Check.f l_0).bind fun t2 => if t2 ≠ 0 then (some ([], t2)) else (if ((decide (a1 < 0)) || (decide (a1 ≥ (l_0.length : Int)))) = true then (some ([], 2)) else ((elt l_0 a1).bind fun x9 => (op_Goes.f x9.Op).bind fun t12 => if t12 = true then (if (([] : List Int).length + [IntKind.i64.wrap (a1 + 1)].length) * 8 ≤ 140737488355328 then (flow_Ways.j1 l_0 a1 x9 (([] : List Int) ++ [IntKind.i64.wrap (a1 + 1)])) else none) else (flow_Ways.j1 l_0 a1 x9 [])))
theorem flow_Ways.ok (l_0 : (List api_Instr)) (a1 : Int) (v_l_0 : Value)  (r : (List Int) × Int) (H : flow_Ways.f l_0 a1 = some r) (w : World) (hV : Hp) (sV : Sub hV (hp w)) (h0 : slR k_api_Instr hV v_l_0 l_0) (h1 : (arrP k_arr136 0 tab0).p hV) :
    Trip Tryz.prog 44 [v_l_0, .int .i64 a1].toArray em hV w (fun v => HO.ex fun u0 : Value => HO.pand (v = .tuple #[u0, .int .i64 r.2]) (HO.seps [slO (kInt .i64) 3 u0 r.1])) := by
 have see : Sees w em hV := ⟨sV, Dj.em_right _⟩
 refine Trip.of (P := Tryz.prog) (n := ⟨57, []⟩) Tryz.func44 rfl ⟨rfl, rfl⟩ rfl (St.begin (aS h0 (All.cons (x := arrP k_arr136 0 tab0) h1 (All.nil _)))) ?_
 have ho := H
 refine go ?_
 refine CP.seq ?_
 refine go ?_
 obtain ⟨t2, hc, ho⟩ := bind_some (x := flow_Check.f l_0) ho
 refine SP.callV see (caps := []) (.int .i64 t2) fn20 rfl rfl rfl rfl (fun w2 hP hs sub ap => flow_Check.ok _ _ _ hc w2 hP sub (ap.get 0 rfl) (ap.get 1 rfl)) ?_
 clear hc
 refine go ?_
 refine CP.ci ho (fun ho => ?_) fun ho => ?_
 ·refine go ?_
  obtain rfl := Option.some.inj ho
  exact QE.rt fun _ h => (St.selO [0] rfl rfl (St.addO (slO.nil (kInt .i64) 3) h))
 refine go ?_
 refine CP.seq ?_
 refine go ?_
 refine SP.jn 5 [0, 1] 21 (.bool ((decide (a1 < 0)) || (decide (a1 ≥ (l_0.length : Int))))) ?_ ?_
 ·refine go ?_
  refine CP.cb ho (fun ho => ?_) fun ho => ?_
  ·refine go ?_
   obtain rfl := Option.some.inj ho
   exact QE.rt fun _ h => (St.selO [0] rfl rfl (St.addO (slO.nil (kInt .i64) 3) h))
  refine go ?_
  obtain ⟨x9, hx, ho⟩ := elt_bind ho
  refine SP.indexP see 0 rfl Tryz.underlying46 sz56 hx.1 hx.2 rfl rfl rfl rfl (fun p7 => ?_)
  clear hx
  refine k_api_Instr.load see 0 rfl Tryz.underlying56 rfl sz56 rfl rfl rfl ?_
  refine SP.alloc (cs := [.int .u8 0, .int .i64 0, .int .i64 0]) inf56 rfl rfl (fun b10 => ?_)
  refine SP.store (v := .agg #[.int .u8 x9.Op, .int .i64 x9.A, .int .i64 x9.B]) (vs := [.int .u8 x9.Op, .int .i64 x9.A, .int .i64 x9.B]) 0 (by rfl) sz56 (by rfl) (by rfl) (by rfl) (by rfl) (by rfl) (by rfl) ?_
  refine go ?_
  refine CP.join (fun a w2 => ∃ l19 : List Int, ∃ v20 : Value, flow_Ways.j1 l_0 a1 x9 l19 = some r ∧ Env ⟨57, []⟩ [(7, v20), (8, .pointer (some ⟨b10, 0, none⟩))] a ∧ St w em hV [arrP k_arr136 0 tab0] [slO (kInt .i64) 3 v20 l19, boxO b10 [.int .u8 x9.Op, .int .i64 x9.A, .int .i64 x9.B] 56] w2) ?_ ?_
  ·rintro a w2 ⟨l19, v20, ho, ha, hw⟩
   refine CP.app ha hw ?_
   clear ha hw a w2
   refine CP.join (fun a w2 => ∃ l31 : List Int, ∃ v32 : Value, flow_Ways.j2 l_0 a1 l31 = some r ∧ Env ⟨57, []⟩ [(7, v32)] a ∧ St w em hV [arrP k_arr136 0 tab0] [slO (kInt .i64) 3 v32 l31] w2) ?_ ?_
   ·rintro a w2 ⟨l31, v32, ho, ha, hw⟩
    refine CP.app ha hw ?_
    clear ha hw a w2
    refine go ?_
    obtain ⟨hb, ho⟩ := must_some ho
    refine SP.callA see (caps := []) (X := slO (kInt .i64) 3 v32 l31) (fun r => HO.pand (r = .tuple #[]) (HO.seps [slO (kInt .i64) 3 v32 (l31.mergeSort fun x y => decide (x ≤ y))])) fn64 rfl rfl rfl rfl (fun w2 hP h1 sub s1 d1 ap hI => srti64_trip hb sub s1 d1 hI) (SP.k0 ?_)
    clear hb
    refine go ?_
    obtain ⟨hb, ho⟩ := must_some ho
    refine SP.callA see (caps := []) (X := slO (kInt .i64) 3 v32 (l31.mergeSort fun x y => decide (x ≤ y))) (fun r => HO.ex fun u : Value => HO.pand (r = u) (HO.seps [slO (kInt .i64) 3 u (Lib.compact (l31.mergeSort fun x y => decide (x ≤ y)))])) fn65 rfl rfl rfl rfl (fun w2 hP h1 sub s1 d1 ap hI => compacti65_trip hb sub s1 d1 hI) (SP.k1 fun v35 => ?_)
    clear hb
    refine go ?_
    obtain rfl := Option.some.inj ho
    exact QE.rt fun _ h => (St.selO [0] rfl rfl h)
   refine go ?_
   refine CP.ci ho (fun ho => ?_) fun ho => ?_
   ·refine go ?_
    refine SP.lit (k := (kInt .i64)) (xs := [IntKind.i64.wrap (x9.A + 1)]) (vs := [.int .i64 (IntKind.i64.wrap (x9.A + 1))]) (cells := [.int .i64 (IntKind.i64.wrap (x9.A + 1))]) Tryz.underlying59 inf3 rfl rfl rfl rfl rfl rfl rfl rfl (fun _ ap => ⟨[.int .i64 (IntKind.i64.wrap (x9.A + 1))], _, rfl, rfl, rfl⟩) rfl rfl rfl (fun v21 => ?_)
    refine SP.freezeS see 0 rfl ?_
    obtain ⟨hb, ho⟩ := must_some ho
    refine SP.append see 0 rfl 0 rfl Tryz.underlying59 inf3 rfl rfl hb rfl rfl rfl rfl rfl (fun v23 => ?_)
    clear hb
    refine go ?_
    exact QE.meet fun a w2 ha hw => ⟨(l19 ++ [IntKind.i64.wrap (x9.A + 1)]), v23, ho, ha.sub sb, (St.selP [1] rfl (St.selO [0] rfl rfl hw))⟩
   refine go ?_
   obtain ⟨t25, hc, ho⟩ := bind_some (x := op_Leads.f x9.Op) ho
   refine SP.callV see (caps := []) (.bool t25) fn63 rfl rfl rfl rfl (fun w2 hP hs sub ap => op_Leads.ok _  _ hc w2 hP sub ) ?_
   clear hc
   refine go ?_
   refine CP.cb ho (fun ho => ?_) fun ho => ?_
   ·refine go ?_
    refine SP.lit (k := (kInt .i64)) (xs := [x9.A]) (vs := [.int .i64 x9.A]) (cells := [.int .i64 x9.A]) Tryz.underlying59 inf3 rfl rfl rfl rfl rfl rfl rfl rfl (fun _ ap => ⟨[.int .i64 x9.A], _, rfl, rfl, rfl⟩) rfl rfl rfl (fun v26 => ?_)
    refine SP.freezeS see 0 rfl ?_
    obtain ⟨hb, ho⟩ := must_some ho
    refine SP.append see 0 rfl 0 rfl Tryz.underlying59 inf3 rfl rfl hb rfl rfl rfl rfl rfl (fun v28 => ?_)
    clear hb
    refine go ?_
    exact QE.meet fun a w2 ha hw => ⟨(l19 ++ [x9.A]), v28, ho, ha.sub sb, (St.selP [1] rfl (St.selO [0] rfl rfl hw))⟩
   refine go ?_
   exact QE.meet fun a w2 ha hw => ⟨l19, v20, ho, ha.sub sb, (St.selO [0] rfl rfl hw)⟩
  refine go ?_
  obtain ⟨t12, hc, ho⟩ := bind_some (x := op_Goes.f x9.Op) ho
  refine SP.callV see (caps := []) (.bool t12) fn62 rfl rfl rfl rfl (fun w2 hP hs sub ap => op_Goes.ok _  _ hc w2 hP sub ) ?_
  clear hc
  refine go ?_
  refine CP.cb ho (fun ho => ?_) fun ho => ?_
  ·refine go ?_
   refine SP.lit (k := (kInt .i64)) (xs := [IntKind.i64.wrap (a1 + 1)]) (vs := [.int .i64 (IntKind.i64.wrap (a1 + 1))]) (cells := [.int .i64 (IntKind.i64.wrap (a1 + 1))]) Tryz.underlying59 inf3 rfl rfl rfl rfl rfl rfl rfl rfl (fun _ ap => ⟨[.int .i64 (IntKind.i64.wrap (a1 + 1))], _, rfl, rfl, rfl⟩) rfl rfl rfl (fun v13 => ?_)
   refine SP.imp (fun w2 hw => St.addO (slO.nil (kInt .i64) 3) hw) ?_
   refine SP.freezeS see 1 rfl ?_
   obtain ⟨hb, ho⟩ := must_some ho
   refine SP.append see 0 rfl 0 rfl Tryz.underlying59 inf3 rfl rfl hb rfl rfl rfl rfl rfl (fun v16 => ?_)
   clear hb
   refine go ?_
   exact QE.meet fun a w2 ha hw => ⟨(([] : List Int) ++ [IntKind.i64.wrap (a1 + 1)]), v16, ho, ha.sub sb, (St.selP [3] rfl hw)⟩
  refine go ?_
  exact QE.meet fun a w2 ha hw => ⟨[], (.slice none 0 0), ho, ha.sub sb, (St.selP [2] rfl (St.addO (slO.nil (kInt .i64) 3) hw))⟩
 refine SP.bb 16 (fun hq5 => ?_) fun hq5 => ?_
 ·refine go ?_
  exact QE.jb (or_t hq5) fun w2 hw => hw
 refine go ?_
 exact QE.jb (or_f hq5 rfl) fun w2 hw => hw
/-! ### slices.Equal[[]uint8,uint8]: function 45 -/
inductive slices_Equal_uint8_uint8.S where
  | start
  | l1 (x12 : Int)

def slices_Equal_uint8_uint8.F (s1_0 : (List Int)) (s2_1 : (List Int)) : slices_Equal_uint8_uint8.S → Option (slices_Equal_uint8_uint8.S ⊕ Bool)
  | .start => if (s1_0.length : Int) ≠ (s2_1.length : Int) then (some (.inr false)) else (some (.inl (.l1 0)))
  | .l1 x12 => if x12 < (s1_0.length : Int) then ((elt s1_0 x12).bind fun x16 => (elt s2_1 x12).bind fun x20 => if x16 ≠ x20 then (some (.inr false)) else (some (.inl (.l1 (IntKind.i64.wrap (x12 + 1)))))) else (some (.inr true))

def slices_Equal_uint8_uint8.f (s1_0 : (List Int)) (s2_1 : (List Int)) : Option Bool := runF (slices_Equal_uint8_uint8.F s1_0 s2_1) .start
theorem slices_Equal_uint8_uint8.ok (s1_0 : (List Int)) (s2_1 : (List Int)) (v_s1_0 v_s2_1 : Value) (r : Bool) (H : slices_Equal_uint8_uint8.f s1_0 s2_1 = some r) (w : World) (hV : Hp) (sV : Sub hV (hp w)) (h0 : slR (kInt .u8) hV v_s1_0 s1_0) (h1 : slR (kInt .u8) hV v_s2_1 s2_1) :
    Trip Tryz.prog 45 [v_s1_0, v_s2_1].toArray em hV w (fun v => HO.pure (v = .bool r)) := by
 have see : Sees w em hV := ⟨sV, Dj.em_right _⟩
 refine Trip.of (P := Tryz.prog) (n := ⟨26, []⟩) Tryz.func45 rfl ⟨rfl, rfl⟩ rfl (St.begin (aS h0 (aS h1 (All.nil _)))) ?_
 obtain ⟨n0, hi⟩ := runF_iff.1 H
 obtain ⟨m0, o, hm0, ho, hr⟩ := iter_some hi
 clear hi
 refine go ?_
 refine CP.seq ?_
 refine go ?_
 refine CP.ci ho (fun ho => ?_) fun ho => ?_
 ·refine go ?_
  obtain rfl := fin ho hr
  exact QE.rt fun _ h => h
 refine go ?_
 refine CP.seq ?_
 refine go ?_
 obtain rfl := Option.some.inj ho
 refine CP.loop (fun cl1 a w2 => ∃ x12 : Int, cl1 ≤ m0 ∧ iter (slices_Equal_uint8_uint8.F s1_0 s2_1) cl1 (.l1 x12) = some r ∧ Env ⟨26, []⟩ [(0, v_s1_0), (1, v_s2_1), (12, .int .i64 (s1_0.length : Int)), (13, .int .i64 x12)] a ∧ St w em hV [slP (kInt .u8) v_s1_0 s1_0, slP (kInt .u8) v_s2_1 s2_1] [] w2) m0 (fun a w2 ha hw => ⟨0, Nat.le_refl _, hr, ha.sub sb, hw⟩) ?_
 clear hr
 rintro cl1 a w2 ⟨x12, hc_l1, hi, ha, hw⟩
 obtain ⟨m13, o, hm_m13, ho, hr⟩ := iter_some hi
 refine CP.app ha hw ?_
 clear ha hw a w2 hi
 refine go ?_
 refine CP.seq ?_
 refine CP.ci ho (fun ho => ?_) fun ho => ?_
 ·refine go ?_
  refine CP.seq ?_
  refine go ?_
  refine CP.seq ?_
  refine CP.drawA (by kernel_rfl) (fun w2 k h => h.drawn k) ?_
  obtain ⟨x16, hx, ho⟩ := elt_bind ho
  refine DA.ghost (fun w2 h => h.elem see 0 rfl hx.1 hx.2) (fun p14 h_p14 => ?_)
  clear hx
  refine DA.ghost (fun w2 h => h.openE see 0 rfl (fun _ : Unit => [.int .u8 x16]) (fun _ => []) (fun h cs e => ⟨(), e, All.nil _⟩)) (fun _ _ => ?_)
  obtain ⟨x20, hx, ho⟩ := elt_bind ho
  refine DA.ghost (fun w2 h => h.elem see 3 rfl hx.1 hx.2) (fun p18 h_p18 => ?_)
  clear hx
  refine DA.ghost (fun w2 h => h.openE see 0 rfl (fun _ : Unit => [.int .u8 x20]) (fun _ => []) (fun h cs e => ⟨(), e, All.nil _⟩)) (fun _ _ => ?_)
  refine DA.ph 0 8 ?_
  refine DT.tk 0 ?_
  refine DT.tk 1 ?_
  refine DT.tv 2 rfl (Val.indexE h_p14 Tryz.underlying38 sz5 rfl rfl) ?_
  refine DT.tv 3 rfl (Val.loadAt1 see 2 rfl Tryz.underlying5 rfl rfl) ?_
  refine DT.tk 4 ?_
  refine DT.tk 5 ?_
  refine DT.tv 6 rfl (Val.indexE h_p18 Tryz.underlying38 sz5 rfl rfl) ?_
  refine DT.tv 7 rfl (Val.loadAt1 see 0 rfl Tryz.underlying5 rfl rfl) ?_
  refine DT.next (by kernel_rfl) ?_
  refine DA.one 8 rfl (by kernel_rfl) ?_
  refine go ?_
  refine QE.atA ?_
  refine DA.done (by kernel_rfl) ?_
  refine go ?_
  refine CP.ci ho (fun ho => ?_) fun ho => ?_
  ·refine go ?_
   obtain rfl := fin ho hr
   exact QE.rt fun _ h => h
  refine go ?_
  obtain rfl := Option.some.inj ho
  exact QE.lower m13 (by omega) fun a w2 ha hw => ⟨(IntKind.i64.wrap (x12 + 1)), (by omega), hr, ha.sub sb, (St.selP [4, 5] rfl hw)⟩
 refine go ?_
 obtain rfl := fin ho hr
 exact QE.rt fun _ h => h
end Go.Proofs.YtpbmkaenleedoaaGreatDoor
end
