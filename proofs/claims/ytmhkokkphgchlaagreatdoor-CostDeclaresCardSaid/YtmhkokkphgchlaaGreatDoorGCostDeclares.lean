/- Functions of the program as plain functions, with the proof that the code computes them: printed by gen.py of this session. -/
import Derived.Test.YtmhkokkphgchlaaGreatDoorProg
import Derived.Test.YtmhkokkphgchlaaGreatDoorQ33xCostDeclares
import Derived.Test.YtmhkokkphgchlaaGreatDoorQ37xCostDeclares
import Derived.Ground.GgzProg
import Derived.Ground.Names8Prog
import Derived.Ground.NamesProg
import Derived.Ground.SlgcProg
import Derived.Ground.SlgmProg
import Derived.Ground.SlgnProg
import Derived.Ground.SlsfProg
import Derived.Shelf.Bits.Mul64
import Derived.Shelf.Lay
import Derived.Shelf.SlGeneric
import Derived.Shelf.SlIterI.Nil
import Derived.Shelf.SlSortCmp.WholeK
import Derived.Shelf.SlicesE.Reverse
import Derived.Shelf.SlicesG.Cmp
import Derived.Shelf.SlicesG.CompactI
import Derived.Shelf.Small.Bits
import Derived.Shelf.SortM.Plain
import Derived.Shelf.SortM.SortNone
import Derived.Shelf.Spec.SlicesGrow
import Derived.Test.YtmhkokkphgchlaaGreatDoorGCostDeclaresp2
set_option linter.unusedVariables false
set_option linter.unusedSimpArgs false
set_option maxRecDepth 20000
set_option maxHeartbeats 2000000
set_option linter.defProp false
set_option warn.classDefReducibility false
noncomputable section
namespace Go.Proofs.YtmhkokkphgchlaaGreatDoor
open Go.Q
attribute [local irreducible] CP SP QE DA DT Val St
inductive capstanref12_Same.S where
  | start
  | l1 (x12 : Int)
def capstanref12_Same.F (a_0 : (List api_Cert)) (b_1 : (List api_Cert)) : capstanref12_Same.S → Option (capstanref12_Same.S ⊕ Bool)
  | .start => if (a_0.length : Int) ≠ (b_1.length : Int) then (some (.inr false)) else (some (.inl (.l1 0)))
  | .l1 x12 => if x12 < (a_0.length : Int) then ((elt a_0 x12).bind fun x16 => (elt b_1 x12).bind fun x20 => if (!(x16.Fuel == x20.Fuel && (x16.Stack == x20.Stack && (x16.Heap == x20.Heap)))) = true then (some (.inr false)) else (some (.inl (.l1 (IntKind.i64.wrap (x12 + 1)))))) else (some (.inr true))
def capstanref12_Same.f (a_0 : (List api_Cert)) (b_1 : (List api_Cert)) : Option Bool := runF (capstanref12_Same.F a_0 b_1) .start
theorem capstanref12_Same.ok (a_0 : (List api_Cert)) (b_1 : (List api_Cert)) (v_a_0 v_b_1 : Value) (r : Bool) (H : capstanref12_Same.f a_0 b_1 = some r) (w : World) (hV : Hp) (sV : Sub hV (hp w)) (h0 : slR k_api_Cert hV v_a_0 a_0) (h1 : slR k_api_Cert hV v_b_1 b_1) :
    Trip Tryz.prog 15 [v_a_0, v_b_1].toArray em hV w (fun v => HO.pure (v = .bool r)) := by
 refine Trip.go 26 Tryz.func15 sV (aS h0 (aS h1 (All.nil _))) fun see => ?_
 obtain ⟨n0, hi⟩ := runF_iff.1 H
 obtain ⟨m0, o, hm0, ho, hr⟩ := iter_some hi
 clear hi
 refine go ?_
 refine CP.seq ?_
 refine go ?_
 refine CP.ci ho (fun ho => ?_) fun ho => ?_
 ·refine go ?_
  obtain rfl := fin ho hr
  exact QE.rt (fun _ h => h)
 refine go ?_
 refine CP.seq ?_
 refine go ?_
 obtain rfl := Option.some.inj ho
 refine CP.loop (fun cl1 a w2 => ∃ x12 : Int, cl1 ≤ m0 ∧ iter (capstanref12_Same.F a_0 b_1) cl1 (.l1 x12) = some r ∧ Env ⟨26, []⟩ [(0, v_a_0), (1, v_b_1), (5, .int .i64 x12)] a ∧ St w em hV [slP k_api_Cert v_a_0 a_0, slP k_api_Cert v_b_1 b_1] [] w2) m0 (fun a w2 ha hw => ⟨0, Nat.le_refl _, hr, ha.sub sb, hw⟩) ?_
 clear hr
 rintro cl1 a w2 ⟨x12, hc_l1, hi, ha, hw⟩
 obtain ⟨m13, o, hm_m13, ho, hr⟩ := iter_some hi
 refine CP.app ha hw ?_
 clear ha hw a w2 hi
 refine CP.seq ?_
 refine go ?_
 refine CP.ci ho (fun ho => ?_) fun ho => ?_
 ·refine go ?_
  refine CP.seq ?_
  refine go ?_
  refine CP.seq ?_
  refine CP.drawA (by kernel_rfl) (fun w2 k h => h.drawn k) ?_
  obtain ⟨x16, hx, ho⟩ := elt_bind ho
  refine DA.ghost (fun w2 h => h.elem see 0 rfl hx.1 hx.2) (fun p14 h_p14 => ?_)
  clear hx
  refine DA.ghost (fun w2 h => h.openE see 0 rfl (fun _ : Unit => [.int .i64 x16.Fuel, .int .i64 x16.Stack, .int .i64 x16.Heap]) (fun _ => []) (fun h cs e => ⟨(), e, All.nil _⟩)) (fun _ _ => ?_)
  obtain ⟨x20, hx, ho⟩ := elt_bind ho
  refine DA.ghost (fun w2 h => h.elem see 3 rfl hx.1 hx.2) (fun p18 h_p18 => ?_)
  clear hx
  refine DA.ghost (fun w2 h => h.openE see 0 rfl (fun _ : Unit => [.int .i64 x20.Fuel, .int .i64 x20.Stack, .int .i64 x20.Heap]) (fun _ => []) (fun h cs e => ⟨(), e, All.nil _⟩)) (fun _ _ => ?_)
  refine DA.ph 0 8 ?_
  refine DT.tk 0 ?_
  refine DT.tk 1 ?_
  refine DT.tv 2 rfl (Val.indexE h_p14 Tryz.underlying29 sz36 rfl rfl) ?_
  refine DT.tv 3 rfl (Val.loadAtA see 2 rfl Tryz.underlying36 rfl sz36 rfl) ?_
  refine DT.tk 4 ?_
  refine DT.tk 5 ?_
  refine DT.tv 6 rfl (Val.indexE h_p18 Tryz.underlying29 sz36 rfl rfl) ?_
  refine DT.tv 7 rfl (Val.loadAtA see 0 rfl Tryz.underlying36 rfl sz36 rfl) ?_
  refine DT.next (by kernel_rfl) ?_
  refine DA.one 8 rfl (by kernel_rfl) ?_
  refine SP.val (Val.neqA (by kernel_rfl) (fun w2 => eqA36 9998 w2 x16.Fuel x20.Fuel x16.Stack x20.Stack x16.Heap x20.Heap) rfl rfl) rfl rfl rfl ?_
  refine go ?_
  refine QE.atA ?_
  refine DA.done (by kernel_rfl) ?_
  refine go ?_
  refine CP.cb ho (fun ho => ?_) fun ho => ?_
  ·refine go ?_
   obtain rfl := fin ho hr
   exact QE.rt (fun _ h => h)
  refine go ?_
  obtain rfl := Option.some.inj ho
  exact QE.lower m13 (by omega) fun a w2 ha hw => ⟨(IntKind.i64.wrap (x12 + 1)), (by omega), hr, ha.sub sb, (St.selP [4, 5] rfl hw)⟩
 refine go ?_
 obtain rfl := fin ho hr
 exact QE.rt (fun _ h => h)
inductive capstanlaw12_CostDeclares.S where
  | start
  | l1 (t8 : (List api_Cert) × Int) (t17 : api_Module) (l204 : List api_Method) (x206 : Int)
def capstanlaw12_CostDeclares.j1 (m_0 : api_Module) (k_1 : Int) (which_2 : Int) (less_3 : Int) (t17 : api_Module) (l292 : List api_Method) : Option (capstanlaw12_CostDeclares.S ⊕ Bool) :=
  (cost_Check.f (⟨t17.Globals, t17.Pool, l292, t17.Migrate⟩ : api_Module)).bind fun t295 => some (.inr (decide (t295 = 120)))
def capstanlaw12_CostDeclares.F (m_0 : api_Module) (k_1 : Int) (which_2 : Int) (less_3 : Int) : capstanlaw12_CostDeclares.S → Option (capstanlaw12_CostDeclares.S ⊕ Bool)
  | .start => (capstanlaw12_awake.f ).bind fun t6 => if (!t6) = true then (some (.inr false)) else ((capstanlaw08_Great.f m_0).bind fun t7 => if t7 = true then (some (.inr true)) else ((cost_Costs.f m_0).bind fun t8 => (cost_Check.f m_0).bind fun t11 => if ((decide (t8.2 ≠ t11)) || (decide (t8.2 ≠ 0))) = true then ((cost_Check.f m_0).bind fun t14 => some (.inr ((decide (t8.2 = t14)) && (decide ((t8.1.length : Int) = 0))))) else (if (t8.1.length : Int) ≠ (m_0.Methods.length : Int) then (some (.inr false)) else ((capstanref08_Copy.f m_0).bind fun t17 => some (.inl (.l1 t8 t17 t17.Methods 0))))))
  | .l1 t8 t17 l204 x206 => if x206 < (t8.1.length : Int) then ((elt t8.1 x206).bind fun x210 => (elt m_0.Methods x206).bind fun x214 => (cost_Fits.f x210 x214).bind fun t222 => if (!t222) = true then (some (.inr false)) else ((elt t8.1 x206).bind fun x225 => (elt t8.1 x206).bind fun x231 => (elt t8.1 x206).bind fun x237 => (elt l204 x206).bind fun x242 => (elt l204 x206).bind fun x245 => (elt ((l204.set x206.toNat ({ x242 with Fuel := x225.Fuel } : api_Method)).set x206.toNat ({ ({ x242 with Fuel := x225.Fuel } : api_Method) with Stack := x231.Stack } : api_Method)) x206).bind fun x250 => some (.inl (.l1 t8 t17 (((l204.set x206.toNat ({ x242 with Fuel := x225.Fuel } : api_Method)).set x206.toNat ({ ({ x242 with Fuel := x225.Fuel } : api_Method) with Stack := x231.Stack } : api_Method)).set x206.toNat ({ x250 with Heap := x237.Heap } : api_Method)) (IntKind.i64.wrap (x206 + 1)))))) else ((cost_Costs.f (⟨t17.Globals, t17.Pool, l204, t17.Migrate⟩ : api_Module)).bind fun t253 => (if t253.2 ≠ 0 then (some true) else ((capstanref12_Same.f t253.1 t8.1).bind fun t258 => some (!t258))).bind fun t259 => if t259 = true then (some (.inr false)) else (if ((((decide (k_1 < 0)) || (decide (k_1 ≥ (t8.1.length : Int)))) || (decide (less_3 < 1))) || (decide (less_3 > 1000))) = true then (some (.inr true)) else (if (Int.tmod (IntKind.u64.wrap which_2) 4) = 0 then ((elt l204 k_1).bind fun x267 => (elt l204 k_1).bind fun x270 => capstanlaw12_CostDeclares.j1 m_0 k_1 which_2 less_3 t17 (l204.set k_1.toNat ({ x270 with Fuel := IntKind.i64.wrap (x267.Fuel - less_3) } : api_Method))) else (if (Int.tmod (IntKind.u64.wrap which_2) 4) = 1 then ((elt l204 k_1).bind fun x274 => (elt l204 k_1).bind fun x277 => capstanlaw12_CostDeclares.j1 m_0 k_1 which_2 less_3 t17 (l204.set k_1.toNat ({ x277 with Stack := IntKind.i64.wrap (x274.Stack - less_3) } : api_Method))) else (if (Int.tmod (IntKind.u64.wrap which_2) 4) = 2 then ((elt l204 k_1).bind fun x281 => (elt l204 k_1).bind fun x284 => capstanlaw12_CostDeclares.j1 m_0 k_1 which_2 less_3 t17 (l204.set k_1.toNat ({ x284 with Heap := IntKind.i64.wrap (x281.Heap - less_3) } : api_Method))) else ((elt l204 k_1).bind fun x288 => (cost_Check.f (⟨t17.Globals, t17.Pool, l204.set k_1.toNat ({ x288 with Fuel := 1099511627776 } : api_Method), t17.Migrate⟩ : api_Module)).bind fun t291 => some (.inr (decide (t291 = 0)))))))))
def capstanlaw12_CostDeclares.f (m_0 : api_Module) (k_1 : Int) (which_2 : Int) (less_3 : Int) : Option Bool := runF (capstanlaw12_CostDeclares.F m_0 k_1 which_2 less_3) .start
theorem capstanlaw12_CostDeclares.ok (m_0 : api_Module) (k_1 which_2 less_3 : Int) (v_m_0_Globals v_m_0_Pool v_m_0_Methods : Value)  (r : Bool) (H : capstanlaw12_CostDeclares.f m_0 k_1 which_2 less_3 = some r) (w : World) (hV : Hp) (sV : Sub hV (hp w)) (h0 : slR k_api_Value hV v_m_0_Globals m_0.Globals) (h1 : slR k_api_Value hV v_m_0_Pool m_0.Pool) (h2 : slR k_api_Method hV v_m_0_Methods m_0.Methods) (h3 : (arrP k_arr221 0 tab0).p hV) :
    Trip Tryz.prog 6 [.agg #[v_m_0_Globals, v_m_0_Pool, v_m_0_Methods, .int .i64 m_0.Migrate], .int .i64 k_1, .int .i64 which_2, .int .i64 less_3].toArray em hV w (fun v => HO.pure (v = .bool r)) := by
 refine Trip.go 184 Tryz.func6 sV (aS h0 (aS h1 (aS h2 (All.cons (x := arrP k_arr221 0 tab0) h3 (All.nil _))))) fun see => ?_
 obtain ⟨n0, hi⟩ := runF_iff.1 H
 obtain ⟨m0, o, hm0, ho, hr⟩ := iter_some hi
 clear hi
 refine go ?_
 refine SP.box rfl rfl rfl rfl fun b4 => ?_
 refine go ?_
 refine CP.seq ?_
 refine go ?_
 obtain ⟨t6, hc, ho⟩ := bind_some (x := capstanlaw12_awake.f ) ho
 refine SP.callV see (caps := []) (.bool t6) fn8 rfl rfl rfl rfl (fun w2 hP hs sub ap => capstanlaw12_awake.ok   _ hc w2 hP sub (ap.get 3 rfl)) ?_
 clear hc
 refine go ?_
 refine CP.cb ho (fun ho => ?_) fun ho => ?_
 ·refine go ?_
  obtain rfl := fin ho hr
  exact QE.rt (fun _ h => h)
 refine go ?_
 refine CP.seq ?_
 refine go ?_
 refine SP.val (Val.loadA 0 rfl Tryz.underlying25 rfl sz25 rfl rfl rfl) rfl rfl rfl ?_
 obtain ⟨t7, hc, ho⟩ := bind_some ho
 refine SP.callV see (caps := []) (.bool t7) fn12 rfl rfl rfl rfl (fun w2 hP hs sub ap => capstanlaw08_Great.ok _ _ _ _ _ hc w2 hP sub (ap.get 0 rfl) (ap.get 1 rfl) (ap.get 2 rfl)) ?_
 clear hc
 refine go ?_
 refine CP.cb ho (fun ho => ?_) fun ho => ?_
 ·refine go ?_
  obtain rfl := fin ho hr
  exact QE.rt (fun _ h => h)
 refine go ?_
 refine SP.val (Val.loadA 0 rfl Tryz.underlying25 rfl sz25 rfl rfl rfl) rfl rfl rfl ?_
 obtain ⟨t8, hc, ho⟩ := bind_some ho
 refine SP.callK see (caps := []) _ fn14 rfl rfl rfl rfl (fun w2 hP hs sub ap => cost_Costs.ok _ _ _ _ _ hc w2 hP sub (ap.get 0 rfl) (ap.get 1 rfl) (ap.get 2 rfl) (ap.get 3 rfl)) (SP.k1 fun v9 => ?_)
 clear hc
 refine go ?_
 refine CP.seq ?_
 refine go ?_
 refine SP.val (Val.loadA 1 rfl Tryz.underlying25 rfl sz25 rfl rfl rfl) rfl rfl rfl ?_
 obtain ⟨t11, hc, ho⟩ := bind_some ho
 refine SP.callV see (caps := []) (.int .i64 t11) fn17 rfl rfl rfl rfl (fun w2 hP hs sub ap => cost_Check.ok _ _ _ _ _ hc w2 hP sub (ap.get 0 rfl) (ap.get 1 rfl) (ap.get 2 rfl) (ap.get 3 rfl)) ?_
 clear hc
 refine go ?_
 refine SP.jn 3 [1, 2, 3, 4, 9, 10] 31 (.bool ((decide (t8.2 ≠ t11)) || (decide (t8.2 ≠ 0)))) ?_ ?_
 ·refine go ?_
  refine CP.cb ho (fun ho => ?_) fun ho => ?_
  ·refine go ?_
   refine SP.val (Val.loadA 1 rfl Tryz.underlying25 rfl sz25 rfl rfl rfl) rfl rfl rfl ?_
   obtain ⟨t14, hc, ho⟩ := bind_some ho
   refine SP.callV see (caps := []) (.int .i64 t14) fn17 rfl rfl rfl rfl (fun w2 hP hs sub ap => cost_Check.ok _ _ _ _ _ hc w2 hP sub (ap.get 0 rfl) (ap.get 1 rfl) (ap.get 2 rfl) (ap.get 3 rfl)) ?_
   clear hc
   refine go ?_
   refine SP.jn 4 [] 40 (.bool ((decide (t8.2 = t14)) && (decide ((t8.1.length : Int) = 0)))) ?_ ?_
   ·refine go ?_
    obtain rfl := fin ho hr
    exact QE.rt (fun _ h => h)
   refine SP.bb 36 (fun hq16 => ?_) fun hq16 => ?_
   ·refine go ?_
    refine SP.val (Val.lenW (fun w2 hw => slO.whole (St.own 0 rfl see.sub see.dj hw)) Tryz.underlying29 rfl) rfl rfl rfl ?_
    refine go ?_
    exact QE.jb (and_t hq16 rfl) fun w2 hw => hw
   refine go ?_
   exact QE.jb (and_f hq16) fun w2 hw => hw
  refine go ?_
  refine CP.seq ?_
  refine go ?_
  refine SP.val (Val.lenW (fun w2 hw => slO.whole (St.own 0 rfl see.sub see.dj hw)) Tryz.underlying29 rfl) rfl rfl rfl ?_
  refine go ?_
  refine CP.ci ho (fun ho => ?_) fun ho => ?_
  ·refine go ?_
   obtain rfl := fin ho hr
   exact QE.rt (fun _ h => h)
  refine go ?_
  refine SP.val (Val.loadA 1 rfl Tryz.underlying25 rfl sz25 rfl rfl rfl) rfl rfl rfl ?_
  obtain ⟨t17, hc, ho⟩ := bind_some ho
  refine SP.callK see (caps := []) _ fn13 rfl rfl rfl rfl (fun w2 hP hs sub ap => capstanref08_Copy.ok _ _ _ _ _ hc w2 hP sub (ap.get 0 rfl) (ap.get 1 rfl) (ap.get 2 rfl)) (SP.k3 fun v18 v19 v20 => ?_)
  clear hc
  refine SP.alloc (cs := [(.slice none 0 0), (.slice none 0 0), (.slice none 0 0), .int .i64 0]) inf25 rfl rfl (fun b24 => ?_)
  refine SP.have (fun w2 hw => slO.shape (St.own 1 rfl see.sub see.dj hw)) (fun hs_v18 => ?_)
  refine SP.have (fun w2 hw => slO.shape (St.own 2 rfl see.sub see.dj hw)) (fun hs_v19 => ?_)
  refine SP.have (fun w2 hw => slD.shape (St.own 3 rfl see.sub see.dj hw)) (fun hs_v20 => ?_)
  refine SP.store (v := .agg #[v18, v19, v20, .int .i64 t17.Migrate]) (vs := [v18, v19, v20, .int .i64 t17.Migrate]) 0 (by rfl) sz25 (by rfl) (by rfl) (by rfl) (by rfl) (one_cons hs_v18 (one_cons hs_v19 (one_cons hs_v20 (one_cons rfl (rfl))))) (by rfl) ?_
  refine go ?_
  refine CP.seq ?_
  refine go ?_
  refine CP.freezeS see 4 rfl ?_
  obtain rfl := Option.some.inj ho
  refine CP.loop (fun cl1 a w2 => ∃ l204 : List api_Method, ∃ x206 : Int, ∃ v205 : Value, cl1 ≤ m0 ∧ iter (capstanlaw12_CostDeclares.F m_0 k_1 which_2 less_3) cl1 (.l1 t8 t17 l204 x206) = some r ∧ Env ⟨184, []⟩ [(1, .int .i64 k_1), (2, .int .i64 which_2), (3, .int .i64 less_3), (4, .pointer (some ⟨b4, 0, none⟩)), (9, v9), (11, .pointer (some ⟨b24, 0, none⟩)), (12, .int .i64 x206)] a ∧ St w em hV [slP k_api_Cert v9 t8.1, slP k_api_Value v_m_0_Globals m_0.Globals, slP k_api_Value v_m_0_Pool m_0.Pool, slP k_api_Method v_m_0_Methods m_0.Methods, arrP k_arr221 0 tab0] [boxO b24 [v18, v19, v205, .int .i64 t17.Migrate] 25, slO k_api_Value 62 v18 t17.Globals, slO k_api_Value 62 v19 t17.Pool, slD o_api_Method 41 v205 l204, boxO b4 [v_m_0_Globals, v_m_0_Pool, v_m_0_Methods, .int .i64 m_0.Migrate] 25] w2) m0 (fun a w2 ha hw => ⟨t17.Methods, 0, v20, Nat.le_refl _, hr, ha.sub sb, hw⟩) ?_
  clear hr
  rintro cl1 a w2 ⟨l204, x206, v205, hc_l1, hi, ha, hw⟩
  obtain ⟨m207, o, hm_m207, ho, hr⟩ := iter_some hi
  refine CP.app ha hw ?_
  clear ha hw a w2 hi
  refine CP.seq ?_
  refine go ?_
  refine CP.ci ho (fun ho => ?_) fun ho => ?_
  ·refine go ?_
   refine CP.seq ?_
   refine go ?_
   refine CP.seq ?_
   refine CP.seq ?_
   refine CP.drawA (by kernel_rfl) (fun w2 k h => h.drawn k) ?_
   obtain ⟨x210, hx, ho⟩ := elt_bind ho
   refine DA.ghost (fun w2 h => h.elem see 0 rfl hx.1 hx.2) (fun p208 h_p208 => ?_)
   clear hx
   refine DA.ghost (fun w2 h => h.openE see 0 rfl (fun _ : Unit => [.int .i64 x210.Fuel, .int .i64 x210.Stack, .int .i64 x210.Heap]) (fun _ => []) (fun h cs e => ⟨(), e, All.nil _⟩)) (fun _ _ => ?_)
   obtain ⟨x214, hx, ho⟩ := elt_bind ho
   refine DA.ghost (fun w2 h => h.elem see 5 rfl hx.1 hx.2) (fun p212 h_p212 => ?_)
   clear hx
   refine DA.ghost (fun w2 h => h.openE see 0 rfl (fun ((v215, v217, v219) : Value × Value × Value) => [v215, v217, .int .u8 x214.Result, .bool x214.Reads, .int .i64 x214.Fuel, .int .i64 x214.Stack, .int .i64 x214.Heap, v219]) (fun ((v215, v217, v219) : Value × Value × Value) => [slP (kInt .u8) v215 x214.Args, slP (kInt .u8) v217 x214.Locals, slP k_api_Instr v219 x214.Code]) (fun h cs ⟨v215, v217, v219, e, p0, p1, p2⟩ => ⟨(v215, v217, v219), e, All.cons p0 (All.cons p1 (All.cons p2 (All.nil _)))⟩)) (fun z_ _ => ?_)
   obtain ⟨v215, v217, v219⟩ := z_
   refine DA.ph 0 9 ?_
   refine DT.tk 0 ?_
   refine DT.tk 1 ?_
   refine DT.tv 2 rfl (Val.indexE h_p208 Tryz.underlying29 sz36 rfl rfl) ?_
   refine DT.tv 3 rfl (Val.loadAtA see 5 rfl Tryz.underlying36 rfl sz36 rfl) ?_
   refine DT.tk 4 ?_
   refine DT.tk 5 ?_
   refine DT.tk 6 ?_
   refine DT.tv 7 rfl (Val.indexE h_p212 Tryz.underlying23 sz41 rfl rfl) ?_
   refine DT.tv 8 rfl (Val.loadAtA see 0 rfl Tryz.underlying41 rfl sz41 rfl) ?_
   refine DT.next (by kernel_rfl) ?_
   refine DA.one 9 rfl (by kernel_rfl) ?_
   obtain ⟨t222, hc, ho⟩ := bind_some ho
   refine SP.callV see (caps := []) (.bool t222) fn11 rfl rfl rfl rfl (fun w2 hP hs sub ap => cost_Fits.ok _ _ _ _ _ _ hc w2 hP sub (ap.get 1 rfl) (ap.get 2 rfl) (ap.get 3 rfl)) ?_
   clear hc
   refine go ?_
   refine QE.atA ?_
   refine DA.one 10 rfl (by kernel_rfl) ?_
   refine go ?_
   refine QE.atA ?_
   refine DA.done (by kernel_rfl) ?_
   refine go ?_
   refine CP.cb ho (fun ho => ?_) fun ho => ?_
   ·refine go ?_
    obtain rfl := fin ho hr
    exact QE.rt (fun _ h => h)
   refine go ?_
   refine CP.drawA (by kernel_rfl) (fun w2 k h => h.drawn k) ?_
   obtain ⟨x225, hx, ho⟩ := elt_bind ho
   refine DA.ghost (fun w2 h => h.elem see 7 rfl hx.1 hx.2) (fun p223 h_p223 => ?_)
   clear hx
   refine DA.ghost (fun w2 h => h.fieldE see 0 rfl k_api_Cert.part_Fuel) (fun p226 h_p226 => ?_)
   refine DA.ghost (fun w2 h => h.openE see 0 rfl (fun _ : Unit => [.int .i64 x225.Fuel]) (fun _ => []) (fun h cs e => ⟨(), e, All.nil _⟩)) (fun _ _ => ?_)
   obtain ⟨x231, hx, ho⟩ := elt_bind ho
   refine DA.ghost (fun w2 h => h.elem see 10 rfl hx.1 hx.2) (fun p229 h_p229 => ?_)
   clear hx
   refine DA.ghost (fun w2 h => h.fieldE see 0 rfl k_api_Cert.part_Stack) (fun p232 h_p232 => ?_)
   refine DA.ghost (fun w2 h => h.openE see 0 rfl (fun _ : Unit => [.int .i64 x231.Stack]) (fun _ => []) (fun h cs e => ⟨(), e, All.nil _⟩)) (fun _ _ => ?_)
   obtain ⟨x237, hx, ho⟩ := elt_bind ho
   refine DA.ghost (fun w2 h => h.elem see 13 rfl hx.1 hx.2) (fun p235 h_p235 => ?_)
   clear hx
   refine DA.ghost (fun w2 h => h.fieldE see 0 rfl k_api_Cert.part_Heap) (fun p238 h_p238 => ?_)
   refine DA.ghost (fun w2 h => h.openE see 0 rfl (fun _ : Unit => [.int .i64 x237.Heap]) (fun _ => []) (fun h cs e => ⟨(), e, All.nil _⟩)) (fun _ _ => ?_)
   obtain ⟨x242, hx_x242, ho⟩ := elt_bind ho
   refine DA.ghost (fun w2 hw => let ⟨z, hz⟩ := ixC ((fun w2 hw => slD.flat (St.own 3 rfl see.sub see.dj hw) (Sub.refl _) (Sub.refl _)) w2 hw) hx_x242.1 hx_x242.2; ⟨z, hz, hw⟩) (fun p241 i_p241 => ?_)
   have h_p241 := i_p241.1
   obtain ⟨p243, h_p243⟩ := PtC.more h_p241 4
   obtain ⟨x245, hx_x245, ho⟩ := elt_bind ho
   refine DA.ghost (fun w2 hw => let ⟨z, hz⟩ := ixC ((fun w2 hw => slD.flat (St.own 3 rfl see.sub see.dj hw) (Sub.refl _) (Sub.refl _)) w2 hw) hx_x245.1 hx_x245.2; ⟨z, hz, hw⟩) (fun p244 i_p244 => ?_)
   have h_p244 := i_p244.1
   obtain ⟨p246, h_p246⟩ := PtC.more h_p244 5
   refine (DA.phase (fun i => Nat.ble 0 i && Nat.blt i 30) (fun w2 => St w em hV [atP p238 [.int .i64 x237.Heap], elP (kInt .i64) p238 x237.Heap, elP k_api_Cert p235 x237, atP p232 [.int .i64 x231.Stack], elP (kInt .i64) p232 x231.Stack, elP k_api_Cert p229 x231, atP p226 [.int .i64 x225.Fuel], elP (kInt .i64) p226 x225.Fuel, elP k_api_Cert p223 x225, atP p212 [v215, v217, .int .u8 x214.Result, .bool x214.Reads, .int .i64 x214.Fuel, .int .i64 x214.Stack, .int .i64 x214.Heap, v219], slP (kInt .u8) v215 x214.Args, slP (kInt .u8) v217 x214.Locals, slP k_api_Instr v219 x214.Code, elP k_api_Method p212 x214, atP p208 [.int .i64 x210.Fuel, .int .i64 x210.Stack, .int .i64 x210.Heap], elP k_api_Cert p208 x210, slP k_api_Cert v9 t8.1, slP k_api_Value v_m_0_Globals m_0.Globals, slP k_api_Value v_m_0_Pool m_0.Pool, slP k_api_Method v_m_0_Methods m_0.Methods, arrP k_arr221 0 tab0] [boxO b24 [v18, v19, v205, .int .i64 t17.Migrate] 25, slO k_api_Value 62 v18 t17.Globals, slO k_api_Value 62 v19 t17.Pool, boxO b4 [v_m_0_Globals, v_m_0_Pool, v_m_0_Methods, .int .i64 m_0.Migrate] 25] w2) ?_)
   refine DT.ts 0 rfl (Val.fieldAddr Tryz.underlying25 rfl sz23 rfl) (fun w2 hw => (St.selO [0, 1, 2, 4] rfl rfl hw)) ?_
   refine DT.ts 1 rfl (Val.load1 0 rfl Tryz.underlying23 rfl rfl rfl) (fun w2 hw => (St.selO [0, 1, 2, 4] rfl rfl hw)) ?_
   refine DT.ts 2 rfl (Val.move rfl) (fun w2 hw => (St.selO [0, 1, 2, 4] rfl rfl hw)) ?_
   refine DT.ts 3 rfl (Val.fieldAddr Tryz.underlying25 rfl sz23 rfl) (fun w2 hw => (St.selO [0, 1, 2, 4] rfl rfl hw)) ?_
   refine DT.ts 4 rfl (Val.load1 0 rfl Tryz.underlying23 rfl rfl rfl) (fun w2 hw => (St.selO [0, 1, 2, 4] rfl rfl hw)) ?_
   refine DT.ts 5 rfl (Val.move rfl) (fun w2 hw => (St.selO [0, 1, 2, 4] rfl rfl hw)) ?_
   refine DT.ts 6 rfl (Val.fieldAddr Tryz.underlying25 rfl sz23 rfl) (fun w2 hw => (St.selO [0, 1, 2, 4] rfl rfl hw)) ?_
   refine DT.ts 7 rfl (Val.load1 0 rfl Tryz.underlying23 rfl rfl rfl) (fun w2 hw => (St.selO [0, 1, 2, 4] rfl rfl hw)) ?_
   refine DT.ts 8 rfl (Val.move rfl) (fun w2 hw => (St.selO [0, 1, 2, 4] rfl rfl hw)) ?_
   refine DT.ts 9 rfl (Val.move rfl) (fun w2 hw => (St.selO [0, 1, 2, 4] rfl rfl hw)) ?_
   refine DT.ts 10 rfl (Val.move rfl) (fun w2 hw => (St.selO [0, 1, 2, 4] rfl rfl hw)) ?_
   refine DT.ts 11 rfl (Val.indexE h_p223 Tryz.underlying29 sz36 rfl rfl) (fun w2 hw => (St.selO [0, 1, 2, 4] rfl rfl hw)) ?_
   refine DT.ts 12 rfl (Val.fieldE h_p226 Tryz.underlying36 rfl rfl sz3 rfl) (fun w2 hw => (St.selO [0, 1, 2, 4] rfl rfl hw)) ?_
   refine DT.ts 13 rfl (Val.loadAt1 see 6 rfl Tryz.underlying3 rfl rfl) (fun w2 hw => (St.selO [0, 1, 2, 4] rfl rfl hw)) ?_
   refine DT.ts 14 rfl (Val.move rfl) (fun w2 hw => (St.selO [0, 1, 2, 4] rfl rfl hw)) ?_
   refine DT.ts 15 rfl (Val.move rfl) (fun w2 hw => (St.selO [0, 1, 2, 4] rfl rfl hw)) ?_
   refine DT.ts 16 rfl (Val.indexE h_p229 Tryz.underlying29 sz36 rfl rfl) (fun w2 hw => (St.selO [0, 1, 2, 4] rfl rfl hw)) ?_
   refine DT.ts 17 rfl (Val.fieldE h_p232 Tryz.underlying36 rfl rfl sz3 rfl) (fun w2 hw => (St.selO [0, 1, 2, 4] rfl rfl hw)) ?_
   refine DT.ts 18 rfl (Val.loadAt1 see 3 rfl Tryz.underlying3 rfl rfl) (fun w2 hw => (St.selO [0, 1, 2, 4] rfl rfl hw)) ?_
   refine DT.ts 19 rfl (Val.move rfl) (fun w2 hw => (St.selO [0, 1, 2, 4] rfl rfl hw)) ?_
   refine DT.ts 20 rfl (Val.move rfl) (fun w2 hw => (St.selO [0, 1, 2, 4] rfl rfl hw)) ?_
   refine DT.ts 21 rfl (Val.indexE h_p235 Tryz.underlying29 sz36 rfl rfl) (fun w2 hw => (St.selO [0, 1, 2, 4] rfl rfl hw)) ?_
   refine DT.ts 22 rfl (Val.fieldE h_p238 Tryz.underlying36 rfl rfl sz3 rfl) (fun w2 hw => (St.selO [0, 1, 2, 4] rfl rfl hw)) ?_
   refine DT.ts 23 rfl (Val.loadAt1 see 0 rfl Tryz.underlying3 rfl rfl) (fun w2 hw => (St.selO [0, 1, 2, 4] rfl rfl hw)) ?_
   refine DT.ts 24 rfl (Val.indexC' i_p241 Tryz.underlying23 sz41 rfl rfl) (fun w2 hw => (St.selO [0, 1, 2, 4] rfl rfl hw)) ?_
   refine DT.ts 25 rfl (Val.fieldC h_p241 h_p243 Tryz.underlying41 rfl rfl sz3 rfl) (fun w2 hw => (St.selO [0, 1, 2, 4] rfl rfl hw)) ?_
   refine DT.one 26 rfl (by kernel_rfl) rfl ?_
   refine SP.imp (fun w2 hw => St.selO [3, 0, 1, 2, 4] rfl rfl hw) ?_
   refine SP.storeD (z0 := ({ x242 with Fuel := x225.Fuel } : api_Method)) (off := 4) (vs := [.int .i64 x225.Fuel]) see hx_x242.2 h_p243 rfl rfl sz3 rfl (fun a h c ⟨_, _, _, e, q⟩ => by subst e; exact ⟨_, _, _, rfl, q⟩) rfl rfl rfl ?_
   have hs247 := set_at ({ x242 with Fuel := x225.Fuel } : api_Method) hx_x242.2
   refine go ?_
   refine QE.atT (fun w2 hw => (St.selO [1, 2, 3, 4] rfl rfl hw)) ?_
   refine DT.ts 27 rfl (Val.indexC' i_p244 Tryz.underlying23 sz41 rfl rfl) (fun w2 hw => (St.selO [1, 2, 3, 4] rfl rfl hw)) ?_
   refine DT.ts 28 rfl (Val.fieldC h_p244 h_p246 Tryz.underlying41 rfl rfl sz3 rfl) (fun w2 hw => (St.selO [1, 2, 3, 4] rfl rfl hw)) ?_
   refine DT.one 29 rfl (by kernel_rfl) rfl ?_
   refine SP.storeD (z0 := ({ ({ x242 with Fuel := x225.Fuel } : api_Method) with Stack := x231.Stack } : api_Method)) (off := 5) (vs := [.int .i64 x231.Stack]) see hs247 h_p246 rfl rfl sz3 rfl (fun a h c ⟨_, _, _, e, q⟩ => by subst e; exact ⟨_, _, _, rfl, q⟩) rfl rfl rfl ?_
   have hs248 := set_at ({ ({ x242 with Fuel := x225.Fuel } : api_Method) with Stack := x231.Stack } : api_Method) hs247
   refine go ?_
   refine QE.atT (fun w2 hw => (St.selO [1, 2, 3, 4] rfl rfl hw)) ?_
   refine DT.next (by kernel_rfl) ?_
   refine DA.one 30 rfl (by kernel_rfl) ?_
   obtain ⟨x250, hx_x250, ho⟩ := elt_bind ho
   refine SP.indexW (fun w2 hw => slD.flat (St.own 0 rfl see.sub see.dj hw) (Sub.refl _) (Sub.refl _)) Tryz.underlying23 sz41 hx_x250.1 hx_x250.2 rfl rfl rfl rfl (fun p249 h_p249 => ?_)
   refine go ?_
   refine QE.atA ?_
   refine DA.one 31 rfl (by kernel_rfl) ?_
   refine SP.fieldO h_p249 Tryz.underlying41 rfl sz3 rfl rfl rfl (fun p251 h_p251 => ?_)
   refine go ?_
   refine QE.atA ?_
   refine DA.one 32 rfl (by kernel_rfl) ?_
   refine SP.storeD (z0 := ({ x250 with Heap := x237.Heap } : api_Method)) (off := 6) (vs := [.int .i64 x237.Heap]) see hx_x250.2 h_p251 rfl rfl sz3 rfl (fun a h c ⟨_, _, _, e, q⟩ => by subst e; exact ⟨_, _, _, rfl, q⟩) rfl rfl rfl ?_
   have hs252 := set_at ({ x250 with Heap := x237.Heap } : api_Method) hx_x250.2
   refine go ?_
   refine QE.atA ?_
   refine DA.done (by kernel_rfl) ?_
   refine go ?_
   obtain rfl := Option.some.inj ho
   exact QE.lower m207 (by omega) fun a w2 ha hw => ⟨(((l204.set x206.toNat ({ x242 with Fuel := x225.Fuel } : api_Method)).set x206.toNat ({ ({ x242 with Fuel := x225.Fuel } : api_Method) with Stack := x231.Stack } : api_Method)).set x206.toNat ({ x250 with Heap := x237.Heap } : api_Method)), (IntKind.i64.wrap (x206 + 1)), v205, (by omega), hr, ha.sub sb, (St.selP [16, 17, 18, 19, 20] rfl (St.selO [1, 2, 3, 0, 4] rfl rfl hw))⟩
  refine go ?_
  refine SP.val (Val.loadA 0 rfl Tryz.underlying25 rfl sz25 rfl rfl rfl) rfl rfl rfl ?_
  obtain ⟨t253, hc, ho⟩ := bind_some ho
  refine SP.callKO see (caps := []) _ fn14 rfl rfl rfl rfl (fun w2 hs => cost_Costs.ok _ _ _ _ _ hc w2 (hp w2) (Sub.refl _) (slO.read (St.own 1 rfl see.sub see.dj hs) (Sub.refl _) (Sub.refl _)) (slO.read (St.own 2 rfl see.sub see.dj hs) (Sub.refl _) (Sub.refl _)) (slD.read (St.own 3 rfl see.sub see.dj hs) (Sub.refl _) (Sub.refl _)) ((St.pers 4 rfl see.sub see.dj hs))) (fun v a a2 b ⟨v254, e, h⟩ => ⟨v254, e, (Sep.fcons (fun _ => slO.flip (fun _ _ _ _ h => h)) (fun _ => Sep.fnil)) h⟩) (SP.k1 fun v254 => ?_)
  clear hc
  refine go ?_
  refine CP.seq ?_
  refine go ?_
  obtain ⟨t259, hg_t259, ho⟩ := bind_some ho
  refine SP.jn 5 [1, 2, 3, 9, 11] 108 (.bool t259) ?_ ?_
  ·clear hg_t259
   refine go ?_
   refine CP.cb ho (fun ho => ?_) fun ho => ?_
   ·refine go ?_
    obtain rfl := fin ho hr
    exact QE.rt (fun _ h => h)
   refine go ?_
   refine CP.seq ?_
   refine go ?_
   refine SP.jn 5 [1, 2, 3, 11] 116 (.bool ((decide (k_1 < 0)) || (decide (k_1 ≥ (t8.1.length : Int))))) ?_ ?_
   ·refine go ?_
    refine SP.jn 3 [1, 2, 3, 11] 120 (.bool (((decide (k_1 < 0)) || (decide (k_1 ≥ (t8.1.length : Int)))) || (decide (less_3 < 1)))) ?_ ?_
    ·refine go ?_
     refine SP.jn 3 [1, 2, 3, 11] 124 (.bool ((((decide (k_1 < 0)) || (decide (k_1 ≥ (t8.1.length : Int)))) || (decide (less_3 < 1))) || (decide (less_3 > 1000)))) ?_ ?_
     ·refine go ?_
      refine CP.cb ho (fun ho => ?_) fun ho => ?_
      ·refine go ?_
       obtain rfl := fin ho hr
       exact QE.rt (fun _ h => h)
      refine go ?_
      refine CP.join (fun a w2 => ∃ l292 : List api_Method, ∃ v293 : Value, ∃ (m294 : Nat) (o : (capstanlaw12_CostDeclares.S ⊕ Bool)), m294 ≤ m207 ∧ capstanlaw12_CostDeclares.j1 m_0 k_1 which_2 less_3 t17 l292 = some o ∧ next (capstanlaw12_CostDeclares.F m_0 k_1 which_2 less_3) m294 o = some r ∧ Env ⟨184, []⟩ [(11, .pointer (some ⟨b24, 0, none⟩))] a ∧ St w em hV [arrP k_arr221 0 tab0] [slD o_api_Method 41 v293 l292, boxO b24 [v18, v19, v293, .int .i64 t17.Migrate] 25, slO k_api_Value 62 v18 t17.Globals, slO k_api_Value 62 v19 t17.Pool] w2) ?_ ?_
      ·rintro a w2 ⟨l292, v293, m294, o, hm_m294, ho, hr, ha, hw⟩
       refine CP.app ha hw ?_
       clear ha hw a w2
       refine go ?_
       refine SP.val (Val.loadA 1 rfl Tryz.underlying25 rfl sz25 rfl rfl rfl) rfl rfl rfl ?_
       obtain ⟨t295, hc, ho⟩ := bind_some ho
       refine SP.callVO see (caps := []) (.int .i64 t295) fn17 rfl rfl rfl rfl (fun w2 hs => cost_Check.ok _ _ _ _ _ hc w2 (hp w2) (Sub.refl _) (slO.read (St.own 2 rfl see.sub see.dj hs) (Sub.refl _) (Sub.refl _)) (slO.read (St.own 3 rfl see.sub see.dj hs) (Sub.refl _) (Sub.refl _)) (slD.read (St.own 0 rfl see.sub see.dj hs) (Sub.refl _) (Sub.refl _)) ((St.pers 0 rfl see.sub see.dj hs))) ?_
       clear hc
       refine go ?_
       obtain rfl := fin ho hr
       exact QE.rt (fun _ h => h)
      refine go ?_
      refine SP.val (Val.conv (by rw [Tryz.underlying3]; rfl) Tryz.underlying53 rfl) rfl rfl rfl ?_
      refine SP.val (Val.rem rfl rfl (by decide)) rfl rfl rfl ?_
      refine go ?_
      refine CP.ci ho (fun ho => ?_) fun ho => ?_
      ·refine CP.drawA (by kernel_rfl) (fun w2 k h => h.drawn k) ?_
       obtain ⟨x267, hx_x267, ho⟩ := elt_bind ho
       refine DA.ghost (fun w2 hw => let ⟨z, hz⟩ := ixC ((fun w2 hw => slD.flat (St.own 4 rfl see.sub see.dj hw) (Sub.refl _) (Sub.refl _)) w2 hw) hx_x267.1 hx_x267.2; ⟨z, hz, hw⟩) (fun p266 i_p266 => ?_)
       have h_p266 := i_p266.1
       obtain ⟨p268, h_p268⟩ := PtC.more h_p266 4
       refine DA.ph 0 11 ?_
       refine DT.tk 0 ?_
       refine DT.tk 1 ?_
       refine DT.tk 2 ?_
       refine DT.tk 3 ?_
       refine DT.tk 4 ?_
       refine DT.tk 5 ?_
       refine DT.tv 6 rfl (Val.indexC' i_p266 Tryz.underlying23 sz41 rfl rfl) ?_
       refine DT.tv 7 rfl (Val.fieldC h_p266 h_p268 Tryz.underlying41 rfl rfl sz3 rfl) ?_
       refine DT.tv 8 rfl (Val.loadW1 (off := 4) (k := k_api_Method) (fun w2 hw => slD.flat (St.own 4 rfl see.sub see.dj hw) (Sub.refl _) (Sub.refl _)) hx_x267.2 h_p268 (fun _ _ ⟨_, _, _, e, _⟩ => by subst e; rfl) Tryz.underlying3 rfl rfl) ?_
       refine DT.tk 9 ?_
       refine DT.tk 10 ?_
       refine DT.next (by kernel_rfl) ?_
       refine DA.one 11 rfl (by kernel_rfl) ?_
       obtain ⟨x270, hx_x270, ho⟩ := elt_bind ho
       refine SP.indexW (fun w2 hw => slD.flat (St.own 4 rfl see.sub see.dj hw) (Sub.refl _) (Sub.refl _)) Tryz.underlying23 sz41 hx_x270.1 hx_x270.2 rfl rfl rfl rfl (fun p269 h_p269 => ?_)
       refine go ?_
       refine QE.atA ?_
       refine DA.one 12 rfl (by kernel_rfl) ?_
       refine SP.fieldO h_p269 Tryz.underlying41 rfl sz3 rfl rfl rfl (fun p271 h_p271 => ?_)
       refine go ?_
       refine QE.atA ?_
       refine DA.one 13 rfl (by kernel_rfl) ?_
       refine SP.imp (fun w2 hw => St.selO [4, 0, 1, 2, 3, 5] rfl rfl hw) ?_
       refine SP.storeD (z0 := ({ x270 with Fuel := IntKind.i64.wrap (x267.Fuel - less_3) } : api_Method)) (off := 4) (vs := [.int .i64 (IntKind.i64.wrap (x267.Fuel - less_3))]) see hx_x270.2 h_p271 rfl rfl sz3 rfl (fun a h c ⟨_, _, _, e, q⟩ => by subst e; exact ⟨_, _, _, rfl, q⟩) rfl rfl rfl ?_
       have hs272 := set_at ({ x270 with Fuel := IntKind.i64.wrap (x267.Fuel - less_3) } : api_Method) hx_x270.2
       refine go ?_
       refine QE.atA ?_
       refine DA.done (by kernel_rfl) ?_
       refine go ?_
       exact QE.meet fun a w2 ha hw => ⟨(l204.set k_1.toNat ({ x270 with Fuel := IntKind.i64.wrap (x267.Fuel - less_3) } : api_Method)), v205, m207, _, (by omega), ho, hr, ha.sub sb, (St.selP [4] rfl (St.selO [0, 2, 3, 4] rfl rfl hw))⟩
      refine go ?_
      refine CP.ci ho (fun ho => ?_) fun ho => ?_
      ·refine CP.drawA (by kernel_rfl) (fun w2 k h => h.drawn k) ?_
       obtain ⟨x274, hx_x274, ho⟩ := elt_bind ho
       refine DA.ghost (fun w2 hw => let ⟨z, hz⟩ := ixC ((fun w2 hw => slD.flat (St.own 4 rfl see.sub see.dj hw) (Sub.refl _) (Sub.refl _)) w2 hw) hx_x274.1 hx_x274.2; ⟨z, hz, hw⟩) (fun p273 i_p273 => ?_)
       have h_p273 := i_p273.1
       obtain ⟨p275, h_p275⟩ := PtC.more h_p273 5
       refine DA.ph 0 11 ?_
       refine DT.tk 0 ?_
       refine DT.tk 1 ?_
       refine DT.tk 2 ?_
       refine DT.tk 3 ?_
       refine DT.tk 4 ?_
       refine DT.tk 5 ?_
       refine DT.tv 6 rfl (Val.indexC' i_p273 Tryz.underlying23 sz41 rfl rfl) ?_
       refine DT.tv 7 rfl (Val.fieldC h_p273 h_p275 Tryz.underlying41 rfl rfl sz3 rfl) ?_
       refine DT.tv 8 rfl (Val.loadW1 (off := 5) (k := k_api_Method) (fun w2 hw => slD.flat (St.own 4 rfl see.sub see.dj hw) (Sub.refl _) (Sub.refl _)) hx_x274.2 h_p275 (fun _ _ ⟨_, _, _, e, _⟩ => by subst e; rfl) Tryz.underlying3 rfl rfl) ?_
       refine DT.tk 9 ?_
       refine DT.tk 10 ?_
       refine DT.next (by kernel_rfl) ?_
       refine DA.one 11 rfl (by kernel_rfl) ?_
       obtain ⟨x277, hx_x277, ho⟩ := elt_bind ho
       refine SP.indexW (fun w2 hw => slD.flat (St.own 4 rfl see.sub see.dj hw) (Sub.refl _) (Sub.refl _)) Tryz.underlying23 sz41 hx_x277.1 hx_x277.2 rfl rfl rfl rfl (fun p276 h_p276 => ?_)
       refine go ?_
       refine QE.atA ?_
       refine DA.one 12 rfl (by kernel_rfl) ?_
       refine SP.fieldO h_p276 Tryz.underlying41 rfl sz3 rfl rfl rfl (fun p278 h_p278 => ?_)
       refine go ?_
       refine QE.atA ?_
       refine DA.one 13 rfl (by kernel_rfl) ?_
       refine SP.imp (fun w2 hw => St.selO [4, 0, 1, 2, 3, 5] rfl rfl hw) ?_
       refine SP.storeD (z0 := ({ x277 with Stack := IntKind.i64.wrap (x274.Stack - less_3) } : api_Method)) (off := 5) (vs := [.int .i64 (IntKind.i64.wrap (x274.Stack - less_3))]) see hx_x277.2 h_p278 rfl rfl sz3 rfl (fun a h c ⟨_, _, _, e, q⟩ => by subst e; exact ⟨_, _, _, rfl, q⟩) rfl rfl rfl ?_
       have hs279 := set_at ({ x277 with Stack := IntKind.i64.wrap (x274.Stack - less_3) } : api_Method) hx_x277.2
       refine go ?_
       refine QE.atA ?_
       refine DA.done (by kernel_rfl) ?_
       refine go ?_
       exact QE.meet fun a w2 ha hw => ⟨(l204.set k_1.toNat ({ x277 with Stack := IntKind.i64.wrap (x274.Stack - less_3) } : api_Method)), v205, m207, _, (by omega), ho, hr, ha.sub sb, (St.selP [4] rfl (St.selO [0, 2, 3, 4] rfl rfl hw))⟩
      refine go ?_
      refine CP.ci ho (fun ho => ?_) fun ho => ?_
      ·refine CP.drawA (by kernel_rfl) (fun w2 k h => h.drawn k) ?_
       obtain ⟨x281, hx_x281, ho⟩ := elt_bind ho
       refine DA.ghost (fun w2 hw => let ⟨z, hz⟩ := ixC ((fun w2 hw => slD.flat (St.own 4 rfl see.sub see.dj hw) (Sub.refl _) (Sub.refl _)) w2 hw) hx_x281.1 hx_x281.2; ⟨z, hz, hw⟩) (fun p280 i_p280 => ?_)
       have h_p280 := i_p280.1
       obtain ⟨p282, h_p282⟩ := PtC.more h_p280 6
       refine DA.ph 0 11 ?_
       refine DT.tk 0 ?_
       refine DT.tk 1 ?_
       refine DT.tk 2 ?_
       refine DT.tk 3 ?_
       refine DT.tk 4 ?_
       refine DT.tk 5 ?_
       refine DT.tv 6 rfl (Val.indexC' i_p280 Tryz.underlying23 sz41 rfl rfl) ?_
       refine DT.tv 7 rfl (Val.fieldC h_p280 h_p282 Tryz.underlying41 rfl rfl sz3 rfl) ?_
       refine DT.tv 8 rfl (Val.loadW1 (off := 6) (k := k_api_Method) (fun w2 hw => slD.flat (St.own 4 rfl see.sub see.dj hw) (Sub.refl _) (Sub.refl _)) hx_x281.2 h_p282 (fun _ _ ⟨_, _, _, e, _⟩ => by subst e; rfl) Tryz.underlying3 rfl rfl) ?_
       refine DT.tk 9 ?_
       refine DT.tk 10 ?_
       refine DT.next (by kernel_rfl) ?_
       refine DA.one 11 rfl (by kernel_rfl) ?_
       obtain ⟨x284, hx_x284, ho⟩ := elt_bind ho
       refine SP.indexW (fun w2 hw => slD.flat (St.own 4 rfl see.sub see.dj hw) (Sub.refl _) (Sub.refl _)) Tryz.underlying23 sz41 hx_x284.1 hx_x284.2 rfl rfl rfl rfl (fun p283 h_p283 => ?_)
       refine go ?_
       refine QE.atA ?_
       refine DA.one 12 rfl (by kernel_rfl) ?_
       refine SP.fieldO h_p283 Tryz.underlying41 rfl sz3 rfl rfl rfl (fun p285 h_p285 => ?_)
       refine go ?_
       refine QE.atA ?_
       refine DA.one 13 rfl (by kernel_rfl) ?_
       refine SP.imp (fun w2 hw => St.selO [4, 0, 1, 2, 3, 5] rfl rfl hw) ?_
       refine SP.storeD (z0 := ({ x284 with Heap := IntKind.i64.wrap (x281.Heap - less_3) } : api_Method)) (off := 6) (vs := [.int .i64 (IntKind.i64.wrap (x281.Heap - less_3))]) see hx_x284.2 h_p285 rfl rfl sz3 rfl (fun a h c ⟨_, _, _, e, q⟩ => by subst e; exact ⟨_, _, _, rfl, q⟩) rfl rfl rfl ?_
       have hs286 := set_at ({ x284 with Heap := IntKind.i64.wrap (x281.Heap - less_3) } : api_Method) hx_x284.2
       refine go ?_
       refine QE.atA ?_
       refine DA.done (by kernel_rfl) ?_
       refine go ?_
       exact QE.meet fun a w2 ha hw => ⟨(l204.set k_1.toNat ({ x284 with Heap := IntKind.i64.wrap (x281.Heap - less_3) } : api_Method)), v205, m207, _, (by omega), ho, hr, ha.sub sb, (St.selP [4] rfl (St.selO [0, 2, 3, 4] rfl rfl hw))⟩
      refine go ?_
      obtain ⟨x288, hx_x288, ho⟩ := elt_bind ho
      refine SP.indexW (fun w2 hw => slD.flat (St.own 4 rfl see.sub see.dj hw) (Sub.refl _) (Sub.refl _)) Tryz.underlying23 sz41 hx_x288.1 hx_x288.2 rfl rfl rfl rfl (fun p287 h_p287 => ?_)
      refine SP.fieldO h_p287 Tryz.underlying41 rfl sz3 rfl rfl rfl (fun p289 h_p289 => ?_)
      refine SP.imp (fun w2 hw => St.selO [4, 0, 1, 2, 3, 5] rfl rfl hw) ?_
      refine SP.storeD (z0 := ({ x288 with Fuel := 1099511627776 } : api_Method)) (off := 4) (vs := [.int .i64 1099511627776]) see hx_x288.2 h_p289 rfl rfl sz3 rfl (fun a h c ⟨_, _, _, e, q⟩ => by subst e; exact ⟨_, _, _, rfl, q⟩) rfl rfl rfl ?_
      have hs290 := set_at ({ x288 with Fuel := 1099511627776 } : api_Method) hx_x288.2
      refine go ?_
      refine SP.val (Val.loadA 2 rfl Tryz.underlying25 rfl sz25 rfl rfl rfl) rfl rfl rfl ?_
      obtain ⟨t291, hc, ho⟩ := bind_some ho
      refine SP.callVO see (caps := []) (.int .i64 t291) fn17 rfl rfl rfl rfl (fun w2 hs => cost_Check.ok _ _ _ _ _ hc w2 (hp w2) (Sub.refl _) (slO.read (St.own 3 rfl see.sub see.dj hs) (Sub.refl _) (Sub.refl _)) (slO.read (St.own 4 rfl see.sub see.dj hs) (Sub.refl _) (Sub.refl _)) (slD.read (St.own 0 rfl see.sub see.dj hs) (Sub.refl _) (Sub.refl _)) ((St.pers 4 rfl see.sub see.dj hs))) ?_
      clear hc
      refine go ?_
      obtain rfl := fin ho hr
      exact QE.rt (fun _ h => h)
     refine SP.bb 121 (fun hq265 => ?_) fun hq265 => ?_
     ·refine go ?_
      exact QE.jb (or_t hq265) fun w2 hw => hw
     refine go ?_
     exact QE.jb (or_f hq265 rfl) fun w2 hw => hw
    refine SP.bb 117 (fun hq263 => ?_) fun hq263 => ?_
    ·refine go ?_
     exact QE.jb (or_t hq263) fun w2 hw => hw
    refine go ?_
    exact QE.jb (or_f hq263 rfl) fun w2 hw => hw
   refine SP.bb 111 (fun hq261 => ?_) fun hq261 => ?_
   ·refine go ?_
    exact QE.jb (or_t hq261) fun w2 hw => hw
   refine go ?_
   exact QE.jb (or_f hq261 rfl) fun w2 hw => hw
  refine SP.ci 103 hg_t259 (fun hq257 ho => ?_) fun hq257 ho => ?_
  ·refine go ?_
   obtain rfl := Option.some.inj ho
   exact QE.jn fun w2 hw => hw
  refine go ?_
  obtain ⟨t258, hc, ho⟩ := bind_some ho
  refine SP.callVO see (caps := []) (.bool t258) fn15 rfl rfl rfl rfl (fun w2 hs => capstanref12_Same.ok _ _ _ _ _ hc w2 (hp w2) (Sub.refl _) (slO.read (St.own 0 rfl see.sub see.dj hs) (Sub.refl _) (Sub.refl _)) ((St.pers 0 rfl see.sub see.dj hs))) ?_
  clear hc
  refine go ?_
  obtain rfl := Option.some.inj ho
  exact QE.jn fun w2 hw => hw
 refine SP.bb 28 (fun hq13 => ?_) fun hq13 => ?_
 ·refine go ?_
  exact QE.jb (or_t hq13) fun w2 hw => hw
 refine go ?_
 exact QE.jb (or_f hq13 rfl) fun w2 hw => hw
theorem cl5 : Tryz.prog.cellsOf 5 = 1 := by kernel_rfl
theorem cl2 : Tryz.prog.cellsOf 2 = 1 := by kernel_rfl
theorem cl62 : Tryz.prog.cellsOf 62 = 3 := by kernel_rfl
def wf_api_Value (x : api_Value) : Prop := (Lit.int .u8 x.Kind).wf = true ∧ (Lit.int .i64 x.A).wf = true ∧ (Lit.int .i64 x.B).wf = true
theorem opens_api_Value : Opens Tryz.prog 62 k_api_Value wf_api_Value := by
  intro H enc W fuel cs d ps h
  cases fuel with
  | zero => simp [DataW.trod] at h
  | succ n =>
    obtain ⟨hl, hf⟩ := trod_struct Tryz.underlying62 h
    rw [cl62] at hl
    obtain ⟨c0, c1, c2, rfl⟩ := len3 hl
    obtain ⟨d0, q0, h0⟩ := hf 0 _ rfl
    replace h0 : DataW.trod enc Tryz.prog W 0 (fun _ => true) true n 5 (List.take (Tryz.prog.cellsOf 5) [c0, c1, c2]) = some (d0, q0) := h0
    rw [cl5] at h0
    replace h0 : DataW.trod enc Tryz.prog W 0 (fun _ => true) true n 5 [c0] = some (d0, q0) := h0
    obtain ⟨x0, r0, w0⟩ := (Opens.int Tryz.underlying5) enc W n _ _ _ h0
    obtain ⟨rfl, -⟩ := List.cons.inj r0
    obtain ⟨d1, q1, h1⟩ := hf 1 _ rfl
    replace h1 : DataW.trod enc Tryz.prog W 0 (fun _ => true) true n 2 (List.take (Tryz.prog.cellsOf 2) [c1, c2]) = some (d1, q1) := h1
    rw [cl2] at h1
    replace h1 : DataW.trod enc Tryz.prog W 0 (fun _ => true) true n 2 [c1] = some (d1, q1) := h1
    obtain ⟨x1, r1, w1⟩ := (Opens.int Tryz.underlying2) enc W n _ _ _ h1
    obtain ⟨rfl, -⟩ := List.cons.inj r1
    obtain ⟨d2, q2, h2⟩ := hf 2 _ rfl
    replace h2 : DataW.trod enc Tryz.prog W 0 (fun _ => true) true n 2 (List.take (Tryz.prog.cellsOf 2) [c2]) = some (d2, q2) := h2
    rw [cl2] at h2
    replace h2 : DataW.trod enc Tryz.prog W 0 (fun _ => true) true n 2 [c2] = some (d2, q2) := h2
    obtain ⟨x2, r2, w2⟩ := (Opens.int Tryz.underlying2) enc W n _ _ _ h2
    obtain ⟨rfl, -⟩ := List.cons.inj r2
    exact ⟨⟨x0, x1, x2⟩, rfl, w0, w1, w2⟩
theorem cl3 : Tryz.prog.cellsOf 3 = 1 := by kernel_rfl
theorem cl71 : Tryz.prog.cellsOf 71 = 3 := by kernel_rfl
def wf_api_Instr (x : api_Instr) : Prop := (Lit.int .u8 x.Op).wf = true ∧ (Lit.int .i64 x.A).wf = true ∧ (Lit.int .i64 x.B).wf = true
theorem opens_api_Instr : Opens Tryz.prog 71 k_api_Instr wf_api_Instr := by
  intro H enc W fuel cs d ps h
  cases fuel with
  | zero => simp [DataW.trod] at h
  | succ n =>
    obtain ⟨hl, hf⟩ := trod_struct Tryz.underlying71 h
    rw [cl71] at hl
    obtain ⟨c0, c1, c2, rfl⟩ := len3 hl
    obtain ⟨d0, q0, h0⟩ := hf 0 _ rfl
    replace h0 : DataW.trod enc Tryz.prog W 0 (fun _ => true) true n 5 (List.take (Tryz.prog.cellsOf 5) [c0, c1, c2]) = some (d0, q0) := h0
    rw [cl5] at h0
    replace h0 : DataW.trod enc Tryz.prog W 0 (fun _ => true) true n 5 [c0] = some (d0, q0) := h0
    obtain ⟨x0, r0, w0⟩ := (Opens.int Tryz.underlying5) enc W n _ _ _ h0
    obtain ⟨rfl, -⟩ := List.cons.inj r0
    obtain ⟨d1, q1, h1⟩ := hf 1 _ rfl
    replace h1 : DataW.trod enc Tryz.prog W 0 (fun _ => true) true n 3 (List.take (Tryz.prog.cellsOf 3) [c1, c2]) = some (d1, q1) := h1
    rw [cl3] at h1
    replace h1 : DataW.trod enc Tryz.prog W 0 (fun _ => true) true n 3 [c1] = some (d1, q1) := h1
    obtain ⟨x1, r1, w1⟩ := (Opens.int Tryz.underlying3) enc W n _ _ _ h1
    obtain ⟨rfl, -⟩ := List.cons.inj r1
    obtain ⟨d2, q2, h2⟩ := hf 2 _ rfl
    replace h2 : DataW.trod enc Tryz.prog W 0 (fun _ => true) true n 3 (List.take (Tryz.prog.cellsOf 3) [c2]) = some (d2, q2) := h2
    rw [cl3] at h2
    replace h2 : DataW.trod enc Tryz.prog W 0 (fun _ => true) true n 3 [c2] = some (d2, q2) := h2
    obtain ⟨x2, r2, w2⟩ := (Opens.int Tryz.underlying3) enc W n _ _ _ h2
    obtain ⟨rfl, -⟩ := List.cons.inj r2
    exact ⟨⟨x0, x1, x2⟩, rfl, w0, w1, w2⟩
theorem cl38 : Tryz.prog.cellsOf 38 = 1 := by kernel_rfl
theorem cl4 : Tryz.prog.cellsOf 4 = 1 := by kernel_rfl
theorem cl39 : Tryz.prog.cellsOf 39 = 1 := by kernel_rfl
theorem cl41 : Tryz.prog.cellsOf 41 = 8 := by kernel_rfl
def wf_api_Method (x : api_Method) : Prop := (x.Args.length ≤ maxLen ∧ ∀ y ∈ x.Args, (Lit.int .u8 y).wf = true) ∧ (x.Locals.length ≤ maxLen ∧ ∀ y ∈ x.Locals, (Lit.int .u8 y).wf = true) ∧ (Lit.int .u8 x.Result).wf = true ∧ True ∧ (Lit.int .i64 x.Fuel).wf = true ∧ (Lit.int .i64 x.Stack).wf = true ∧ (Lit.int .i64 x.Heap).wf = true ∧ (x.Code.length ≤ maxLen ∧ ∀ y ∈ x.Code, wf_api_Instr y)
theorem opens_api_Method : Opens Tryz.prog 41 k_api_Method wf_api_Method := by
  intro H enc W fuel cs d ps h
  cases fuel with
  | zero => simp [DataW.trod] at h
  | succ n =>
    obtain ⟨hl, hf⟩ := trod_struct Tryz.underlying41 h
    rw [cl41] at hl
    obtain ⟨c0, c1, c2, c3, c4, c5, c6, c7, rfl⟩ := len8 hl
    obtain ⟨d0, q0, h0⟩ := hf 0 _ rfl
    replace h0 : DataW.trod enc Tryz.prog W 0 (fun _ => true) true n 38 (List.take (Tryz.prog.cellsOf 38) [c0, c1, c2, c3, c4, c5, c6, c7]) = some (d0, q0) := h0
    rw [cl38] at h0
    replace h0 : DataW.trod enc Tryz.prog W 0 (fun _ => true) true n 38 [c0] = some (d0, q0) := h0
    obtain ⟨x0, r0, w0⟩ := (Opens.slice Tryz.underlying38 (Opens.int Tryz.underlying5) cl5 (by decide)) enc W n _ _ _ h0
    obtain ⟨v0, e0, r0⟩ := r0
    obtain ⟨rfl, -⟩ := List.cons.inj e0
    obtain ⟨d1, q1, h1⟩ := hf 1 _ rfl
    replace h1 : DataW.trod enc Tryz.prog W 0 (fun _ => true) true n 38 (List.take (Tryz.prog.cellsOf 38) [c1, c2, c3, c4, c5, c6, c7]) = some (d1, q1) := h1
    rw [cl38] at h1
    replace h1 : DataW.trod enc Tryz.prog W 0 (fun _ => true) true n 38 [c1] = some (d1, q1) := h1
    obtain ⟨x1, r1, w1⟩ := (Opens.slice Tryz.underlying38 (Opens.int Tryz.underlying5) cl5 (by decide)) enc W n _ _ _ h1
    obtain ⟨v1, e1, r1⟩ := r1
    obtain ⟨rfl, -⟩ := List.cons.inj e1
    obtain ⟨d2, q2, h2⟩ := hf 2 _ rfl
    replace h2 : DataW.trod enc Tryz.prog W 0 (fun _ => true) true n 5 (List.take (Tryz.prog.cellsOf 5) [c2, c3, c4, c5, c6, c7]) = some (d2, q2) := h2
    rw [cl5] at h2
    replace h2 : DataW.trod enc Tryz.prog W 0 (fun _ => true) true n 5 [c2] = some (d2, q2) := h2
    obtain ⟨x2, r2, w2⟩ := (Opens.int Tryz.underlying5) enc W n _ _ _ h2
    obtain ⟨rfl, -⟩ := List.cons.inj r2
    obtain ⟨d3, q3, h3⟩ := hf 3 _ rfl
    replace h3 : DataW.trod enc Tryz.prog W 0 (fun _ => true) true n 4 (List.take (Tryz.prog.cellsOf 4) [c3, c4, c5, c6, c7]) = some (d3, q3) := h3
    rw [cl4] at h3
    replace h3 : DataW.trod enc Tryz.prog W 0 (fun _ => true) true n 4 [c3] = some (d3, q3) := h3
    obtain ⟨x3, r3, w3⟩ := (Opens.bool Tryz.underlying4) enc W n _ _ _ h3
    obtain ⟨rfl, -⟩ := List.cons.inj r3
    obtain ⟨d4, q4, h4⟩ := hf 4 _ rfl
    replace h4 : DataW.trod enc Tryz.prog W 0 (fun _ => true) true n 3 (List.take (Tryz.prog.cellsOf 3) [c4, c5, c6, c7]) = some (d4, q4) := h4
    rw [cl3] at h4
    replace h4 : DataW.trod enc Tryz.prog W 0 (fun _ => true) true n 3 [c4] = some (d4, q4) := h4
    obtain ⟨x4, r4, w4⟩ := (Opens.int Tryz.underlying3) enc W n _ _ _ h4
    obtain ⟨rfl, -⟩ := List.cons.inj r4
    obtain ⟨d5, q5, h5⟩ := hf 5 _ rfl
    replace h5 : DataW.trod enc Tryz.prog W 0 (fun _ => true) true n 3 (List.take (Tryz.prog.cellsOf 3) [c5, c6, c7]) = some (d5, q5) := h5
    rw [cl3] at h5
    replace h5 : DataW.trod enc Tryz.prog W 0 (fun _ => true) true n 3 [c5] = some (d5, q5) := h5
    obtain ⟨x5, r5, w5⟩ := (Opens.int Tryz.underlying3) enc W n _ _ _ h5
    obtain ⟨rfl, -⟩ := List.cons.inj r5
    obtain ⟨d6, q6, h6⟩ := hf 6 _ rfl
    replace h6 : DataW.trod enc Tryz.prog W 0 (fun _ => true) true n 3 (List.take (Tryz.prog.cellsOf 3) [c6, c7]) = some (d6, q6) := h6
    rw [cl3] at h6
    replace h6 : DataW.trod enc Tryz.prog W 0 (fun _ => true) true n 3 [c6] = some (d6, q6) := h6
    obtain ⟨x6, r6, w6⟩ := (Opens.int Tryz.underlying3) enc W n _ _ _ h6
    obtain ⟨rfl, -⟩ := List.cons.inj r6
    obtain ⟨d7, q7, h7⟩ := hf 7 _ rfl
    replace h7 : DataW.trod enc Tryz.prog W 0 (fun _ => true) true n 39 (List.take (Tryz.prog.cellsOf 39) [c7]) = some (d7, q7) := h7
    rw [cl39] at h7
    replace h7 : DataW.trod enc Tryz.prog W 0 (fun _ => true) true n 39 [c7] = some (d7, q7) := h7
    obtain ⟨x7, r7, w7⟩ := (Opens.slice Tryz.underlying39 opens_api_Instr cl71 (by decide)) enc W n _ _ _ h7
    obtain ⟨v7, e7, r7⟩ := r7
    obtain ⟨rfl, -⟩ := List.cons.inj e7
    exact ⟨⟨x0, x1, x2, x3, x4, x5, x6, x7⟩, ⟨_, _, _, rfl, r0, r1, r7⟩, w0, w1, w2, w3, w4, w5, w6, w7⟩
theorem cl22 : Tryz.prog.cellsOf 22 = 1 := by kernel_rfl
theorem cl23 : Tryz.prog.cellsOf 23 = 1 := by kernel_rfl
theorem cl25 : Tryz.prog.cellsOf 25 = 4 := by kernel_rfl
def wf_api_Module (x : api_Module) : Prop := (x.Globals.length ≤ maxLen ∧ ∀ y ∈ x.Globals, wf_api_Value y) ∧ (x.Pool.length ≤ maxLen ∧ ∀ y ∈ x.Pool, wf_api_Value y) ∧ (x.Methods.length ≤ maxLen ∧ ∀ y ∈ x.Methods, wf_api_Method y) ∧ (Lit.int .i64 x.Migrate).wf = true
theorem opens_api_Module : Opens Tryz.prog 25 k_api_Module wf_api_Module := by
  intro H enc W fuel cs d ps h
  cases fuel with
  | zero => simp [DataW.trod] at h
  | succ n =>
    obtain ⟨hl, hf⟩ := trod_struct Tryz.underlying25 h
    rw [cl25] at hl
    obtain ⟨c0, c1, c2, c3, rfl⟩ := len4 hl
    obtain ⟨d0, q0, h0⟩ := hf 0 _ rfl
    replace h0 : DataW.trod enc Tryz.prog W 0 (fun _ => true) true n 22 (List.take (Tryz.prog.cellsOf 22) [c0, c1, c2, c3]) = some (d0, q0) := h0
    rw [cl22] at h0
    replace h0 : DataW.trod enc Tryz.prog W 0 (fun _ => true) true n 22 [c0] = some (d0, q0) := h0
    obtain ⟨x0, r0, w0⟩ := (Opens.slice Tryz.underlying22 opens_api_Value cl62 (by decide)) enc W n _ _ _ h0
    obtain ⟨v0, e0, r0⟩ := r0
    obtain ⟨rfl, -⟩ := List.cons.inj e0
    obtain ⟨d1, q1, h1⟩ := hf 1 _ rfl
    replace h1 : DataW.trod enc Tryz.prog W 0 (fun _ => true) true n 22 (List.take (Tryz.prog.cellsOf 22) [c1, c2, c3]) = some (d1, q1) := h1
    rw [cl22] at h1
    replace h1 : DataW.trod enc Tryz.prog W 0 (fun _ => true) true n 22 [c1] = some (d1, q1) := h1
    obtain ⟨x1, r1, w1⟩ := (Opens.slice Tryz.underlying22 opens_api_Value cl62 (by decide)) enc W n _ _ _ h1
    obtain ⟨v1, e1, r1⟩ := r1
    obtain ⟨rfl, -⟩ := List.cons.inj e1
    obtain ⟨d2, q2, h2⟩ := hf 2 _ rfl
    replace h2 : DataW.trod enc Tryz.prog W 0 (fun _ => true) true n 23 (List.take (Tryz.prog.cellsOf 23) [c2, c3]) = some (d2, q2) := h2
    rw [cl23] at h2
    replace h2 : DataW.trod enc Tryz.prog W 0 (fun _ => true) true n 23 [c2] = some (d2, q2) := h2
    obtain ⟨x2, r2, w2⟩ := (Opens.slice Tryz.underlying23 opens_api_Method cl41 (by decide)) enc W n _ _ _ h2
    obtain ⟨v2, e2, r2⟩ := r2
    obtain ⟨rfl, -⟩ := List.cons.inj e2
    obtain ⟨d3, q3, h3⟩ := hf 3 _ rfl
    replace h3 : DataW.trod enc Tryz.prog W 0 (fun _ => true) true n 3 (List.take (Tryz.prog.cellsOf 3) [c3]) = some (d3, q3) := h3
    rw [cl3] at h3
    replace h3 : DataW.trod enc Tryz.prog W 0 (fun _ => true) true n 3 [c3] = some (d3, q3) := h3
    obtain ⟨x3, r3, w3⟩ := (Opens.int Tryz.underlying3) enc W n _ _ _ h3
    obtain ⟨rfl, -⟩ := List.cons.inj r3
    exact ⟨⟨x0, x1, x2, x3⟩, ⟨_, _, _, rfl, r0, r1, r2⟩, w0, w1, w2, w3⟩
def capstanlaw12_CostDeclares.Pure : Prop := ∀ (x0 : api_Module) (x1 : Int) (x2 : Int) (x3 : Int), wf_api_Module x0 → (Lit.int .i64 x1).wf = true → (Lit.int .i64 x2).wf = true → (Lit.int .i64 x3).wf = true → capstanlaw12_CostDeclares.f x0 x1 x2 x3 = some true
end Go.Proofs.YtmhkokkphgchlaaGreatDoor
end
