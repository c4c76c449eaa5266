/- Functions of the program as plain functions, with the proof that the code computes them: printed by gen.py of this session. -/
import Derived.Test.YtmhkokkphgchlaaGreatDoorProg
import Derived.Test.YtmhkokkphgchlaaGreatDoorQ33xCostOthers
import Derived.Test.YtmhkokkphgchlaaGreatDoorQ37xCostOthers
import Derived.Ground.GgzProg
import Derived.Ground.Names8Prog
import Derived.Ground.NamesProg
import Derived.Ground.SlgcProg
import Derived.Ground.SlgmProg
import Derived.Ground.SlgnProg
import Derived.Ground.SlsfProg
import Derived.Shelf.Bits.Mul64
import Derived.Shelf.Lay
import Derived.Shelf.SlGeneric
import Derived.Shelf.SlIterI.Nil
import Derived.Shelf.SlSortCmp.WholeK
import Derived.Shelf.SlicesE.Reverse
import Derived.Shelf.SlicesG.Cmp
import Derived.Shelf.SlicesG.CompactI
import Derived.Shelf.Small.Bits
import Derived.Shelf.SortM.Plain
import Derived.Shelf.SortM.SortNone
import Derived.Shelf.Spec.SlicesGrow
import Derived.Test.YtmhkokkphgchlaaGreatDoorGCostOthersp2
set_option linter.unusedVariables false
set_option linter.unusedSimpArgs false
set_option maxRecDepth 20000
set_option maxHeartbeats 2000000
set_option linter.defProp false
set_option warn.classDefReducibility false
noncomputable section
namespace Go.Proofs.YtmhkokkphgchlaaGreatDoor
open Go.Q
attribute [local irreducible] CP SP QE DA DT Val St
inductive capstanref12_Same.S where
  | start
  | l1 (x12 : Int)
def capstanref12_Same.F (a_0 : (List api_Cert)) (b_1 : (List api_Cert)) : capstanref12_Same.S → Option (capstanref12_Same.S ⊕ Bool)
  | .start => if (a_0.length : Int) ≠ (b_1.length : Int) then (some (.inr false)) else (some (.inl (.l1 0)))
  | .l1 x12 => if x12 < (a_0.length : Int) then ((elt a_0 x12).bind fun x16 => (elt b_1 x12).bind fun x20 => if (!(x16.Fuel == x20.Fuel && (x16.Stack == x20.Stack && (x16.Heap == x20.Heap)))) = true then (some (.inr false)) else (some (.inl (.l1 (IntKind.i64.wrap (x12 + 1)))))) else (some (.inr true))
def capstanref12_Same.f (a_0 : (List api_Cert)) (b_1 : (List api_Cert)) : Option Bool := runF (capstanref12_Same.F a_0 b_1) .start
theorem capstanref12_Same.ok (a_0 : (List api_Cert)) (b_1 : (List api_Cert)) (v_a_0 v_b_1 : Value) (r : Bool) (H : capstanref12_Same.f a_0 b_1 = some r) (w : World) (hV : Hp) (sV : Sub hV (hp w)) (h0 : slR k_api_Cert hV v_a_0 a_0) (h1 : slR k_api_Cert hV v_b_1 b_1) :
    Trip Tryz.prog 15 [v_a_0, v_b_1].toArray em hV w (fun v => HO.pure (v = .bool r)) := by
 refine Trip.go 26 Tryz.func15 sV (aS h0 (aS h1 (All.nil _))) fun see => ?_
 obtain ⟨n0, hi⟩ := runF_iff.1 H
 obtain ⟨m0, o, hm0, ho, hr⟩ := iter_some hi
 clear hi
 refine go ?_
 refine CP.seq ?_
 refine go ?_
 refine CP.ci ho (fun ho => ?_) fun ho => ?_
 ·refine go ?_
  obtain rfl := fin ho hr
  exact QE.rt (fun _ h => h)
 refine go ?_
 refine CP.seq ?_
 refine go ?_
 obtain rfl := Option.some.inj ho
 refine CP.loop (fun cl1 a w2 => ∃ x12 : Int, cl1 ≤ m0 ∧ iter (capstanref12_Same.F a_0 b_1) cl1 (.l1 x12) = some r ∧ Env ⟨26, []⟩ [(0, v_a_0), (1, v_b_1), (5, .int .i64 x12)] a ∧ St w em hV [slP k_api_Cert v_a_0 a_0, slP k_api_Cert v_b_1 b_1] [] w2) m0 (fun a w2 ha hw => ⟨0, Nat.le_refl _, hr, ha.sub sb, hw⟩) ?_
 clear hr
 rintro cl1 a w2 ⟨x12, hc_l1, hi, ha, hw⟩
 obtain ⟨m13, o, hm_m13, ho, hr⟩ := iter_some hi
 refine CP.app ha hw ?_
 clear ha hw a w2 hi
 refine CP.seq ?_
 refine go ?_
 refine CP.ci ho (fun ho => ?_) fun ho => ?_
 ·refine go ?_
  refine CP.seq ?_
  refine go ?_
  refine CP.seq ?_
  refine CP.drawA (by kernel_rfl) (fun w2 k h => h.drawn k) ?_
  obtain ⟨x16, hx, ho⟩ := elt_bind ho
  refine DA.ghost (fun w2 h => h.elem see 0 rfl hx.1 hx.2) (fun p14 h_p14 => ?_)
  clear hx
  refine DA.ghost (fun w2 h => h.openE see 0 rfl (fun _ : Unit => [.int .i64 x16.Fuel, .int .i64 x16.Stack, .int .i64 x16.Heap]) (fun _ => []) (fun h cs e => ⟨(), e, All.nil _⟩)) (fun _ _ => ?_)
  obtain ⟨x20, hx, ho⟩ := elt_bind ho
  refine DA.ghost (fun w2 h => h.elem see 3 rfl hx.1 hx.2) (fun p18 h_p18 => ?_)
  clear hx
  refine DA.ghost (fun w2 h => h.openE see 0 rfl (fun _ : Unit => [.int .i64 x20.Fuel, .int .i64 x20.Stack, .int .i64 x20.Heap]) (fun _ => []) (fun h cs e => ⟨(), e, All.nil _⟩)) (fun _ _ => ?_)
  refine DA.ph 0 8 ?_
  refine DT.tk 0 ?_
  refine DT.tk 1 ?_
  refine DT.tv 2 rfl (Val.indexE h_p14 Tryz.underlying29 sz36 rfl rfl) ?_
  refine DT.tv 3 rfl (Val.loadAtA see 2 rfl Tryz.underlying36 rfl sz36 rfl) ?_
  refine DT.tk 4 ?_
  refine DT.tk 5 ?_
  refine DT.tv 6 rfl (Val.indexE h_p18 Tryz.underlying29 sz36 rfl rfl) ?_
  refine DT.tv 7 rfl (Val.loadAtA see 0 rfl Tryz.underlying36 rfl sz36 rfl) ?_
  refine DT.next (by kernel_rfl) ?_
  refine DA.one 8 rfl (by kernel_rfl) ?_
  refine SP.val (Val.neqA (by kernel_rfl) (fun w2 => eqA36 9998 w2 x16.Fuel x20.Fuel x16.Stack x20.Stack x16.Heap x20.Heap) rfl rfl) rfl rfl rfl ?_
  refine go ?_
  refine QE.atA ?_
  refine DA.done (by kernel_rfl) ?_
  refine go ?_
  refine CP.cb ho (fun ho => ?_) fun ho => ?_
  ·refine go ?_
   obtain rfl := fin ho hr
   exact QE.rt (fun _ h => h)
  refine go ?_
  obtain rfl := Option.some.inj ho
  exact QE.lower m13 (by omega) fun a w2 ha hw => ⟨(IntKind.i64.wrap (x12 + 1)), (by omega), hr, ha.sub sb, (St.selP [4, 5] rfl hw)⟩
 refine go ?_
 obtain rfl := fin ho hr
 exact QE.rt (fun _ h => h)
inductive capstanlaw12_CostOthers.S where
  | start
  | l1 (t8 : api_Module) (l116 : List api_Method) (x118 : Int)
  | l2 (t132 : (List api_Cert) × Int) (t135 : (List api_Cert) × Int) (b190 : Bool) (x191 : Int)
def capstanlaw12_CostOthers.j1 (m_0 : api_Module) (t132 : (List api_Cert) × Int) (t135 : (List api_Cert) × Int) (x191 : Int) (b212 : Bool) : Option (capstanlaw12_CostOthers.S ⊕ Bool) :=
  some (.inl (.l2 t132 t135 b212 (IntKind.i64.wrap (x191 + 1))))
def capstanlaw12_CostOthers.F (m_0 : api_Module) : capstanlaw12_CostOthers.S → Option (capstanlaw12_CostOthers.S ⊕ Bool)
  | .start => (capstanlaw12_awake.f ).bind fun t6 => if (!t6) = true then (some (.inr false)) else ((capstanlaw08_Great.f m_0).bind fun t7 => if t7 = true then (some (.inr true)) else ((capstanref08_Copy.f m_0).bind fun t8 => some (.inl (.l1 t8 t8.Methods 0))))
  | .l1 t8 l116 x118 => if x118 < (l116.length : Int) then ((elt l116 x118).bind fun x121 => (elt l116 x118).bind fun x124 => (elt ((l116.set x118.toNat ({ x121 with Fuel := 1048576 } : api_Method)).set x118.toNat ({ ({ x121 with Fuel := 1048576 } : api_Method) with Stack := 256 } : api_Method)) x118).bind fun x129 => some (.inl (.l1 t8 (((l116.set x118.toNat ({ x121 with Fuel := 1048576 } : api_Method)).set x118.toNat ({ ({ x121 with Fuel := 1048576 } : api_Method) with Stack := 256 } : api_Method)).set x118.toNat ({ x129 with Heap := 1024 } : api_Method)) (IntKind.i64.wrap (x118 + 1))))) else ((cost_Costs.f m_0).bind fun t132 => (cost_Costs.f (⟨t8.Globals, t8.Pool, l116, t8.Migrate⟩ : api_Module)).bind fun t135 => if t132.2 = 0 then ((if t135.2 = 0 then ((capstanref12_Same.f t132.1 t135.1).bind fun t140 => some t140) else (some false)).bind fun t141 => some (.inr t141)) else (if t135.2 ≠ 0 then (some (.inr (decide (t132.2 = t135.2)))) else (some (.inl (.l2 t132 t135 (decide ((t135.1.length : Int) = (m_0.Methods.length : Int))) 0)))))
  | .l2 t132 t135 b190 x191 => if ((decide (x191 < (t135.1.length : Int))) && (decide (x191 < (m_0.Methods.length : Int)))) = true then (if b190 = true then ((elt t135.1 x191).bind fun x198 => (elt m_0.Methods x191).bind fun x202 => (cost_Fits.f x198 x202).bind fun t210 => capstanlaw12_CostOthers.j1 m_0 t132 t135 x191 t210) else (capstanlaw12_CostOthers.j1 m_0 t132 t135 x191 false)) else (some (.inr ((decide (t132.2 = 120)) && (!b190))))
def capstanlaw12_CostOthers.f (m_0 : api_Module) : Option Bool := runF (capstanlaw12_CostOthers.F m_0) .start
theorem capstanlaw12_CostOthers.ok (m_0 : api_Module) (v_m_0_Globals v_m_0_Pool v_m_0_Methods : Value)  (r : Bool) (H : capstanlaw12_CostOthers.f m_0 = some r) (w : World) (hV : Hp) (sV : Sub hV (hp w)) (h0 : slR k_api_Value hV v_m_0_Globals m_0.Globals) (h1 : slR k_api_Value hV v_m_0_Pool m_0.Pool) (h2 : slR k_api_Method hV v_m_0_Methods m_0.Methods) (h3 : (arrP k_arr221 0 tab0).p hV) :
    Trip Tryz.prog 4 [.agg #[v_m_0_Globals, v_m_0_Pool, v_m_0_Methods, .int .i64 m_0.Migrate]].toArray em hV w (fun v => HO.pure (v = .bool r)) := by
 refine Trip.go 101 Tryz.func4 sV (aS h0 (aS h1 (aS h2 (All.cons (x := arrP k_arr221 0 tab0) h3 (All.nil _))))) fun see => ?_
 obtain ⟨n0, hi⟩ := runF_iff.1 H
 obtain ⟨m0, o, hm0, ho, hr⟩ := iter_some hi
 clear hi
 refine go ?_
 refine SP.box rfl rfl rfl rfl fun b4 => ?_
 refine go ?_
 refine CP.seq ?_
 refine go ?_
 obtain ⟨t6, hc, ho⟩ := bind_some (x := capstanlaw12_awake.f ) ho
 refine SP.callV see (caps := []) (.bool t6) fn8 rfl rfl rfl rfl (fun w2 hP hs sub ap => capstanlaw12_awake.ok   _ hc w2 hP sub (ap.get 3 rfl)) ?_
 clear hc
 refine go ?_
 refine CP.cb ho (fun ho => ?_) fun ho => ?_
 ·refine go ?_
  obtain rfl := fin ho hr
  exact QE.rt (fun _ h => h)
 refine go ?_
 refine CP.seq ?_
 refine go ?_
 refine SP.val (Val.loadA 0 rfl Tryz.underlying25 rfl sz25 rfl rfl rfl) rfl rfl rfl ?_
 obtain ⟨t7, hc, ho⟩ := bind_some ho
 refine SP.callV see (caps := []) (.bool t7) fn12 rfl rfl rfl rfl (fun w2 hP hs sub ap => capstanlaw08_Great.ok _ _ _ _ _ hc w2 hP sub (ap.get 0 rfl) (ap.get 1 rfl) (ap.get 2 rfl)) ?_
 clear hc
 refine go ?_
 refine CP.cb ho (fun ho => ?_) fun ho => ?_
 ·refine go ?_
  obtain rfl := fin ho hr
  exact QE.rt (fun _ h => h)
 refine go ?_
 refine SP.val (Val.loadA 0 rfl Tryz.underlying25 rfl sz25 rfl rfl rfl) rfl rfl rfl ?_
 obtain ⟨t8, hc, ho⟩ := bind_some ho
 refine SP.callK see (caps := []) _ fn13 rfl rfl rfl rfl (fun w2 hP hs sub ap => capstanref08_Copy.ok _ _ _ _ _ hc w2 hP sub (ap.get 0 rfl) (ap.get 1 rfl) (ap.get 2 rfl)) (SP.k3 fun v9 v10 v11 => ?_)
 clear hc
 refine SP.alloc (cs := [(.slice none 0 0), (.slice none 0 0), (.slice none 0 0), .int .i64 0]) inf25 rfl rfl (fun b15 => ?_)
 refine SP.have (fun w2 hw => slO.shape (St.own 1 rfl see.sub see.dj hw)) (fun hs_v9 => ?_)
 refine SP.have (fun w2 hw => slO.shape (St.own 2 rfl see.sub see.dj hw)) (fun hs_v10 => ?_)
 refine SP.have (fun w2 hw => slD.shape (St.own 3 rfl see.sub see.dj hw)) (fun hs_v11 => ?_)
 refine SP.store (v := .agg #[v9, v10, v11, .int .i64 t8.Migrate]) (vs := [v9, v10, v11, .int .i64 t8.Migrate]) 0 (by rfl) sz25 (by rfl) (by rfl) (by rfl) (by rfl) (one_cons hs_v9 (one_cons hs_v10 (one_cons hs_v11 (one_cons rfl (rfl))))) (by rfl) ?_
 refine go ?_
 refine CP.seq ?_
 refine go ?_
 obtain rfl := Option.some.inj ho
 refine CP.loop (fun cl1 a w2 => ∃ l116 : List api_Method, ∃ x118 : Int, ∃ v117 : Value, cl1 ≤ m0 ∧ iter (capstanlaw12_CostOthers.F m_0) cl1 (.l1 t8 l116 x118) = some r ∧ Env ⟨101, []⟩ [(1, .pointer (some ⟨b4, 0, none⟩)), (3, .pointer (some ⟨b15, 0, none⟩)), (4, .int .i64 x118)] a ∧ St w em hV [slP k_api_Value v_m_0_Globals m_0.Globals, slP k_api_Value v_m_0_Pool m_0.Pool, slP k_api_Method v_m_0_Methods m_0.Methods, arrP k_arr221 0 tab0] [boxO b15 [v9, v10, v117, .int .i64 t8.Migrate] 25, slO k_api_Value 62 v9 t8.Globals, slO k_api_Value 62 v10 t8.Pool, slD o_api_Method 41 v117 l116, boxO b4 [v_m_0_Globals, v_m_0_Pool, v_m_0_Methods, .int .i64 m_0.Migrate] 25] w2) m0 (fun a w2 ha hw => ⟨t8.Methods, 0, v11, Nat.le_refl _, hr, ha.sub sb, hw⟩) ?_
 clear hr
 rintro cl1 a w2 ⟨l116, x118, v117, hc_l1, hi, ha, hw⟩
 obtain ⟨m119, o, hm_m119, ho, hr⟩ := iter_some hi
 refine CP.app ha hw ?_
 clear ha hw a w2 hi
 refine CP.seq ?_
 refine go ?_
 refine SP.val (Val.lenW (fun w2 hw => slD.flat (St.own 3 rfl see.sub see.dj hw) (Sub.refl _) (Sub.refl _)) Tryz.underlying23 rfl) rfl rfl rfl ?_
 refine go ?_
 refine CP.ci ho (fun ho => ?_) fun ho => ?_
 ·refine go ?_
  refine CP.seq ?_
  refine go ?_
  refine CP.drawA (by kernel_rfl) (fun w2 k h => h.drawn k) ?_
  obtain ⟨x121, hx_x121, ho⟩ := elt_bind ho
  refine DA.ghost (fun w2 hw => let ⟨z, hz⟩ := ixC ((fun w2 hw => slD.flat (St.own 3 rfl see.sub see.dj hw) (Sub.refl _) (Sub.refl _)) w2 hw) hx_x121.1 hx_x121.2; ⟨z, hz, hw⟩) (fun p120 i_p120 => ?_)
  have h_p120 := i_p120.1
  obtain ⟨p122, h_p122⟩ := PtC.more h_p120 4
  obtain ⟨x124, hx_x124, ho⟩ := elt_bind ho
  refine DA.ghost (fun w2 hw => let ⟨z, hz⟩ := ixC ((fun w2 hw => slD.flat (St.own 3 rfl see.sub see.dj hw) (Sub.refl _) (Sub.refl _)) w2 hw) hx_x124.1 hx_x124.2; ⟨z, hz, hw⟩) (fun p123 i_p123 => ?_)
  have h_p123 := i_p123.1
  obtain ⟨p125, h_p125⟩ := PtC.more h_p123 5
  refine (DA.phase (fun i => Nat.ble 0 i && Nat.blt i 15) (fun w2 => St w em hV [slP k_api_Value v_m_0_Globals m_0.Globals, slP k_api_Value v_m_0_Pool m_0.Pool, slP k_api_Method v_m_0_Methods m_0.Methods, arrP k_arr221 0 tab0] [boxO b15 [v9, v10, v117, .int .i64 t8.Migrate] 25, slO k_api_Value 62 v9 t8.Globals, slO k_api_Value 62 v10 t8.Pool, boxO b4 [v_m_0_Globals, v_m_0_Pool, v_m_0_Methods, .int .i64 m_0.Migrate] 25] w2) ?_)
  refine DT.ts 0 rfl (Val.fieldAddr Tryz.underlying25 rfl sz23 rfl) (fun w2 hw => (St.selO [0, 1, 2, 4] rfl rfl hw)) ?_
  refine DT.ts 1 rfl (Val.load1 0 rfl Tryz.underlying23 rfl rfl rfl) (fun w2 hw => (St.selO [0, 1, 2, 4] rfl rfl hw)) ?_
  refine DT.ts 2 rfl (Val.move rfl) (fun w2 hw => (St.selO [0, 1, 2, 4] rfl rfl hw)) ?_
  refine DT.ts 3 rfl (Val.fieldAddr Tryz.underlying25 rfl sz23 rfl) (fun w2 hw => (St.selO [0, 1, 2, 4] rfl rfl hw)) ?_
  refine DT.ts 4 rfl (Val.load1 0 rfl Tryz.underlying23 rfl rfl rfl) (fun w2 hw => (St.selO [0, 1, 2, 4] rfl rfl hw)) ?_
  refine DT.ts 5 rfl (Val.move rfl) (fun w2 hw => (St.selO [0, 1, 2, 4] rfl rfl hw)) ?_
  refine DT.ts 6 rfl (Val.fieldAddr Tryz.underlying25 rfl sz23 rfl) (fun w2 hw => (St.selO [0, 1, 2, 4] rfl rfl hw)) ?_
  refine DT.ts 7 rfl (Val.load1 0 rfl Tryz.underlying23 rfl rfl rfl) (fun w2 hw => (St.selO [0, 1, 2, 4] rfl rfl hw)) ?_
  refine DT.ts 8 rfl (Val.move rfl) (fun w2 hw => (St.selO [0, 1, 2, 4] rfl rfl hw)) ?_
  refine DT.ts 9 rfl (Val.indexC' i_p120 Tryz.underlying23 sz41 rfl rfl) (fun w2 hw => (St.selO [0, 1, 2, 4] rfl rfl hw)) ?_
  refine DT.ts 10 rfl (Val.fieldC h_p120 h_p122 Tryz.underlying41 rfl rfl sz3 rfl) (fun w2 hw => (St.selO [0, 1, 2, 4] rfl rfl hw)) ?_
  refine DT.one 11 rfl (by kernel_rfl) rfl ?_
  refine SP.imp (fun w2 hw => St.selO [3, 0, 1, 2, 4] rfl rfl hw) ?_
  refine SP.storeD (z0 := ({ x121 with Fuel := 1048576 } : api_Method)) (off := 4) (vs := [.int .i64 1048576]) see hx_x121.2 h_p122 rfl rfl sz3 rfl (fun a h c ⟨_, _, _, e, q⟩ => by subst e; exact ⟨_, _, _, rfl, q⟩) rfl rfl rfl ?_
  have hs126 := set_at ({ x121 with Fuel := 1048576 } : api_Method) hx_x121.2
  refine go ?_
  refine QE.atT (fun w2 hw => (St.selO [1, 2, 3, 4] rfl rfl hw)) ?_
  refine DT.ts 12 rfl (Val.indexC' i_p123 Tryz.underlying23 sz41 rfl rfl) (fun w2 hw => (St.selO [1, 2, 3, 4] rfl rfl hw)) ?_
  refine DT.ts 13 rfl (Val.fieldC h_p123 h_p125 Tryz.underlying41 rfl rfl sz3 rfl) (fun w2 hw => (St.selO [1, 2, 3, 4] rfl rfl hw)) ?_
  refine DT.one 14 rfl (by kernel_rfl) rfl ?_
  refine SP.storeD (z0 := ({ ({ x121 with Fuel := 1048576 } : api_Method) with Stack := 256 } : api_Method)) (off := 5) (vs := [.int .i64 256]) see hs126 h_p125 rfl rfl sz3 rfl (fun a h c ⟨_, _, _, e, q⟩ => by subst e; exact ⟨_, _, _, rfl, q⟩) rfl rfl rfl ?_
  have hs127 := set_at ({ ({ x121 with Fuel := 1048576 } : api_Method) with Stack := 256 } : api_Method) hs126
  refine go ?_
  refine QE.atT (fun w2 hw => (St.selO [1, 2, 3, 4] rfl rfl hw)) ?_
  refine DT.next (by kernel_rfl) ?_
  refine DA.one 15 rfl (by kernel_rfl) ?_
  obtain ⟨x129, hx_x129, ho⟩ := elt_bind ho
  refine SP.indexW (fun w2 hw => slD.flat (St.own 0 rfl see.sub see.dj hw) (Sub.refl _) (Sub.refl _)) Tryz.underlying23 sz41 hx_x129.1 hx_x129.2 rfl rfl rfl rfl (fun p128 h_p128 => ?_)
  refine go ?_
  refine QE.atA ?_
  refine DA.one 16 rfl (by kernel_rfl) ?_
  refine SP.fieldO h_p128 Tryz.underlying41 rfl sz3 rfl rfl rfl (fun p130 h_p130 => ?_)
  refine go ?_
  refine QE.atA ?_
  refine DA.one 17 rfl (by kernel_rfl) ?_
  refine SP.storeD (z0 := ({ x129 with Heap := 1024 } : api_Method)) (off := 6) (vs := [.int .i64 1024]) see hx_x129.2 h_p130 rfl rfl sz3 rfl (fun a h c ⟨_, _, _, e, q⟩ => by subst e; exact ⟨_, _, _, rfl, q⟩) rfl rfl rfl ?_
  have hs131 := set_at ({ x129 with Heap := 1024 } : api_Method) hx_x129.2
  refine go ?_
  refine QE.atA ?_
  refine DA.done (by kernel_rfl) ?_
  refine go ?_
  obtain rfl := Option.some.inj ho
  exact QE.lower m119 (by omega) fun a w2 ha hw => ⟨(((l116.set x118.toNat ({ x121 with Fuel := 1048576 } : api_Method)).set x118.toNat ({ ({ x121 with Fuel := 1048576 } : api_Method) with Stack := 256 } : api_Method)).set x118.toNat ({ x129 with Heap := 1024 } : api_Method)), (IntKind.i64.wrap (x118 + 1)), v117, (by omega), hr, ha.sub sb, (St.selO [1, 2, 3, 0, 4] rfl rfl hw)⟩
 refine go ?_
 refine SP.val (Val.loadA 4 rfl Tryz.underlying25 rfl sz25 rfl rfl rfl) rfl rfl rfl ?_
 obtain ⟨t132, hc, ho⟩ := bind_some ho
 refine SP.callK see (caps := []) _ fn14 rfl rfl rfl rfl (fun w2 hP hs sub ap => cost_Costs.ok _ _ _ _ _ hc w2 hP sub (ap.get 0 rfl) (ap.get 1 rfl) (ap.get 2 rfl) (ap.get 3 rfl)) (SP.k1 fun v133 => ?_)
 clear hc
 refine go ?_
 refine SP.val (Val.loadA 1 rfl Tryz.underlying25 rfl sz25 rfl rfl rfl) rfl rfl rfl ?_
 obtain ⟨t135, hc, ho⟩ := bind_some ho
 refine SP.callKO see (caps := []) _ fn14 rfl rfl rfl rfl (fun w2 hs => cost_Costs.ok _ _ _ _ _ hc w2 (hp w2) (Sub.refl _) (slO.read (St.own 2 rfl see.sub see.dj hs) (Sub.refl _) (Sub.refl _)) (slO.read (St.own 3 rfl see.sub see.dj hs) (Sub.refl _) (Sub.refl _)) (slD.read (St.own 4 rfl see.sub see.dj hs) (Sub.refl _) (Sub.refl _)) ((St.pers 3 rfl see.sub see.dj hs))) (fun v a a2 b ⟨v136, e, h⟩ => ⟨v136, e, (Sep.fcons (fun _ => slO.flip (fun _ _ _ _ h => h)) (fun _ => Sep.fnil)) h⟩) (SP.k1 fun v136 => ?_)
 clear hc
 refine go ?_
 refine CP.seq ?_
 refine go ?_
 refine CP.ci ho (fun ho => ?_) fun ho => ?_
 ·refine go ?_
  obtain ⟨t141, hg_t141, ho⟩ := bind_some ho
  refine SP.jn 4 [] 57 (.bool t141) ?_ ?_
  ·clear hg_t141
   refine go ?_
   obtain rfl := fin ho hr
   exact QE.rt (fun _ h => h)
  refine SP.ci 53 hg_t141 (fun hq139 ho => ?_) fun hq139 ho => ?_
  ·refine go ?_
   obtain ⟨t140, hc, ho⟩ := bind_some ho
   refine SP.callVO see (caps := []) (.bool t140) fn15 rfl rfl rfl rfl (fun w2 hs => capstanref12_Same.ok _ _ _ _ _ hc w2 (hp w2) (Sub.refl _) (slO.read (St.own 1 rfl see.sub see.dj hs) (Sub.refl _) (Sub.refl _)) (slO.read (St.own 0 rfl see.sub see.dj hs) (Sub.refl _) (Sub.refl _))) ?_
   clear hc
   refine go ?_
   obtain rfl := Option.some.inj ho
   exact QE.jn fun w2 hw => hw
  refine go ?_
  obtain rfl := Option.some.inj ho
  exact QE.jn fun w2 hw => hw
 refine go ?_
 refine CP.seq ?_
 refine go ?_
 refine CP.ci ho (fun ho => ?_) fun ho => ?_
 ·refine go ?_
  obtain rfl := fin ho hr
  exact QE.rt (fun _ h => h)
 refine go ?_
 refine SP.val (Val.lenW (fun w2 hw => slO.whole (St.own 0 rfl see.sub see.dj hw)) Tryz.underlying29 rfl) rfl rfl rfl ?_
 refine go ?_
 refine CP.seq ?_
 refine go ?_
 refine CP.freezeS see 0 rfl ?_
 obtain rfl := Option.some.inj ho
 refine CP.loop (fun cl2 a w2 => ∃ b190 : Bool, ∃ x191 : Int, cl2 ≤ m119 ∧ iter (capstanlaw12_CostOthers.F m_0) cl2 (.l2 t132 t135 b190 x191) = some r ∧ Env ⟨101, []⟩ [(1, .pointer (some ⟨b4, 0, none⟩)), (6, .int .i64 t132.2), (7, v136), (9, .bool b190), (10, .int .i64 x191)] a ∧ St w em hV [slP k_api_Cert v136 t135.1, slP k_api_Value v_m_0_Globals m_0.Globals, slP k_api_Value v_m_0_Pool m_0.Pool, slP k_api_Method v_m_0_Methods m_0.Methods, arrP k_arr221 0 tab0] [boxO b4 [v_m_0_Globals, v_m_0_Pool, v_m_0_Methods, .int .i64 m_0.Migrate] 25] w2) m119 (fun a w2 ha hw => ⟨(decide ((t135.1.length : Int) = (m_0.Methods.length : Int))), 0, Nat.le_refl _, hr, ha.sub sb, (St.selO [5] rfl rfl hw)⟩) ?_
 clear hr
 rintro cl2 a w2 ⟨b190, x191, hc_l2, hi, ha, hw⟩
 obtain ⟨m192, o, hm_m192, ho, hr⟩ := iter_some hi
 refine CP.app ha hw ?_
 clear ha hw a w2 hi
 refine CP.seq ?_
 refine go ?_
 refine SP.jn 6 [1, 6, 7, 9, 10] 79 (.bool ((decide (x191 < (t135.1.length : Int))) && (decide (x191 < (m_0.Methods.length : Int))))) ?_ ?_
 ·refine go ?_
  refine CP.cb ho (fun ho => ?_) fun ho => ?_
  ·refine go ?_
   refine CP.join (fun a w2 => ∃ b212 : Bool, ∃ (m213 : Nat) (o : (capstanlaw12_CostOthers.S ⊕ Bool)), m213 ≤ m192 ∧ capstanlaw12_CostOthers.j1 m_0 t132 t135 x191 b212 = some o ∧ next (capstanlaw12_CostOthers.F m_0) m213 o = some r ∧ Env ⟨101, []⟩ [(1, .pointer (some ⟨b4, 0, none⟩)), (6, .int .i64 t132.2), (7, v136), (9, .bool b212), (10, .int .i64 x191)] a ∧ St w em hV [slP k_api_Cert v136 t135.1, slP k_api_Value v_m_0_Globals m_0.Globals, slP k_api_Value v_m_0_Pool m_0.Pool, slP k_api_Method v_m_0_Methods m_0.Methods, arrP k_arr221 0 tab0] [boxO b4 [v_m_0_Globals, v_m_0_Pool, v_m_0_Methods, .int .i64 m_0.Migrate] 25] w2) ?_ ?_
   ·rintro a w2 ⟨b212, m213, o, hm_m213, ho, hr, ha, hw⟩
    refine CP.app ha hw ?_
    clear ha hw a w2
    refine go ?_
    obtain rfl := Option.some.inj ho
    exact QE.lower m213 (by omega) fun a w2 ha hw => ⟨b212, (IntKind.i64.wrap (x191 + 1)), (by omega), hr, ha.sub sb, hw⟩
   refine go ?_
   refine CP.drawA (by kernel_rfl) (fun w2 k h => h.drawn k) ?_
   refine DA.one 0 rfl (by kernel_rfl) ?_
   refine go ?_
   refine QE.atA ?_
   refine DA.one 1 rfl (by kernel_rfl) ?_
   refine go ?_
   refine QE.atA ?_
   rcases if_some ho with ⟨hc, ho⟩ | ⟨hc, ho⟩
   ·have hg195 := hc
    clear hc
    obtain ⟨x198, hx, ho⟩ := elt_bind ho
    refine DA.ghost (fun w2 h => h.elem see 0 rfl hx.1 hx.2) (fun p196 h_p196 => ?_)
    clear hx
    refine DA.ghost (fun w2 h => h.openE see 0 rfl (fun _ : Unit => [.int .i64 x198.Fuel, .int .i64 x198.Stack, .int .i64 x198.Heap]) (fun _ => []) (fun h cs e => ⟨(), e, All.nil _⟩)) (fun _ _ => ?_)
    obtain ⟨x202, hx, ho⟩ := elt_bind ho
    refine DA.ghost (fun w2 h => h.elem see 5 rfl hx.1 hx.2) (fun p200 h_p200 => ?_)
    clear hx
    refine DA.ghost (fun w2 h => h.openE see 0 rfl (fun ((v203, v205, v207) : Value × Value × Value) => [v203, v205, .int .u8 x202.Result, .bool x202.Reads, .int .i64 x202.Fuel, .int .i64 x202.Stack, .int .i64 x202.Heap, v207]) (fun ((v203, v205, v207) : Value × Value × Value) => [slP (kInt .u8) v203 x202.Args, slP (kInt .u8) v205 x202.Locals, slP k_api_Instr v207 x202.Code]) (fun h cs ⟨v203, v205, v207, e, p0, p1, p2⟩ => ⟨(v203, v205, v207), e, All.cons p0 (All.cons p1 (All.cons p2 (All.nil _)))⟩)) (fun z_ _ => ?_)
    obtain ⟨v203, v205, v207⟩ := z_
    refine DA.ph 2 11 ?_
    refine DT.is (d := 83) (b := true) rfl hg195 ?_
    refine DT.tk 2 ?_
    refine DT.tk 3 ?_
    refine DT.tv 4 rfl (Val.indexE h_p196 Tryz.underlying29 sz36 rfl rfl) ?_
    refine DT.tv 5 rfl (Val.loadAtA see 5 rfl Tryz.underlying36 rfl sz36 rfl) ?_
    refine DT.tk 6 ?_
    refine DT.tk 7 ?_
    refine DT.tk 8 ?_
    refine DT.tv 9 rfl (Val.indexE h_p200 Tryz.underlying23 sz41 rfl rfl) ?_
    refine DT.tv 10 rfl (Val.loadAtA see 0 rfl Tryz.underlying41 rfl sz41 rfl) ?_
    refine DT.next (by kernel_rfl) ?_
    refine DA.one 11 rfl (by kernel_rfl) ?_
    obtain ⟨t210, hc, ho⟩ := bind_some ho
    refine SP.callV see (caps := []) (.bool t210) fn11 rfl rfl rfl rfl (fun w2 hP hs sub ap => cost_Fits.ok _ _ _ _ _ _ hc w2 hP sub (ap.get 1 rfl) (ap.get 2 rfl) (ap.get 3 rfl)) ?_
    clear hc
    refine go ?_
    refine QE.atA ?_
    refine DA.one 12 rfl (by kernel_rfl) ?_
    refine go ?_
    refine QE.atA ?_
    refine DA.one 13 rfl (by kernel_rfl) ?_
    refine go ?_
    refine QE.atA ?_
    refine DA.done (by kernel_rfl) ?_
    refine go ?_
    exact QE.meet fun a w2 ha hw => ⟨t210, m192, _, (by omega), ho, hr, ha.sub sb, (St.selP [7, 8, 9, 10, 11] rfl hw)⟩
   have hg211 := (bf hc)
   clear hc
   refine DA.ph 2 11 ?_
   refine DT.is (d := 83) (b := false) rfl hg211 ?_
   refine DT.tn 2 ?_
   refine DT.tn 3 ?_
   refine DT.tn 4 ?_
   refine DT.tn 5 ?_
   refine DT.tn 6 ?_
   refine DT.tn 7 ?_
   refine DT.tn 8 ?_
   refine DT.tn 9 ?_
   refine DT.tn 10 ?_
   refine DT.next (by kernel_rfl) ?_
   refine DA.ph 11 12 ?_
   refine DT.tn 11 ?_
   refine DT.next (by kernel_rfl) ?_
   refine DA.one 12 rfl (by kernel_rfl) ?_
   refine go ?_
   refine QE.atA ?_
   refine DA.one 13 rfl (by kernel_rfl) ?_
   refine go ?_
   refine QE.atA ?_
   refine DA.done (by kernel_rfl) ?_
   refine go ?_
   exact QE.meet fun a w2 ha hw => ⟨false, m192, _, (by omega), ho, hr, ha.sub sb, hw⟩
  refine go ?_
  refine SP.jn 3 [] 100 (.bool ((decide (t132.2 = 120)) && (!b190))) ?_ ?_
  ·refine go ?_
   obtain rfl := fin ho hr
   exact QE.rt (fun _ h => h)
  refine SP.bb 97 (fun hq215 => ?_) fun hq215 => ?_
  ·refine go ?_
   exact QE.jb (and_t hq215 rfl) fun w2 hw => hw
  refine go ?_
  exact QE.jb (and_f hq215) fun w2 hw => hw
 refine SP.bb 73 (fun hq194 => ?_) fun hq194 => ?_
 ·refine go ?_
  exact QE.jb (and_t hq194 rfl) fun w2 hw => hw
 refine go ?_
 exact QE.jb (and_f hq194) fun w2 hw => hw
theorem cl5 : Tryz.prog.cellsOf 5 = 1 := by kernel_rfl
theorem cl2 : Tryz.prog.cellsOf 2 = 1 := by kernel_rfl
theorem cl62 : Tryz.prog.cellsOf 62 = 3 := by kernel_rfl
def wf_api_Value (x : api_Value) : Prop := (Lit.int .u8 x.Kind).wf = true ∧ (Lit.int .i64 x.A).wf = true ∧ (Lit.int .i64 x.B).wf = true
theorem opens_api_Value : Opens Tryz.prog 62 k_api_Value wf_api_Value := by
  intro H enc W fuel cs d ps h
  cases fuel with
  | zero => simp [DataW.trod] at h
  | succ n =>
    obtain ⟨hl, hf⟩ := trod_struct Tryz.underlying62 h
    rw [cl62] at hl
    obtain ⟨c0, c1, c2, rfl⟩ := len3 hl
    obtain ⟨d0, q0, h0⟩ := hf 0 _ rfl
    replace h0 : DataW.trod enc Tryz.prog W 0 (fun _ => true) true n 5 (List.take (Tryz.prog.cellsOf 5) [c0, c1, c2]) = some (d0, q0) := h0
    rw [cl5] at h0
    replace h0 : DataW.trod enc Tryz.prog W 0 (fun _ => true) true n 5 [c0] = some (d0, q0) := h0
    obtain ⟨x0, r0, w0⟩ := (Opens.int Tryz.underlying5) enc W n _ _ _ h0
    obtain ⟨rfl, -⟩ := List.cons.inj r0
    obtain ⟨d1, q1, h1⟩ := hf 1 _ rfl
    replace h1 : DataW.trod enc Tryz.prog W 0 (fun _ => true) true n 2 (List.take (Tryz.prog.cellsOf 2) [c1, c2]) = some (d1, q1) := h1
    rw [cl2] at h1
    replace h1 : DataW.trod enc Tryz.prog W 0 (fun _ => true) true n 2 [c1] = some (d1, q1) := h1
    obtain ⟨x1, r1, w1⟩ := (Opens.int Tryz.underlying2) enc W n _ _ _ h1
    obtain ⟨rfl, -⟩ := List.cons.inj r1
    obtain ⟨d2, q2, h2⟩ := hf 2 _ rfl
    replace h2 : DataW.trod enc Tryz.prog W 0 (fun _ => true) true n 2 (List.take (Tryz.prog.cellsOf 2) [c2]) = some (d2, q2) := h2
    rw [cl2] at h2
    replace h2 : DataW.trod enc Tryz.prog W 0 (fun _ => true) true n 2 [c2] = some (d2, q2) := h2
    obtain ⟨x2, r2, w2⟩ := (Opens.int Tryz.underlying2) enc W n _ _ _ h2
    obtain ⟨rfl, -⟩ := List.cons.inj r2
    exact ⟨⟨x0, x1, x2⟩, rfl, w0, w1, w2⟩
theorem cl3 : Tryz.prog.cellsOf 3 = 1 := by kernel_rfl
theorem cl71 : Tryz.prog.cellsOf 71 = 3 := by kernel_rfl
def wf_api_Instr (x : api_Instr) : Prop := (Lit.int .u8 x.Op).wf = true ∧ (Lit.int .i64 x.A).wf = true ∧ (Lit.int .i64 x.B).wf = true
theorem opens_api_Instr : Opens Tryz.prog 71 k_api_Instr wf_api_Instr := by
  intro H enc W fuel cs d ps h
  cases fuel with
  | zero => simp [DataW.trod] at h
  | succ n =>
    obtain ⟨hl, hf⟩ := trod_struct Tryz.underlying71 h
    rw [cl71] at hl
    obtain ⟨c0, c1, c2, rfl⟩ := len3 hl
    obtain ⟨d0, q0, h0⟩ := hf 0 _ rfl
    replace h0 : DataW.trod enc Tryz.prog W 0 (fun _ => true) true n 5 (List.take (Tryz.prog.cellsOf 5) [c0, c1, c2]) = some (d0, q0) := h0
    rw [cl5] at h0
    replace h0 : DataW.trod enc Tryz.prog W 0 (fun _ => true) true n 5 [c0] = some (d0, q0) := h0
    obtain ⟨x0, r0, w0⟩ := (Opens.int Tryz.underlying5) enc W n _ _ _ h0
    obtain ⟨rfl, -⟩ := List.cons.inj r0
    obtain ⟨d1, q1, h1⟩ := hf 1 _ rfl
    replace h1 : DataW.trod enc Tryz.prog W 0 (fun _ => true) true n 3 (List.take (Tryz.prog.cellsOf 3) [c1, c2]) = some (d1, q1) := h1
    rw [cl3] at h1
    replace h1 : DataW.trod enc Tryz.prog W 0 (fun _ => true) true n 3 [c1] = some (d1, q1) := h1
    obtain ⟨x1, r1, w1⟩ := (Opens.int Tryz.underlying3) enc W n _ _ _ h1
    obtain ⟨rfl, -⟩ := List.cons.inj r1
    obtain ⟨d2, q2, h2⟩ := hf 2 _ rfl
    replace h2 : DataW.trod enc Tryz.prog W 0 (fun _ => true) true n 3 (List.take (Tryz.prog.cellsOf 3) [c2]) = some (d2, q2) := h2
    rw [cl3] at h2
    replace h2 : DataW.trod enc Tryz.prog W 0 (fun _ => true) true n 3 [c2] = some (d2, q2) := h2
    obtain ⟨x2, r2, w2⟩ := (Opens.int Tryz.underlying3) enc W n _ _ _ h2
    obtain ⟨rfl, -⟩ := List.cons.inj r2
    exact ⟨⟨x0, x1, x2⟩, rfl, w0, w1, w2⟩
theorem cl38 : Tryz.prog.cellsOf 38 = 1 := by kernel_rfl
theorem cl4 : Tryz.prog.cellsOf 4 = 1 := by kernel_rfl
theorem cl39 : Tryz.prog.cellsOf 39 = 1 := by kernel_rfl
theorem cl41 : Tryz.prog.cellsOf 41 = 8 := by kernel_rfl
def wf_api_Method (x : api_Method) : Prop := (x.Args.length ≤ maxLen ∧ ∀ y ∈ x.Args, (Lit.int .u8 y).wf = true) ∧ (x.Locals.length ≤ maxLen ∧ ∀ y ∈ x.Locals, (Lit.int .u8 y).wf = true) ∧ (Lit.int .u8 x.Result).wf = true ∧ True ∧ (Lit.int .i64 x.Fuel).wf = true ∧ (Lit.int .i64 x.Stack).wf = true ∧ (Lit.int .i64 x.Heap).wf = true ∧ (x.Code.length ≤ maxLen ∧ ∀ y ∈ x.Code, wf_api_Instr y)
theorem opens_api_Method : Opens Tryz.prog 41 k_api_Method wf_api_Method := by
  intro H enc W fuel cs d ps h
  cases fuel with
  | zero => simp [DataW.trod] at h
  | succ n =>
    obtain ⟨hl, hf⟩ := trod_struct Tryz.underlying41 h
    rw [cl41] at hl
    obtain ⟨c0, c1, c2, c3, c4, c5, c6, c7, rfl⟩ := len8 hl
    obtain ⟨d0, q0, h0⟩ := hf 0 _ rfl
    replace h0 : DataW.trod enc Tryz.prog W 0 (fun _ => true) true n 38 (List.take (Tryz.prog.cellsOf 38) [c0, c1, c2, c3, c4, c5, c6, c7]) = some (d0, q0) := h0
    rw [cl38] at h0
    replace h0 : DataW.trod enc Tryz.prog W 0 (fun _ => true) true n 38 [c0] = some (d0, q0) := h0
    obtain ⟨x0, r0, w0⟩ := (Opens.slice Tryz.underlying38 (Opens.int Tryz.underlying5) cl5 (by decide)) enc W n _ _ _ h0
    obtain ⟨v0, e0, r0⟩ := r0
    obtain ⟨rfl, -⟩ := List.cons.inj e0
    obtain ⟨d1, q1, h1⟩ := hf 1 _ rfl
    replace h1 : DataW.trod enc Tryz.prog W 0 (fun _ => true) true n 38 (List.take (Tryz.prog.cellsOf 38) [c1, c2, c3, c4, c5, c6, c7]) = some (d1, q1) := h1
    rw [cl38] at h1
    replace h1 : DataW.trod enc Tryz.prog W 0 (fun _ => true) true n 38 [c1] = some (d1, q1) := h1
    obtain ⟨x1, r1, w1⟩ := (Opens.slice Tryz.underlying38 (Opens.int Tryz.underlying5) cl5 (by decide)) enc W n _ _ _ h1
    obtain ⟨v1, e1, r1⟩ := r1
    obtain ⟨rfl, -⟩ := List.cons.inj e1
    obtain ⟨d2, q2, h2⟩ := hf 2 _ rfl
    replace h2 : DataW.trod enc Tryz.prog W 0 (fun _ => true) true n 5 (List.take (Tryz.prog.cellsOf 5) [c2, c3, c4, c5, c6, c7]) = some (d2, q2) := h2
    rw [cl5] at h2
    replace h2 : DataW.trod enc Tryz.prog W 0 (fun _ => true) true n 5 [c2] = some (d2, q2) := h2
    obtain ⟨x2, r2, w2⟩ := (Opens.int Tryz.underlying5) enc W n _ _ _ h2
    obtain ⟨rfl, -⟩ := List.cons.inj r2
    obtain ⟨d3, q3, h3⟩ := hf 3 _ rfl
    replace h3 : DataW.trod enc Tryz.prog W 0 (fun _ => true) true n 4 (List.take (Tryz.prog.cellsOf 4) [c3, c4, c5, c6, c7]) = some (d3, q3) := h3
    rw [cl4] at h3
    replace h3 : DataW.trod enc Tryz.prog W 0 (fun _ => true) true n 4 [c3] = some (d3, q3) := h3
    obtain ⟨x3, r3, w3⟩ := (Opens.bool Tryz.underlying4) enc W n _ _ _ h3
    obtain ⟨rfl, -⟩ := List.cons.inj r3
    obtain ⟨d4, q4, h4⟩ := hf 4 _ rfl
    replace h4 : DataW.trod enc Tryz.prog W 0 (fun _ => true) true n 3 (List.take (Tryz.prog.cellsOf 3) [c4, c5, c6, c7]) = some (d4, q4) := h4
    rw [cl3] at h4
    replace h4 : DataW.trod enc Tryz.prog W 0 (fun _ => true) true n 3 [c4] = some (d4, q4) := h4
    obtain ⟨x4, r4, w4⟩ := (Opens.int Tryz.underlying3) enc W n _ _ _ h4
    obtain ⟨rfl, -⟩ := List.cons.inj r4
    obtain ⟨d5, q5, h5⟩ := hf 5 _ rfl
    replace h5 : DataW.trod enc Tryz.prog W 0 (fun _ => true) true n 3 (List.take (Tryz.prog.cellsOf 3) [c5, c6, c7]) = some (d5, q5) := h5
    rw [cl3] at h5
    replace h5 : DataW.trod enc Tryz.prog W 0 (fun _ => true) true n 3 [c5] = some (d5, q5) := h5
    obtain ⟨x5, r5, w5⟩ := (Opens.int Tryz.underlying3) enc W n _ _ _ h5
    obtain ⟨rfl, -⟩ := List.cons.inj r5
    obtain ⟨d6, q6, h6⟩ := hf 6 _ rfl
    replace h6 : DataW.trod enc Tryz.prog W 0 (fun _ => true) true n 3 (List.take (Tryz.prog.cellsOf 3) [c6, c7]) = some (d6, q6) := h6
    rw [cl3] at h6
    replace h6 : DataW.trod enc Tryz.prog W 0 (fun _ => true) true n 3 [c6] = some (d6, q6) := h6
    obtain ⟨x6, r6, w6⟩ := (Opens.int Tryz.underlying3) enc W n _ _ _ h6
    obtain ⟨rfl, -⟩ := List.cons.inj r6
    obtain ⟨d7, q7, h7⟩ := hf 7 _ rfl
    replace h7 : DataW.trod enc Tryz.prog W 0 (fun _ => true) true n 39 (List.take (Tryz.prog.cellsOf 39) [c7]) = some (d7, q7) := h7
    rw [cl39] at h7
    replace h7 : DataW.trod enc Tryz.prog W 0 (fun _ => true) true n 39 [c7] = some (d7, q7) := h7
    obtain ⟨x7, r7, w7⟩ := (Opens.slice Tryz.underlying39 opens_api_Instr cl71 (by decide)) enc W n _ _ _ h7
    obtain ⟨v7, e7, r7⟩ := r7
    obtain ⟨rfl, -⟩ := List.cons.inj e7
    exact ⟨⟨x0, x1, x2, x3, x4, x5, x6, x7⟩, ⟨_, _, _, rfl, r0, r1, r7⟩, w0, w1, w2, w3, w4, w5, w6, w7⟩
theorem cl22 : Tryz.prog.cellsOf 22 = 1 := by kernel_rfl
theorem cl23 : Tryz.prog.cellsOf 23 = 1 := by kernel_rfl
theorem cl25 : Tryz.prog.cellsOf 25 = 4 := by kernel_rfl
def wf_api_Module (x : api_Module) : Prop := (x.Globals.length ≤ maxLen ∧ ∀ y ∈ x.Globals, wf_api_Value y) ∧ (x.Pool.length ≤ maxLen ∧ ∀ y ∈ x.Pool, wf_api_Value y) ∧ (x.Methods.length ≤ maxLen ∧ ∀ y ∈ x.Methods, wf_api_Method y) ∧ (Lit.int .i64 x.Migrate).wf = true
theorem opens_api_Module : Opens Tryz.prog 25 k_api_Module wf_api_Module := by
  intro H enc W fuel cs d ps h
  cases fuel with
  | zero => simp [DataW.trod] at h
  | succ n =>
    obtain ⟨hl, hf⟩ := trod_struct Tryz.underlying25 h
    rw [cl25] at hl
    obtain ⟨c0, c1, c2, c3, rfl⟩ := len4 hl
    obtain ⟨d0, q0, h0⟩ := hf 0 _ rfl
    replace h0 : DataW.trod enc Tryz.prog W 0 (fun _ => true) true n 22 (List.take (Tryz.prog.cellsOf 22) [c0, c1, c2, c3]) = some (d0, q0) := h0
    rw [cl22] at h0
    replace h0 : DataW.trod enc Tryz.prog W 0 (fun _ => true) true n 22 [c0] = some (d0, q0) := h0
    obtain ⟨x0, r0, w0⟩ := (Opens.slice Tryz.underlying22 opens_api_Value cl62 (by decide)) enc W n _ _ _ h0
    obtain ⟨v0, e0, r0⟩ := r0
    obtain ⟨rfl, -⟩ := List.cons.inj e0
    obtain ⟨d1, q1, h1⟩ := hf 1 _ rfl
    replace h1 : DataW.trod enc Tryz.prog W 0 (fun _ => true) true n 22 (List.take (Tryz.prog.cellsOf 22) [c1, c2, c3]) = some (d1, q1) := h1
    rw [cl22] at h1
    replace h1 : DataW.trod enc Tryz.prog W 0 (fun _ => true) true n 22 [c1] = some (d1, q1) := h1
    obtain ⟨x1, r1, w1⟩ := (Opens.slice Tryz.underlying22 opens_api_Value cl62 (by decide)) enc W n _ _ _ h1
    obtain ⟨v1, e1, r1⟩ := r1
    obtain ⟨rfl, -⟩ := List.cons.inj e1
    obtain ⟨d2, q2, h2⟩ := hf 2 _ rfl
    replace h2 : DataW.trod enc Tryz.prog W 0 (fun _ => true) true n 23 (List.take (Tryz.prog.cellsOf 23) [c2, c3]) = some (d2, q2) := h2
    rw [cl23] at h2
    replace h2 : DataW.trod enc Tryz.prog W 0 (fun _ => true) true n 23 [c2] = some (d2, q2) := h2
    obtain ⟨x2, r2, w2⟩ := (Opens.slice Tryz.underlying23 opens_api_Method cl41 (by decide)) enc W n _ _ _ h2
    obtain ⟨v2, e2, r2⟩ := r2
    obtain ⟨rfl, -⟩ := List.cons.inj e2
    obtain ⟨d3, q3, h3⟩ := hf 3 _ rfl
    replace h3 : DataW.trod enc Tryz.prog W 0 (fun _ => true) true n 3 (List.take (Tryz.prog.cellsOf 3) [c3]) = some (d3, q3) := h3
    rw [cl3] at h3
    replace h3 : DataW.trod enc Tryz.prog W 0 (fun _ => true) true n 3 [c3] = some (d3, q3) := h3
    obtain ⟨x3, r3, w3⟩ := (Opens.int Tryz.underlying3) enc W n _ _ _ h3
    obtain ⟨rfl, -⟩ := List.cons.inj r3
    exact ⟨⟨x0, x1, x2, x3⟩, ⟨_, _, _, rfl, r0, r1, r2⟩, w0, w1, w2, w3⟩
def capstanlaw12_CostOthers.Pure : Prop := ∀ (x0 : api_Module), wf_api_Module x0 → capstanlaw12_CostOthers.f x0 = some true
end Go.Proofs.YtmhkokkphgchlaaGreatDoor
end
