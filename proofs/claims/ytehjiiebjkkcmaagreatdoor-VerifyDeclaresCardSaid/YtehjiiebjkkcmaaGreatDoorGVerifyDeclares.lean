/- Functions of the program as plain functions, with the proof that the code computes them: printed by gen.py of this session. -/
import Derived.Test.YtehjiiebjkkcmaaGreatDoorProg
import Derived.Test.YtehjiiebjkkcmaaGreatDoorQ33xVerifyDeclares
import Derived.Test.YtehjiiebjkkcmaaGreatDoorQ39xVerifyDeclares
import Derived.Ground.GgzProg
import Derived.Ground.Names8Prog
import Derived.Ground.NamesProg
import Derived.Ground.SlgcProg
import Derived.Ground.SlgmProg
import Derived.Ground.SlgnProg
import Derived.Ground.SlsfProg
import Derived.Shelf.Bits.Mul64
import Derived.Shelf.Lay
import Derived.Shelf.SlGeneric
import Derived.Shelf.SlIterI.Nil
import Derived.Shelf.SlSortCmp.WholeK
import Derived.Shelf.SlicesE.Reverse
import Derived.Shelf.SlicesG.Cmp
import Derived.Shelf.SlicesG.CompactI
import Derived.Shelf.Small.Bits
import Derived.Shelf.SortM.Plain
import Derived.Shelf.SortM.SortNone
import Derived.Shelf.Spec.SlicesGrow
import Derived.Test.YtehjiiebjkkcmaaGreatDoorGVerifyDeclaresp3
set_option linter.unusedVariables false
set_option linter.unusedSimpArgs false
set_option maxRecDepth 20000
set_option maxHeartbeats 2000000
set_option linter.defProp false
set_option warn.classDefReducibility false
noncomputable section
namespace Go.Proofs.YtehjiiebjkkcmaaGreatDoor
open Go.Q
attribute [local irreducible] CP SP QE DA DT Val St
inductive capstanref12_Same.S where
  | start
  | l1 (x12 : Int)
def capstanref12_Same.F (a_0 : (List api_Cert)) (b_1 : (List api_Cert)) : capstanref12_Same.S → Option (capstanref12_Same.S ⊕ Bool)
  | .start => if (a_0.length : Int) ≠ (b_1.length : Int) then (some (.inr false)) else (some (.inl (.l1 0)))
  | .l1 x12 => if x12 < (a_0.length : Int) then ((elt a_0 x12).bind fun x16 => (elt b_1 x12).bind fun x20 => if (!(x16.Fuel == x20.Fuel && (x16.Stack == x20.Stack && (x16.Heap == x20.Heap)))) = true then (some (.inr false)) else (some (.inl (.l1 (IntKind.i64.wrap (x12 + 1)))))) else (some (.inr true))
def capstanref12_Same.f (a_0 : (List api_Cert)) (b_1 : (List api_Cert)) : Option Bool := runF (capstanref12_Same.F a_0 b_1) .start
theorem capstanref12_Same.ok (a_0 : (List api_Cert)) (b_1 : (List api_Cert)) (v_a_0 v_b_1 : Value) (r : Bool) (H : capstanref12_Same.f a_0 b_1 = some r) (w : World) (hV : Hp) (sV : Sub hV (hp w)) (h0 : slR k_api_Cert hV v_a_0 a_0) (h1 : slR k_api_Cert hV v_b_1 b_1) :
    Trip Tryz.prog 21 [v_a_0, v_b_1].toArray em hV w (fun v => HO.pure (v = .bool r)) := by
 refine Trip.go 26 Tryz.func21 sV (aS h0 (aS h1 (All.nil _))) fun see => ?_
 obtain ⟨n0, hi⟩ := runF_iff.1 H
 obtain ⟨m0, o, hm0, ho, hr⟩ := iter_some hi
 clear hi
 refine go ?_
 refine CP.seq (go ?_)
 refine CP.ci ho (fun ho => ?_) fun ho => ?_
 ·refine go ?_
  obtain rfl := fin ho hr
  exact QE.rt (fun _ h => h)
 refine go ?_
 refine CP.seq (go ?_)
 obtain rfl := Option.some.inj ho
 refine CP.loop (fun cl1 a w2 => ∃ x12 : Int, cl1 ≤ m0 ∧ iter (capstanref12_Same.F a_0 b_1) cl1 (.l1 x12) = some r ∧ Env ⟨26, []⟩ [(0, v_a_0), (1, v_b_1), (5, .int .i64 x12)] a ∧ St w em hV [slP k_api_Cert v_a_0 a_0, slP k_api_Cert v_b_1 b_1] [] w2) m0 (fun a w2 ha hw => ⟨0, Nat.le_refl _, hr, ha.sub sb, hw⟩) ?_
 clear hr
 rintro cl1 a w2 ⟨x12, hc_l1, hi, ha, hw⟩
 obtain ⟨m13, o, hm_m13, ho, hr⟩ := iter_some hi
 refine CP.app ha hw ?_
 clear ha hw a w2 hi
 refine CP.seq (go ?_)
 refine CP.ci ho (fun ho => ?_) fun ho => ?_
 ·refine go ?_
  refine CP.seq (go ?_)
  refine CP.seq ?_
  refine CP.drawA (by kernel_rfl) (fun w2 k h => h.drawn k) ?_
  obtain ⟨x16, hx, ho⟩ := elt_bind ho
  refine DA.ghost (fun w2 h => h.elem see 0 rfl hx.1 hx.2) (fun p14 h_p14 => ?_)
  clear hx
  refine DA.ghost (fun w2 h => h.openE see 0 rfl (fun _ : Unit => [.int .i64 x16.Fuel, .int .i64 x16.Stack, .int .i64 x16.Heap]) (fun _ => []) (fun h cs e => ⟨(), e, All.nil _⟩)) (fun _ _ => ?_)
  obtain ⟨x20, hx, ho⟩ := elt_bind ho
  refine DA.ghost (fun w2 h => h.elem see 3 rfl hx.1 hx.2) (fun p18 h_p18 => ?_)
  clear hx
  refine DA.ghost (fun w2 h => h.openE see 0 rfl (fun _ : Unit => [.int .i64 x20.Fuel, .int .i64 x20.Stack, .int .i64 x20.Heap]) (fun _ => []) (fun h cs e => ⟨(), e, All.nil _⟩)) (fun _ _ => ?_)
  refine DA.ph 0 8 ?_
  refine DT.tk 0 ?_
  refine DT.tk 1 ?_
  refine DT.tv 2 rfl (Val.indexE h_p14 Tryz.underlying37 sz45 rfl rfl) ?_
  refine DT.tv 3 rfl (Val.loadAtA see 2 rfl Tryz.underlying45 rfl sz45 rfl) ?_
  refine DT.tk 4 ?_
  refine DT.tk 5 ?_
  refine DT.tv 6 rfl (Val.indexE h_p18 Tryz.underlying37 sz45 rfl rfl) ?_
  refine DT.tv 7 rfl (Val.loadAtA see 0 rfl Tryz.underlying45 rfl sz45 rfl) ?_
  refine DT.next (by kernel_rfl) ?_
  refine DA.one 8 rfl (by kernel_rfl) ?_
  refine SP.val (Val.neqA (by kernel_rfl) (fun w2 => eqA45 9998 w2 x16.Fuel x20.Fuel x16.Stack x20.Stack x16.Heap x20.Heap) rfl rfl) rfl rfl rfl (go ?_)
  refine QE.atA ?_
  refine DA.done (by kernel_rfl) (go ?_)
  refine CP.cb ho (fun ho => ?_) fun ho => ?_
  ·refine go ?_
   obtain rfl := fin ho hr
   exact QE.rt (fun _ h => h)
  refine go ?_
  obtain rfl := Option.some.inj ho
  exact QE.lower m13 (by omega) fun a w2 ha hw => ⟨(IntKind.i64.wrap (x12 + 1)), (by omega), hr, ha.sub sb, (St.selP [4, 5] rfl hw)⟩
 refine go ?_
 obtain rfl := fin ho hr
 exact QE.rt (fun _ h => h)
inductive capstanlaw14_VerifyDeclares.S where
  | start
  | l1 (t8 : (List api_Cert) × Int) (t15 : api_Module) (l130 : List api_Method) (x132 : Int)
  | l2 (t15 : api_Module) (l130 : List api_Method) (x154 : api_Method) (x196 : Int) (x197 : Int)
  | l3 (t15 : api_Module) (l130 : List api_Method) (x154 : api_Method) (x197 : Int) (t199 : (List Int) × Int) (x217 : Int) (x218 : Int)
def capstanlaw14_VerifyDeclares.j1 (m_0 : api_Module) (k_1 : Int) (t15 : api_Module) (l130 : List api_Method) (x154 : api_Method) (x197 : Int) (t199 : (List Int) × Int) (x218 : Int) (x232 : Int) : Option (capstanlaw14_VerifyDeclares.S ⊕ Bool) :=
  some (.inl (.l3 t15 l130 x154 x197 t199 x232 (IntKind.i64.wrap (x218 + 1))))
def capstanlaw14_VerifyDeclares.F (m_0 : api_Module) (k_1 : Int) : capstanlaw14_VerifyDeclares.S → Option (capstanlaw14_VerifyDeclares.S ⊕ Bool)
  | .start => (capstanlaw14_awake.f ).bind fun t6 => if (!t6) = true then (some (.inr false)) else ((capstanlaw08_Great.f m_0).bind fun t7 => if t7 = true then (some (.inr true)) else ((verify_Accept.f m_0).bind fun t8 => if (((decide (t8.2 ≠ 0)) || (decide (k_1 < 0))) || (decide (k_1 ≥ (m_0.Methods.length : Int)))) = true then (some (.inr true)) else ((capstanref08_Copy.f m_0).bind fun t15 => some (.inl (.l1 t8 t15 t15.Methods 0)))))
  | .l1 t8 t15 l130 x132 => if x132 < (l130.length : Int) then ((elt l130 x132).bind fun x135 => (elt l130 x132).bind fun x138 => (elt ((l130.set x132.toNat ({ x135 with Fuel := 1048576 } : api_Method)).set x132.toNat ({ ({ x135 with Fuel := 1048576 } : api_Method) with Stack := 256 } : api_Method)) x132).bind fun x143 => some (.inl (.l1 t8 t15 (((l130.set x132.toNat ({ x135 with Fuel := 1048576 } : api_Method)).set x132.toNat ({ ({ x135 with Fuel := 1048576 } : api_Method) with Stack := 256 } : api_Method)).set x132.toNat ({ x143 with Heap := 1024 } : api_Method)) (IntKind.i64.wrap (x132 + 1))))) else ((verify_Accept.f (⟨t15.Globals, t15.Pool, l130, t15.Migrate⟩ : api_Module)).bind fun t146 => (if t146.2 ≠ 0 then (some true) else ((capstanref12_Same.f t146.1 t8.1).bind fun t151 => some (!t151))).bind fun t152 => if t152 = true then (some (.inr false)) else ((elt l130 k_1).bind fun x154 => some (.inl (.l2 t15 l130 x154 0 0))))
  | .l2 t15 l130 x154 x196 x197 => if x197 < (m_0.Methods.length : Int) then ((calls_Whom.f m_0 x197).bind fun t199 => some (.inl (.l3 t15 l130 x154 x197 t199 x196 0))) else ((verify_May.f (⟨t15.Globals, t15.Pool, l130.set k_1.toNat ({ x154 with Reads := false } : api_Method), t15.Migrate⟩ : api_Module)).bind fun t236 => some (.inr (decide (t236 = x196))))
  | .l3 t15 l130 x154 x197 t199 x217 x218 => if x218 < (t199.1.length : Int) then ((elt t199.1 x218).bind fun x221 => (if x221 = k_1 then ((elt m_0.Methods x197).bind fun x226 => some x226.Reads) else (some false)).bind fun t229 => if (t229 && (decide (x197 ≠ k_1))) = true then (capstanlaw14_VerifyDeclares.j1 m_0 k_1 t15 l130 x154 x197 t199 x218 130) else (capstanlaw14_VerifyDeclares.j1 m_0 k_1 t15 l130 x154 x197 t199 x218 x217)) else (some (.inl (.l2 t15 l130 x154 x217 (IntKind.i64.wrap (x197 + 1)))))
def capstanlaw14_VerifyDeclares.f (m_0 : api_Module) (k_1 : Int) : Option Bool := runF (capstanlaw14_VerifyDeclares.F m_0 k_1) .start
theorem capstanlaw14_VerifyDeclares.ok (m_0 : api_Module) (k_1 : Int) (v_m_0_Globals v_m_0_Pool v_m_0_Methods : Value)  (r : Bool) (H : capstanlaw14_VerifyDeclares.f m_0 k_1 = some r) (w : World) (hV : Hp) (sV : Sub hV (hp w)) (h0 : slR k_api_Value hV v_m_0_Globals m_0.Globals) (h1 : slR k_api_Value hV v_m_0_Pool m_0.Pool) (h2 : slR k_api_Method hV v_m_0_Methods m_0.Methods) (h3 : (arrP k_arr245 0 tab0).p hV) :
    Trip Tryz.prog 5 [.agg #[v_m_0_Globals, v_m_0_Pool, v_m_0_Methods, .int .i64 m_0.Migrate], .int .i64 k_1].toArray em hV w (fun v => HO.pure (v = .bool r)) := by
 refine Trip.go 122 Tryz.func5 sV (aS h0 (aS h1 (aS h2 (All.cons (x := arrP k_arr245 0 tab0) h3 (All.nil _))))) fun see => ?_
 obtain ⟨n0, hi⟩ := runF_iff.1 H
 obtain ⟨m0, o, hm0, ho, hr⟩ := iter_some hi
 clear hi
 refine go ?_
 refine SP.box rfl rfl rfl rfl fun b4 => go ?_
 refine CP.seq (go ?_)
 obtain ⟨t6, hc, ho⟩ := bind_some (x := capstanlaw14_awake.f ) ho
 refine SP.callV see (caps := []) (.bool t6) fn8 rfl rfl rfl rfl (fun w2 hP hs sub ap => capstanlaw14_awake.ok   _ hc w2 hP sub (ap.get 3 rfl)) ?_
 clear hc
 refine go ?_
 refine CP.cb ho (fun ho => ?_) fun ho => ?_
 ·refine go ?_
  obtain rfl := fin ho hr
  exact QE.rt (fun _ h => h)
 refine go ?_
 refine CP.seq (go ?_)
 refine SP.val (Val.loadA 0 rfl Tryz.underlying25 rfl sz25 rfl rfl rfl) rfl rfl rfl ?_
 obtain ⟨t7, hc, ho⟩ := bind_some ho
 refine SP.callV see (caps := []) (.bool t7) fn9 rfl rfl rfl rfl (fun w2 hP hs sub ap => capstanlaw08_Great.ok _ _ _ _ _ hc w2 hP sub (ap.get 0 rfl) (ap.get 1 rfl) (ap.get 2 rfl)) ?_
 clear hc
 refine go ?_
 refine CP.cb ho (fun ho => ?_) fun ho => ?_
 ·refine go ?_
  obtain rfl := fin ho hr
  exact QE.rt (fun _ h => h)
 refine go ?_
 refine SP.val (Val.loadA 0 rfl Tryz.underlying25 rfl sz25 rfl rfl rfl) rfl rfl rfl ?_
 obtain ⟨t8, hc, ho⟩ := bind_some ho
 refine SP.callK see (caps := []) _ fn17 rfl rfl rfl rfl (fun w2 hP hs sub ap => verify_Accept.ok _ _ _ _ _ hc w2 hP sub (ap.get 0 rfl) (ap.get 1 rfl) (ap.get 2 rfl) (ap.get 3 rfl)) (SP.k1 fun v9 => ?_)
 clear hc
 refine go ?_
 refine CP.seq (go ?_)
 refine SP.jn 3 [1, 2, 5] 30 (.bool ((decide (t8.2 ≠ 0)) || (decide (k_1 < 0)))) ?_ ?_
 ·refine go ?_
  refine SP.jn 6 [1, 2, 5] 37 (.bool (((decide (t8.2 ≠ 0)) || (decide (k_1 < 0))) || (decide (k_1 ≥ (m_0.Methods.length : Int))))) ?_ ?_
  ·refine go ?_
   refine CP.cb ho (fun ho => ?_) fun ho => ?_
   ·refine go ?_
    obtain rfl := fin ho hr
    exact QE.rt (fun _ h => h)
   refine go ?_
   refine SP.val (Val.loadA 1 rfl Tryz.underlying25 rfl sz25 rfl rfl rfl) rfl rfl rfl ?_
   obtain ⟨t15, hc, ho⟩ := bind_some ho
   refine SP.callK see (caps := []) _ fn22 rfl rfl rfl rfl (fun w2 hP hs sub ap => capstanref08_Copy.ok _ _ _ _ _ hc w2 hP sub (ap.get 0 rfl) (ap.get 1 rfl) (ap.get 2 rfl)) (SP.k3 fun v16 v17 v18 => ?_)
   clear hc
   refine SP.alloc (cs := [(.slice none 0 0), (.slice none 0 0), (.slice none 0 0), .int .i64 0]) inf25 rfl rfl (fun b22 => ?_)
   refine SP.have (fun w2 hw => slO.shape (St.own 1 rfl see.sub see.dj hw)) (fun hs_v16 => ?_)
   refine SP.have (fun w2 hw => slO.shape (St.own 2 rfl see.sub see.dj hw)) (fun hs_v17 => ?_)
   refine SP.have (fun w2 hw => slD.shape (St.own 3 rfl see.sub see.dj hw)) (fun hs_v18 => ?_)
   refine SP.store (v := .agg #[v16, v17, v18, .int .i64 t15.Migrate]) (vs := [v16, v17, v18, .int .i64 t15.Migrate]) 0 (by rfl) sz25 (by rfl) (by rfl) (by rfl) (by rfl) (one_cons hs_v16 (one_cons hs_v17 (one_cons hs_v18 (one_cons rfl (rfl))))) (by rfl) (go ?_)
   refine CP.seq (go ?_)
   obtain rfl := Option.some.inj ho
   refine CP.loop (fun cl1 a w2 => ∃ l130 : List api_Method, ∃ x132 : Int, ∃ v131 : Value, cl1 ≤ m0 ∧ iter (capstanlaw14_VerifyDeclares.F m_0 k_1) cl1 (.l1 t8 t15 l130 x132) = some r ∧ Env ⟨122, []⟩ [(1, .int .i64 k_1), (2, .pointer (some ⟨b4, 0, none⟩)), (5, v9), (7, .pointer (some ⟨b22, 0, none⟩)), (8, .int .i64 x132)] a ∧ St w em hV [slP k_api_Value v_m_0_Globals m_0.Globals, slP k_api_Value v_m_0_Pool m_0.Pool, slP k_api_Method v_m_0_Methods m_0.Methods, arrP k_arr245 0 tab0] [boxO b22 [v16, v17, v131, .int .i64 t15.Migrate] 25, slO k_api_Value 100 v16 t15.Globals, slO k_api_Value 100 v17 t15.Pool, slD o_api_Method 34 v131 l130, slO k_api_Cert 45 v9 t8.1, boxO b4 [v_m_0_Globals, v_m_0_Pool, v_m_0_Methods, .int .i64 m_0.Migrate] 25] w2) m0 (fun a w2 ha hw => ⟨t15.Methods, 0, v18, Nat.le_refl _, hr, ha.sub sb, hw⟩) ?_
   clear hr
   rintro cl1 a w2 ⟨l130, x132, v131, hc_l1, hi, ha, hw⟩
   obtain ⟨m133, o, hm_m133, ho, hr⟩ := iter_some hi
   refine CP.app ha hw ?_
   clear ha hw a w2 hi
   refine CP.seq (go ?_)
   refine SP.val (Val.lenW (fun w2 hw => slD.flat (St.own 3 rfl see.sub see.dj hw) (Sub.refl _) (Sub.refl _)) Tryz.underlying23 rfl) rfl rfl rfl (go ?_)
   refine CP.ci ho (fun ho => ?_) fun ho => ?_
   ·refine go ?_
    refine CP.seq (go ?_)
    refine CP.drawA (by kernel_rfl) (fun w2 k h => h.drawn k) ?_
    obtain ⟨x135, hx_x135, ho⟩ := elt_bind ho
    refine DA.ghost (fun w2 hw => let ⟨z, hz⟩ := ixC ((fun w2 hw => slD.flat (St.own 3 rfl see.sub see.dj hw) (Sub.refl _) (Sub.refl _)) w2 hw) hx_x135.1 hx_x135.2; ⟨z, hz, hw⟩) (fun p134 i_p134 => ?_)
    have h_p134 := i_p134.1
    obtain ⟨p136, h_p136⟩ := PtC.more h_p134 4
    obtain ⟨x138, hx_x138, ho⟩ := elt_bind ho
    refine DA.ghost (fun w2 hw => let ⟨z, hz⟩ := ixC ((fun w2 hw => slD.flat (St.own 3 rfl see.sub see.dj hw) (Sub.refl _) (Sub.refl _)) w2 hw) hx_x138.1 hx_x138.2; ⟨z, hz, hw⟩) (fun p137 i_p137 => ?_)
    have h_p137 := i_p137.1
    obtain ⟨p139, h_p139⟩ := PtC.more h_p137 5
    refine (DA.phase (fun i => Nat.ble 0 i && Nat.blt i 15) (fun w2 => St w em hV [slP k_api_Value v_m_0_Globals m_0.Globals, slP k_api_Value v_m_0_Pool m_0.Pool, slP k_api_Method v_m_0_Methods m_0.Methods, arrP k_arr245 0 tab0] [boxO b22 [v16, v17, v131, .int .i64 t15.Migrate] 25, slO k_api_Value 100 v16 t15.Globals, slO k_api_Value 100 v17 t15.Pool, slO k_api_Cert 45 v9 t8.1, boxO b4 [v_m_0_Globals, v_m_0_Pool, v_m_0_Methods, .int .i64 m_0.Migrate] 25] w2) ?_)
    refine DT.ts 0 rfl (Val.fieldAddr Tryz.underlying25 rfl sz23 rfl) (fun w2 hw => (St.selO [0, 1, 2, 4, 5] rfl rfl hw)) ?_
    refine DT.ts 1 rfl (Val.load1 0 rfl Tryz.underlying23 rfl rfl rfl) (fun w2 hw => (St.selO [0, 1, 2, 4, 5] rfl rfl hw)) ?_
    refine DT.ts 2 rfl (Val.move rfl) (fun w2 hw => (St.selO [0, 1, 2, 4, 5] rfl rfl hw)) ?_
    refine DT.ts 3 rfl (Val.fieldAddr Tryz.underlying25 rfl sz23 rfl) (fun w2 hw => (St.selO [0, 1, 2, 4, 5] rfl rfl hw)) ?_
    refine DT.ts 4 rfl (Val.load1 0 rfl Tryz.underlying23 rfl rfl rfl) (fun w2 hw => (St.selO [0, 1, 2, 4, 5] rfl rfl hw)) ?_
    refine DT.ts 5 rfl (Val.move rfl) (fun w2 hw => (St.selO [0, 1, 2, 4, 5] rfl rfl hw)) ?_
    refine DT.ts 6 rfl (Val.fieldAddr Tryz.underlying25 rfl sz23 rfl) (fun w2 hw => (St.selO [0, 1, 2, 4, 5] rfl rfl hw)) ?_
    refine DT.ts 7 rfl (Val.load1 0 rfl Tryz.underlying23 rfl rfl rfl) (fun w2 hw => (St.selO [0, 1, 2, 4, 5] rfl rfl hw)) ?_
    refine DT.ts 8 rfl (Val.move rfl) (fun w2 hw => (St.selO [0, 1, 2, 4, 5] rfl rfl hw)) ?_
    refine DT.ts 9 rfl (Val.indexC' i_p134 Tryz.underlying23 sz34 rfl rfl) (fun w2 hw => (St.selO [0, 1, 2, 4, 5] rfl rfl hw)) ?_
    refine DT.ts 10 rfl (Val.fieldC h_p134 h_p136 Tryz.underlying34 rfl rfl sz3 rfl) (fun w2 hw => (St.selO [0, 1, 2, 4, 5] rfl rfl hw)) ?_
    refine DT.one 11 rfl (by kernel_rfl) rfl ?_
    refine SP.imp (fun w2 hw => St.selO [3, 0, 1, 2, 4, 5] rfl rfl hw) ?_
    refine SP.storeD (z0 := ({ x135 with Fuel := 1048576 } : api_Method)) (off := 4) (vs := [.int .i64 1048576]) see hx_x135.2 h_p136 rfl rfl sz3 rfl (fun a h c ⟨_, _, _, e, q⟩ => by subst e; exact ⟨_, _, _, rfl, q⟩) rfl rfl rfl ?_
    have hs140 := set_at ({ x135 with Fuel := 1048576 } : api_Method) hx_x135.2
    refine go ?_
    refine QE.atT (fun w2 hw => (St.selO [1, 2, 3, 4, 5] rfl rfl hw)) ?_
    refine DT.ts 12 rfl (Val.indexC' i_p137 Tryz.underlying23 sz34 rfl rfl) (fun w2 hw => (St.selO [1, 2, 3, 4, 5] rfl rfl hw)) ?_
    refine DT.ts 13 rfl (Val.fieldC h_p137 h_p139 Tryz.underlying34 rfl rfl sz3 rfl) (fun w2 hw => (St.selO [1, 2, 3, 4, 5] rfl rfl hw)) ?_
    refine DT.one 14 rfl (by kernel_rfl) rfl ?_
    refine SP.storeD (z0 := ({ ({ x135 with Fuel := 1048576 } : api_Method) with Stack := 256 } : api_Method)) (off := 5) (vs := [.int .i64 256]) see hs140 h_p139 rfl rfl sz3 rfl (fun a h c ⟨_, _, _, e, q⟩ => by subst e; exact ⟨_, _, _, rfl, q⟩) rfl rfl rfl ?_
    have hs141 := set_at ({ ({ x135 with Fuel := 1048576 } : api_Method) with Stack := 256 } : api_Method) hs140
    refine go ?_
    refine QE.atT (fun w2 hw => (St.selO [1, 2, 3, 4, 5] rfl rfl hw)) ?_
    refine DT.next (by kernel_rfl) ?_
    refine DA.one 15 rfl (by kernel_rfl) ?_
    obtain ⟨x143, hx_x143, ho⟩ := elt_bind ho
    refine SP.indexW (fun w2 hw => slD.flat (St.own 0 rfl see.sub see.dj hw) (Sub.refl _) (Sub.refl _)) Tryz.underlying23 sz34 hx_x143.1 hx_x143.2 rfl rfl rfl rfl (fun p142 h_p142 => go ?_)
    refine QE.atA ?_
    refine DA.one 16 rfl (by kernel_rfl) ?_
    refine SP.fieldO h_p142 Tryz.underlying34 rfl sz3 rfl rfl rfl (fun p144 h_p144 => go ?_)
    refine QE.atA ?_
    refine DA.one 17 rfl (by kernel_rfl) ?_
    refine SP.storeD (z0 := ({ x143 with Heap := 1024 } : api_Method)) (off := 6) (vs := [.int .i64 1024]) see hx_x143.2 h_p144 rfl rfl sz3 rfl (fun a h c ⟨_, _, _, e, q⟩ => by subst e; exact ⟨_, _, _, rfl, q⟩) rfl rfl rfl ?_
    have hs145 := set_at ({ x143 with Heap := 1024 } : api_Method) hx_x143.2
    refine go ?_
    refine QE.atA ?_
    refine DA.done (by kernel_rfl) (go ?_)
    obtain rfl := Option.some.inj ho
    exact QE.lower m133 (by omega) fun a w2 ha hw => ⟨(((l130.set x132.toNat ({ x135 with Fuel := 1048576 } : api_Method)).set x132.toNat ({ ({ x135 with Fuel := 1048576 } : api_Method) with Stack := 256 } : api_Method)).set x132.toNat ({ x143 with Heap := 1024 } : api_Method)), (IntKind.i64.wrap (x132 + 1)), v131, (by omega), hr, ha.sub sb, (St.selO [1, 2, 3, 0, 4, 5] rfl rfl hw)⟩
   refine go ?_
   refine SP.val (Val.loadA 0 rfl Tryz.underlying25 rfl sz25 rfl rfl rfl) rfl rfl rfl ?_
   obtain ⟨t146, hc, ho⟩ := bind_some ho
   refine SP.callKO see (caps := []) _ fn17 rfl rfl rfl rfl (fun w2 hs => verify_Accept.ok _ _ _ _ _ hc w2 (hp w2) (Sub.refl _) (slO.read (St.own 1 rfl see.sub see.dj hs) (Sub.refl _) (Sub.refl _)) (slO.read (St.own 2 rfl see.sub see.dj hs) (Sub.refl _) (Sub.refl _)) (slD.read (St.own 3 rfl see.sub see.dj hs) (Sub.refl _) (Sub.refl _)) ((St.pers 3 rfl see.sub see.dj hs))) (fun v a a2 b ⟨v147, e, h⟩ => ⟨v147, e, (Sep.fcons (fun _ => slO.flip (fun _ _ _ _ h => h)) (fun _ => Sep.fnil)) h⟩) (SP.k1 fun v147 => ?_)
   clear hc
   refine go ?_
   refine CP.seq (go ?_)
   obtain ⟨t152, hg_t152, ho⟩ := bind_some ho
   refine SP.jn 5 [1, 2, 7] 74 (.bool t152) ?_ ?_
   ·clear hg_t152
    refine go ?_
    refine CP.cb ho (fun ho => ?_) fun ho => ?_
    ·refine go ?_
     obtain rfl := fin ho hr
     exact QE.rt (fun _ h => h)
    refine go ?_
    obtain ⟨x154, hx_x154, ho⟩ := elt_bind ho
    refine SP.indexW (fun w2 hw => slD.flat (St.own 4 rfl see.sub see.dj hw) (Sub.refl _) (Sub.refl _)) Tryz.underlying23 sz34 hx_x154.1 hx_x154.2 rfl rfl rfl rfl (fun p153 h_p153 => ?_)
    refine SP.fieldO h_p153 Tryz.underlying34 rfl sz4 rfl rfl rfl (fun p155 h_p155 => ?_)
    refine SP.imp (fun w2 hw => St.selO [4, 0, 1, 2, 3, 5, 6] rfl rfl hw) ?_
    refine SP.storeD (z0 := ({ x154 with Reads := false } : api_Method)) (off := 3) (vs := [.bool false]) see hx_x154.2 h_p155 rfl rfl sz4 rfl (fun a h c ⟨_, _, _, e, q⟩ => by subst e; exact ⟨_, _, _, rfl, q⟩) rfl rfl rfl ?_
    have hs156 := set_at ({ x154 with Reads := false } : api_Method) hx_x154.2
    refine go ?_
    refine CP.seq (go ?_)
    obtain rfl := Option.some.inj ho
    refine CP.loop (fun cl2 a w2 => ∃ x196 : Int, ∃ x197 : Int, cl2 ≤ m133 ∧ iter (capstanlaw14_VerifyDeclares.F m_0 k_1) cl2 (.l2 t15 l130 x154 x196 x197) = some r ∧ Env ⟨122, []⟩ [(1, .int .i64 k_1), (2, .pointer (some ⟨b4, 0, none⟩)), (7, .pointer (some ⟨b22, 0, none⟩)), (11, .int .i64 x196), (12, .int .i64 x197)] a ∧ St w em hV [slP k_api_Value v_m_0_Globals m_0.Globals, slP k_api_Value v_m_0_Pool m_0.Pool, slP k_api_Method v_m_0_Methods m_0.Methods, arrP k_arr245 0 tab0] [slD o_api_Method 34 v131 (l130.set k_1.toNat ({ x154 with Reads := false } : api_Method)), boxO b22 [v16, v17, v131, .int .i64 t15.Migrate] 25, slO k_api_Value 100 v16 t15.Globals, slO k_api_Value 100 v17 t15.Pool, boxO b4 [v_m_0_Globals, v_m_0_Pool, v_m_0_Methods, .int .i64 m_0.Migrate] 25] w2) m133 (fun a w2 ha hw => ⟨0, 0, Nat.le_refl _, hr, ha.sub sb, (St.selO [0, 2, 3, 4, 6] rfl rfl hw)⟩) ?_
    clear hr
    rintro cl2 a w2 ⟨x196, x197, hc_l2, hi, ha, hw⟩
    obtain ⟨m198, o, hm_m198, ho, hr⟩ := iter_some hi
    refine CP.app ha hw ?_
    clear ha hw a w2 hi
    refine CP.seq (go ?_)
    refine CP.ci ho (fun ho => ?_) fun ho => ?_
    ·refine go ?_
     refine CP.seq (go ?_)
     refine SP.val (Val.loadA 4 rfl Tryz.underlying25 rfl sz25 rfl rfl rfl) rfl rfl rfl (go ?_)
     obtain ⟨t199, hc, ho⟩ := bind_some ho
     refine SP.callK see (caps := []) _ fn23 rfl rfl rfl rfl (fun w2 hP hs sub ap => calls_Whom.ok _ _ _ _ _ _ hc w2 hP sub (ap.get 0 rfl) (ap.get 1 rfl) (ap.get 2 rfl)) (SP.k1 fun v200 => ?_)
     clear hc
     refine go ?_
     obtain rfl := Option.some.inj ho
     refine CP.loop (fun cl3 a w2 => ∃ x217 : Int, ∃ x218 : Int, cl3 ≤ m198 ∧ iter (capstanlaw14_VerifyDeclares.F m_0 k_1) cl3 (.l3 t15 l130 x154 x197 t199 x217 x218) = some r ∧ Env ⟨122, []⟩ [(1, .int .i64 k_1), (2, .pointer (some ⟨b4, 0, none⟩)), (7, .pointer (some ⟨b22, 0, none⟩)), (11, .int .i64 x217), (12, .int .i64 x197), (13, v200), (15, .int .i64 x218)] a ∧ St w em hV [slP k_api_Value v_m_0_Globals m_0.Globals, slP k_api_Value v_m_0_Pool m_0.Pool, slP k_api_Method v_m_0_Methods m_0.Methods, arrP k_arr245 0 tab0] [slO (kInt .i64) 3 v200 t199.1, slD o_api_Method 34 v131 (l130.set k_1.toNat ({ x154 with Reads := false } : api_Method)), boxO b22 [v16, v17, v131, .int .i64 t15.Migrate] 25, slO k_api_Value 100 v16 t15.Globals, slO k_api_Value 100 v17 t15.Pool, boxO b4 [v_m_0_Globals, v_m_0_Pool, v_m_0_Methods, .int .i64 m_0.Migrate] 25] w2) m198 (fun a w2 ha hw => ⟨x196, 0, Nat.le_refl _, hr, ha.sub sb, hw⟩) ?_
     clear hr
     rintro cl3 a w2 ⟨x217, x218, hc_l3, hi, ha, hw⟩
     obtain ⟨m219, o, hm_m219, ho, hr⟩ := iter_some hi
     refine CP.app ha hw ?_
     clear ha hw a w2 hi
     refine CP.seq (go ?_)
     refine SP.val (Val.lenW (fun w2 hw => slO.whole (St.own 0 rfl see.sub see.dj hw)) Tryz.underlying48 rfl) rfl rfl rfl (go ?_)
     refine CP.ci ho (fun ho => ?_) fun ho => ?_
     ·refine go ?_
      refine CP.join (fun a w2 => ∃ x232 : Int, ∃ (m233 : Nat) (o : (capstanlaw14_VerifyDeclares.S ⊕ Bool)), m233 ≤ m219 ∧ capstanlaw14_VerifyDeclares.j1 m_0 k_1 t15 l130 x154 x197 t199 x218 x232 = some o ∧ next (capstanlaw14_VerifyDeclares.F m_0 k_1) m233 o = some r ∧ Env ⟨122, []⟩ [(1, .int .i64 k_1), (2, .pointer (some ⟨b4, 0, none⟩)), (7, .pointer (some ⟨b22, 0, none⟩)), (11, .int .i64 x232), (12, .int .i64 x197), (13, v200), (15, .int .i64 x218)] a ∧ St w em hV [slP k_api_Value v_m_0_Globals m_0.Globals, slP k_api_Value v_m_0_Pool m_0.Pool, slP k_api_Method v_m_0_Methods m_0.Methods, arrP k_arr245 0 tab0] [slO (kInt .i64) 3 v200 t199.1, slD o_api_Method 34 v131 (l130.set k_1.toNat ({ x154 with Reads := false } : api_Method)), boxO b22 [v16, v17, v131, .int .i64 t15.Migrate] 25, slO k_api_Value 100 v16 t15.Globals, slO k_api_Value 100 v17 t15.Pool, boxO b4 [v_m_0_Globals, v_m_0_Pool, v_m_0_Methods, .int .i64 m_0.Migrate] 25] w2) ?_ ?_
      ·rintro a w2 ⟨x232, m233, o, hm_m233, ho, hr, ha, hw⟩
       refine CP.app ha hw ?_
       clear ha hw a w2
       refine go ?_
       obtain rfl := Option.some.inj ho
       exact QE.lower m233 (by omega) fun a w2 ha hw => ⟨x232, (IntKind.i64.wrap (x218 + 1)), (by omega), hr, ha.sub sb, hw⟩
      refine go ?_
      obtain ⟨x221, hx_x221, ho⟩ := elt_bind ho
      refine SP.indexW (fun w2 hw => slO.whole (St.own 0 rfl see.sub see.dj hw)) Tryz.underlying48 sz3 hx_x221.1 hx_x221.2 rfl rfl rfl rfl (fun p220 h_p220 => ?_)
      refine SP.val (Val.loadW1 (off := 0) (k := (kInt .i64)) (fun w2 hw => slO.whole (St.own 0 rfl see.sub see.dj hw)) hx_x221.2 h_p220 (fun _ _ e => by subst e; rfl) Tryz.underlying3 rfl rfl) rfl rfl rfl (go ?_)
      obtain ⟨t229, hg_t229, ho⟩ := bind_some ho
      refine SP.jn 7 [1, 2, 7, 11, 12, 13, 15] 112 (.bool t229) ?_ ?_
      ·clear hg_t229
       refine go ?_
       refine SP.jn 4 [1, 2, 7, 11, 12, 13, 15] 117 (.bool (t229 && (decide (x197 ≠ k_1)))) ?_ ?_
       ·refine go ?_
        refine CP.cb ho (fun ho => ?_) fun ho => ?_
        ·refine go ?_
         exact QE.meet fun a w2 ha hw => ⟨130, m219, _, (by omega), ho, hr, ha.sub sb, hw⟩
        refine go ?_
        exact QE.meet fun a w2 ha hw => ⟨x217, m219, _, (by omega), ho, hr, ha.sub sb, hw⟩
       refine SP.bb 113 (fun hq231 => ?_) fun hq231 => ?_
       ·refine go ?_
        exact QE.jb (and_t hq231 rfl) fun w2 hw => hw
       refine go ?_
       exact QE.jb (and_f hq231) fun w2 hw => hw
      refine SP.ci 105 hg_t229 (fun hq223 ho => ?_) fun hq223 ho => ?_
      ·refine go ?_
       obtain ⟨x226, hx, ho⟩ := elt_bind ho
       refine SP.indexP see 2 rfl Tryz.underlying23 sz34 hx.1 hx.2 rfl rfl rfl rfl (fun p224 => ?_)
       clear hx
       refine SP.fieldP see 0 rfl Tryz.underlying34 rfl sz4 k_api_Method.part_Reads rfl rfl rfl (fun p227 => ?_)
       refine SP.val (Val.loadP1 see 0 rfl (fun _ _ e => e) Tryz.underlying4 rfl rfl) rfl rfl rfl (go ?_)
       obtain rfl := Option.some.inj ho
       exact QE.jn fun w2 hw => (St.selP [2, 3, 4, 5] rfl hw)
      refine go ?_
      obtain rfl := Option.some.inj ho
      exact QE.jn fun w2 hw => hw
     refine go ?_
     obtain rfl := Option.some.inj ho
     exact QE.lower m219 (by omega) fun a w2 ha hw => ⟨x217, (IntKind.i64.wrap (x197 + 1)), (by omega), hr, ha.sub sb, (St.selO [1, 2, 3, 4, 5] rfl rfl hw)⟩
    refine go ?_
    refine SP.val (Val.loadA 1 rfl Tryz.underlying25 rfl sz25 rfl rfl rfl) rfl rfl rfl ?_
    obtain ⟨t236, hc, ho⟩ := bind_some ho
    refine SP.callVO see (caps := []) (.int .i64 t236) fn19 rfl rfl rfl rfl (fun w2 hs => verify_May.ok _ _ _ _ _ hc w2 (hp w2) (Sub.refl _) (slO.read (St.own 2 rfl see.sub see.dj hs) (Sub.refl _) (Sub.refl _)) (slO.read (St.own 3 rfl see.sub see.dj hs) (Sub.refl _) (Sub.refl _)) (slD.read (St.own 0 rfl see.sub see.dj hs) (Sub.refl _) (Sub.refl _)) ((St.pers 3 rfl see.sub see.dj hs))) ?_
    clear hc
    refine go ?_
    obtain rfl := fin ho hr
    exact QE.rt (fun _ h => h)
   refine SP.ci 69 hg_t152 (fun hq150 ho => ?_) fun hq150 ho => ?_
   ·refine go ?_
    obtain rfl := Option.some.inj ho
    exact QE.jn fun w2 hw => hw
   refine go ?_
   obtain ⟨t151, hc, ho⟩ := bind_some ho
   refine SP.callVO see (caps := []) (.bool t151) fn21 rfl rfl rfl rfl (fun w2 hs => capstanref12_Same.ok _ _ _ _ _ hc w2 (hp w2) (Sub.refl _) (slO.read (St.own 0 rfl see.sub see.dj hs) (Sub.refl _) (Sub.refl _)) (slO.read (St.own 5 rfl see.sub see.dj hs) (Sub.refl _) (Sub.refl _))) ?_
   clear hc
   refine go ?_
   obtain rfl := Option.some.inj ho
   exact QE.jn fun w2 hw => hw
  refine SP.bb 31 (fun hq14 => ?_) fun hq14 => ?_
  ·refine go ?_
   exact QE.jb (or_t hq14) fun w2 hw => hw
  refine go ?_
  exact QE.jb (or_f hq14 rfl) fun w2 hw => hw
 refine SP.bb 27 (fun hq12 => ?_) fun hq12 => ?_
 ·refine go ?_
  exact QE.jb (or_t hq12) fun w2 hw => hw
 refine go ?_
 exact QE.jb (or_f hq12 rfl) fun w2 hw => hw
theorem cl5 : Tryz.prog.cellsOf 5 = 1 := by kernel_rfl
theorem cl2 : Tryz.prog.cellsOf 2 = 1 := by kernel_rfl
theorem cl100 : Tryz.prog.cellsOf 100 = 3 := by kernel_rfl
def wf_api_Value (x : api_Value) : Prop := (Lit.int .u8 x.Kind).wf = true ∧ (Lit.int .i64 x.A).wf = true ∧ (Lit.int .i64 x.B).wf = true
theorem opens_api_Value : Opens Tryz.prog 100 k_api_Value wf_api_Value := by
  intro H enc W fuel cs d ps h
  cases fuel with
  | zero => simp [DataW.trod] at h
  | succ n =>
    obtain ⟨hl, hf⟩ := trod_struct Tryz.underlying100 h
    rw [cl100] at hl
    obtain ⟨c0, c1, c2, rfl⟩ := len3 hl
    obtain ⟨d0, q0, h0⟩ := hf 0 _ rfl
    replace h0 : DataW.trod enc Tryz.prog W 0 (fun _ => true) true n 5 (List.take (Tryz.prog.cellsOf 5) [c0, c1, c2]) = some (d0, q0) := h0
    rw [cl5] at h0
    replace h0 : DataW.trod enc Tryz.prog W 0 (fun _ => true) true n 5 [c0] = some (d0, q0) := h0
    obtain ⟨x0, r0, w0⟩ := (Opens.int Tryz.underlying5) enc W n _ _ _ h0
    obtain ⟨rfl, -⟩ := List.cons.inj r0
    obtain ⟨d1, q1, h1⟩ := hf 1 _ rfl
    replace h1 : DataW.trod enc Tryz.prog W 0 (fun _ => true) true n 2 (List.take (Tryz.prog.cellsOf 2) [c1, c2]) = some (d1, q1) := h1
    rw [cl2] at h1
    replace h1 : DataW.trod enc Tryz.prog W 0 (fun _ => true) true n 2 [c1] = some (d1, q1) := h1
    obtain ⟨x1, r1, w1⟩ := (Opens.int Tryz.underlying2) enc W n _ _ _ h1
    obtain ⟨rfl, -⟩ := List.cons.inj r1
    obtain ⟨d2, q2, h2⟩ := hf 2 _ rfl
    replace h2 : DataW.trod enc Tryz.prog W 0 (fun _ => true) true n 2 (List.take (Tryz.prog.cellsOf 2) [c2]) = some (d2, q2) := h2
    rw [cl2] at h2
    replace h2 : DataW.trod enc Tryz.prog W 0 (fun _ => true) true n 2 [c2] = some (d2, q2) := h2
    obtain ⟨x2, r2, w2⟩ := (Opens.int Tryz.underlying2) enc W n _ _ _ h2
    obtain ⟨rfl, -⟩ := List.cons.inj r2
    exact ⟨⟨x0, x1, x2⟩, rfl, w0, w1, w2⟩
theorem cl3 : Tryz.prog.cellsOf 3 = 1 := by kernel_rfl
theorem cl43 : Tryz.prog.cellsOf 43 = 3 := by kernel_rfl
def wf_api_Instr (x : api_Instr) : Prop := (Lit.int .u8 x.Op).wf = true ∧ (Lit.int .i64 x.A).wf = true ∧ (Lit.int .i64 x.B).wf = true
theorem opens_api_Instr : Opens Tryz.prog 43 k_api_Instr wf_api_Instr := by
  intro H enc W fuel cs d ps h
  cases fuel with
  | zero => simp [DataW.trod] at h
  | succ n =>
    obtain ⟨hl, hf⟩ := trod_struct Tryz.underlying43 h
    rw [cl43] at hl
    obtain ⟨c0, c1, c2, rfl⟩ := len3 hl
    obtain ⟨d0, q0, h0⟩ := hf 0 _ rfl
    replace h0 : DataW.trod enc Tryz.prog W 0 (fun _ => true) true n 5 (List.take (Tryz.prog.cellsOf 5) [c0, c1, c2]) = some (d0, q0) := h0
    rw [cl5] at h0
    replace h0 : DataW.trod enc Tryz.prog W 0 (fun _ => true) true n 5 [c0] = some (d0, q0) := h0
    obtain ⟨x0, r0, w0⟩ := (Opens.int Tryz.underlying5) enc W n _ _ _ h0
    obtain ⟨rfl, -⟩ := List.cons.inj r0
    obtain ⟨d1, q1, h1⟩ := hf 1 _ rfl
    replace h1 : DataW.trod enc Tryz.prog W 0 (fun _ => true) true n 3 (List.take (Tryz.prog.cellsOf 3) [c1, c2]) = some (d1, q1) := h1
    rw [cl3] at h1
    replace h1 : DataW.trod enc Tryz.prog W 0 (fun _ => true) true n 3 [c1] = some (d1, q1) := h1
    obtain ⟨x1, r1, w1⟩ := (Opens.int Tryz.underlying3) enc W n _ _ _ h1
    obtain ⟨rfl, -⟩ := List.cons.inj r1
    obtain ⟨d2, q2, h2⟩ := hf 2 _ rfl
    replace h2 : DataW.trod enc Tryz.prog W 0 (fun _ => true) true n 3 (List.take (Tryz.prog.cellsOf 3) [c2]) = some (d2, q2) := h2
    rw [cl3] at h2
    replace h2 : DataW.trod enc Tryz.prog W 0 (fun _ => true) true n 3 [c2] = some (d2, q2) := h2
    obtain ⟨x2, r2, w2⟩ := (Opens.int Tryz.underlying3) enc W n _ _ _ h2
    obtain ⟨rfl, -⟩ := List.cons.inj r2
    exact ⟨⟨x0, x1, x2⟩, rfl, w0, w1, w2⟩
theorem cl31 : Tryz.prog.cellsOf 31 = 1 := by kernel_rfl
theorem cl4 : Tryz.prog.cellsOf 4 = 1 := by kernel_rfl
theorem cl32 : Tryz.prog.cellsOf 32 = 1 := by kernel_rfl
theorem cl34 : Tryz.prog.cellsOf 34 = 8 := by kernel_rfl
def wf_api_Method (x : api_Method) : Prop := (x.Args.length ≤ maxLen ∧ ∀ y ∈ x.Args, (Lit.int .u8 y).wf = true) ∧ (x.Locals.length ≤ maxLen ∧ ∀ y ∈ x.Locals, (Lit.int .u8 y).wf = true) ∧ (Lit.int .u8 x.Result).wf = true ∧ True ∧ (Lit.int .i64 x.Fuel).wf = true ∧ (Lit.int .i64 x.Stack).wf = true ∧ (Lit.int .i64 x.Heap).wf = true ∧ (x.Code.length ≤ maxLen ∧ ∀ y ∈ x.Code, wf_api_Instr y)
theorem opens_api_Method : Opens Tryz.prog 34 k_api_Method wf_api_Method := by
  intro H enc W fuel cs d ps h
  cases fuel with
  | zero => simp [DataW.trod] at h
  | succ n =>
    obtain ⟨hl, hf⟩ := trod_struct Tryz.underlying34 h
    rw [cl34] at hl
    obtain ⟨c0, c1, c2, c3, c4, c5, c6, c7, rfl⟩ := len8 hl
    obtain ⟨d0, q0, h0⟩ := hf 0 _ rfl
    replace h0 : DataW.trod enc Tryz.prog W 0 (fun _ => true) true n 31 (List.take (Tryz.prog.cellsOf 31) [c0, c1, c2, c3, c4, c5, c6, c7]) = some (d0, q0) := h0
    rw [cl31] at h0
    replace h0 : DataW.trod enc Tryz.prog W 0 (fun _ => true) true n 31 [c0] = some (d0, q0) := h0
    obtain ⟨x0, r0, w0⟩ := (Opens.slice Tryz.underlying31 (Opens.int Tryz.underlying5) cl5 (by decide)) enc W n _ _ _ h0
    obtain ⟨v0, e0, r0⟩ := r0
    obtain ⟨rfl, -⟩ := List.cons.inj e0
    obtain ⟨d1, q1, h1⟩ := hf 1 _ rfl
    replace h1 : DataW.trod enc Tryz.prog W 0 (fun _ => true) true n 31 (List.take (Tryz.prog.cellsOf 31) [c1, c2, c3, c4, c5, c6, c7]) = some (d1, q1) := h1
    rw [cl31] at h1
    replace h1 : DataW.trod enc Tryz.prog W 0 (fun _ => true) true n 31 [c1] = some (d1, q1) := h1
    obtain ⟨x1, r1, w1⟩ := (Opens.slice Tryz.underlying31 (Opens.int Tryz.underlying5) cl5 (by decide)) enc W n _ _ _ h1
    obtain ⟨v1, e1, r1⟩ := r1
    obtain ⟨rfl, -⟩ := List.cons.inj e1
    obtain ⟨d2, q2, h2⟩ := hf 2 _ rfl
    replace h2 : DataW.trod enc Tryz.prog W 0 (fun _ => true) true n 5 (List.take (Tryz.prog.cellsOf 5) [c2, c3, c4, c5, c6, c7]) = some (d2, q2) := h2
    rw [cl5] at h2
    replace h2 : DataW.trod enc Tryz.prog W 0 (fun _ => true) true n 5 [c2] = some (d2, q2) := h2
    obtain ⟨x2, r2, w2⟩ := (Opens.int Tryz.underlying5) enc W n _ _ _ h2
    obtain ⟨rfl, -⟩ := List.cons.inj r2
    obtain ⟨d3, q3, h3⟩ := hf 3 _ rfl
    replace h3 : DataW.trod enc Tryz.prog W 0 (fun _ => true) true n 4 (List.take (Tryz.prog.cellsOf 4) [c3, c4, c5, c6, c7]) = some (d3, q3) := h3
    rw [cl4] at h3
    replace h3 : DataW.trod enc Tryz.prog W 0 (fun _ => true) true n 4 [c3] = some (d3, q3) := h3
    obtain ⟨x3, r3, w3⟩ := (Opens.bool Tryz.underlying4) enc W n _ _ _ h3
    obtain ⟨rfl, -⟩ := List.cons.inj r3
    obtain ⟨d4, q4, h4⟩ := hf 4 _ rfl
    replace h4 : DataW.trod enc Tryz.prog W 0 (fun _ => true) true n 3 (List.take (Tryz.prog.cellsOf 3) [c4, c5, c6, c7]) = some (d4, q4) := h4
    rw [cl3] at h4
    replace h4 : DataW.trod enc Tryz.prog W 0 (fun _ => true) true n 3 [c4] = some (d4, q4) := h4
    obtain ⟨x4, r4, w4⟩ := (Opens.int Tryz.underlying3) enc W n _ _ _ h4
    obtain ⟨rfl, -⟩ := List.cons.inj r4
    obtain ⟨d5, q5, h5⟩ := hf 5 _ rfl
    replace h5 : DataW.trod enc Tryz.prog W 0 (fun _ => true) true n 3 (List.take (Tryz.prog.cellsOf 3) [c5, c6, c7]) = some (d5, q5) := h5
    rw [cl3] at h5
    replace h5 : DataW.trod enc Tryz.prog W 0 (fun _ => true) true n 3 [c5] = some (d5, q5) := h5
    obtain ⟨x5, r5, w5⟩ := (Opens.int Tryz.underlying3) enc W n _ _ _ h5
    obtain ⟨rfl, -⟩ := List.cons.inj r5
    obtain ⟨d6, q6, h6⟩ := hf 6 _ rfl
    replace h6 : DataW.trod enc Tryz.prog W 0 (fun _ => true) true n 3 (List.take (Tryz.prog.cellsOf 3) [c6, c7]) = some (d6, q6) := h6
    rw [cl3] at h6
    replace h6 : DataW.trod enc Tryz.prog W 0 (fun _ => true) true n 3 [c6] = some (d6, q6) := h6
    obtain ⟨x6, r6, w6⟩ := (Opens.int Tryz.underlying3) enc W n _ _ _ h6
    obtain ⟨rfl, -⟩ := List.cons.inj r6
    obtain ⟨d7, q7, h7⟩ := hf 7 _ rfl
    replace h7 : DataW.trod enc Tryz.prog W 0 (fun _ => true) true n 32 (List.take (Tryz.prog.cellsOf 32) [c7]) = some (d7, q7) := h7
    rw [cl32] at h7
    replace h7 : DataW.trod enc Tryz.prog W 0 (fun _ => true) true n 32 [c7] = some (d7, q7) := h7
    obtain ⟨x7, r7, w7⟩ := (Opens.slice Tryz.underlying32 opens_api_Instr cl43 (by decide)) enc W n _ _ _ h7
    obtain ⟨v7, e7, r7⟩ := r7
    obtain ⟨rfl, -⟩ := List.cons.inj e7
    exact ⟨⟨x0, x1, x2, x3, x4, x5, x6, x7⟩, ⟨_, _, _, rfl, r0, r1, r7⟩, w0, w1, w2, w3, w4, w5, w6, w7⟩
theorem cl22 : Tryz.prog.cellsOf 22 = 1 := by kernel_rfl
theorem cl23 : Tryz.prog.cellsOf 23 = 1 := by kernel_rfl
theorem cl25 : Tryz.prog.cellsOf 25 = 4 := by kernel_rfl
def wf_api_Module (x : api_Module) : Prop := (x.Globals.length ≤ maxLen ∧ ∀ y ∈ x.Globals, wf_api_Value y) ∧ (x.Pool.length ≤ maxLen ∧ ∀ y ∈ x.Pool, wf_api_Value y) ∧ (x.Methods.length ≤ maxLen ∧ ∀ y ∈ x.Methods, wf_api_Method y) ∧ (Lit.int .i64 x.Migrate).wf = true
theorem opens_api_Module : Opens Tryz.prog 25 k_api_Module wf_api_Module := by
  intro H enc W fuel cs d ps h
  cases fuel with
  | zero => simp [DataW.trod] at h
  | succ n =>
    obtain ⟨hl, hf⟩ := trod_struct Tryz.underlying25 h
    rw [cl25] at hl
    obtain ⟨c0, c1, c2, c3, rfl⟩ := len4 hl
    obtain ⟨d0, q0, h0⟩ := hf 0 _ rfl
    replace h0 : DataW.trod enc Tryz.prog W 0 (fun _ => true) true n 22 (List.take (Tryz.prog.cellsOf 22) [c0, c1, c2, c3]) = some (d0, q0) := h0
    rw [cl22] at h0
    replace h0 : DataW.trod enc Tryz.prog W 0 (fun _ => true) true n 22 [c0] = some (d0, q0) := h0
    obtain ⟨x0, r0, w0⟩ := (Opens.slice Tryz.underlying22 opens_api_Value cl100 (by decide)) enc W n _ _ _ h0
    obtain ⟨v0, e0, r0⟩ := r0
    obtain ⟨rfl, -⟩ := List.cons.inj e0
    obtain ⟨d1, q1, h1⟩ := hf 1 _ rfl
    replace h1 : DataW.trod enc Tryz.prog W 0 (fun _ => true) true n 22 (List.take (Tryz.prog.cellsOf 22) [c1, c2, c3]) = some (d1, q1) := h1
    rw [cl22] at h1
    replace h1 : DataW.trod enc Tryz.prog W 0 (fun _ => true) true n 22 [c1] = some (d1, q1) := h1
    obtain ⟨x1, r1, w1⟩ := (Opens.slice Tryz.underlying22 opens_api_Value cl100 (by decide)) enc W n _ _ _ h1
    obtain ⟨v1, e1, r1⟩ := r1
    obtain ⟨rfl, -⟩ := List.cons.inj e1
    obtain ⟨d2, q2, h2⟩ := hf 2 _ rfl
    replace h2 : DataW.trod enc Tryz.prog W 0 (fun _ => true) true n 23 (List.take (Tryz.prog.cellsOf 23) [c2, c3]) = some (d2, q2) := h2
    rw [cl23] at h2
    replace h2 : DataW.trod enc Tryz.prog W 0 (fun _ => true) true n 23 [c2] = some (d2, q2) := h2
    obtain ⟨x2, r2, w2⟩ := (Opens.slice Tryz.underlying23 opens_api_Method cl34 (by decide)) enc W n _ _ _ h2
    obtain ⟨v2, e2, r2⟩ := r2
    obtain ⟨rfl, -⟩ := List.cons.inj e2
    obtain ⟨d3, q3, h3⟩ := hf 3 _ rfl
    replace h3 : DataW.trod enc Tryz.prog W 0 (fun _ => true) true n 3 (List.take (Tryz.prog.cellsOf 3) [c3]) = some (d3, q3) := h3
    rw [cl3] at h3
    replace h3 : DataW.trod enc Tryz.prog W 0 (fun _ => true) true n 3 [c3] = some (d3, q3) := h3
    obtain ⟨x3, r3, w3⟩ := (Opens.int Tryz.underlying3) enc W n _ _ _ h3
    obtain ⟨rfl, -⟩ := List.cons.inj r3
    exact ⟨⟨x0, x1, x2, x3⟩, ⟨_, _, _, rfl, r0, r1, r2⟩, w0, w1, w2, w3⟩
def capstanlaw14_VerifyDeclares.Pure : Prop := ∀ (x0 : api_Module) (x1 : Int), wf_api_Module x0 → (Lit.int .i64 x1).wf = true → capstanlaw14_VerifyDeclares.f x0 x1 = some true
end Go.Proofs.YtehjiiebjkkcmaaGreatDoor
end
