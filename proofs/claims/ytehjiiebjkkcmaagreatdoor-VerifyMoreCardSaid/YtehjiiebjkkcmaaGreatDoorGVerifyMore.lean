/- Functions of the program as plain functions, with the proof that the code computes them: printed by gen.py of this session. -/
import Derived.Test.YtehjiiebjkkcmaaGreatDoorProg
import Derived.Test.YtehjiiebjkkcmaaGreatDoorQ33xVerifyMore
import Derived.Test.YtehjiiebjkkcmaaGreatDoorQ39xVerifyMore
import Derived.Ground.GgzProg
import Derived.Ground.Names8Prog
import Derived.Ground.NamesProg
import Derived.Ground.SlgcProg
import Derived.Ground.SlgmProg
import Derived.Ground.SlgnProg
import Derived.Ground.SlsfProg
import Derived.Shelf.Bits.Mul64
import Derived.Shelf.Lay
import Derived.Shelf.SlGeneric
import Derived.Shelf.SlIterI.Nil
import Derived.Shelf.SlSortCmp.WholeK
import Derived.Shelf.SlicesE.Reverse
import Derived.Shelf.SlicesG.Cmp
import Derived.Shelf.SlicesG.CompactI
import Derived.Shelf.Small.Bits
import Derived.Shelf.SortM.Plain
import Derived.Shelf.SortM.SortNone
import Derived.Shelf.Spec.SlicesGrow
import Derived.Test.YtehjiiebjkkcmaaGreatDoorGVerifyMorep3
set_option linter.unusedVariables false
set_option linter.unusedSimpArgs false
set_option maxRecDepth 20000
set_option maxHeartbeats 2000000
set_option linter.defProp false
set_option warn.classDefReducibility false
noncomputable section
namespace Go.Proofs.YtehjiiebjkkcmaaGreatDoor
open Go.Q
attribute [local irreducible] CP SP QE DA DT Val St
inductive capstanref12_Same.S where
  | start
  | l1 (x12 : Int)
def capstanref12_Same.F (a_0 : (List api_Cert)) (b_1 : (List api_Cert)) : capstanref12_Same.S → Option (capstanref12_Same.S ⊕ Bool)
  | .start => if (a_0.length : Int) ≠ (b_1.length : Int) then (some (.inr false)) else (some (.inl (.l1 0)))
  | .l1 x12 => if x12 < (a_0.length : Int) then ((elt a_0 x12).bind fun x16 => (elt b_1 x12).bind fun x20 => if (!(x16.Fuel == x20.Fuel && (x16.Stack == x20.Stack && (x16.Heap == x20.Heap)))) = true then (some (.inr false)) else (some (.inl (.l1 (IntKind.i64.wrap (x12 + 1)))))) else (some (.inr true))
def capstanref12_Same.f (a_0 : (List api_Cert)) (b_1 : (List api_Cert)) : Option Bool := runF (capstanref12_Same.F a_0 b_1) .start
theorem capstanref12_Same.ok (a_0 : (List api_Cert)) (b_1 : (List api_Cert)) (v_a_0 v_b_1 : Value) (r : Bool) (H : capstanref12_Same.f a_0 b_1 = some r) (w : World) (hV : Hp) (sV : Sub hV (hp w)) (h0 : slR k_api_Cert hV v_a_0 a_0) (h1 : slR k_api_Cert hV v_b_1 b_1) :
    Trip Tryz.prog 21 [v_a_0, v_b_1].toArray em hV w (fun v => HO.pure (v = .bool r)) := by
 refine Trip.go 26 Tryz.func21 sV (aS h0 (aS h1 (All.nil _))) fun see => ?_
 obtain ⟨n0, hi⟩ := runF_iff.1 H
 obtain ⟨m0, o, hm0, ho, hr⟩ := iter_some hi
 clear hi
 refine go ?_
 refine CP.seq (go ?_)
 refine CP.ci ho (fun ho => ?_) fun ho => ?_
 ·refine go ?_
  obtain rfl := fin ho hr
  exact QE.rt (fun _ h => h)
 refine go ?_
 refine CP.seq (go ?_)
 obtain rfl := Option.some.inj ho
 refine CP.loop (fun cl1 a w2 => ∃ x12 : Int, cl1 ≤ m0 ∧ iter (capstanref12_Same.F a_0 b_1) cl1 (.l1 x12) = some r ∧ Env ⟨26, []⟩ [(0, v_a_0), (1, v_b_1), (5, .int .i64 x12)] a ∧ St w em hV [slP k_api_Cert v_a_0 a_0, slP k_api_Cert v_b_1 b_1] [] w2) m0 (fun a w2 ha hw => ⟨0, Nat.le_refl _, hr, ha.sub sb, hw⟩) ?_
 clear hr
 rintro cl1 a w2 ⟨x12, hc_l1, hi, ha, hw⟩
 obtain ⟨m13, o, hm_m13, ho, hr⟩ := iter_some hi
 refine CP.app ha hw ?_
 clear ha hw a w2 hi
 refine CP.seq (go ?_)
 refine CP.ci ho (fun ho => ?_) fun ho => ?_
 ·refine go ?_
  refine CP.seq (go ?_)
  refine CP.seq ?_
  refine CP.drawA (by kernel_rfl) (fun w2 k h => h.drawn k) ?_
  obtain ⟨x16, hx, ho⟩ := elt_bind ho
  refine DA.ghost (fun w2 h => h.elem see 0 rfl hx.1 hx.2) (fun p14 h_p14 => ?_)
  clear hx
  refine DA.ghost (fun w2 h => h.openE see 0 rfl (fun _ : Unit => [.int .i64 x16.Fuel, .int .i64 x16.Stack, .int .i64 x16.Heap]) (fun _ => []) (fun h cs e => ⟨(), e, All.nil _⟩)) (fun _ _ => ?_)
  obtain ⟨x20, hx, ho⟩ := elt_bind ho
  refine DA.ghost (fun w2 h => h.elem see 3 rfl hx.1 hx.2) (fun p18 h_p18 => ?_)
  clear hx
  refine DA.ghost (fun w2 h => h.openE see 0 rfl (fun _ : Unit => [.int .i64 x20.Fuel, .int .i64 x20.Stack, .int .i64 x20.Heap]) (fun _ => []) (fun h cs e => ⟨(), e, All.nil _⟩)) (fun _ _ => ?_)
  refine DA.ph 0 8 ?_
  refine DT.tk 0 ?_
  refine DT.tk 1 ?_
  refine DT.tv 2 rfl (Val.indexE h_p14 Tryz.underlying37 sz45 rfl rfl) ?_
  refine DT.tv 3 rfl (Val.loadAtA see 2 rfl Tryz.underlying45 rfl sz45 rfl) ?_
  refine DT.tk 4 ?_
  refine DT.tk 5 ?_
  refine DT.tv 6 rfl (Val.indexE h_p18 Tryz.underlying37 sz45 rfl rfl) ?_
  refine DT.tv 7 rfl (Val.loadAtA see 0 rfl Tryz.underlying45 rfl sz45 rfl) ?_
  refine DT.next (by kernel_rfl) ?_
  refine DA.one 8 rfl (by kernel_rfl) ?_
  refine SP.val (Val.neqA (by kernel_rfl) (fun w2 => eqA45 9998 w2 x16.Fuel x20.Fuel x16.Stack x20.Stack x16.Heap x20.Heap) rfl rfl) rfl rfl rfl (go ?_)
  refine QE.atA ?_
  refine DA.done (by kernel_rfl) (go ?_)
  refine CP.cb ho (fun ho => ?_) fun ho => ?_
  ·refine go ?_
   obtain rfl := fin ho hr
   exact QE.rt (fun _ h => h)
  refine go ?_
  obtain rfl := Option.some.inj ho
  exact QE.lower m13 (by omega) fun a w2 ha hw => ⟨(IntKind.i64.wrap (x12 + 1)), (by omega), hr, ha.sub sb, (St.selP [4, 5] rfl hw)⟩
 refine go ?_
 obtain rfl := fin ho hr
 exact QE.rt (fun _ h => h)
def capstanlaw14_VerifyMore.j3 (m_0 : api_Module) (two_1 : Bool) (ends_2 : Bool) (b86 : Bool) : Option Bool :=
  some b86
def capstanlaw14_VerifyMore.j2 (m_0 : api_Module) (two_1 : Bool) (ends_2 : Bool) (t8 : (List api_Cert) × Int) (x36 : Int) (x37 : Int) (l39 : List Int) (x41 : Int) (b42 : Bool) (x43 : Int) (x44 : Int) (l46 : List api_Instr) : Option Bool :=
  (capstanref08_Copy.f m_0).bind fun t48 => if (t48.Methods.length + [(⟨l39, [], x41, b42, x43, x44, 0, l46⟩ : api_Method)].length) * 104 ≤ 140737488355328 then ((module_May.f (⟨t48.Globals, t48.Pool, t48.Methods ++ [(⟨l39, [], x41, b42, x43, x44, 0, l46⟩ : api_Method)], t48.Migrate⟩ : api_Module)).bind fun t62 => if t62 = 3 then ((verify_May.f (⟨t48.Globals, t48.Pool, t48.Methods ++ [(⟨l39, [], x41, b42, x43, x44, 0, l46⟩ : api_Method)], t48.Migrate⟩ : api_Module)).bind fun t63 => some (decide (t63 = 3))) else ((verify_Accept.f (⟨t48.Globals, t48.Pool, t48.Methods ++ [(⟨l39, [], x41, b42, x43, x44, 0, l46⟩ : api_Method)], t48.Migrate⟩ : api_Module)).bind fun t64 => if t64.2 = 0 then (if (t64.1.length : Int) = (IntKind.i64.wrap ((t8.1.length : Int) + 1)) then (if (0 : Int) ≤ (t8.1.length : Int) ∧ (t8.1.length : Int) ≤ (t64.1.length : Int) then ((capstanref12_Same.f (t64.1.take ((t8.1.length : Int) : Int).toNat) t8.1).bind fun t77 => if t77 = true then ((elt t64.1 (t8.1.length : Int)).bind fun x81 => capstanlaw14_VerifyMore.j3 m_0 two_1 ends_2 (x81.Fuel == x36 && (x81.Stack == x37 && (x81.Heap == 0)))) else (capstanlaw14_VerifyMore.j3 m_0 two_1 ends_2 false)) else none) else (capstanlaw14_VerifyMore.j3 m_0 two_1 ends_2 false)) else (capstanlaw14_VerifyMore.j3 m_0 two_1 ends_2 false))) else none
def capstanlaw14_VerifyMore.j1 (m_0 : api_Module) (two_1 : Bool) (ends_2 : Bool) (t8 : (List api_Cert) × Int) (l24 : List Int) (b26 : Bool) (x27 : Int) (x28 : Int) (l30 : List api_Instr) : Option Bool :=
  if ends_2 = true then (capstanlaw14_VerifyMore.j2 m_0 two_1 ends_2 t8 1 0 [] 2 false 1 0 [(⟨32, 0, 0⟩ : api_Instr)]) else (capstanlaw14_VerifyMore.j2 m_0 two_1 ends_2 t8 x27 x28 l24 1 b26 x27 x28 l30)
def capstanlaw14_VerifyMore.f (m_0 : api_Module) (two_1 : Bool) (ends_2 : Bool) : Option Bool :=
  (capstanlaw14_awake.f ).bind fun t6 => if (!t6) = true then (some false) else ((capstanlaw08_Great.f m_0).bind fun t7 => if t7 = true then (some true) else ((verify_Accept.f m_0).bind fun t8 => if ((decide (t8.2 ≠ 0)) || (decide ((m_0.Methods.length : Int) ≥ 16))) = true then (some true) else (if two_1 = true then (capstanlaw14_VerifyMore.j1 m_0 two_1 ends_2 t8 [1, 1] false 4 4 [(⟨2, 0, 0⟩ : api_Instr), (⟨2, 1, 0⟩ : api_Instr), (⟨9, 0, 0⟩ : api_Instr), (⟨31, 0, 0⟩ : api_Instr)]) else (capstanlaw14_VerifyMore.j1 m_0 two_1 ends_2 t8 [1] true 2 2 [(⟨2, 0, 0⟩ : api_Instr), (⟨31, 0, 0⟩ : api_Instr)]))))
theorem capstanlaw14_VerifyMore.ok (m_0 : api_Module) (two_1 : Bool) (ends_2 : Bool) (v_m_0_Globals v_m_0_Pool v_m_0_Methods : Value)  (r : Bool) (H : capstanlaw14_VerifyMore.f m_0 two_1 ends_2 = some r) (w : World) (hV : Hp) (sV : Sub hV (hp w)) (h0 : slR k_api_Value hV v_m_0_Globals m_0.Globals) (h1 : slR k_api_Value hV v_m_0_Pool m_0.Pool) (h2 : slR k_api_Method hV v_m_0_Methods m_0.Methods) (h3 : (arrP k_arr245 0 tab0).p hV) :
    Trip Tryz.prog 4 [.agg #[v_m_0_Globals, v_m_0_Pool, v_m_0_Methods, .int .i64 m_0.Migrate], .bool two_1, .bool ends_2].toArray em hV w (fun v => HO.pure (v = .bool r)) := by
 refine Trip.go 100 Tryz.func4 sV (aS h0 (aS h1 (aS h2 (All.cons (x := arrP k_arr245 0 tab0) h3 (All.nil _))))) fun see => ?_
 have ho := H
 refine go ?_
 refine SP.box rfl rfl rfl rfl fun b4 => go ?_
 refine CP.seq (go ?_)
 obtain ⟨t6, hc, ho⟩ := bind_some (x := capstanlaw14_awake.f ) ho
 refine SP.callV see (caps := []) (.bool t6) fn8 rfl rfl rfl rfl (fun w2 hP hs sub ap => capstanlaw14_awake.ok   _ hc w2 hP sub (ap.get 3 rfl)) ?_
 clear hc
 refine go ?_
 refine CP.cb ho (fun ho => ?_) fun ho => ?_
 ·refine go ?_
  obtain rfl := Option.some.inj ho
  exact QE.rt (fun _ h => h)
 refine go ?_
 refine CP.seq (go ?_)
 refine SP.val (Val.loadA 0 rfl Tryz.underlying25 rfl sz25 rfl rfl rfl) rfl rfl rfl ?_
 obtain ⟨t7, hc, ho⟩ := bind_some ho
 refine SP.callV see (caps := []) (.bool t7) fn9 rfl rfl rfl rfl (fun w2 hP hs sub ap => capstanlaw08_Great.ok _ _ _ _ _ hc w2 hP sub (ap.get 0 rfl) (ap.get 1 rfl) (ap.get 2 rfl)) ?_
 clear hc
 refine go ?_
 refine CP.cb ho (fun ho => ?_) fun ho => ?_
 ·refine go ?_
  obtain rfl := Option.some.inj ho
  exact QE.rt (fun _ h => h)
 refine go ?_
 refine SP.val (Val.loadA 0 rfl Tryz.underlying25 rfl sz25 rfl rfl rfl) rfl rfl rfl ?_
 obtain ⟨t8, hc, ho⟩ := bind_some ho
 refine SP.callK see (caps := []) _ fn17 rfl rfl rfl rfl (fun w2 hP hs sub ap => verify_Accept.ok _ _ _ _ _ hc w2 hP sub (ap.get 0 rfl) (ap.get 1 rfl) (ap.get 2 rfl) (ap.get 3 rfl)) (SP.k1 fun v9 => ?_)
 clear hc
 refine go ?_
 refine CP.seq (go ?_)
 refine SP.jn 5 [1, 2, 3, 7] 30 (.bool ((decide (t8.2 ≠ 0)) || (decide ((m_0.Methods.length : Int) ≥ 16)))) ?_ ?_
 ·refine go ?_
  refine CP.cb ho (fun ho => ?_) fun ho => ?_
  ·refine go ?_
   obtain rfl := Option.some.inj ho
   exact QE.rt (fun _ h => h)
  refine go ?_
  refine SP.lit (k := (kInt .u8)) (xs := [1]) (vs := [.int .u8 1]) (cells := [.int .u8 1]) Tryz.underlying31 inf5 rfl rfl rfl rfl rfl rfl rfl rfl (fun _ ap => ⟨[.int .u8 1], _, rfl, rfl, rfl⟩) rfl rfl rfl (fun v13 => ?_)
  refine SP.val (Val.buildC (us := [(0, .int .u8 2)]) (ucs := [(0, [.int .u8 2])]) (cs := [.int .u8 2, .int .i64 0, .int .i64 0]) bt43 rfl rfl ⟨rfl, rfl, trivial⟩ (by rfl)) rfl rfl rfl ?_
  refine SP.val (Val.buildC (us := [(0, .int .u8 31)]) (ucs := [(0, [.int .u8 31])]) (cs := [.int .u8 31, .int .i64 0, .int .i64 0]) bt43 rfl rfl ⟨rfl, rfl, trivial⟩ (by rfl)) rfl rfl rfl ?_
  refine SP.lit (k := k_api_Instr) (xs := [(⟨2, 0, 0⟩ : api_Instr), (⟨31, 0, 0⟩ : api_Instr)]) (vs := [.agg #[.int .u8 2, .int .i64 0, .int .i64 0], .agg #[.int .u8 31, .int .i64 0, .int .i64 0]]) (cells := [.int .u8 2, .int .i64 0, .int .i64 0, .int .u8 31, .int .i64 0, .int .i64 0]) Tryz.underlying32 inf43 rfl rfl rfl rfl rfl rfl rfl rfl (fun _ ap => ⟨[.int .u8 2, .int .i64 0, .int .i64 0], _, rfl, rfl, ⟨[.int .u8 31, .int .i64 0, .int .i64 0], _, rfl, rfl, rfl⟩⟩) rfl rfl rfl (fun v15 => ?_)
  refine SP.have (fun w2 hw => slO.shape (St.own 1 rfl see.sub see.dj hw)) (fun hs_v13 => ?_)
  refine SP.have (fun w2 hw => slO.shape (St.own 0 rfl see.sub see.dj hw)) (fun hs_v15 => ?_)
  refine SP.val (Val.buildC (us := [(0, v13), (2, .int .u8 1), (3, .bool true), (4, .int .i64 2), (5, .int .i64 2), (7, v15)]) (ucs := [(0, [v13]), (2, [.int .u8 1]), (3, [.bool true]), (4, [.int .i64 2]), (5, [.int .i64 2]), (7, [v15])]) (cs := [v13, (.slice none 0 0), .int .u8 1, .bool true, .int .i64 2, .int .i64 2, .int .i64 0, v15]) bt34 rfl rfl ⟨rfl, one_cells hs_v13, ⟨rfl, rfl, ⟨rfl, rfl, ⟨rfl, rfl, ⟨rfl, rfl, ⟨rfl, one_cells hs_v15, trivial⟩⟩⟩⟩⟩⟩ (by rfl)) rfl rfl rfl ?_
  refine SP.alloc (cs := [(.slice none 0 0), (.slice none 0 0), .int .u8 0, .bool false, .int .i64 0, .int .i64 0, .int .i64 0, (.slice none 0 0)]) inf34 rfl rfl (fun b17 => ?_)
  refine SP.have (fun w2 hw => slO.shape (St.own 2 rfl see.sub see.dj hw)) (fun hs_v13 => ?_)
  refine SP.have (fun w2 hw => slO.shape (St.own 1 rfl see.sub see.dj hw)) (fun hs_v15 => ?_)
  refine SP.store (v := .agg #[v13, (.slice none 0 0), .int .u8 1, .bool true, .int .i64 2, .int .i64 2, .int .i64 0, v15]) (vs := [v13, (.slice none 0 0), .int .u8 1, .bool true, .int .i64 2, .int .i64 2, .int .i64 0, v15]) 0 (by rfl) sz34 (by rfl) (by rfl) (by rfl) (by rfl) (one_cons hs_v13 (one_cons rfl (one_cons rfl (one_cons rfl (one_cons rfl (one_cons rfl (one_cons rfl (one_cons hs_v15 (rfl))))))))) (by rfl) (go ?_)
  refine CP.join (fun a w2 => ∃ l24 : List Int, ∃ b26 : Bool, ∃ x27 : Int, ∃ x28 : Int, ∃ l30 : List api_Instr, ∃ v25 : Value, ∃ v31 : Value, capstanlaw14_VerifyMore.j1 m_0 two_1 ends_2 t8 l24 b26 x27 x28 l30 = some r ∧ Env ⟨100, []⟩ [(2, .bool ends_2), (3, .pointer (some ⟨b4, 0, none⟩)), (7, v9), (9, .pointer (some ⟨b17, 0, none⟩))] a ∧ St w em hV [slP k_api_Value v_m_0_Globals m_0.Globals, slP k_api_Value v_m_0_Pool m_0.Pool, slP k_api_Method v_m_0_Methods m_0.Methods, arrP k_arr245 0 tab0] [slO k_api_Instr 43 v31 l30, slO (kInt .u8) 5 v25 l24, boxO b17 [v25, (.slice none 0 0), .int .u8 1, .bool b26, .int .i64 x27, .int .i64 x28, .int .i64 0, v31] 34, slO k_api_Cert 45 v9 t8.1, boxO b4 [v_m_0_Globals, v_m_0_Pool, v_m_0_Methods, .int .i64 m_0.Migrate] 25] w2) ?_ ?_
  ·rintro a w2 ⟨l24, b26, x27, x28, l30, v25, v31, ho, ha, hw⟩
   refine CP.app ha hw ?_
   clear ha hw a w2
   refine go ?_
   refine SP.val (Val.buildC (us := [(0, .int .i64 x27), (1, .int .i64 x28)]) (ucs := [(0, [.int .i64 x27]), (1, [.int .i64 x28])]) (cs := [.int .i64 x27, .int .i64 x28, .int .i64 0]) bt45 rfl rfl ⟨rfl, rfl, ⟨rfl, rfl, trivial⟩⟩ (by rfl)) rfl rfl rfl ?_
   refine SP.alloc (cs := [.int .i64 0, .int .i64 0, .int .i64 0]) inf45 rfl rfl (fun b32 => ?_)
   refine SP.store (v := .agg #[.int .i64 x27, .int .i64 x28, .int .i64 0]) (vs := [.int .i64 x27, .int .i64 x28, .int .i64 0]) 0 (by rfl) sz45 (by rfl) (by rfl) (by rfl) (by rfl) (by rfl) (by rfl) (go ?_)
   refine CP.join (fun a w2 => ∃ x36 : Int, ∃ x37 : Int, ∃ l39 : List Int, ∃ x41 : Int, ∃ b42 : Bool, ∃ x43 : Int, ∃ x44 : Int, ∃ l46 : List api_Instr, ∃ v40 : Value, ∃ v47 : Value, capstanlaw14_VerifyMore.j2 m_0 two_1 ends_2 t8 x36 x37 l39 x41 b42 x43 x44 l46 = some r ∧ Env ⟨100, []⟩ [(3, .pointer (some ⟨b4, 0, none⟩)), (7, v9), (9, .pointer (some ⟨b17, 0, none⟩)), (10, .pointer (some ⟨b32, 0, none⟩))] a ∧ St w em hV [slP k_api_Value v_m_0_Globals m_0.Globals, slP k_api_Value v_m_0_Pool m_0.Pool, slP k_api_Method v_m_0_Methods m_0.Methods, arrP k_arr245 0 tab0] [slO k_api_Instr 43 v47 l46, slO (kInt .u8) 5 v40 l39, boxO b32 [.int .i64 x36, .int .i64 x37, .int .i64 0] 45, boxO b17 [v40, (.slice none 0 0), .int .u8 x41, .bool b42, .int .i64 x43, .int .i64 x44, .int .i64 0, v47] 34, slO k_api_Cert 45 v9 t8.1, boxO b4 [v_m_0_Globals, v_m_0_Pool, v_m_0_Methods, .int .i64 m_0.Migrate] 25] w2) ?_ ?_
   ·rintro a w2 ⟨x36, x37, l39, x41, b42, x43, x44, l46, v40, v47, ho, ha, hw⟩
    refine CP.app ha hw ?_
    clear ha hw a w2
    refine go ?_
    refine SP.val (Val.loadA 5 rfl Tryz.underlying25 rfl sz25 rfl rfl rfl) rfl rfl rfl ?_
    obtain ⟨t48, hc, ho⟩ := bind_some ho
    refine SP.callK see (caps := []) _ fn22 rfl rfl rfl rfl (fun w2 hP hs sub ap => capstanref08_Copy.ok _ _ _ _ _ hc w2 hP sub (ap.get 0 rfl) (ap.get 1 rfl) (ap.get 2 rfl)) (SP.k3 fun v49 v50 v51 => ?_)
    clear hc
    refine SP.alloc (cs := [(.slice none 0 0), (.slice none 0 0), (.slice none 0 0), .int .i64 0]) inf25 rfl rfl (fun b55 => ?_)
    refine SP.have (fun w2 hw => slO.shape (St.own 1 rfl see.sub see.dj hw)) (fun hs_v49 => ?_)
    refine SP.have (fun w2 hw => slO.shape (St.own 2 rfl see.sub see.dj hw)) (fun hs_v50 => ?_)
    refine SP.have (fun w2 hw => slD.shape (St.own 3 rfl see.sub see.dj hw)) (fun hs_v51 => ?_)
    refine SP.store (v := .agg #[v49, v50, v51, .int .i64 t48.Migrate]) (vs := [v49, v50, v51, .int .i64 t48.Migrate]) 0 (by rfl) sz25 (by rfl) (by rfl) (by rfl) (by rfl) (one_cons hs_v49 (one_cons hs_v50 (one_cons hs_v51 (one_cons rfl (rfl))))) (by rfl) (go ?_)
    refine SP.val (Val.loadA 7 rfl Tryz.underlying34 rfl sz34 rfl rfl rfl) rfl rfl rfl ?_
    refine SP.have (fun w2 hw => slO.shape (St.own 5 rfl see.sub see.dj hw)) (fun hs_v40 => ?_)
    refine SP.imp (fun w2 hw => St.addO (slO.nil (kInt .u8) 5) hw) ?_
    refine SP.have (fun w2 hw => slO.shape (St.own 5 rfl see.sub see.dj hw)) (fun hs_v47 => ?_)
    refine SP.lit (k := kRaw 8) (xs := [[v40, (.slice none 0 0), .int .u8 x41, .bool b42, .int .i64 x43, .int .i64 x44, .int .i64 0, v47]]) (vs := [.agg #[v40, (.slice none 0 0), .int .u8 x41, .bool b42, .int .i64 x43, .int .i64 x44, .int .i64 0, v47]]) (cells := [v40, (.slice none 0 0), .int .u8 x41, .bool b42, .int .i64 x43, .int .i64 x44, .int .i64 0, v47]) Tryz.underlying23 inf34 rfl rfl rfl rfl rfl rfl rfl rfl (fun _ ap => ⟨[v40, (.slice none 0 0), .int .u8 x41, .bool b42, .int .i64 x43, .int .i64 x44, .int .i64 0, v47], _, rfl, ⟨rfl, rfl, one_cons hs_v40 (one_cons rfl (one_cons rfl (one_cons rfl (one_cons rfl (one_cons rfl (one_cons rfl (one_cons hs_v47 (rfl))))))))⟩, rfl⟩) rfl rfl rfl (fun v58 => ?_)
    refine SP.imp (fun w2 hw => St.litD (k := o_api_Method) (c := [v40, (.slice none 0 0), .int .u8 x41, .bool b42, .int .i64 x43, .int .i64 x44, .int .i64 0, v47]) (x0 := (⟨l39, [], x41, b42, x43, x44, 0, l46⟩ : api_Method)) [slO (kInt .u8) 5 v40 l39, slO (kInt .u8) 5 (.slice none 0 0) [], slO k_api_Instr 43 v47 l46] (St.selO [0, 7, 1, 6, 2, 3, 4, 5, 8, 9, 10, 11] rfl rfl hw) (fun a b q => ⟨_, _, _, rfl, q⟩)) ?_
    refine SP.imp (fun w2 hw => St.selO [4, 0, 1, 2, 3, 5, 6, 7, 8] rfl rfl hw) ?_
    obtain ⟨hb, ho⟩ := must_some ho
    refine SP.appendD see Tryz.underlying23 inf34 rfl rfl hb rfl rfl rfl rfl rfl (fun v60 => ?_)
    clear hb
    refine go ?_
    refine SP.have (fun w2 hw => slD.shape (St.own 0 rfl see.sub see.dj hw)) (fun hs_v60 => ?_)
    refine SP.store (v := v60) (vs := [v60]) 1 (by rfl) sz23 (by rfl) (by rfl) (by rfl) (one_cells hs_v60) (one_cons hs_v60 (rfl)) (by rfl) (go ?_)
    refine CP.seq (go ?_)
    refine SP.val (Val.loadA 1 rfl Tryz.underlying25 rfl sz25 rfl rfl rfl) rfl rfl rfl ?_
    obtain ⟨t62, hc, ho⟩ := bind_some ho
    refine SP.callVO see (caps := []) (.int .i64 t62) fn10 rfl rfl rfl rfl (fun w2 hs => module_May.ok _ _ _ _ _ hc w2 (hp w2) (Sub.refl _) (slO.read (St.own 2 rfl see.sub see.dj hs) (Sub.refl _) (Sub.refl _)) (slO.read (St.own 3 rfl see.sub see.dj hs) (Sub.refl _) (Sub.refl _)) (slD.read (St.own 0 rfl see.sub see.dj hs) (Sub.refl _) (Sub.refl _)) ((St.pers 3 rfl see.sub see.dj hs))) ?_
    clear hc
    refine go ?_
    refine CP.ci ho (fun ho => ?_) fun ho => ?_
    ·refine go ?_
     refine SP.val (Val.loadA 1 rfl Tryz.underlying25 rfl sz25 rfl rfl rfl) rfl rfl rfl ?_
     obtain ⟨t63, hc, ho⟩ := bind_some ho
     refine SP.callVO see (caps := []) (.int .i64 t63) fn19 rfl rfl rfl rfl (fun w2 hs => verify_May.ok _ _ _ _ _ hc w2 (hp w2) (Sub.refl _) (slO.read (St.own 2 rfl see.sub see.dj hs) (Sub.refl _) (Sub.refl _)) (slO.read (St.own 3 rfl see.sub see.dj hs) (Sub.refl _) (Sub.refl _)) (slD.read (St.own 0 rfl see.sub see.dj hs) (Sub.refl _) (Sub.refl _)) ((St.pers 3 rfl see.sub see.dj hs))) ?_
     clear hc
     refine go ?_
     obtain rfl := Option.some.inj ho
     exact QE.rt (fun _ h => h)
    refine go ?_
    refine SP.val (Val.loadA 1 rfl Tryz.underlying25 rfl sz25 rfl rfl rfl) rfl rfl rfl ?_
    obtain ⟨t64, hc, ho⟩ := bind_some ho
    refine SP.callKO see (caps := []) _ fn17 rfl rfl rfl rfl (fun w2 hs => verify_Accept.ok _ _ _ _ _ hc w2 (hp w2) (Sub.refl _) (slO.read (St.own 2 rfl see.sub see.dj hs) (Sub.refl _) (Sub.refl _)) (slO.read (St.own 3 rfl see.sub see.dj hs) (Sub.refl _) (Sub.refl _)) (slD.read (St.own 0 rfl see.sub see.dj hs) (Sub.refl _) (Sub.refl _)) ((St.pers 3 rfl see.sub see.dj hs))) (fun v a a2 b ⟨v65, e, h⟩ => ⟨v65, e, (Sep.fcons (fun _ => slO.flip (fun _ _ _ _ h => h)) (fun _ => Sep.fnil)) h⟩) (SP.k1 fun v65 => ?_)
    clear hc
    refine go ?_
    refine CP.join (fun a w2 => ∃ b86 : Bool, capstanlaw14_VerifyMore.j3 m_0 two_1 ends_2 b86 = some r ∧ Env ⟨100, []⟩ [(6, .bool b86)] a ∧ St w em hV [arrP k_arr245 0 tab0] [] w2) ?_ ?_
    ·rintro a w2 ⟨b86, ho, ha, hw⟩
     refine CP.app ha hw ?_
     clear ha hw a w2
     refine go ?_
     obtain rfl := Option.some.inj ho
     exact QE.rt (fun _ h => h)
    refine CP.freezeS see 0 rfl ?_
    refine CP.drawA (by kernel_rfl) (fun w2 k h => h.drawn k) ?_
    refine DA.one 0 rfl (by kernel_rfl) (go ?_)
    refine QE.atA ?_
    refine DA.one 1 rfl (by kernel_rfl) (go ?_)
    refine QE.atA ?_
    refine DA.one 2 rfl (by kernel_rfl) (go ?_)
    refine QE.atA ?_
    rcases if_some ho with ⟨hc, ho⟩ | ⟨hc, ho⟩
    ·have hg67 := (decide_eq_true hc)
     clear hc
     refine DA.ph 3 8 ?_
     refine DT.is (d := 75) (b := true) rfl hg67 ?_
     refine DT.tk 3 ?_
     refine DT.tk 4 ?_
     refine DT.tk 5 ?_
     refine DT.tv 6 rfl (Val.lenW (fun w2 hw => slO.whole (St.own 6 rfl see.sub see.dj hw)) Tryz.underlying37 rfl) ?_
     refine DT.tk 7 ?_
     refine DT.next (by kernel_rfl) ?_
     refine DA.one 8 rfl (by kernel_rfl) (go ?_)
     refine QE.atA ?_
     refine DA.one 9 rfl (by kernel_rfl) (go ?_)
     refine QE.atA ?_
     refine DA.one 10 rfl (by kernel_rfl) (go ?_)
     refine QE.atA ?_
     rcases if_some ho with ⟨hc, ho⟩ | ⟨hc, ho⟩
     ·have hg68 := (decide_eq_true hc)
      clear hc
      refine DA.ph 11 16 ?_
      refine DT.is (d := 83) (b := true) rfl hg68 ?_
      refine DT.tk 11 ?_
      refine DT.tk 12 ?_
      refine DT.tv 13 rfl (Val.lenW (fun w2 hw => slO.whole (St.own 6 rfl see.sub see.dj hw)) Tryz.underlying37 rfl) ?_
      refine DT.tk 15 ?_
      refine DT.one 14 rfl (by kernel_rfl) rfl ?_
      obtain ⟨hz, ho⟩ := must_some ho
      refine SP.sliceToP see 0 rfl Tryz.underlying37 sz45 rfl rfl hz rfl rfl (fun v75 => ?_)
      clear hz
      refine go ?_
      refine QE.atT (fun w2 hw => (St.selP [1, 2, 3, 4, 5] rfl hw)) ?_
      refine DT.next (by kernel_rfl) ?_
      refine DA.one 16 rfl (by kernel_rfl) ?_
      obtain ⟨t77, hc, ho⟩ := bind_some ho
      refine SP.callVO see (caps := []) (.bool t77) fn21 rfl rfl rfl rfl (fun w2 hs => capstanref12_Same.ok _ _ _ _ _ hc w2 (hp w2) (Sub.refl _) ((St.pers 0 rfl see.sub see.dj hs)) (slO.read (St.own 6 rfl see.sub see.dj hs) (Sub.refl _) (Sub.refl _))) ?_
      clear hc
      refine go ?_
      refine QE.atA ?_
      refine DA.one 17 rfl (by kernel_rfl) (go ?_)
      refine QE.atA ?_
      refine DA.one 18 rfl (by kernel_rfl) (go ?_)
      refine QE.atA ?_
      rcases if_some ho with ⟨hc, ho⟩ | ⟨hc, ho⟩
      ·have hg78 := hc
       clear hc
       obtain ⟨x81, hx, ho⟩ := elt_bind ho
       refine DA.ghost (fun w2 h => h.elem see 1 rfl hx.1 hx.2) (fun p79 h_p79 => ?_)
       clear hx
       refine DA.ghost (fun w2 h => h.openE see 0 rfl (fun _ : Unit => [.int .i64 x81.Fuel, .int .i64 x81.Stack, .int .i64 x81.Heap]) (fun _ => []) (fun h cs e => ⟨(), e, All.nil _⟩)) (fun _ _ => ?_)
       refine DA.ph 19 25 ?_
       refine DT.is (d := 91) (b := true) rfl hg78 ?_
       refine DT.tk 19 ?_
       refine DT.tk 20 ?_
       refine DT.tv 21 rfl (Val.lenW (fun w2 hw => slO.whole (St.own 6 rfl see.sub see.dj hw)) Tryz.underlying37 rfl) ?_
       refine DT.tv 22 rfl (Val.indexE h_p79 Tryz.underlying37 sz45 rfl rfl) ?_
       refine DT.tv 23 rfl (Val.loadAtA see 0 rfl Tryz.underlying45 rfl sz45 rfl) ?_
       refine DT.tv 24 rfl (Val.loadA 4 rfl Tryz.underlying45 rfl sz45 rfl rfl rfl) ?_
       refine DT.next (by kernel_rfl) ?_
       refine DA.one 25 rfl (by kernel_rfl) ?_
       refine SP.val (Val.eqlA (by kernel_rfl) (fun w2 => eqA45 9998 w2 x81.Fuel x36 x81.Stack x37 x81.Heap 0) rfl rfl) rfl rfl rfl (go ?_)
       refine QE.atA ?_
       refine DA.one 26 rfl (by kernel_rfl) (go ?_)
       refine QE.atA ?_
       refine DA.one 27 rfl (by kernel_rfl) (go ?_)
       refine QE.atA ?_
       refine DA.done (by kernel_rfl) ?_
       exact QE.meet fun a w2 ha hw => ⟨(x81.Fuel == x36 && (x81.Stack == x37 && (x81.Heap == 0))), ho, ha.sub sb, (St.selP [7] rfl (St.selO [] rfl rfl hw))⟩
      have hg83 := (bf hc)
      clear hc
      refine DA.ph 19 25 ?_
      refine DT.is (d := 91) (b := false) rfl hg83 ?_
      refine DT.tn 19 ?_
      refine DT.tn 20 ?_
      refine DT.tn 21 ?_
      refine DT.tn 22 ?_
      refine DT.tn 23 ?_
      refine DT.tn 24 ?_
      refine DT.next (by kernel_rfl) ?_
      refine DA.ph 25 26 ?_
      refine DT.tn 25 ?_
      refine DT.next (by kernel_rfl) ?_
      refine DA.one 26 rfl (by kernel_rfl) (go ?_)
      refine QE.atA ?_
      refine DA.one 27 rfl (by kernel_rfl) (go ?_)
      refine QE.atA ?_
      refine DA.done (by kernel_rfl) ?_
      exact QE.meet fun a w2 ha hw => ⟨false, ho, ha.sub sb, (St.selP [5] rfl (St.selO [] rfl rfl hw))⟩
     have hg84 := (decide_eq_false hc)
     clear hc
     refine DA.ph 11 16 ?_
     refine DT.is (d := 83) (b := false) rfl hg84 ?_
     refine DT.tn 11 ?_
     refine DT.tn 12 ?_
     refine DT.tn 13 ?_
     refine DT.tn 14 ?_
     refine DT.tn 15 ?_
     refine DT.next (by kernel_rfl) ?_
     refine DA.ph 16 17 ?_
     refine DT.tn 16 ?_
     refine DT.next (by kernel_rfl) ?_
     refine DA.one 17 rfl (by kernel_rfl) (go ?_)
     refine QE.atA ?_
     refine DA.one 18 rfl (by kernel_rfl) (go ?_)
     refine QE.atA ?_
     refine DA.ph 19 25 ?_
     refine DT.tn 19 ?_
     refine DT.tn 20 ?_
     refine DT.tn 21 ?_
     refine DT.tn 22 ?_
     refine DT.tn 23 ?_
     refine DT.tn 24 ?_
     refine DT.next (by kernel_rfl) ?_
     refine DA.ph 25 26 ?_
     refine DT.tn 25 ?_
     refine DT.next (by kernel_rfl) ?_
     refine DA.one 26 rfl (by kernel_rfl) (go ?_)
     refine QE.atA ?_
     refine DA.one 27 rfl (by kernel_rfl) (go ?_)
     refine QE.atA ?_
     refine DA.done (by kernel_rfl) ?_
     exact QE.meet fun a w2 ha hw => ⟨false, ho, ha.sub sb, (St.selP [4] rfl (St.selO [] rfl rfl hw))⟩
    have hg85 := (decide_eq_false hc)
    clear hc
    refine DA.ph 3 8 ?_
    refine DT.is (d := 75) (b := false) rfl hg85 ?_
    refine DT.tn 3 ?_
    refine DT.tn 4 ?_
    refine DT.tn 5 ?_
    refine DT.tn 6 ?_
    refine DT.tn 7 ?_
    refine DT.next (by kernel_rfl) ?_
    refine DA.ph 8 9 ?_
    refine DT.tn 8 ?_
    refine DT.next (by kernel_rfl) ?_
    refine DA.one 9 rfl (by kernel_rfl) (go ?_)
    refine QE.atA ?_
    refine DA.one 10 rfl (by kernel_rfl) (go ?_)
    refine QE.atA ?_
    refine DA.ph 11 16 ?_
    refine DT.tn 11 ?_
    refine DT.tn 12 ?_
    refine DT.tn 13 ?_
    refine DT.tn 14 ?_
    refine DT.tn 15 ?_
    refine DT.next (by kernel_rfl) ?_
    refine DA.ph 16 17 ?_
    refine DT.tn 16 ?_
    refine DT.next (by kernel_rfl) ?_
    refine DA.one 17 rfl (by kernel_rfl) (go ?_)
    refine QE.atA ?_
    refine DA.one 18 rfl (by kernel_rfl) (go ?_)
    refine QE.atA ?_
    refine DA.ph 19 25 ?_
    refine DT.tn 19 ?_
    refine DT.tn 20 ?_
    refine DT.tn 21 ?_
    refine DT.tn 22 ?_
    refine DT.tn 23 ?_
    refine DT.tn 24 ?_
    refine DT.next (by kernel_rfl) ?_
    refine DA.ph 25 26 ?_
    refine DT.tn 25 ?_
    refine DT.next (by kernel_rfl) ?_
    refine DA.one 26 rfl (by kernel_rfl) (go ?_)
    refine QE.atA ?_
    refine DA.one 27 rfl (by kernel_rfl) (go ?_)
    refine QE.atA ?_
    refine DA.done (by kernel_rfl) ?_
    exact QE.meet fun a w2 ha hw => ⟨false, ho, ha.sub sb, (St.selP [4] rfl (St.selO [] rfl rfl hw))⟩
   refine go ?_
   refine CP.cb ho (fun ho => ?_) fun ho => ?_
   ·refine go ?_
    refine SP.val (Val.buildC (us := [(0, .int .u8 32)]) (ucs := [(0, [.int .u8 32])]) (cs := [.int .u8 32, .int .i64 0, .int .i64 0]) bt43 rfl rfl ⟨rfl, rfl, trivial⟩ (by rfl)) rfl rfl rfl ?_
    refine SP.lit (k := k_api_Instr) (xs := [(⟨32, 0, 0⟩ : api_Instr)]) (vs := [.agg #[.int .u8 32, .int .i64 0, .int .i64 0]]) (cells := [.int .u8 32, .int .i64 0, .int .i64 0]) Tryz.underlying32 inf43 rfl rfl rfl rfl rfl rfl rfl rfl (fun _ ap => ⟨[.int .u8 32, .int .i64 0, .int .i64 0], _, rfl, rfl, rfl⟩) rfl rfl rfl (fun v34 => ?_)
    refine SP.have (fun w2 hw => slO.shape (St.own 0 rfl see.sub see.dj hw)) (fun hs_v34 => ?_)
    refine SP.val (Val.buildC (us := [(2, .int .u8 2), (4, .int .i64 1), (7, v34)]) (ucs := [(2, [.int .u8 2]), (4, [.int .i64 1]), (7, [v34])]) (cs := [(.slice none 0 0), (.slice none 0 0), .int .u8 2, .bool false, .int .i64 1, .int .i64 0, .int .i64 0, v34]) bt34 rfl rfl ⟨rfl, rfl, ⟨rfl, rfl, ⟨rfl, one_cells hs_v34, trivial⟩⟩⟩ (by rfl)) rfl rfl rfl ?_
    refine SP.have (fun w2 hw => slO.shape (St.own 0 rfl see.sub see.dj hw)) (fun hs_v34 => ?_)
    refine SP.store (v := .agg #[(.slice none 0 0), (.slice none 0 0), .int .u8 2, .bool false, .int .i64 1, .int .i64 0, .int .i64 0, v34]) (vs := [(.slice none 0 0), (.slice none 0 0), .int .u8 2, .bool false, .int .i64 1, .int .i64 0, .int .i64 0, v34]) 4 (by rfl) sz34 (by rfl) (by rfl) (by rfl) (by rfl) (one_cons rfl (one_cons rfl (one_cons rfl (one_cons rfl (one_cons rfl (one_cons rfl (one_cons rfl (one_cons hs_v34 (rfl))))))))) (by rfl) (go ?_)
    refine SP.val (Val.buildC (us := [(0, .int .i64 1)]) (ucs := [(0, [.int .i64 1])]) (cs := [.int .i64 1, .int .i64 0, .int .i64 0]) bt45 rfl rfl ⟨rfl, rfl, trivial⟩ (by rfl)) rfl rfl rfl ?_
    refine SP.store (v := .agg #[.int .i64 1, .int .i64 0, .int .i64 0]) (vs := [.int .i64 1, .int .i64 0, .int .i64 0]) 1 (by rfl) sz45 (by rfl) (by rfl) (by rfl) (by rfl) (by rfl) (by rfl) (go ?_)
    exact QE.meet fun a w2 ha hw => ⟨1, 0, [], 2, false, 1, 0, [(⟨32, 0, 0⟩ : api_Instr)], (.slice none 0 0), v34, ho, ha.sub sb, (St.selO [1, 0, 2, 5, 6, 7] rfl rfl (St.addO (slO.nil (kInt .u8) 5) hw))⟩
   refine go ?_
   exact QE.meet fun a w2 ha hw => ⟨x27, x28, l24, 1, b26, x27, x28, l30, v25, v31, ho, ha.sub sb, (St.selO [1, 2, 0, 3, 4, 5] rfl rfl hw)⟩
  refine go ?_
  refine CP.cb ho (fun ho => ?_) fun ho => ?_
  ·refine go ?_
   refine SP.lit (k := (kInt .u8)) (xs := [1, 1]) (vs := [.int .u8 1, .int .u8 1]) (cells := [.int .u8 1, .int .u8 1]) Tryz.underlying31 inf5 rfl rfl rfl rfl rfl rfl rfl rfl (fun _ ap => ⟨[.int .u8 1], _, rfl, rfl, ⟨[.int .u8 1], _, rfl, rfl, rfl⟩⟩) rfl rfl rfl (fun v19 => ?_)
   refine SP.val (Val.buildC (us := [(0, .int .u8 2)]) (ucs := [(0, [.int .u8 2])]) (cs := [.int .u8 2, .int .i64 0, .int .i64 0]) bt43 rfl rfl ⟨rfl, rfl, trivial⟩ (by rfl)) rfl rfl rfl ?_
   refine SP.val (Val.buildC (us := [(0, .int .u8 2), (1, .int .i64 1)]) (ucs := [(0, [.int .u8 2]), (1, [.int .i64 1])]) (cs := [.int .u8 2, .int .i64 1, .int .i64 0]) bt43 rfl rfl ⟨rfl, rfl, ⟨rfl, rfl, trivial⟩⟩ (by rfl)) rfl rfl rfl ?_
   refine SP.val (Val.buildC (us := [(0, .int .u8 9)]) (ucs := [(0, [.int .u8 9])]) (cs := [.int .u8 9, .int .i64 0, .int .i64 0]) bt43 rfl rfl ⟨rfl, rfl, trivial⟩ (by rfl)) rfl rfl rfl ?_
   refine SP.val (Val.buildC (us := [(0, .int .u8 31)]) (ucs := [(0, [.int .u8 31])]) (cs := [.int .u8 31, .int .i64 0, .int .i64 0]) bt43 rfl rfl ⟨rfl, rfl, trivial⟩ (by rfl)) rfl rfl rfl ?_
   refine SP.lit (k := k_api_Instr) (xs := [(⟨2, 0, 0⟩ : api_Instr), (⟨2, 1, 0⟩ : api_Instr), (⟨9, 0, 0⟩ : api_Instr), (⟨31, 0, 0⟩ : api_Instr)]) (vs := [.agg #[.int .u8 2, .int .i64 0, .int .i64 0], .agg #[.int .u8 2, .int .i64 1, .int .i64 0], .agg #[.int .u8 9, .int .i64 0, .int .i64 0], .agg #[.int .u8 31, .int .i64 0, .int .i64 0]]) (cells := [.int .u8 2, .int .i64 0, .int .i64 0, .int .u8 2, .int .i64 1, .int .i64 0, .int .u8 9, .int .i64 0, .int .i64 0, .int .u8 31, .int .i64 0, .int .i64 0]) Tryz.underlying32 inf43 rfl rfl rfl rfl rfl rfl rfl rfl (fun _ ap => ⟨[.int .u8 2, .int .i64 0, .int .i64 0], _, rfl, rfl, ⟨[.int .u8 2, .int .i64 1, .int .i64 0], _, rfl, rfl, ⟨[.int .u8 9, .int .i64 0, .int .i64 0], _, rfl, rfl, ⟨[.int .u8 31, .int .i64 0, .int .i64 0], _, rfl, rfl, rfl⟩⟩⟩⟩) rfl rfl rfl (fun v21 => ?_)
   refine SP.have (fun w2 hw => slO.shape (St.own 1 rfl see.sub see.dj hw)) (fun hs_v19 => ?_)
   refine SP.have (fun w2 hw => slO.shape (St.own 0 rfl see.sub see.dj hw)) (fun hs_v21 => ?_)
   refine SP.val (Val.buildC (us := [(0, v19), (2, .int .u8 1), (4, .int .i64 4), (5, .int .i64 4), (7, v21)]) (ucs := [(0, [v19]), (2, [.int .u8 1]), (4, [.int .i64 4]), (5, [.int .i64 4]), (7, [v21])]) (cs := [v19, (.slice none 0 0), .int .u8 1, .bool false, .int .i64 4, .int .i64 4, .int .i64 0, v21]) bt34 rfl rfl ⟨rfl, one_cells hs_v19, ⟨rfl, rfl, ⟨rfl, rfl, ⟨rfl, rfl, ⟨rfl, one_cells hs_v21, trivial⟩⟩⟩⟩⟩ (by rfl)) rfl rfl rfl ?_
   refine SP.have (fun w2 hw => slO.shape (St.own 1 rfl see.sub see.dj hw)) (fun hs_v19 => ?_)
   refine SP.have (fun w2 hw => slO.shape (St.own 0 rfl see.sub see.dj hw)) (fun hs_v21 => ?_)
   refine SP.store (v := .agg #[v19, (.slice none 0 0), .int .u8 1, .bool false, .int .i64 4, .int .i64 4, .int .i64 0, v21]) (vs := [v19, (.slice none 0 0), .int .u8 1, .bool false, .int .i64 4, .int .i64 4, .int .i64 0, v21]) 2 (by rfl) sz34 (by rfl) (by rfl) (by rfl) (by rfl) (one_cons hs_v19 (one_cons rfl (one_cons rfl (one_cons rfl (one_cons rfl (one_cons rfl (one_cons rfl (one_cons hs_v21 (rfl))))))))) (by rfl) (go ?_)
   exact QE.meet fun a w2 ha hw => ⟨[1, 1], false, 4, 4, [(⟨2, 0, 0⟩ : api_Instr), (⟨2, 1, 0⟩ : api_Instr), (⟨9, 0, 0⟩ : api_Instr), (⟨31, 0, 0⟩ : api_Instr)], v19, v21, ho, ha.sub sb, (St.selO [0, 1, 2, 5, 6] rfl rfl hw)⟩
  refine go ?_
  exact QE.meet fun a w2 ha hw => ⟨[1], true, 2, 2, [(⟨2, 0, 0⟩ : api_Instr), (⟨31, 0, 0⟩ : api_Instr)], v13, v15, ho, ha.sub sb, (St.selO [1, 2, 0, 3, 4] rfl rfl hw)⟩
 refine SP.bb 25 (fun hq12 => ?_) fun hq12 => ?_
 ·refine go ?_
  exact QE.jb (or_t hq12) fun w2 hw => hw
 refine go ?_
 exact QE.jb (or_f hq12 rfl) fun w2 hw => hw
theorem cl5 : Tryz.prog.cellsOf 5 = 1 := by kernel_rfl
theorem cl2 : Tryz.prog.cellsOf 2 = 1 := by kernel_rfl
theorem cl100 : Tryz.prog.cellsOf 100 = 3 := by kernel_rfl
def wf_api_Value (x : api_Value) : Prop := (Lit.int .u8 x.Kind).wf = true ∧ (Lit.int .i64 x.A).wf = true ∧ (Lit.int .i64 x.B).wf = true
theorem opens_api_Value : Opens Tryz.prog 100 k_api_Value wf_api_Value := by
  intro H enc W fuel cs d ps h
  cases fuel with
  | zero => simp [DataW.trod] at h
  | succ n =>
    obtain ⟨hl, hf⟩ := trod_struct Tryz.underlying100 h
    rw [cl100] at hl
    obtain ⟨c0, c1, c2, rfl⟩ := len3 hl
    obtain ⟨d0, q0, h0⟩ := hf 0 _ rfl
    replace h0 : DataW.trod enc Tryz.prog W 0 (fun _ => true) true n 5 (List.take (Tryz.prog.cellsOf 5) [c0, c1, c2]) = some (d0, q0) := h0
    rw [cl5] at h0
    replace h0 : DataW.trod enc Tryz.prog W 0 (fun _ => true) true n 5 [c0] = some (d0, q0) := h0
    obtain ⟨x0, r0, w0⟩ := (Opens.int Tryz.underlying5) enc W n _ _ _ h0
    obtain ⟨rfl, -⟩ := List.cons.inj r0
    obtain ⟨d1, q1, h1⟩ := hf 1 _ rfl
    replace h1 : DataW.trod enc Tryz.prog W 0 (fun _ => true) true n 2 (List.take (Tryz.prog.cellsOf 2) [c1, c2]) = some (d1, q1) := h1
    rw [cl2] at h1
    replace h1 : DataW.trod enc Tryz.prog W 0 (fun _ => true) true n 2 [c1] = some (d1, q1) := h1
    obtain ⟨x1, r1, w1⟩ := (Opens.int Tryz.underlying2) enc W n _ _ _ h1
    obtain ⟨rfl, -⟩ := List.cons.inj r1
    obtain ⟨d2, q2, h2⟩ := hf 2 _ rfl
    replace h2 : DataW.trod enc Tryz.prog W 0 (fun _ => true) true n 2 (List.take (Tryz.prog.cellsOf 2) [c2]) = some (d2, q2) := h2
    rw [cl2] at h2
    replace h2 : DataW.trod enc Tryz.prog W 0 (fun _ => true) true n 2 [c2] = some (d2, q2) := h2
    obtain ⟨x2, r2, w2⟩ := (Opens.int Tryz.underlying2) enc W n _ _ _ h2
    obtain ⟨rfl, -⟩ := List.cons.inj r2
    exact ⟨⟨x0, x1, x2⟩, rfl, w0, w1, w2⟩
theorem cl3 : Tryz.prog.cellsOf 3 = 1 := by kernel_rfl
theorem cl43 : Tryz.prog.cellsOf 43 = 3 := by kernel_rfl
def wf_api_Instr (x : api_Instr) : Prop := (Lit.int .u8 x.Op).wf = true ∧ (Lit.int .i64 x.A).wf = true ∧ (Lit.int .i64 x.B).wf = true
theorem opens_api_Instr : Opens Tryz.prog 43 k_api_Instr wf_api_Instr := by
  intro H enc W fuel cs d ps h
  cases fuel with
  | zero => simp [DataW.trod] at h
  | succ n =>
    obtain ⟨hl, hf⟩ := trod_struct Tryz.underlying43 h
    rw [cl43] at hl
    obtain ⟨c0, c1, c2, rfl⟩ := len3 hl
    obtain ⟨d0, q0, h0⟩ := hf 0 _ rfl
    replace h0 : DataW.trod enc Tryz.prog W 0 (fun _ => true) true n 5 (List.take (Tryz.prog.cellsOf 5) [c0, c1, c2]) = some (d0, q0) := h0
    rw [cl5] at h0
    replace h0 : DataW.trod enc Tryz.prog W 0 (fun _ => true) true n 5 [c0] = some (d0, q0) := h0
    obtain ⟨x0, r0, w0⟩ := (Opens.int Tryz.underlying5) enc W n _ _ _ h0
    obtain ⟨rfl, -⟩ := List.cons.inj r0
    obtain ⟨d1, q1, h1⟩ := hf 1 _ rfl
    replace h1 : DataW.trod enc Tryz.prog W 0 (fun _ => true) true n 3 (List.take (Tryz.prog.cellsOf 3) [c1, c2]) = some (d1, q1) := h1
    rw [cl3] at h1
    replace h1 : DataW.trod enc Tryz.prog W 0 (fun _ => true) true n 3 [c1] = some (d1, q1) := h1
    obtain ⟨x1, r1, w1⟩ := (Opens.int Tryz.underlying3) enc W n _ _ _ h1
    obtain ⟨rfl, -⟩ := List.cons.inj r1
    obtain ⟨d2, q2, h2⟩ := hf 2 _ rfl
    replace h2 : DataW.trod enc Tryz.prog W 0 (fun _ => true) true n 3 (List.take (Tryz.prog.cellsOf 3) [c2]) = some (d2, q2) := h2
    rw [cl3] at h2
    replace h2 : DataW.trod enc Tryz.prog W 0 (fun _ => true) true n 3 [c2] = some (d2, q2) := h2
    obtain ⟨x2, r2, w2⟩ := (Opens.int Tryz.underlying3) enc W n _ _ _ h2
    obtain ⟨rfl, -⟩ := List.cons.inj r2
    exact ⟨⟨x0, x1, x2⟩, rfl, w0, w1, w2⟩
theorem cl31 : Tryz.prog.cellsOf 31 = 1 := by kernel_rfl
theorem cl4 : Tryz.prog.cellsOf 4 = 1 := by kernel_rfl
theorem cl32 : Tryz.prog.cellsOf 32 = 1 := by kernel_rfl
theorem cl34 : Tryz.prog.cellsOf 34 = 8 := by kernel_rfl
def wf_api_Method (x : api_Method) : Prop := (x.Args.length ≤ maxLen ∧ ∀ y ∈ x.Args, (Lit.int .u8 y).wf = true) ∧ (x.Locals.length ≤ maxLen ∧ ∀ y ∈ x.Locals, (Lit.int .u8 y).wf = true) ∧ (Lit.int .u8 x.Result).wf = true ∧ True ∧ (Lit.int .i64 x.Fuel).wf = true ∧ (Lit.int .i64 x.Stack).wf = true ∧ (Lit.int .i64 x.Heap).wf = true ∧ (x.Code.length ≤ maxLen ∧ ∀ y ∈ x.Code, wf_api_Instr y)
theorem opens_api_Method : Opens Tryz.prog 34 k_api_Method wf_api_Method := by
  intro H enc W fuel cs d ps h
  cases fuel with
  | zero => simp [DataW.trod] at h
  | succ n =>
    obtain ⟨hl, hf⟩ := trod_struct Tryz.underlying34 h
    rw [cl34] at hl
    obtain ⟨c0, c1, c2, c3, c4, c5, c6, c7, rfl⟩ := len8 hl
    obtain ⟨d0, q0, h0⟩ := hf 0 _ rfl
    replace h0 : DataW.trod enc Tryz.prog W 0 (fun _ => true) true n 31 (List.take (Tryz.prog.cellsOf 31) [c0, c1, c2, c3, c4, c5, c6, c7]) = some (d0, q0) := h0
    rw [cl31] at h0
    replace h0 : DataW.trod enc Tryz.prog W 0 (fun _ => true) true n 31 [c0] = some (d0, q0) := h0
    obtain ⟨x0, r0, w0⟩ := (Opens.slice Tryz.underlying31 (Opens.int Tryz.underlying5) cl5 (by decide)) enc W n _ _ _ h0
    obtain ⟨v0, e0, r0⟩ := r0
    obtain ⟨rfl, -⟩ := List.cons.inj e0
    obtain ⟨d1, q1, h1⟩ := hf 1 _ rfl
    replace h1 : DataW.trod enc Tryz.prog W 0 (fun _ => true) true n 31 (List.take (Tryz.prog.cellsOf 31) [c1, c2, c3, c4, c5, c6, c7]) = some (d1, q1) := h1
    rw [cl31] at h1
    replace h1 : DataW.trod enc Tryz.prog W 0 (fun _ => true) true n 31 [c1] = some (d1, q1) := h1
    obtain ⟨x1, r1, w1⟩ := (Opens.slice Tryz.underlying31 (Opens.int Tryz.underlying5) cl5 (by decide)) enc W n _ _ _ h1
    obtain ⟨v1, e1, r1⟩ := r1
    obtain ⟨rfl, -⟩ := List.cons.inj e1
    obtain ⟨d2, q2, h2⟩ := hf 2 _ rfl
    replace h2 : DataW.trod enc Tryz.prog W 0 (fun _ => true) true n 5 (List.take (Tryz.prog.cellsOf 5) [c2, c3, c4, c5, c6, c7]) = some (d2, q2) := h2
    rw [cl5] at h2
    replace h2 : DataW.trod enc Tryz.prog W 0 (fun _ => true) true n 5 [c2] = some (d2, q2) := h2
    obtain ⟨x2, r2, w2⟩ := (Opens.int Tryz.underlying5) enc W n _ _ _ h2
    obtain ⟨rfl, -⟩ := List.cons.inj r2
    obtain ⟨d3, q3, h3⟩ := hf 3 _ rfl
    replace h3 : DataW.trod enc Tryz.prog W 0 (fun _ => true) true n 4 (List.take (Tryz.prog.cellsOf 4) [c3, c4, c5, c6, c7]) = some (d3, q3) := h3
    rw [cl4] at h3
    replace h3 : DataW.trod enc Tryz.prog W 0 (fun _ => true) true n 4 [c3] = some (d3, q3) := h3
    obtain ⟨x3, r3, w3⟩ := (Opens.bool Tryz.underlying4) enc W n _ _ _ h3
    obtain ⟨rfl, -⟩ := List.cons.inj r3
    obtain ⟨d4, q4, h4⟩ := hf 4 _ rfl
    replace h4 : DataW.trod enc Tryz.prog W 0 (fun _ => true) true n 3 (List.take (Tryz.prog.cellsOf 3) [c4, c5, c6, c7]) = some (d4, q4) := h4
    rw [cl3] at h4
    replace h4 : DataW.trod enc Tryz.prog W 0 (fun _ => true) true n 3 [c4] = some (d4, q4) := h4
    obtain ⟨x4, r4, w4⟩ := (Opens.int Tryz.underlying3) enc W n _ _ _ h4
    obtain ⟨rfl, -⟩ := List.cons.inj r4
    obtain ⟨d5, q5, h5⟩ := hf 5 _ rfl
    replace h5 : DataW.trod enc Tryz.prog W 0 (fun _ => true) true n 3 (List.take (Tryz.prog.cellsOf 3) [c5, c6, c7]) = some (d5, q5) := h5
    rw [cl3] at h5
    replace h5 : DataW.trod enc Tryz.prog W 0 (fun _ => true) true n 3 [c5] = some (d5, q5) := h5
    obtain ⟨x5, r5, w5⟩ := (Opens.int Tryz.underlying3) enc W n _ _ _ h5
    obtain ⟨rfl, -⟩ := List.cons.inj r5
    obtain ⟨d6, q6, h6⟩ := hf 6 _ rfl
    replace h6 : DataW.trod enc Tryz.prog W 0 (fun _ => true) true n 3 (List.take (Tryz.prog.cellsOf 3) [c6, c7]) = some (d6, q6) := h6
    rw [cl3] at h6
    replace h6 : DataW.trod enc Tryz.prog W 0 (fun _ => true) true n 3 [c6] = some (d6, q6) := h6
    obtain ⟨x6, r6, w6⟩ := (Opens.int Tryz.underlying3) enc W n _ _ _ h6
    obtain ⟨rfl, -⟩ := List.cons.inj r6
    obtain ⟨d7, q7, h7⟩ := hf 7 _ rfl
    replace h7 : DataW.trod enc Tryz.prog W 0 (fun _ => true) true n 32 (List.take (Tryz.prog.cellsOf 32) [c7]) = some (d7, q7) := h7
    rw [cl32] at h7
    replace h7 : DataW.trod enc Tryz.prog W 0 (fun _ => true) true n 32 [c7] = some (d7, q7) := h7
    obtain ⟨x7, r7, w7⟩ := (Opens.slice Tryz.underlying32 opens_api_Instr cl43 (by decide)) enc W n _ _ _ h7
    obtain ⟨v7, e7, r7⟩ := r7
    obtain ⟨rfl, -⟩ := List.cons.inj e7
    exact ⟨⟨x0, x1, x2, x3, x4, x5, x6, x7⟩, ⟨_, _, _, rfl, r0, r1, r7⟩, w0, w1, w2, w3, w4, w5, w6, w7⟩
theorem cl22 : Tryz.prog.cellsOf 22 = 1 := by kernel_rfl
theorem cl23 : Tryz.prog.cellsOf 23 = 1 := by kernel_rfl
theorem cl25 : Tryz.prog.cellsOf 25 = 4 := by kernel_rfl
def wf_api_Module (x : api_Module) : Prop := (x.Globals.length ≤ maxLen ∧ ∀ y ∈ x.Globals, wf_api_Value y) ∧ (x.Pool.length ≤ maxLen ∧ ∀ y ∈ x.Pool, wf_api_Value y) ∧ (x.Methods.length ≤ maxLen ∧ ∀ y ∈ x.Methods, wf_api_Method y) ∧ (Lit.int .i64 x.Migrate).wf = true
theorem opens_api_Module : Opens Tryz.prog 25 k_api_Module wf_api_Module := by
  intro H enc W fuel cs d ps h
  cases fuel with
  | zero => simp [DataW.trod] at h
  | succ n =>
    obtain ⟨hl, hf⟩ := trod_struct Tryz.underlying25 h
    rw [cl25] at hl
    obtain ⟨c0, c1, c2, c3, rfl⟩ := len4 hl
    obtain ⟨d0, q0, h0⟩ := hf 0 _ rfl
    replace h0 : DataW.trod enc Tryz.prog W 0 (fun _ => true) true n 22 (List.take (Tryz.prog.cellsOf 22) [c0, c1, c2, c3]) = some (d0, q0) := h0
    rw [cl22] at h0
    replace h0 : DataW.trod enc Tryz.prog W 0 (fun _ => true) true n 22 [c0] = some (d0, q0) := h0
    obtain ⟨x0, r0, w0⟩ := (Opens.slice Tryz.underlying22 opens_api_Value cl100 (by decide)) enc W n _ _ _ h0
    obtain ⟨v0, e0, r0⟩ := r0
    obtain ⟨rfl, -⟩ := List.cons.inj e0
    obtain ⟨d1, q1, h1⟩ := hf 1 _ rfl
    replace h1 : DataW.trod enc Tryz.prog W 0 (fun _ => true) true n 22 (List.take (Tryz.prog.cellsOf 22) [c1, c2, c3]) = some (d1, q1) := h1
    rw [cl22] at h1
    replace h1 : DataW.trod enc Tryz.prog W 0 (fun _ => true) true n 22 [c1] = some (d1, q1) := h1
    obtain ⟨x1, r1, w1⟩ := (Opens.slice Tryz.underlying22 opens_api_Value cl100 (by decide)) enc W n _ _ _ h1
    obtain ⟨v1, e1, r1⟩ := r1
    obtain ⟨rfl, -⟩ := List.cons.inj e1
    obtain ⟨d2, q2, h2⟩ := hf 2 _ rfl
    replace h2 : DataW.trod enc Tryz.prog W 0 (fun _ => true) true n 23 (List.take (Tryz.prog.cellsOf 23) [c2, c3]) = some (d2, q2) := h2
    rw [cl23] at h2
    replace h2 : DataW.trod enc Tryz.prog W 0 (fun _ => true) true n 23 [c2] = some (d2, q2) := h2
    obtain ⟨x2, r2, w2⟩ := (Opens.slice Tryz.underlying23 opens_api_Method cl34 (by decide)) enc W n _ _ _ h2
    obtain ⟨v2, e2, r2⟩ := r2
    obtain ⟨rfl, -⟩ := List.cons.inj e2
    obtain ⟨d3, q3, h3⟩ := hf 3 _ rfl
    replace h3 : DataW.trod enc Tryz.prog W 0 (fun _ => true) true n 3 (List.take (Tryz.prog.cellsOf 3) [c3]) = some (d3, q3) := h3
    rw [cl3] at h3
    replace h3 : DataW.trod enc Tryz.prog W 0 (fun _ => true) true n 3 [c3] = some (d3, q3) := h3
    obtain ⟨x3, r3, w3⟩ := (Opens.int Tryz.underlying3) enc W n _ _ _ h3
    obtain ⟨rfl, -⟩ := List.cons.inj r3
    exact ⟨⟨x0, x1, x2, x3⟩, ⟨_, _, _, rfl, r0, r1, r2⟩, w0, w1, w2, w3⟩
def capstanlaw14_VerifyMore.Pure : Prop := ∀ (x0 : api_Module) (x1 : Bool) (x2 : Bool), wf_api_Module x0 → True → True → capstanlaw14_VerifyMore.f x0 x1 x2 = some true
end Go.Proofs.YtehjiiebjkkcmaaGreatDoor
end
