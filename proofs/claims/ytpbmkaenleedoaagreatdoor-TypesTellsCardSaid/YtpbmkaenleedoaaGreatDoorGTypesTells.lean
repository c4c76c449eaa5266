/- Functions of the program as plain functions, with the proof that the code computes them: printed by gen.py of this session. -/
import Derived.Test.YtpbmkaenleedoaaGreatDoorProg
import Derived.Test.YtpbmkaenleedoaaGreatDoorQ34v308309
import Derived.Test.YtpbmkaenleedoaaGreatDoorQ35v308309
import Derived.Ground.Names8Prog
import Derived.Ground.NamesProg
import Derived.Ground.SlgcProg
import Derived.Ground.SlgmProg
import Derived.Ground.SlgnProg
import Derived.Ground.SlsfProg
import Derived.Shelf.Bits.Mul64
import Derived.Shelf.Lay
import Derived.Shelf.SlGeneric
import Derived.Shelf.SlSortCmp.WholeK
import Derived.Shelf.SlicesE.Reverse
import Derived.Shelf.SlicesG.Cmp
import Derived.Shelf.SlicesG.CompactI
import Derived.Shelf.Small.Bits
import Derived.Shelf.SortM.Plain
import Derived.Shelf.SortM.SortNone
import Derived.Shelf.Spec.SlicesGrow
import Derived.Test.YtpbmkaenleedoaaGreatDoorGTypesTellsp2
set_option linter.unusedVariables false
set_option linter.unusedSimpArgs false
set_option maxRecDepth 20000
set_option maxHeartbeats 2000000
set_option linter.defProp false
set_option warn.classDefReducibility false
noncomputable section
namespace Go.Proofs.YtpbmkaenleedoaaGreatDoor
open Go.Q
attribute [local irreducible] CP SP QE DA DT Val St
/-! ### (*capstan/types.look).place: function 25 -/
inductive types_look_place_s1.S where
  | start
  | l1 (t32 : ((List Int) × Int) × (List types_Row)) (t35 : (List Int) × Int) (l58 : List types_Row) (x59 : Int)

def types_look_place_s1.F (k_0_2 : List api_Value) (k_0_4 : List api_Value) (k_0_6 : List api_Method) (k_0_8 : Int) (k_0_9 : List Int) (k_0_11 : List Int) (k_0_13 : Int) (k_0_14 : Bool) (k_0_15 : Int) (k_0_16 : Int) (k_0_17 : Int) (k_0_18 : List api_Instr) (k_0_20 : List Int) (l22 : List types_Row) (a1 : Int) : types_look_place_s1.S → Option (types_look_place_s1.S ⊕ (Int × (List types_Row)))
  | .start => (elt l22 a1).bind fun x23 => if (!x23.Reached) = true then (some (.inr (0, l22))) else ((elt k_0_18 a1).bind fun x30 => (types_look_after_s1.f k_0_2 k_0_4 k_0_6 k_0_8 k_0_9 k_0_11 k_0_13 k_0_14 k_0_15 k_0_16 k_0_17 k_0_18 k_0_20 l22 x30 x23.Kinds).bind fun t32 => if t32.1.2 ≠ 0 then (some (.inr (t32.1.2, t32.2))) else ((flow_Ways.f k_0_18 a1).bind fun t35 => some (.inl (.l1 t32 t35 t32.2 0))))
  | .l1 t32 t35 l58 x59 => if x59 < (t35.1.length : Int) then ((elt t35.1 x59).bind fun x62 => (elt l58 x62).bind fun x63 => (if x63.Reached = true then ((slices_Equal_uint8_uint8.f x63.Kinds t32.1.1).bind fun t68 => some (!t68)) else (some false)).bind fun t69 => if t69 = true then (some (.inr (100, l58))) else (some (.inl (.l1 t32 t35 (l58.set x62.toNat (⟨true, t32.1.1⟩ : types_Row)) (IntKind.i64.wrap (x59 + 1)))))) else (some (.inr (0, l58)))

def types_look_place_s1.f (k_0_2 : List api_Value) (k_0_4 : List api_Value) (k_0_6 : List api_Method) (k_0_8 : Int) (k_0_9 : List Int) (k_0_11 : List Int) (k_0_13 : Int) (k_0_14 : Bool) (k_0_15 : Int) (k_0_16 : Int) (k_0_17 : Int) (k_0_18 : List api_Instr) (k_0_20 : List Int) (l22 : List types_Row) (a1 : Int) : Option (Int × (List types_Row)) := runF (types_look_place_s1.F k_0_2 k_0_4 k_0_6 k_0_8 k_0_9 k_0_11 k_0_13 k_0_14 k_0_15 k_0_16 k_0_17 k_0_18 k_0_20 l22 a1) .start
theorem types_look_place_s1.ok (k_0_2 : List api_Value) (k_0_4 : List api_Value) (k_0_6 : List api_Method) (k_0_8 : Int) (k_0_9 : List Int) (k_0_11 : List Int) (k_0_13 : Int) (k_0_14 : Bool) (k_0_15 k_0_16 k_0_17 : Int) (k_0_18 : List api_Instr) (k_0_20 : List Int) (l22 : List types_Row) (a1 : Int) (v_k_0_2 v_k_0_4 : Value) (v_k_0_6 v_k_0_9 : Value) (v_k_0_11 v_k_0_18 v_k_0_20 : Value)  (r : Int × (List types_Row)) (H : types_look_place_s1.f k_0_2 k_0_4 k_0_6 k_0_8 k_0_9 k_0_11 k_0_13 k_0_14 k_0_15 k_0_16 k_0_17 k_0_18 k_0_20 l22 a1 = some r) (w : World) (hV : Hp) (sV : Sub hV (hp w)) (h0 : slR k_api_Value hV v_k_0_2 k_0_2) (h1 : slR k_api_Value hV v_k_0_4 k_0_4) (h2 : slR k_api_Method hV v_k_0_6 k_0_6) (h3 : slR (kInt .u8) hV v_k_0_9 k_0_9) (h4 : slR (kInt .u8) hV v_k_0_11 k_0_11) (h5 : slR k_api_Instr hV v_k_0_18 k_0_18) (h6 : slR (kInt .u8) hV v_k_0_20 k_0_20) (h7 : (arrP k_arr136 0 tab0).p hV) (b1 : Nat) (hA : Hp) (sA : Sub hA (hp w)) (dA : Dj hV hA) (hI : (arrK k_types_Row b1 [v_k_0_2, v_k_0_4, v_k_0_6, .int .i64 k_0_8, v_k_0_9, v_k_0_11, .int .u8 k_0_13, .bool k_0_14, .int .i64 k_0_15, .int .i64 k_0_16, .int .i64 k_0_17, v_k_0_18, v_k_0_20] 200 l22 [] 67).p hV hA) :
    Trip Tryz.prog 25 [.pointer (some ⟨b1, 0, none⟩), .int .i64 a1].toArray hA hV w (fun v => HO.pand (v = .int .i64 r.1) (HO.seps [arrK k_types_Row b1 [v_k_0_2, v_k_0_4, v_k_0_6, .int .i64 k_0_8, v_k_0_9, v_k_0_11, .int .u8 k_0_13, .bool k_0_14, .int .i64 k_0_15, .int .i64 k_0_16, .int .i64 k_0_17, v_k_0_18, v_k_0_20] 200 r.2 [] 67])) := by
 have see : Sees w hA hV := ⟨sV, dA⟩
 refine Trip.of (P := Tryz.prog) (n := ⟨79, []⟩) Tryz.func25 rfl ⟨rfl, rfl⟩ rfl (St.beginA (os := [arrK k_types_Row b1 [v_k_0_2, v_k_0_4, v_k_0_6, .int .i64 k_0_8, v_k_0_9, v_k_0_11, .int .u8 k_0_13, .bool k_0_14, .int .i64 k_0_15, .int .i64 k_0_16, .int .i64 k_0_17, v_k_0_18, v_k_0_20] 200 l22 [] 67]) sA (aS h0 (aS h1 (aS h2 (aS h3 (aS h4 (aS h5 (aS h6 (All.cons (x := arrP k_arr136 0 tab0) h7 (All.nil _))))))))) ⟨hA, em, Dj.em_right _, Sub.refl _, Sub.em _, hI, trivial⟩) ?_
 obtain ⟨n0, hi⟩ := runF_iff.1 H
 obtain ⟨m0, o, hm0, ho, hr⟩ := iter_some hi
 clear hi
 refine go ?_
 obtain ⟨x23, hx_x23, ho⟩ := elt_bind ho
 refine SP.val (Val.indexK see 0 rfl Tryz.underlying65 sz40 hx_x23.1 hx_x23.2 rfl rfl) rfl rfl rfl ?_
 refine SP.loadKO (j := a1) see 0 (fun (v24 : Value) => [.bool x23.Reached, v24]) (fun (v24 : Value) => [slP (kInt .u8) v24 x23.Kinds]) rfl hx_x23.2 (fun a cs ⟨v24, e, p0⟩ => ⟨v24, e, All.cons p0 (All.nil _)⟩) Tryz.underlying40 rfl sz40 rfl rfl rfl (fun z_ => ?_)
 rename Value => v24
 refine SP.alloc (cs := [.bool false, (.slice none 0 0)]) inf40 rfl rfl (fun b26 => ?_)
 refine SP.have (fun w2 hw => slR.shape (St.pers 0 rfl see.sub see.dj hw)) (fun hs_v24 => ?_)
 refine SP.store (v := .agg #[.bool x23.Reached, v24]) (vs := [.bool x23.Reached, v24]) 0 (by rfl) sz40 (by rfl) (by rfl) (by rfl) (by rfl) (one_cons rfl (one_cons hs_v24 (rfl))) (by rfl) ?_
 refine go ?_
 refine CP.seq ?_
 refine go ?_
 refine CP.cb ho (fun ho => ?_) fun ho => ?_
 ·refine go ?_
  obtain rfl := fin ho hr
  exact QE.rt fun _ h => (St.selO [1] rfl rfl h)
 refine go ?_
 refine CP.seq ?_
 refine CP.drawA (by kernel_rfl) (fun w2 k h => h.drawn k) ?_
 obtain ⟨x30, hx, ho⟩ := elt_bind ho
 refine DA.ghost (fun w2 h => h.elem see 6 rfl hx.1 hx.2) (fun p28 h_p28 => ?_)
 clear hx
 refine DA.ghost (fun w2 h => h.openE see 0 rfl (fun _ : Unit => [.int .u8 x30.Op, .int .i64 x30.A, .int .i64 x30.B]) (fun _ => []) (fun h cs e => ⟨(), e, All.nil _⟩)) (fun _ _ => ?_)
 refine DA.ph 0 11 ?_
 refine DT.tk 0 ?_
 refine DT.tk 1 ?_
 refine DT.tk 2 ?_
 refine DT.tk 3 ?_
 refine DT.tk 4 ?_
 refine DT.tv 5 rfl (Val.loadKPre1 see 1 rfl Tryz.underlying46 rfl rfl rfl) ?_
 refine DT.tk 6 ?_
 refine DT.tv 7 rfl (Val.indexE h_p28 Tryz.underlying46 sz56 rfl rfl) ?_
 refine DT.tv 8 rfl (Val.loadAtA see 0 rfl Tryz.underlying56 rfl sz56 rfl) ?_
 refine DT.tk 9 ?_
 refine DT.tk 10 ?_
 refine DT.next (by kernel_rfl) ?_
 refine DA.one 11 rfl (by kernel_rfl) ?_
 refine SP.imp (fun w2 hw => St.selO [1, 0] rfl rfl hw) ?_
 obtain ⟨t32, hc, ho⟩ := bind_some (x := types_look_after_s1.f k_0_2 k_0_4 k_0_6 k_0_8 k_0_9 k_0_11 k_0_13 k_0_14 k_0_15 k_0_16 k_0_17 k_0_18 k_0_20 l22 x30 x23.Kinds) ho
 refine SP.callA see (caps := []) (X := arrK k_types_Row b1 [v_k_0_2, v_k_0_4, v_k_0_6, .int .i64 k_0_8, v_k_0_9, v_k_0_11, .int .u8 k_0_13, .bool k_0_14, .int .i64 k_0_15, .int .i64 k_0_16, .int .i64 k_0_17, v_k_0_18, v_k_0_20] 200 l22 [] 67) _ fn43 rfl rfl rfl rfl (fun w2 hP h1 sub s1 d1 ap hI => types_look_after_s1.ok _ _ _ _ _ _ _ _ _ _ _ _ _ _ _ _ _ _ _ _ _ _ _ _ _ hc w2 hP sub (ap.get 3 rfl) (ap.get 4 rfl) (ap.get 5 rfl) (ap.get 6 rfl) (ap.get 7 rfl) (ap.get 8 rfl) (ap.get 9 rfl) (ap.get 2 rfl) _ h1 s1 d1 hI) (SP.k1 fun v33 => ?_)
 clear hc
 refine go ?_
 refine QE.atA ?_
 refine DA.one 12 rfl (by kernel_rfl) ?_
 refine go ?_
 refine QE.atA ?_
 refine DA.ph 13 16 ?_
 refine DT.tk 13 ?_
 refine DT.tk 14 ?_
 refine DT.tk 15 ?_
 refine DT.next (by kernel_rfl) ?_
 refine DA.one 16 rfl (by kernel_rfl) ?_
 refine go ?_
 refine QE.atA ?_
 refine DA.done (by kernel_rfl) ?_
 refine go ?_
 refine CP.seq ?_
 refine go ?_
 refine CP.ci ho (fun ho => ?_) fun ho => ?_
 ·refine go ?_
  obtain rfl := fin ho hr
  exact QE.rt fun _ h => (St.selO [1] rfl rfl h)
 refine go ?_
 refine SP.val (Val.loadKPre1 see 1 rfl Tryz.underlying46 rfl rfl rfl) rfl rfl rfl ?_
 refine go ?_
 obtain ⟨t35, hc, ho⟩ := bind_some (x := flow_Ways.f k_0_18 a1) ho
 refine SP.callK see (caps := []) _ fn44 rfl rfl rfl rfl (fun w2 hP hs sub ap => flow_Ways.ok _ _ _ _ hc w2 hP sub (ap.get 8 rfl) (ap.get 10 rfl)) (SP.k1 fun v36 => ?_)
 clear hc
 refine go ?_
 refine CP.seq ?_
 refine go ?_
 refine SP.val (Val.lenW (fun w2 hw => slO.whole (St.own 0 rfl see.sub see.dj hw)) Tryz.underlying59 rfl) rfl rfl rfl ?_
 refine go ?_
 refine CP.freezeS see 1 rfl ?_
 obtain rfl := Option.some.inj ho
 refine CP.loop (fun cl1 a w2 => ∃ l58 : List types_Row, ∃ x59 : Int, cl1 ≤ m0 ∧ iter (types_look_place_s1.F k_0_2 k_0_4 k_0_6 k_0_8 k_0_9 k_0_11 k_0_13 k_0_14 k_0_15 k_0_16 k_0_17 k_0_18 k_0_20 l22 a1) cl1 (.l1 t32 t35 l58 x59) = some r ∧ Env ⟨79, []⟩ [(0, .pointer (some ⟨b1, 0, none⟩)), (6, v33), (50, v36), (51, .int .i64 (t35.1.length : Int)), (52, .int .i64 x59)] a ∧ St w hA hV [slP (kInt .u8) v33 t32.1.1, slP k_api_Value v_k_0_2 k_0_2, slP k_api_Value v_k_0_4 k_0_4, slP k_api_Method v_k_0_6 k_0_6, slP (kInt .u8) v_k_0_9 k_0_9, slP (kInt .u8) v_k_0_11 k_0_11, slP k_api_Instr v_k_0_18 k_0_18, slP (kInt .u8) v_k_0_20 k_0_20, arrP k_arr136 0 tab0] [slO (kInt .i64) 3 v36 t35.1, arrK k_types_Row b1 [v_k_0_2, v_k_0_4, v_k_0_6, .int .i64 k_0_8, v_k_0_9, v_k_0_11, .int .u8 k_0_13, .bool k_0_14, .int .i64 k_0_15, .int .i64 k_0_16, .int .i64 k_0_17, v_k_0_18, v_k_0_20] 200 l58 [] 67] w2) m0 (fun a w2 ha hw => ⟨t32.2, 0, Nat.le_refl _, hr, ha.sub sb, (St.selP [0, 4, 5, 6, 7, 8, 9, 10, 11] rfl (St.selO [0, 1] rfl rfl hw))⟩) ?_
 clear hr
 rintro cl1 a w2 ⟨l58, x59, hc_l1, hi, ha, hw⟩
 obtain ⟨m60, o, hm_m60, ho, hr⟩ := iter_some hi
 refine CP.app ha hw ?_
 clear ha hw a w2 hi
 refine go ?_
 refine CP.seq ?_
 refine CP.ci ho (fun ho => ?_) fun ho => ?_
 ·refine go ?_
  refine CP.seq ?_
  refine go ?_
  obtain ⟨x62, hx_x62, ho⟩ := elt_bind ho
  refine SP.indexW (fun w2 hw => slO.whole (St.own 0 rfl see.sub see.dj hw)) Tryz.underlying59 sz3 hx_x62.1 hx_x62.2 rfl rfl rfl rfl (fun p61 h_p61 => ?_)
  refine SP.val (Val.loadW1 (off := 0) (k := (kInt .i64)) (fun w2 hw => slO.whole (St.own 0 rfl see.sub see.dj hw)) hx_x62.2 h_p61 (fun _ _ e => by subst e; rfl) Tryz.underlying3 rfl rfl) rfl rfl rfl ?_
  refine go ?_
  obtain ⟨x63, hx_x63, ho⟩ := elt_bind ho
  refine SP.val (Val.indexK see 1 rfl Tryz.underlying65 sz40 hx_x63.1 hx_x63.2 rfl rfl) rfl rfl rfl ?_
  refine go ?_
  refine CP.seq ?_
  refine CP.seq ?_
  refine CP.region ?_
  refine SP.val (Val.move rfl) rfl rfl rfl ?_
  refine SP.val (Val.nilCheck rfl) rfl rfl rfl ?_
  refine SP.val (Val.fieldX Tryz.underlying40 rfl sz4 rfl) rfl rfl rfl ?_
  refine SP.val (Val.loadK1 (j := x62) see 1 0 rfl hx_x63.2 (fun _ _ ⟨v0_, e, p0_⟩ => by subst e; rfl) Tryz.underlying4 rfl rfl) rfl rfl rfl ?_
  refine go ?_
  obtain ⟨t69, hg_t69, ho⟩ := bind_some ho
  refine SP.jn 8 [0, 6, 50, 51, 52, 12] 73 (.bool t69) ?_ ?_
  ·clear hg_t69
   refine go ?_
   refine CP.cb ho (fun ho => ?_) fun ho => ?_
   ·refine go ?_
    obtain rfl := fin ho hr
    exact QE.rt fun _ h => (St.selO [1] rfl rfl h)
   refine go ?_
   refine SP.have (fun w2 hw => slR.shape (St.pers 0 rfl see.sub see.dj hw)) (fun hs_v33 => ?_)
   refine SP.val (Val.buildC (us := [(0, .bool true), (1, v33)]) (ucs := [(0, [.bool true]), (1, [v33])]) (cs := [.bool true, v33]) bt40 rfl rfl ⟨rfl, rfl, ⟨rfl, one_cells hs_v33, trivial⟩⟩ (by rfl)) rfl rfl rfl ?_
   refine go ?_
   refine SP.have (fun w2 hw => slR.shape (St.pers 0 rfl see.sub see.dj hw)) (fun hs_v33 => ?_)
   refine SP.storeK (j := x62) (z0 := (⟨true, t32.1.1⟩ : types_Row)) (vs := [.bool true, v33]) see 1 0 rfl hx_x63.2 rfl (one_cons rfl (one_cons hs_v33 (rfl))) sz40 rfl (fun a cs ap r => by obtain ⟨_, e, _⟩ := r; subst e; exact ⟨v33, rfl, (ap.get 0 rfl)⟩) rfl rfl rfl ?_
   refine go ?_
   obtain rfl := Option.some.inj ho
   exact QE.lower m60 (by omega) fun a w2 ha hw => ⟨(l58.set x62.toNat (⟨true, t32.1.1⟩ : types_Row)), (IntKind.i64.wrap (x59 + 1)), (by omega), hr, ha.sub sb, hw⟩
  refine SP.cb 65 hg_t69 (fun hq65 ho => ?_) fun hq65 ho => ?_
  ·refine SP.val (Val.move rfl) rfl rfl rfl ?_
   refine SP.val (Val.nilCheck rfl) rfl rfl rfl ?_
   refine SP.val (Val.fieldX Tryz.underlying40 rfl sz38 rfl) rfl rfl rfl ?_
   refine SP.loadKS (j := x62) see 1 1 rfl hx_x63.2 (fun _ _ ⟨v0_, e, p0_⟩ => ⟨v0_, by subst e; rfl, p0_⟩) Tryz.underlying38 rfl rfl rfl (fun v66 => ?_)
   refine go ?_
   obtain ⟨t68, hc, ho⟩ := bind_some (x := slices_Equal_uint8_uint8.f x63.Kinds t32.1.1) ho
   refine SP.callV see (caps := []) (.bool t68) fn45 rfl rfl rfl rfl (fun w2 hP hs sub ap => slices_Equal_uint8_uint8.ok _ _ _ _ _ hc w2 hP sub (ap.get 0 rfl) (ap.get 1 rfl)) ?_
   clear hc
   refine go ?_
   obtain rfl := Option.some.inj ho
   exact QE.jn fun w2 hw => (St.selP [1, 2, 3, 4, 5, 6, 7, 8, 9] rfl hw)
  refine go ?_
  obtain rfl := Option.some.inj ho
  exact QE.jn fun w2 hw => hw
 refine go ?_
 obtain rfl := fin ho hr
 exact QE.rt fun _ h => (St.selO [1] rfl rfl h)
/-! ### slices.Clone[[]capstan/types.Row,capstan/types.Row]: function 26 -/
def slices_Clone_types_Row_types_Row.f (s_0 : (List types_Row)) : Option (List types_Row) :=
  nilOr s_0 (some []) (if (([] : List types_Row).length + s_0.length) * 32 ≤ 140737488355328 then (some (([] : List types_Row) ++ s_0)) else none)
theorem slices_Clone_types_Row_types_Row.ok (s_0 : (List types_Row)) (v_s_0 : Value) (r : (List types_Row)) (H : slices_Clone_types_Row_types_Row.f s_0 = some r) (w : World) (hV : Hp) (sV : Sub hV (hp w)) (h0 : slR k_types_Row hV v_s_0 s_0) :
    Trip Tryz.prog 26 [v_s_0].toArray em hV w (fun v => HO.ex fun u0 : Value => HO.pand (v = u0) (HO.seps [slO k_types_Row 40 u0 r])) := by
 have see : Sees w em hV := ⟨sV, Dj.em_right _⟩
 refine Trip.of (P := Tryz.prog) (n := ⟨8, []⟩) Tryz.func26 rfl ⟨rfl, rfl⟩ rfl (St.begin (aS h0 (All.nil _))) ?_
 have ho := H
 refine go ?_
 refine CP.seq ?_
 refine go ?_
 refine SP.val (Val.eqlNP see 0 rfl Tryz.underlying31 rfl rfl) rfl rfl rfl ?_
 refine go ?_
 refine CP.have (fun w2 hw => slR.isNil (v := v_s_0) (St.pers 0 rfl see.sub see.dj hw)) (fun hnil => ?_)
 rcases Bool.eq_false_or_eq_true (nilB v_s_0) with hc | hc
 ·replace ho := nilOr_t ho (hnil hc)
  refine CP.condT rfl hc ?_
  refine go ?_
  obtain rfl := Option.some.inj ho
  exact QE.rt fun _ h => (St.selO [0] rfl rfl (St.addO (slO.nil k_types_Row 40) h))
 replace ho := nilOr_f ho
 refine CP.condF rfl hc ?_
 refine go ?_
 refine SP.lit0 (k := k_types_Row) Tryz.underlying31 inf40 rfl rfl (fun v3 => ?_)
 refine go ?_
 obtain ⟨hb, ho⟩ := must_some ho
 refine SP.append see 0 rfl 0 rfl Tryz.underlying31 inf40 rfl rfl hb rfl rfl rfl rfl rfl (fun v5 => ?_)
 clear hb
 refine go ?_
 obtain rfl := Option.some.inj ho
 exact QE.rt fun _ h => (St.selO [0] rfl rfl h)
/-! ### capstan/types.Rows: function 7 -/
inductive types_Rows.S where
  | start
  | l1 (x11 : api_Method) (t1828 : (List Int)) (l2830 : List types_Row) (x2831 : Int)
  | l2 (t2837 : (List types_Row)) (l2853 : List (types_Row × Bool)) (x2855 : Int)

def types_Rows.F (m_0 : api_Module) (k_1 : Int) : types_Rows.S → Option (types_Rows.S ⊕ ((List types_Row) × Int))
  | .start => if ((decide (k_1 < 0)) || (decide (k_1 ≥ (m_0.Methods.length : Int)))) = true then (some (.inr ([], 2))) else ((elt m_0.Methods k_1).bind fun x11 => (flow_Check.f x11.Code).bind fun t20 => if t20 ≠ 0 then (some (.inr ([], t20))) else ((slices_Concat_uint8_uint8.f [x11.Args, x11.Locals]).bind fun t1828 => (slices_ContainsFunc_api_Instr_api_Instr_s2.f x11.Code m_0.Globals m_0.Pool m_0.Methods m_0.Migrate x11.Args x11.Locals x11.Result x11.Reads x11.Fuel x11.Stack x11.Heap x11.Code t1828).bind fun t2747 => if t2747 = true then (some (.inr ([], 100))) else ((elt (List.replicate 200 types_Row.zero : List types_Row) 0).bind fun x2749 => some (.inl (.l1 x11 t1828 ((List.replicate 200 types_Row.zero : List types_Row).set (0 : Int).toNat ({ x2749 with Reached := true } : types_Row)) 0)))))
  | .l1 x11 t1828 l2830 x2831 => if x2831 < (x11.Code.length : Int) then ((types_look_place_s1.f m_0.Globals m_0.Pool m_0.Methods m_0.Migrate x11.Args x11.Locals x11.Result x11.Reads x11.Fuel x11.Stack x11.Heap x11.Code t1828 l2830 x2831).bind fun t2833 => if t2833.1 ≠ 0 then (some (.inr ([], t2833.1))) else (some (.inl (.l1 x11 t1828 t2833.2 (IntKind.i64.wrap (x2831 + 1)))))) else (if (0 : Int) ≤ (x11.Code.length : Int) ∧ (x11.Code.length : Int) ≤ (200 : Nat) then ((slices_Clone_types_Row_types_Row.f (l2830.take ((x11.Code.length : Int) : Int).toNat)).bind fun t2837 => some (.inl (.l2 t2837 (t2837.map fun z => (z, false)) 0))) else none)
  | .l2 t2837 l2853 x2855 => if x2855 < ((t2837.map fun z => (z, false)).length : Int) then ((elt l2853 x2855).bind fun x2858 => if x2858.2 = false then ((slices_Clone_uint8_uint8.f x2858.1.Kinds).bind fun t2862 => (elt l2853 x2855).bind fun x2866 => if x2866.2 = false then (some (.inl (.l2 t2837 (l2853.set x2855.toNat (({ x2866.1 with Kinds := t2862 } : types_Row), true)) (IntKind.i64.wrap (x2855 + 1))))) else none) else none) else (if (l2853.all fun z => z.2) = true then (some (.inr ((l2853.map fun z => z.1), 0))) else none)

def types_Rows.f (m_0 : api_Module) (k_1 : Int) : Option ((List types_Row) × Int) := runF (types_Rows.F m_0 k_1) .start
theorem types_Rows.ok (m_0 : api_Module) (k_1 : Int) (v_m_0_Globals v_m_0_Pool v_m_0_Methods : Value)  (r : (List types_Row) × Int) (H : types_Rows.f m_0 k_1 = some r) (w : World) (hV : Hp) (sV : Sub hV (hp w)) (h0 : slR k_api_Value hV v_m_0_Globals m_0.Globals) (h1 : slR k_api_Value hV v_m_0_Pool m_0.Pool) (h2 : slR k_api_Method hV v_m_0_Methods m_0.Methods) (h3 : (arrP k_arr136 0 tab0).p hV) :
    Trip Tryz.prog 7 [.agg #[v_m_0_Globals, v_m_0_Pool, v_m_0_Methods, .int .i64 m_0.Migrate], .int .i64 k_1].toArray em hV w (fun v => HO.ex fun u0 : Value => HO.pand (v = .tuple #[u0, .int .i64 r.2]) (HO.seps [slD o_types_Row 40 u0 r.1])) := by
 have see : Sees w em hV := ⟨sV, Dj.em_right _⟩
 refine Trip.of (P := Tryz.prog) (n := ⟨90, []⟩) Tryz.func7 rfl ⟨rfl, rfl⟩ rfl (St.begin (aS h0 (aS h1 (aS h2 (All.cons (x := arrP k_arr136 0 tab0) h3 (All.nil _)))))) ?_
 obtain ⟨n0, hi⟩ := runF_iff.1 H
 obtain ⟨m0, o, hm0, ho, hr⟩ := iter_some hi
 clear hi
 refine go ?_
 refine SP.box (cs := [v_m_0_Globals, v_m_0_Pool, v_m_0_Methods, .int .i64 m_0.Migrate]) rfl rfl rfl rfl (fun b4 => ?_)
 refine go ?_
 refine CP.seq ?_
 refine go ?_
 refine SP.jn 6 [1, 2] 21 (.bool ((decide (k_1 < 0)) || (decide (k_1 ≥ (m_0.Methods.length : Int))))) ?_ ?_
 ·refine go ?_
  refine CP.cb ho (fun ho => ?_) fun ho => ?_
  ·refine go ?_
   obtain rfl := fin ho hr
   exact QE.rt fun _ h => (St.selO [0] rfl rfl (St.addO (slD.nil o_types_Row 40) h))
  refine go ?_
  obtain ⟨x11, hx, ho⟩ := elt_bind ho
  refine SP.indexP see 2 rfl Tryz.underlying23 sz48 hx.1 hx.2 rfl rfl rfl rfl (fun p9 => ?_)
  clear hx
  refine k_api_Method.load see 0 rfl Tryz.underlying48 rfl sz48 rfl rfl rfl (fun v12 v14 v16 => ?_)
  refine SP.alloc (cs := [(.slice none 0 0), (.slice none 0 0), .int .u8 0, .bool false, .int .i64 0, .int .i64 0, .int .i64 0, (.slice none 0 0)]) inf48 rfl rfl (fun b18 => ?_)
  refine SP.have (fun w2 hw => slR.shape (St.pers 0 rfl see.sub see.dj hw)) (fun hs_v12 => ?_)
  refine SP.have (fun w2 hw => slR.shape (St.pers 1 rfl see.sub see.dj hw)) (fun hs_v14 => ?_)
  refine SP.have (fun w2 hw => slR.shape (St.pers 2 rfl see.sub see.dj hw)) (fun hs_v16 => ?_)
  refine SP.store (v := .agg #[v12, v14, .int .u8 x11.Result, .bool x11.Reads, .int .i64 x11.Fuel, .int .i64 x11.Stack, .int .i64 x11.Heap, v16]) (vs := [v12, v14, .int .u8 x11.Result, .bool x11.Reads, .int .i64 x11.Fuel, .int .i64 x11.Stack, .int .i64 x11.Heap, v16]) 0 (by rfl) sz48 (by rfl) (by rfl) (by rfl) (by rfl) (one_cons hs_v12 (one_cons hs_v14 (one_cons rfl (one_cons rfl (one_cons rfl (one_cons rfl (one_cons rfl (one_cons hs_v16 (rfl))))))))) (by rfl) ?_
  refine go ?_
  refine CP.seq ?_
  refine go ?_
  obtain ⟨t20, hc, ho⟩ := bind_some (x := flow_Check.f x11.Code) ho
  refine SP.callV see (caps := []) (.int .i64 t20) fn20 rfl rfl rfl rfl (fun w2 hP hs sub ap => flow_Check.ok _ _ _ hc w2 hP sub (ap.get 2 rfl) (ap.get 7 rfl)) ?_
  clear hc
  refine go ?_
  refine CP.ci ho (fun ho => ?_) fun ho => ?_
  ·refine go ?_
   obtain rfl := fin ho hr
   exact QE.rt fun _ h => (St.selO [0] rfl rfl (St.addO (slD.nil o_types_Row 40) h))
  refine go ?_
  refine CP.seq ?_
  refine CP.drawA (by kernel_rfl) (fun w2 k h => h.drawn k) ?_
  refine DA.ph 0 11 ?_
  refine DT.tv 0 rfl (Val.loadA 1 rfl Tryz.underlying25 rfl sz25 rfl rfl rfl) ?_
  refine DT.tv 1 rfl (Val.loadA 0 rfl Tryz.underlying48 rfl sz48 rfl rfl rfl) ?_
  refine DT.tk 2 ?_
  refine DT.tk 3 ?_
  refine DT.tk 4 ?_
  refine DT.tk 5 ?_
  obtain ⟨t1828, hc_t1828, ho⟩ := bind_some (x := slices_Concat_uint8_uint8.f [x11.Args, x11.Locals]) ho
  refine DT.list (l2 := #[true, true, true, true, true, true, false, false, false, false, false, false]) (by kernel_rfl) ?_
  refine DT.cut (ι := Value × Value × Nat × Nat) (fun z => [(6, .pointer (some ⟨b18, 0, none⟩)), (8, .pointer (some ⟨z.2.2.2, 0, none⟩)), (42, .pointer (some ⟨z.2.2.1, 0, none⟩))]) (fun z w2 => St w em hV [slP (kInt .u8) v12 x11.Args, slP (kInt .u8) v14 x11.Locals, slP k_api_Instr v16 x11.Code, elP k_api_Method p9 x11, slP k_api_Value v_m_0_Globals m_0.Globals, slP k_api_Value v_m_0_Pool m_0.Pool, slP k_api_Method v_m_0_Methods m_0.Methods, arrP k_arr136 0 tab0] [boxO z.2.2.2 [.pointer none] 63, arrK k_types_Row z.2.2.1 [v_m_0_Globals, v_m_0_Pool, v_m_0_Methods, .int .i64 m_0.Migrate, v12, v14, .int .u8 x11.Result, .bool x11.Reads, .int .i64 x11.Fuel, .int .i64 x11.Stack, .int .i64 x11.Heap, v16, z.2.1] 200 (List.replicate 200 types_Row.zero : List types_Row) [] 67, slO (kInt .u8) 5 z.2.1 t1828, slO (kSl (kInt .u8)) 38 z.1 [x11.Args, x11.Locals], boxO b18 [v12, v14, .int .u8 x11.Result, .bool x11.Reads, .int .i64 x11.Fuel, .int .i64 x11.Stack, .int .i64 x11.Heap, v16] 48, boxO b4 [v_m_0_Globals, v_m_0_Pool, v_m_0_Methods, .int .i64 m_0.Migrate] 25] w2) 1 #[true, true, true, true, true, true, true, true, true, true, true, false] (fun z => ?_) (fun J2746 => ?_)
  ·obtain ⟨v1430, v1630, b2030, b2230⟩ := z
   refine DT.next (by kernel_rfl) ?_
   refine DA.one 11 rfl (by kernel_rfl) ?_
   refine SP.store (v := .pointer (some ⟨b2030, 0, none⟩)) (vs := [.pointer (some ⟨b2030, 0, none⟩)]) 0 (by rfl) sz63 (by rfl) (by rfl) (by rfl) (by rfl) (by rfl) (by rfl) ?_
   refine go ?_
   refine QE.atA ?_
   refine DA.done (by kernel_rfl) ?_
   refine go ?_
   refine CP.seq ?_
   refine go ?_
   refine SP.val (Val.makeFunc (us := []) (vs := [.pointer (some ⟨b2230, 0, none⟩)]) rfl rfl) rfl rfl rfl ?_
   obtain ⟨t2747, hc, ho⟩ := bind_some (x := slices_ContainsFunc_api_Instr_api_Instr_s2.f x11.Code m_0.Globals m_0.Pool m_0.Methods m_0.Migrate x11.Args x11.Locals x11.Result x11.Reads x11.Fuel x11.Stack x11.Heap x11.Code t1828) ho
   refine SP.callVO see (caps := []) (.bool t2747) fn22 rfl rfl rfl rfl (fun w2 hs => slices_ContainsFunc_api_Instr_api_Instr_s2.ok _ _ _ _ _ _ _ _ _ _ _ _ _ _ _ _ _ _ _ _ _ _ _ _ _ hc w2 (hp w2) (Sub.refl _) ((St.pers 2 rfl see.sub see.dj hs)) ((St.pers 4 rfl see.sub see.dj hs)) ((St.pers 5 rfl see.sub see.dj hs)) ((St.pers 6 rfl see.sub see.dj hs)) ((St.pers 0 rfl see.sub see.dj hs)) ((St.pers 1 rfl see.sub see.dj hs)) ((St.pers 2 rfl see.sub see.dj hs)) (slO.read (St.own 2 rfl see.sub see.dj hs) (Sub.refl _) (Sub.refl _)) (arrK.preP (St.own 1 rfl see.sub see.dj hs)) (St.own 0 rfl see.sub see.dj hs)) ?_
   clear hc
   refine go ?_
   refine CP.cb ho (fun ho => ?_) fun ho => ?_
   ·refine go ?_
    obtain rfl := fin ho hr
    exact QE.rt fun _ h => (St.selO [0] rfl rfl (St.addO (slD.nil o_types_Row 40) h))
   refine go ?_
   obtain ⟨x2749, hx_x2749, ho⟩ := elt_bind ho
   refine SP.val (Val.indexK see 1 rfl Tryz.underlying65 sz40 hx_x2749.1 hx_x2749.2 rfl rfl) rfl rfl rfl ?_
   refine SP.val (Val.fieldX Tryz.underlying40 rfl sz4 rfl) rfl rfl rfl ?_
   refine SP.storeK (j := 0) (z0 := ({ x2749 with Reached := true } : types_Row)) (vs := [.bool true]) see 1 0 rfl hx_x2749.2 rfl (by rfl) sz4 rfl (fun a cs ap r => by obtain ⟨v0_, e, p0_⟩ := r; subst e; exact ⟨v0_, rfl, p0_⟩) rfl rfl rfl ?_
   refine go ?_
   refine CP.seq ?_
   refine go ?_
   refine CP.freezeS see 2 rfl ?_
   obtain rfl := Option.some.inj ho
   refine CP.loop (fun cl1 a w2 => ∃ l2830 : List types_Row, ∃ x2831 : Int, cl1 ≤ m0 ∧ iter (types_Rows.F m_0 k_1) cl1 (.l1 x11 t1828 l2830 x2831) = some r ∧ Env ⟨90, []⟩ [(6, .pointer (some ⟨b18, 0, none⟩)), (8, .pointer (some ⟨b2230, 0, none⟩)), (54, .int .i64 (x11.Code.length : Int)), (55, .int .i64 x2831)] a ∧ St w em hV [slP (kInt .u8) v1630 t1828, slP (kInt .u8) v12 x11.Args, slP (kInt .u8) v14 x11.Locals, slP k_api_Instr v16 x11.Code, slP k_api_Value v_m_0_Globals m_0.Globals, slP k_api_Value v_m_0_Pool m_0.Pool, slP k_api_Method v_m_0_Methods m_0.Methods, arrP k_arr136 0 tab0] [boxO b2230 [.pointer (some ⟨b2030, 0, none⟩)] 63, arrK k_types_Row b2030 [v_m_0_Globals, v_m_0_Pool, v_m_0_Methods, .int .i64 m_0.Migrate, v12, v14, .int .u8 x11.Result, .bool x11.Reads, .int .i64 x11.Fuel, .int .i64 x11.Stack, .int .i64 x11.Heap, v16, v1630] 200 l2830 [] 67, boxO b18 [v12, v14, .int .u8 x11.Result, .bool x11.Reads, .int .i64 x11.Fuel, .int .i64 x11.Stack, .int .i64 x11.Heap, v16] 48] w2) m0 (fun a w2 ha hw => ⟨((List.replicate 200 types_Row.zero : List types_Row).set (0 : Int).toNat ({ x2749 with Reached := true } : types_Row)), 0, Nat.le_refl _, hr, ha.sub sb, (St.selP [0, 1, 2, 3, 5, 6, 7, 8] rfl (St.selO [0, 1, 3] rfl rfl hw))⟩) ?_
   clear hr
   rintro cl1 a w2 ⟨l2830, x2831, hc_l1, hi, ha, hw⟩
   obtain ⟨m2832, o, hm_m2832, ho, hr⟩ := iter_some hi
   refine CP.app ha hw ?_
   clear ha hw a w2 hi
   refine go ?_
   refine CP.seq ?_
   refine CP.ci ho (fun ho => ?_) fun ho => ?_
   ·refine go ?_
    refine CP.seq ?_
    refine go ?_
    refine SP.imp (fun w2 hw => St.selO [1, 0, 2] rfl rfl hw) ?_
    obtain ⟨t2833, hc, ho⟩ := bind_some (x := types_look_place_s1.f m_0.Globals m_0.Pool m_0.Methods m_0.Migrate x11.Args x11.Locals x11.Result x11.Reads x11.Fuel x11.Stack x11.Heap x11.Code t1828 l2830 x2831) ho
    refine SP.callA see (caps := []) (X := arrK k_types_Row b2030 [v_m_0_Globals, v_m_0_Pool, v_m_0_Methods, .int .i64 m_0.Migrate, v12, v14, .int .u8 x11.Result, .bool x11.Reads, .int .i64 x11.Fuel, .int .i64 x11.Stack, .int .i64 x11.Heap, v16, v1630] 200 l2830 [] 67) _ fn25 rfl rfl rfl rfl (fun w2 hP h1 sub s1 d1 ap hI => types_look_place_s1.ok _ _ _ _ _ _ _ _ _ _ _ _ _ _ _ _ _ _ _ _ _ _ _ hc w2 hP sub (ap.get 4 rfl) (ap.get 5 rfl) (ap.get 6 rfl) (ap.get 1 rfl) (ap.get 2 rfl) (ap.get 3 rfl) (ap.get 0 rfl) (ap.get 7 rfl) _ h1 s1 d1 hI) (SP.k0 ?_)
    clear hc
    refine go ?_
    refine CP.ci ho (fun ho => ?_) fun ho => ?_
    ·refine go ?_
     obtain rfl := fin ho hr
     exact QE.rt fun _ h => (St.selO [0] rfl rfl (St.addO (slD.nil o_types_Row 40) h))
    refine go ?_
    obtain rfl := Option.some.inj ho
    exact QE.lower m2832 (by omega) fun a w2 ha hw => ⟨t2833.2, (IntKind.i64.wrap (x2831 + 1)), (by omega), hr, ha.sub sb, (St.selO [1, 0, 2] rfl rfl hw)⟩
   refine go ?_
   refine CP.seq ?_
   refine CP.drawA (by kernel_rfl) (fun w2 k h => h.drawn k) ?_
   refine DA.ph 0 6 ?_
   refine DT.tk 0 ?_
   refine DT.tk 1 ?_
   refine DT.tk 2 ?_
   refine DT.tk 3 ?_
   refine DT.tk 4 ?_
   refine DT.tk 5 ?_
   refine DT.next (by kernel_rfl) ?_
   refine DA.one 6 rfl (by kernel_rfl) ?_
   obtain ⟨hz, ho⟩ := must_some ho
   refine SP.sliceK see 1 rfl Tryz.underlying65 sz40 rfl rfl rfl hz rfl rfl (fun v2835 => ?_)
   clear hz
   refine go ?_
   refine QE.atA ?_
   refine DA.one 7 rfl (by kernel_rfl) ?_
   obtain ⟨t2837, hc, ho⟩ := bind_some (x := slices_Clone_types_Row_types_Row.f (l2830.take ((x11.Code.length : Int) : Int).toNat)) ho
   refine SP.callK see (caps := []) _ fn26 rfl rfl rfl rfl (fun w2 hP hs sub ap => slices_Clone_types_Row_types_Row.ok _ _ _ hc w2 hP sub (ap.get 0 rfl)) (SP.k1 fun v2838 => ?_)
   clear hc
   refine SP.imp (fun w2 hw => St.toOpt (k := o_types_Row) hw) ?_
   refine go ?_
   refine QE.atA ?_
   refine DA.one 8 rfl (by kernel_rfl) ?_
   refine go ?_
   refine QE.atA ?_
   refine DA.done (by kernel_rfl) ?_
   refine go ?_
   refine CP.seq ?_
   refine go ?_
   refine SP.val (Val.lenW (fun w2 hw => slD.flat (St.own 0 rfl see.sub see.dj hw) (Sub.refl _) (Sub.refl _)) Tryz.underlying31 rfl) rfl rfl rfl ?_
   refine go ?_
   obtain rfl := Option.some.inj ho
   refine CP.loop (fun cl2 a w2 => ∃ l2853 : List (types_Row × Bool), ∃ x2855 : Int, ∃ v2854 : Value, cl2 ≤ m2832 ∧ iter (types_Rows.F m_0 k_1) cl2 (.l2 t2837 l2853 x2855) = some r ∧ Env ⟨90, []⟩ [(11, v2854), (74, .int .i64 ((t2837.map fun z => (z, false)).length : Int)), (75, .int .i64 x2855)] a ∧ St w em hV [arrP k_arr136 0 tab0] [slD (Ko.opt o_types_Row) 40 v2854 l2853] w2) m2832 (fun a w2 ha hw => ⟨(t2837.map fun z => (z, false)), 0, v2838, Nat.le_refl _, hr, ha.sub sb, (St.selP [8] rfl (St.selO [0] rfl rfl hw))⟩) ?_
   clear hr
   rintro cl2 a w2 ⟨l2853, x2855, v2854, hc_l2, hi, ha, hw⟩
   obtain ⟨m2856, o, hm_m2856, ho, hr⟩ := iter_some hi
   refine CP.app ha hw ?_
   clear ha hw a w2 hi
   refine go ?_
   refine CP.seq ?_
   refine CP.ci ho (fun ho => ?_) fun ho => ?_
   ·refine go ?_
    refine CP.seq ?_
    refine go ?_
    obtain ⟨x2858, hx_x2858, ho⟩ := elt_bind ho
    refine SP.indexW (fun w2 hw => slD.flat (St.own 0 rfl see.sub see.dj hw) (Sub.refl _) (Sub.refl _)) Tryz.underlying31 sz40 hx_x2858.1 hx_x2858.2 rfl rfl rfl rfl (fun p2857 h_p2857 => ?_)
    refine SP.fieldO h_p2857 Tryz.underlying40 rfl sz38 rfl rfl rfl (fun p2859 h_p2859 => ?_)
    obtain ⟨hf_x2858, ho⟩ := must_some ho
    refine SP.loadOF (j := x2855) see 1 hx_x2858.2 hf_x2858 h_p2859 (fun _ _ ⟨v0_, e, p0_⟩ => ⟨v0_, by subst e; rfl, p0_⟩) Tryz.underlying38 rfl rfl rfl (fun v2860 => ?_)
    obtain ⟨t2862, hc, ho⟩ := bind_some (x := slices_Clone_uint8_uint8.f x2858.1.Kinds) ho
    refine SP.callK see (caps := []) _ fn27 rfl rfl rfl rfl (fun w2 hP hs sub ap => slices_Clone_uint8_uint8.ok _ _ _ hc w2 hP sub (ap.get 0 rfl)) (SP.k1 fun v2863 => ?_)
    clear hc
    obtain ⟨x2866, hx_x2866, ho⟩ := elt_bind ho
    refine SP.indexW (fun w2 hw => slD.flat (St.own 1 rfl see.sub see.dj hw) (Sub.refl _) (Sub.refl _)) Tryz.underlying31 sz40 hx_x2866.1 hx_x2866.2 rfl rfl rfl rfl (fun p2865 h_p2865 => ?_)
    refine SP.fieldO h_p2865 Tryz.underlying40 rfl sz38 rfl rfl rfl (fun p2867 h_p2867 => ?_)
    obtain ⟨hf_x2866, ho⟩ := must_some ho
    refine SP.imp (fun w2 hw => St.selO [1, 0] rfl rfl hw) ?_
    refine SP.have (fun w2 hw => slO.shape (St.own 1 rfl see.sub see.dj hw)) (fun hs_v2863 => ?_)
    refine SP.imp (fun w2 hw => St.selO [1, 0] rfl rfl hw) ?_
    refine SP.storeOF (z0 := ({ x2866.1 with Kinds := t2862 } : types_Row)) (off := 1) see hx_x2866.2 hf_x2866 h_p2867 (one_cells hs_v2863) (one_cons hs_v2863 (rfl)) sz38 rfl (fun a h c ⟨v0_, e, p0_⟩ q => by subst e; exact ⟨_, rfl, h, em, Dj.em_right _, Sub.refl _, Sub.em _, q, trivial⟩) rfl rfl rfl ?_
    refine go ?_
    obtain rfl := Option.some.inj ho
    exact QE.lower m2856 (by omega) fun a w2 ha hw => ⟨(l2853.set x2855.toNat (({ x2866.1 with Kinds := t2862 } : types_Row), true)), (IntKind.i64.wrap (x2855 + 1)), v2854, (by omega), hr, ha.sub sb, (St.selP [1] rfl hw)⟩
   refine go ?_
   obtain ⟨hb2868, ho⟩ := must_some ho
   refine QE.imp (fun w2 hw => St.fromOpt hb2868 hw) ?_
   obtain rfl := fin ho hr
   exact QE.rt fun _ h => (St.selO [0] rfl rfl h)
  refine DT.cut (ι := Value × Value × Nat) (fun z => [(6, .pointer (some ⟨b18, 0, none⟩)), (42, .pointer (some ⟨z.2.2, 0, none⟩))]) (fun z w2 => St w em hV [slP (kInt .u8) v12 x11.Args, slP (kInt .u8) v14 x11.Locals, slP k_api_Instr v16 x11.Code, elP k_api_Method p9 x11, slP k_api_Value v_m_0_Globals m_0.Globals, slP k_api_Value v_m_0_Pool m_0.Pool, slP k_api_Method v_m_0_Methods m_0.Methods, arrP k_arr136 0 tab0] [arrK k_types_Row z.2.2 [v_m_0_Globals, v_m_0_Pool, v_m_0_Methods, .int .i64 m_0.Migrate, v12, v14, .int .u8 x11.Result, .bool x11.Reads, .int .i64 x11.Fuel, .int .i64 x11.Stack, .int .i64 x11.Heap, v16, z.2.1] 200 (List.replicate 200 types_Row.zero : List types_Row) [] 67, slO (kInt .u8) 5 z.2.1 t1828, slO (kSl (kInt .u8)) 38 z.1 [x11.Args, x11.Locals], boxO b18 [v12, v14, .int .u8 x11.Result, .bool x11.Reads, .int .i64 x11.Fuel, .int .i64 x11.Stack, .int .i64 x11.Heap, v16] 48, boxO b4 [v_m_0_Globals, v_m_0_Pool, v_m_0_Methods, .int .i64 m_0.Migrate] 25] w2) 2 #[true, true, true, true, true, true, true, true, true, true, false, false] (fun z => ?_) (fun J2874 => ?_)
  ·obtain ⟨v1430, v1630, b2030⟩ := z
   refine DT.one 10 rfl (by kernel_rfl) rfl ?_
   refine SP.alloc (cs := [.pointer none]) inf63 rfl rfl (fun b2230 => ?_)
   refine go ?_
   refine QE.atT (fun w2 hw => (St.selO [4, 5] rfl rfl hw)) ?_
   refine DT.list (l2 := #[true, true, true, true, true, true, true, true, true, true, true, false]) (by kernel_rfl) ?_
   exact DT.weak (by exact ⟨rfl, rfl, rfl, trivial⟩) (by exact fun w2 hw => hw) (J2746 (v1430, v1630, b2030, b2230))
  refine DT.cut (ι := Value × Value × Nat) (fun z => [(6, .pointer (some ⟨b18, 0, none⟩)), (8, .pointer (some ⟨z.2.2, 0, none⟩)), (41, .agg (([v_m_0_Globals, v_m_0_Pool, v_m_0_Methods, .int .i64 m_0.Migrate, v12, v14, .int .u8 x11.Result, .bool x11.Reads, .int .i64 x11.Fuel, .int .i64 x11.Stack, .int .i64 x11.Heap, v16, z.2.1] ++ zz200_2384)).toArray)]) (fun z w2 => St w em hV [slP (kInt .u8) v12 x11.Args, slP (kInt .u8) v14 x11.Locals, slP k_api_Instr v16 x11.Code, elP k_api_Method p9 x11, slP k_api_Value v_m_0_Globals m_0.Globals, slP k_api_Value v_m_0_Pool m_0.Pool, slP k_api_Method v_m_0_Methods m_0.Methods, arrP k_arr136 0 tab0] [boxO z.2.2 [.pointer none] 63, slO (kInt .u8) 5 z.2.1 t1828, slO (kSl (kInt .u8)) 38 z.1 [x11.Args, x11.Locals], boxO b18 [v12, v14, .int .u8 x11.Result, .bool x11.Reads, .int .i64 x11.Fuel, .int .i64 x11.Stack, .int .i64 x11.Heap, v16] 48, boxO b4 [v_m_0_Globals, v_m_0_Pool, v_m_0_Methods, .int .i64 m_0.Migrate] 25] w2) 2 #[true, true, true, true, true, true, true, true, true, false, true, false] (fun z => ?_) (fun J2875 => ?_)
  ·obtain ⟨v1430, v1630, b2230⟩ := z
   refine DT.one 9 rfl (by kernel_rfl) rfl ?_
   refine SP.box (cs := ([v_m_0_Globals, v_m_0_Pool, v_m_0_Methods, .int .i64 m_0.Migrate, v12, v14, .int .u8 x11.Result, .bool x11.Reads, .int .i64 x11.Fuel, .int .i64 x11.Stack, .int .i64 x11.Heap, v16, v1630] ++ zz200_2384)) rfl rfl rfl rfl (fun b2030 => ?_)
   refine SP.imp (fun w2 hw => St.arrK (k := k_types_Row) 0 rfl (List.replicate 200 types_Row.zero : List types_Row) [v_m_0_Globals, v_m_0_Pool, v_m_0_Methods, .int .i64 m_0.Migrate, v12, v14, .int .u8 x11.Result, .bool x11.Reads, .int .i64 x11.Fuel, .int .i64 x11.Stack, .int .i64 x11.Heap, v16, v1630] zz200_2384 [] (Flat.rep (k := k_types_Row) (z := [.bool false, (.slice none 0 0)]) (x := types_Row.zero) ⟨_, rfl, slP.nil _ _⟩ 200) (congrArg _ (List.append_nil _).symm) List.length_replicate hw) ?_
   refine go ?_
   refine QE.atT (fun w2 hw => (St.selO [4, 5] rfl rfl hw)) ?_
   refine DT.list (l2 := #[true, true, true, true, true, true, true, true, true, true, true, false]) (by kernel_rfl) ?_
   exact DT.weak (by exact ⟨rfl, rfl, rfl, trivial⟩) (by exact fun w2 hw => (St.selO [1, 0, 2, 3, 4, 5] rfl rfl hw)) (J2746 (v1430, v1630, b2030, b2230))
  refine DT.cut (ι := Value × Value) (fun z => [(6, .pointer (some ⟨b18, 0, none⟩)), (41, .agg (([v_m_0_Globals, v_m_0_Pool, v_m_0_Methods, .int .i64 m_0.Migrate, v12, v14, .int .u8 x11.Result, .bool x11.Reads, .int .i64 x11.Fuel, .int .i64 x11.Stack, .int .i64 x11.Heap, v16, z.2] ++ zz200_2384)).toArray)]) (fun z w2 => St w em hV [slP (kInt .u8) v12 x11.Args, slP (kInt .u8) v14 x11.Locals, slP k_api_Instr v16 x11.Code, elP k_api_Method p9 x11, slP k_api_Value v_m_0_Globals m_0.Globals, slP k_api_Value v_m_0_Pool m_0.Pool, slP k_api_Method v_m_0_Methods m_0.Methods, arrP k_arr136 0 tab0] [slO (kInt .u8) 5 z.2 t1828, slO (kSl (kInt .u8)) 38 z.1 [x11.Args, x11.Locals], boxO b18 [v12, v14, .int .u8 x11.Result, .bool x11.Reads, .int .i64 x11.Fuel, .int .i64 x11.Stack, .int .i64 x11.Heap, v16] 48, boxO b4 [v_m_0_Globals, v_m_0_Pool, v_m_0_Methods, .int .i64 m_0.Migrate] 25] w2) 3 #[true, true, true, true, true, true, true, true, true, false, false, false] (fun z => ?_) (fun J2876 => ?_)
  ·obtain ⟨v1430, v1630⟩ := z
   refine DT.any 9 [10] (by kernel_rfl) ⟨⟨_, rfl, rfl, ?_⟩, ⟨_, rfl, rfl, ?_⟩, trivial⟩
   ·refine SP.box (cs := ([v_m_0_Globals, v_m_0_Pool, v_m_0_Methods, .int .i64 m_0.Migrate, v12, v14, .int .u8 x11.Result, .bool x11.Reads, .int .i64 x11.Fuel, .int .i64 x11.Stack, .int .i64 x11.Heap, v16, v1630] ++ zz200_2384)) rfl rfl rfl rfl (fun b2030 => ?_)
    refine SP.imp (fun w2 hw => St.arrK (k := k_types_Row) 0 rfl (List.replicate 200 types_Row.zero : List types_Row) [v_m_0_Globals, v_m_0_Pool, v_m_0_Methods, .int .i64 m_0.Migrate, v12, v14, .int .u8 x11.Result, .bool x11.Reads, .int .i64 x11.Fuel, .int .i64 x11.Stack, .int .i64 x11.Heap, v16, v1630] zz200_2384 [] (Flat.rep (k := k_types_Row) (z := [.bool false, (.slice none 0 0)]) (x := types_Row.zero) ⟨_, rfl, slP.nil _ _⟩ 200) (congrArg _ (List.append_nil _).symm) List.length_replicate hw) ?_
    refine go ?_
    refine QE.atT (fun w2 hw => (St.selO [3, 4] rfl rfl hw)) ?_
    refine DT.list (l2 := #[true, true, true, true, true, true, true, true, true, true, false, false]) (by kernel_rfl) ?_
    exact DT.weak (by exact ⟨rfl, rfl, trivial⟩) (by exact fun w2 hw => hw) (J2874 (v1430, v1630, b2030))
   refine SP.alloc (cs := [.pointer none]) inf63 rfl rfl (fun b2230 => ?_)
   refine go ?_
   refine QE.atT (fun w2 hw => (St.selO [3, 4] rfl rfl hw)) ?_
   refine DT.list (l2 := #[true, true, true, true, true, true, true, true, true, false, true, false]) (by kernel_rfl) ?_
   exact DT.weak (by exact ⟨rfl, rfl, rfl, trivial⟩) (by exact fun w2 hw => hw) (J2875 (v1430, v1630, b2230))
  refine DT.cut (ι := Value × Value × Nat) (fun z => [(6, .pointer (some ⟨b18, 0, none⟩)), (8, .pointer (some ⟨z.2.2, 0, none⟩)), (33, .agg #[v_m_0_Globals, v_m_0_Pool, v_m_0_Methods, .int .i64 m_0.Migrate]), (34, .agg #[v12, v14, .int .u8 x11.Result, .bool x11.Reads, .int .i64 x11.Fuel, .int .i64 x11.Stack, .int .i64 x11.Heap, v16]), (40, z.2.1)]) (fun z w2 => St w em hV [slP (kInt .u8) v12 x11.Args, slP (kInt .u8) v14 x11.Locals, slP k_api_Instr v16 x11.Code, elP k_api_Method p9 x11, slP k_api_Value v_m_0_Globals m_0.Globals, slP k_api_Value v_m_0_Pool m_0.Pool, slP k_api_Method v_m_0_Methods m_0.Methods, arrP k_arr136 0 tab0] [boxO z.2.2 [.pointer none] 63, slO (kInt .u8) 5 z.2.1 t1828, slO (kSl (kInt .u8)) 38 z.1 [x11.Args, x11.Locals], boxO b18 [v12, v14, .int .u8 x11.Result, .bool x11.Reads, .int .i64 x11.Fuel, .int .i64 x11.Stack, .int .i64 x11.Heap, v16] 48, boxO b4 [v_m_0_Globals, v_m_0_Pool, v_m_0_Methods, .int .i64 m_0.Migrate] 25] w2) 3 #[true, true, true, true, true, true, true, true, false, false, true, false] (fun z => ?_) (fun J2881 => ?_)
  ·obtain ⟨v1430, v1630, b2230⟩ := z
   refine DT.one 8 rfl (by kernel_rfl) rfl ?_
   refine SP.have (fun w2 hw => slO.shape (St.own 1 rfl see.sub see.dj hw)) (fun hs_v1630 => ?_)
   refine SP.val (Val.buildC (us := [(0, .agg #[v_m_0_Globals, v_m_0_Pool, v_m_0_Methods, .int .i64 m_0.Migrate]), (1, .agg #[v12, v14, .int .u8 x11.Result, .bool x11.Reads, .int .i64 x11.Fuel, .int .i64 x11.Stack, .int .i64 x11.Heap, v16]), (2, v1630)]) (ucs := [(0, [v_m_0_Globals, v_m_0_Pool, v_m_0_Methods, .int .i64 m_0.Migrate]), (1, [v12, v14, .int .u8 x11.Result, .bool x11.Reads, .int .i64 x11.Fuel, .int .i64 x11.Stack, .int .i64 x11.Heap, v16]), (2, [v1630])]) (cs := ([v_m_0_Globals, v_m_0_Pool, v_m_0_Methods, .int .i64 m_0.Migrate, v12, v14, .int .u8 x11.Result, .bool x11.Reads, .int .i64 x11.Fuel, .int .i64 x11.Stack, .int .i64 x11.Heap, v16, v1630] ++ zz200_2384)) bt67 rfl rfl ⟨rfl, rfl, ⟨rfl, rfl, ⟨rfl, one_cells hs_v1630, trivial⟩⟩⟩ (by rfl)) rfl rfl rfl ?_
   refine go ?_
   refine QE.atT (fun w2 hw => (St.selO [3, 4] rfl rfl hw)) ?_
   refine DT.list (l2 := #[true, true, true, true, true, true, true, true, true, false, true, false]) (by kernel_rfl) ?_
   exact DT.weak (by exact ⟨rfl, rfl, rfl, trivial⟩) (by exact fun w2 hw => hw) (J2875 (v1430, v1630, b2230))
  refine DT.cut (ι := Value × Value) (fun z => [(6, .pointer (some ⟨b18, 0, none⟩)), (33, .agg #[v_m_0_Globals, v_m_0_Pool, v_m_0_Methods, .int .i64 m_0.Migrate]), (34, .agg #[v12, v14, .int .u8 x11.Result, .bool x11.Reads, .int .i64 x11.Fuel, .int .i64 x11.Stack, .int .i64 x11.Heap, v16]), (40, z.2)]) (fun z w2 => St w em hV [slP (kInt .u8) v12 x11.Args, slP (kInt .u8) v14 x11.Locals, slP k_api_Instr v16 x11.Code, elP k_api_Method p9 x11, slP k_api_Value v_m_0_Globals m_0.Globals, slP k_api_Value v_m_0_Pool m_0.Pool, slP k_api_Method v_m_0_Methods m_0.Methods, arrP k_arr136 0 tab0] [slO (kInt .u8) 5 z.2 t1828, slO (kSl (kInt .u8)) 38 z.1 [x11.Args, x11.Locals], boxO b18 [v12, v14, .int .u8 x11.Result, .bool x11.Reads, .int .i64 x11.Fuel, .int .i64 x11.Stack, .int .i64 x11.Heap, v16] 48, boxO b4 [v_m_0_Globals, v_m_0_Pool, v_m_0_Methods, .int .i64 m_0.Migrate] 25] w2) 4 #[true, true, true, true, true, true, true, true, false, false, false, false] (fun z => ?_) (fun J2884 => ?_)
  ·obtain ⟨v1430, v1630⟩ := z
   refine DT.any 8 [10] (by kernel_rfl) ⟨⟨_, rfl, rfl, ?_⟩, ⟨_, rfl, rfl, ?_⟩, trivial⟩
   ·refine SP.have (fun w2 hw => slO.shape (St.own 0 rfl see.sub see.dj hw)) (fun hs_v1630 => ?_)
    refine SP.val (Val.buildC (us := [(0, .agg #[v_m_0_Globals, v_m_0_Pool, v_m_0_Methods, .int .i64 m_0.Migrate]), (1, .agg #[v12, v14, .int .u8 x11.Result, .bool x11.Reads, .int .i64 x11.Fuel, .int .i64 x11.Stack, .int .i64 x11.Heap, v16]), (2, v1630)]) (ucs := [(0, [v_m_0_Globals, v_m_0_Pool, v_m_0_Methods, .int .i64 m_0.Migrate]), (1, [v12, v14, .int .u8 x11.Result, .bool x11.Reads, .int .i64 x11.Fuel, .int .i64 x11.Stack, .int .i64 x11.Heap, v16]), (2, [v1630])]) (cs := ([v_m_0_Globals, v_m_0_Pool, v_m_0_Methods, .int .i64 m_0.Migrate, v12, v14, .int .u8 x11.Result, .bool x11.Reads, .int .i64 x11.Fuel, .int .i64 x11.Stack, .int .i64 x11.Heap, v16, v1630] ++ zz200_2384)) bt67 rfl rfl ⟨rfl, rfl, ⟨rfl, rfl, ⟨rfl, one_cells hs_v1630, trivial⟩⟩⟩ (by rfl)) rfl rfl rfl ?_
    refine go ?_
    refine QE.atT (fun w2 hw => (St.selO [2, 3] rfl rfl hw)) ?_
    refine DT.list (l2 := #[true, true, true, true, true, true, true, true, true, false, false, false]) (by kernel_rfl) ?_
    exact DT.weak (by exact ⟨rfl, rfl, trivial⟩) (by exact fun w2 hw => hw) (J2876 (v1430, v1630))
   refine SP.alloc (cs := [.pointer none]) inf63 rfl rfl (fun b2230 => ?_)
   refine go ?_
   refine QE.atT (fun w2 hw => (St.selO [3, 4] rfl rfl hw)) ?_
   refine DT.list (l2 := #[true, true, true, true, true, true, true, true, false, false, true, false]) (by kernel_rfl) ?_
   exact DT.weak (by exact ⟨rfl, rfl, rfl, rfl, rfl, trivial⟩) (by exact fun w2 hw => hw) (J2881 (v1430, v1630, b2230))
  refine DT.cut (ι := Value × Nat) (fun z => [(6, .pointer (some ⟨b18, 0, none⟩)), (8, .pointer (some ⟨z.2, 0, none⟩)), (33, .agg #[v_m_0_Globals, v_m_0_Pool, v_m_0_Methods, .int .i64 m_0.Migrate]), (34, .agg #[v12, v14, .int .u8 x11.Result, .bool x11.Reads, .int .i64 x11.Fuel, .int .i64 x11.Stack, .int .i64 x11.Heap, v16]), (39, z.1)]) (fun z w2 => St w em hV [slP (kInt .u8) v12 x11.Args, slP (kInt .u8) v14 x11.Locals, slP k_api_Instr v16 x11.Code, elP k_api_Method p9 x11, slP k_api_Value v_m_0_Globals m_0.Globals, slP k_api_Value v_m_0_Pool m_0.Pool, slP k_api_Method v_m_0_Methods m_0.Methods, arrP k_arr136 0 tab0] [boxO z.2 [.pointer none] 63, slO (kSl (kInt .u8)) 38 z.1 [x11.Args, x11.Locals], boxO b18 [v12, v14, .int .u8 x11.Result, .bool x11.Reads, .int .i64 x11.Fuel, .int .i64 x11.Stack, .int .i64 x11.Heap, v16] 48, boxO b4 [v_m_0_Globals, v_m_0_Pool, v_m_0_Methods, .int .i64 m_0.Migrate] 25] w2) 4 #[true, true, true, true, true, true, true, false, false, false, true, false] (fun z => ?_) (fun J2889 => ?_)
  ·obtain ⟨v1430, b2230⟩ := z
   refine DT.one 7 rfl (by kernel_rfl) rfl ?_
   refine SP.callKO see (caps := []) _ fn21 rfl rfl rfl rfl (fun w2 hs => slices_Concat_uint8_uint8.ok [x11.Args, x11.Locals] _ _ hc_t1828 w2 (hp w2) (Sub.refl _) (slO.read (St.own 1 rfl see.sub see.dj hs) (Sub.refl _) (Sub.refl _))) (fun v a a2 b ⟨v1630, e, h⟩ => ⟨v1630, e, (Sep.fcons (fun _ => slO.flip (fun _ _ _ _ h => h)) (fun _ => Sep.fnil)) h⟩) (SP.k1 fun v1630 => ?_)
   refine go ?_
   refine QE.atT (fun w2 hw => (St.selO [3, 4] rfl rfl hw)) ?_
   refine DT.list (l2 := #[true, true, true, true, true, true, true, true, false, false, true, false]) (by kernel_rfl) ?_
   exact DT.weak (by exact ⟨rfl, rfl, rfl, rfl, rfl, trivial⟩) (by exact fun w2 hw => (St.selO [1, 0, 2, 3, 4] rfl rfl hw)) (J2881 (v1430, v1630, b2230))
  refine DT.cut (ι := Value) (fun z => [(6, .pointer (some ⟨b18, 0, none⟩)), (33, .agg #[v_m_0_Globals, v_m_0_Pool, v_m_0_Methods, .int .i64 m_0.Migrate]), (34, .agg #[v12, v14, .int .u8 x11.Result, .bool x11.Reads, .int .i64 x11.Fuel, .int .i64 x11.Stack, .int .i64 x11.Heap, v16]), (39, z)]) (fun z w2 => St w em hV [slP (kInt .u8) v12 x11.Args, slP (kInt .u8) v14 x11.Locals, slP k_api_Instr v16 x11.Code, elP k_api_Method p9 x11, slP k_api_Value v_m_0_Globals m_0.Globals, slP k_api_Value v_m_0_Pool m_0.Pool, slP k_api_Method v_m_0_Methods m_0.Methods, arrP k_arr136 0 tab0] [slO (kSl (kInt .u8)) 38 z [x11.Args, x11.Locals], boxO b18 [v12, v14, .int .u8 x11.Result, .bool x11.Reads, .int .i64 x11.Fuel, .int .i64 x11.Stack, .int .i64 x11.Heap, v16] 48, boxO b4 [v_m_0_Globals, v_m_0_Pool, v_m_0_Methods, .int .i64 m_0.Migrate] 25] w2) 5 #[true, true, true, true, true, true, true, false, false, false, false, false] (fun z => ?_) (fun J2890 => ?_)
  ·rename Value => v1430
   refine DT.any 7 [10] (by kernel_rfl) ⟨⟨_, rfl, rfl, ?_⟩, ⟨_, rfl, rfl, ?_⟩, trivial⟩
   ·refine SP.callKO see (caps := []) _ fn21 rfl rfl rfl rfl (fun w2 hs => slices_Concat_uint8_uint8.ok [x11.Args, x11.Locals] _ _ hc_t1828 w2 (hp w2) (Sub.refl _) (slO.read (St.own 0 rfl see.sub see.dj hs) (Sub.refl _) (Sub.refl _))) (fun v a a2 b ⟨v1630, e, h⟩ => ⟨v1630, e, (Sep.fcons (fun _ => slO.flip (fun _ _ _ _ h => h)) (fun _ => Sep.fnil)) h⟩) (SP.k1 fun v1630 => ?_)
    refine go ?_
    refine QE.atT (fun w2 hw => (St.selO [2, 3] rfl rfl hw)) ?_
    refine DT.list (l2 := #[true, true, true, true, true, true, true, true, false, false, false, false]) (by kernel_rfl) ?_
    exact DT.weak (by exact ⟨rfl, rfl, rfl, rfl, trivial⟩) (by exact fun w2 hw => hw) (J2884 (v1430, v1630))
   refine SP.alloc (cs := [.pointer none]) inf63 rfl rfl (fun b2230 => ?_)
   refine go ?_
   refine QE.atT (fun w2 hw => (St.selO [2, 3] rfl rfl hw)) ?_
   refine DT.list (l2 := #[true, true, true, true, true, true, true, false, false, false, true, false]) (by kernel_rfl) ?_
   exact DT.weak (by exact ⟨rfl, rfl, rfl, rfl, rfl, trivial⟩) (by exact fun w2 hw => hw) (J2889 (v1430, b2230))
  refine DT.cut (ι := Nat) (fun z => [(6, .pointer (some ⟨b18, 0, none⟩)), (8, .pointer (some ⟨z, 0, none⟩)), (33, .agg #[v_m_0_Globals, v_m_0_Pool, v_m_0_Methods, .int .i64 m_0.Migrate]), (34, .agg #[v12, v14, .int .u8 x11.Result, .bool x11.Reads, .int .i64 x11.Fuel, .int .i64 x11.Stack, .int .i64 x11.Heap, v16]), (36, v12), (38, v14)]) (fun z w2 => St w em hV [slP (kInt .u8) v12 x11.Args, slP (kInt .u8) v14 x11.Locals, slP k_api_Instr v16 x11.Code, elP k_api_Method p9 x11, slP k_api_Value v_m_0_Globals m_0.Globals, slP k_api_Value v_m_0_Pool m_0.Pool, slP k_api_Method v_m_0_Methods m_0.Methods, arrP k_arr136 0 tab0] [boxO z [.pointer none] 63, boxO b18 [v12, v14, .int .u8 x11.Result, .bool x11.Reads, .int .i64 x11.Fuel, .int .i64 x11.Stack, .int .i64 x11.Heap, v16] 48, boxO b4 [v_m_0_Globals, v_m_0_Pool, v_m_0_Methods, .int .i64 m_0.Migrate] 25] w2) 5 #[true, true, true, true, true, true, false, false, false, false, true, false] (fun z => ?_) (fun J2894 => ?_)
  ·rename Nat => b2230
   refine DT.one 6 rfl (by kernel_rfl) rfl ?_
   refine SP.litS (k := (kSl (kInt .u8))) (xs := [x11.Args, x11.Locals]) (vs := [v12, v14]) Tryz.underlying93 inf38 rfl rfl rfl rfl rfl rfl (fun _ ap => ⟨slR.cells1 (ap.get 0 rfl), slR.cells1 (ap.get 1 rfl), trivial⟩) (fun _ ap => ⟨[v12], _, rfl, ⟨_, rfl, ap.get 0 rfl⟩, ⟨[v14], _, rfl, ⟨_, rfl, ap.get 1 rfl⟩, rfl⟩⟩) rfl rfl rfl (fun v1430 => ?_)
   refine go ?_
   refine QE.atT (fun w2 hw => (St.selO [2, 3] rfl rfl hw)) ?_
   refine DT.list (l2 := #[true, true, true, true, true, true, true, false, false, false, true, false]) (by kernel_rfl) ?_
   exact DT.weak (by exact ⟨rfl, rfl, rfl, rfl, rfl, trivial⟩) (by exact fun w2 hw => (St.selO [1, 0, 2, 3] rfl rfl hw)) (J2889 (v1430, b2230))
  refine DT.any 6 [10] (by kernel_rfl) ⟨⟨_, rfl, rfl, ?_⟩, ⟨_, rfl, rfl, ?_⟩, trivial⟩
  ·refine SP.litS (k := (kSl (kInt .u8))) (xs := [x11.Args, x11.Locals]) (vs := [v12, v14]) Tryz.underlying93 inf38 rfl rfl rfl rfl rfl rfl (fun _ ap => ⟨slR.cells1 (ap.get 0 rfl), slR.cells1 (ap.get 1 rfl), trivial⟩) (fun _ ap => ⟨[v12], _, rfl, ⟨_, rfl, ap.get 0 rfl⟩, ⟨[v14], _, rfl, ⟨_, rfl, ap.get 1 rfl⟩, rfl⟩⟩) rfl rfl rfl (fun v1430 => ?_)
   refine go ?_
   refine QE.atT (fun w2 hw => (St.selO [1, 2] rfl rfl hw)) ?_
   refine DT.list (l2 := #[true, true, true, true, true, true, true, false, false, false, false, false]) (by kernel_rfl) ?_
   exact DT.weak (by exact ⟨rfl, rfl, rfl, rfl, trivial⟩) (by exact fun w2 hw => hw) (J2890 v1430)
  refine SP.alloc (cs := [.pointer none]) inf63 rfl rfl (fun b2230 => ?_)
  refine go ?_
  refine QE.atT (fun w2 hw => (St.selO [1, 2] rfl rfl hw)) ?_
  refine DT.list (l2 := #[true, true, true, true, true, true, false, false, false, false, true, false]) (by kernel_rfl) ?_
  exact DT.weak (by exact ⟨rfl, rfl, rfl, rfl, rfl, rfl, trivial⟩) (by exact fun w2 hw => hw) (J2894 b2230)
 refine SP.bb 15 (fun hq7 => ?_) fun hq7 => ?_
 ·refine go ?_
  exact QE.jb (or_t hq7) fun w2 hw => hw
 refine go ?_
 exact QE.jb (or_f hq7 rfl) fun w2 hw => hw
/-! ### capstan/types.Check: function 8 -/
def types_Check.f (m_0 : api_Module) (k_1 : Int) : Option Int :=
  (types_Rows.f m_0 k_1).bind fun t6 => some t6.2
theorem types_Check.ok (m_0 : api_Module) (k_1 : Int) (v_m_0_Globals v_m_0_Pool v_m_0_Methods : Value)  (r : Int) (H : types_Check.f m_0 k_1 = some r) (w : World) (hV : Hp) (sV : Sub hV (hp w)) (h0 : slR k_api_Value hV v_m_0_Globals m_0.Globals) (h1 : slR k_api_Value hV v_m_0_Pool m_0.Pool) (h2 : slR k_api_Method hV v_m_0_Methods m_0.Methods) (h3 : (arrP k_arr136 0 tab0).p hV) :
    Trip Tryz.prog 8 [.agg #[v_m_0_Globals, v_m_0_Pool, v_m_0_Methods, .int .i64 m_0.Migrate], .int .i64 k_1].toArray em hV w (fun v => HO.pure (v = .int .i64 r)) := by
 have see : Sees w em hV := ⟨sV, Dj.em_right _⟩
 refine Trip.of (P := Tryz.prog) (n := ⟨14, []⟩) Tryz.func8 rfl ⟨rfl, rfl⟩ rfl (St.begin (aS h0 (aS h1 (aS h2 (All.cons (x := arrP k_arr136 0 tab0) h3 (All.nil _)))))) ?_
 have ho := H
 refine go ?_
 refine SP.box (cs := [v_m_0_Globals, v_m_0_Pool, v_m_0_Methods, .int .i64 m_0.Migrate]) rfl rfl rfl rfl (fun b4 => ?_)
 refine go ?_
 refine SP.val (Val.loadA 0 rfl Tryz.underlying25 rfl sz25 rfl rfl rfl) rfl rfl rfl ?_
 refine go ?_
 obtain ⟨t6, hc, ho⟩ := bind_some (x := types_Rows.f m_0 k_1) ho
 refine SP.callK see (caps := []) _ fn7 rfl rfl rfl rfl (fun w2 hP hs sub ap => types_Rows.ok _ _ _ _ _ _ hc w2 hP sub (ap.get 0 rfl) (ap.get 1 rfl) (ap.get 2 rfl) (ap.get 3 rfl)) (SP.k1 fun v7 => ?_)
 clear hc
 refine go ?_
 obtain rfl := Option.some.inj ho
 exact QE.rt fun _ h => h
/-! ### capstan/types.Height: function 9 -/
inductive types_Height.S where
  | start
  | l1 (x10 : Int) (x11 : Int)

def types_Height.F (rows_0 : (List types_Row)) : types_Height.S → Option (types_Height.S ⊕ Int)
  | .start => some (.inl (.l1 0 0))
  | .l1 x10 x11 => if x11 < (rows_0.length : Int) then ((elt rows_0 x11).bind fun x15 => some (.inl (.l1 (if (x15.Kinds.length : Int) > x10 then (x15.Kinds.length : Int) else x10) (IntKind.i64.wrap (x11 + 1))))) else (some (.inr x10))

def types_Height.f (rows_0 : (List types_Row)) : Option Int := runF (types_Height.F rows_0) .start
theorem types_Height.ok (rows_0 : (List types_Row)) (v_rows_0 : Value) (r : Int) (H : types_Height.f rows_0 = some r) (w : World) (hV : Hp) (sV : Sub hV (hp w)) (h0 : slR k_types_Row hV v_rows_0 rows_0) :
    Trip Tryz.prog 9 [v_rows_0].toArray em hV w (fun v => HO.pure (v = .int .i64 r)) := by
 have see : Sees w em hV := ⟨sV, Dj.em_right _⟩
 refine Trip.of (P := Tryz.prog) (n := ⟨19, []⟩) Tryz.func9 rfl ⟨rfl, rfl⟩ rfl (St.begin (aS h0 (All.nil _))) ?_
 obtain ⟨n0, hi⟩ := runF_iff.1 H
 obtain ⟨m0, o, hm0, ho, hr⟩ := iter_some hi
 clear hi
 refine go ?_
 refine CP.seq ?_
 refine go ?_
 obtain rfl := Option.some.inj ho
 refine CP.loop (fun cl1 a w2 => ∃ x10 : Int, ∃ x11 : Int, cl1 ≤ m0 ∧ iter (types_Height.F rows_0) cl1 (.l1 x10 x11) = some r ∧ Env ⟨19, []⟩ [(3, .int .i64 x10), (6, v_rows_0), (7, .int .i64 (rows_0.length : Int)), (8, .int .i64 x11)] a ∧ St w em hV [slP k_types_Row v_rows_0 rows_0] [] w2) m0 (fun a w2 ha hw => ⟨0, 0, Nat.le_refl _, hr, ha.sub sb, hw⟩) ?_
 clear hr
 rintro cl1 a w2 ⟨x10, x11, hc_l1, hi, ha, hw⟩
 obtain ⟨m12, o, hm_m12, ho, hr⟩ := iter_some hi
 refine CP.app ha hw ?_
 clear ha hw a w2 hi
 refine go ?_
 refine CP.seq ?_
 refine CP.ci ho (fun ho => ?_) fun ho => ?_
 ·refine go ?_
  refine CP.seq ?_
  refine go ?_
  obtain ⟨x15, hx, ho⟩ := elt_bind ho
  refine SP.indexP see 0 rfl Tryz.underlying31 sz40 hx.1 hx.2 rfl rfl rfl rfl (fun p13 => ?_)
  clear hx
  refine k_types_Row.load see 0 rfl Tryz.underlying40 rfl sz40 rfl rfl rfl (fun v16 => ?_)
  refine SP.alloc (cs := [.bool false, (.slice none 0 0)]) inf40 rfl rfl (fun b18 => ?_)
  refine SP.have (fun w2 hw => slR.shape (St.pers 0 rfl see.sub see.dj hw)) (fun hs_v16 => ?_)
  refine SP.store (v := .agg #[.bool x15.Reached, v16]) (vs := [.bool x15.Reached, v16]) 0 (by rfl) sz40 (by rfl) (by rfl) (by rfl) (by rfl) (one_cons rfl (one_cons hs_v16 (rfl))) (by rfl) ?_
  refine go ?_
  refine SP.val (Val.max2 rfl rfl) rfl rfl rfl ?_
  refine go ?_
  obtain rfl := Option.some.inj ho
  exact QE.lower m12 (by omega) fun a w2 ha hw => ⟨(if (x15.Kinds.length : Int) > x10 then (x15.Kinds.length : Int) else x10), (IntKind.i64.wrap (x11 + 1)), (by omega), hr, ha.sub sb, (St.selP [2] rfl (St.selO [] rfl rfl hw))⟩
 refine go ?_
 obtain rfl := fin ho hr
 exact QE.rt fun _ h => h
/-! ### capstan/capstanref10.Height: function 10 -/
inductive capstanref10_Height.S where
  | start
  | l1 (x19 : Int) (x20 : Int)

def capstanref10_Height.j1 (rows_0 : (List capstanref10_Row)) (x20 : Int) (x36 : Int) : Option (capstanref10_Height.S ⊕ Int) :=
  some (.inl (.l1 x36 (IntKind.i64.wrap (x20 + 1))))

def capstanref10_Height.F (rows_0 : (List capstanref10_Row)) : capstanref10_Height.S → Option (capstanref10_Height.S ⊕ Int)
  | .start => some (.inl (.l1 0 0))
  | .l1 x19 x20 => if x20 < (rows_0.length : Int) then ((elt rows_0 x20).bind fun x24 => if (x24.Kinds.length : Int) > x19 then ((elt rows_0 x20).bind fun x31 => capstanref10_Height.j1 rows_0 x20 (x31.Kinds.length : Int)) else (capstanref10_Height.j1 rows_0 x20 x19)) else (some (.inr x19))

def capstanref10_Height.f (rows_0 : (List capstanref10_Row)) : Option Int := runF (capstanref10_Height.F rows_0) .start
theorem capstanref10_Height.ok (rows_0 : (List capstanref10_Row)) (v_rows_0 : Value) (r : Int) (H : capstanref10_Height.f rows_0 = some r) (w : World) (hV : Hp) (sV : Sub hV (hp w)) (h0 : slR k_capstanref10_Row hV v_rows_0 rows_0) :
    Trip Tryz.prog 10 [v_rows_0].toArray em hV w (fun v => HO.pure (v = .int .i64 r)) := by
 have see : Sees w em hV := ⟨sV, Dj.em_right _⟩
 refine Trip.of (P := Tryz.prog) (n := ⟨26, []⟩) Tryz.func10 rfl ⟨rfl, rfl⟩ rfl (St.begin (aS h0 (All.nil _))) ?_
 obtain ⟨n0, hi⟩ := runF_iff.1 H
 obtain ⟨m0, o, hm0, ho, hr⟩ := iter_some hi
 clear hi
 refine go ?_
 refine CP.seq ?_
 refine go ?_
 obtain rfl := Option.some.inj ho
 refine CP.loop (fun cl1 a w2 => ∃ x19 : Int, ∃ x20 : Int, cl1 ≤ m0 ∧ iter (capstanref10_Height.F rows_0) cl1 (.l1 x19 x20) = some r ∧ Env ⟨26, []⟩ [(0, v_rows_0), (3, .int .i64 x19), (4, .int .i64 x20)] a ∧ St w em hV [slP k_capstanref10_Row v_rows_0 rows_0] [] w2) m0 (fun a w2 ha hw => ⟨0, 0, Nat.le_refl _, hr, ha.sub sb, hw⟩) ?_
 clear hr
 rintro cl1 a w2 ⟨x19, x20, hc_l1, hi, ha, hw⟩
 obtain ⟨m21, o, hm_m21, ho, hr⟩ := iter_some hi
 refine CP.app ha hw ?_
 clear ha hw a w2 hi
 refine CP.seq ?_
 refine go ?_
 refine CP.ci ho (fun ho => ?_) fun ho => ?_
 ·refine go ?_
  refine CP.join (fun a w2 => ∃ x36 : Int, ∃ (m37 : Nat) (o : (capstanref10_Height.S ⊕ Int)), m37 ≤ m21 ∧ capstanref10_Height.j1 rows_0 x20 x36 = some o ∧ next (capstanref10_Height.F rows_0) m37 o = some r ∧ Env ⟨26, []⟩ [(0, v_rows_0), (3, .int .i64 x36), (4, .int .i64 x20)] a ∧ St w em hV [slP k_capstanref10_Row v_rows_0 rows_0] [] w2) ?_ ?_
  ·rintro a w2 ⟨x36, m37, o, hm_m37, ho, hr, ha, hw⟩
   refine CP.app ha hw ?_
   clear ha hw a w2
   refine go ?_
   obtain rfl := Option.some.inj ho
   exact QE.lower m37 (by omega) fun a w2 ha hw => ⟨x36, (IntKind.i64.wrap (x20 + 1)), (by omega), hr, ha.sub sb, hw⟩
  refine go ?_
  obtain ⟨x24, hx, ho⟩ := elt_bind ho
  refine SP.indexP see 0 rfl Tryz.underlying28 sz41 hx.1 hx.2 rfl rfl rfl rfl (fun p22 => ?_)
  clear hx
  refine SP.fieldP see 0 rfl Tryz.underlying41 rfl sz38 k_capstanref10_Row.part_Kinds rfl rfl rfl (fun p25 => ?_)
  refine SP.loadPS see 0 rfl Tryz.underlying38 rfl rfl rfl (fun v27 => ?_)
  refine go ?_
  refine CP.ci ho (fun ho => ?_) fun ho => ?_
  ·refine go ?_
   obtain ⟨x31, hx, ho⟩ := elt_bind ho
   refine SP.indexP see 3 rfl Tryz.underlying28 sz41 hx.1 hx.2 rfl rfl rfl rfl (fun p29 => ?_)
   clear hx
   refine SP.fieldP see 0 rfl Tryz.underlying41 rfl sz38 k_capstanref10_Row.part_Kinds rfl rfl rfl (fun p32 => ?_)
   refine SP.loadPS see 0 rfl Tryz.underlying38 rfl rfl rfl (fun v34 => ?_)
   refine go ?_
   exact QE.meet fun a w2 ha hw => ⟨(x31.Kinds.length : Int), m21, _, (by omega), ho, hr, ha.sub sb, (St.selP [6] rfl hw)⟩
  refine go ?_
  exact QE.meet fun a w2 ha hw => ⟨x19, m21, _, (by omega), ho, hr, ha.sub sb, (St.selP [3] rfl hw)⟩
 refine go ?_
 obtain rfl := fin ho hr
 exact QE.rt fun _ h => h
/-! ### capstan/capstanref03.Same: function 28 -/
inductive capstanref03_Same.S where
  | start
  | l1 (x12 : Int)

def capstanref03_Same.F (a_0 : (List api_Value)) (b_1 : (List api_Value)) : capstanref03_Same.S → Option (capstanref03_Same.S ⊕ Bool)
  | .start => if (a_0.length : Int) ≠ (b_1.length : Int) then (some (.inr false)) else (some (.inl (.l1 0)))
  | .l1 x12 => if x12 < (a_0.length : Int) then ((elt a_0 x12).bind fun x16 => (elt b_1 x12).bind fun x20 => if (!(x16.Kind == x20.Kind && (x16.A == x20.A && (x16.B == x20.B)))) = true then (some (.inr false)) else (some (.inl (.l1 (IntKind.i64.wrap (x12 + 1)))))) else (some (.inr true))

def capstanref03_Same.f (a_0 : (List api_Value)) (b_1 : (List api_Value)) : Option Bool := runF (capstanref03_Same.F a_0 b_1) .start
theorem capstanref03_Same.ok (a_0 : (List api_Value)) (b_1 : (List api_Value)) (v_a_0 v_b_1 : Value) (r : Bool) (H : capstanref03_Same.f a_0 b_1 = some r) (w : World) (hV : Hp) (sV : Sub hV (hp w)) (h0 : slR k_api_Value hV v_a_0 a_0) (h1 : slR k_api_Value hV v_b_1 b_1) :
    Trip Tryz.prog 28 [v_a_0, v_b_1].toArray em hV w (fun v => HO.pure (v = .bool r)) := by
 have see : Sees w em hV := ⟨sV, Dj.em_right _⟩
 refine Trip.of (P := Tryz.prog) (n := ⟨26, []⟩) Tryz.func28 rfl ⟨rfl, rfl⟩ rfl (St.begin (aS h0 (aS h1 (All.nil _)))) ?_
 obtain ⟨n0, hi⟩ := runF_iff.1 H
 obtain ⟨m0, o, hm0, ho, hr⟩ := iter_some hi
 clear hi
 refine go ?_
 refine CP.seq ?_
 refine go ?_
 refine CP.ci ho (fun ho => ?_) fun ho => ?_
 ·refine go ?_
  obtain rfl := fin ho hr
  exact QE.rt fun _ h => h
 refine go ?_
 refine CP.seq ?_
 refine go ?_
 obtain rfl := Option.some.inj ho
 refine CP.loop (fun cl1 a w2 => ∃ x12 : Int, cl1 ≤ m0 ∧ iter (capstanref03_Same.F a_0 b_1) cl1 (.l1 x12) = some r ∧ Env ⟨26, []⟩ [(0, v_a_0), (1, v_b_1), (5, .int .i64 x12)] a ∧ St w em hV [slP k_api_Value v_a_0 a_0, slP k_api_Value v_b_1 b_1] [] w2) m0 (fun a w2 ha hw => ⟨0, Nat.le_refl _, hr, ha.sub sb, hw⟩) ?_
 clear hr
 rintro cl1 a w2 ⟨x12, hc_l1, hi, ha, hw⟩
 obtain ⟨m13, o, hm_m13, ho, hr⟩ := iter_some hi
 refine CP.app ha hw ?_
 clear ha hw a w2 hi
 refine CP.seq ?_
 refine go ?_
 refine CP.ci ho (fun ho => ?_) fun ho => ?_
 ·refine go ?_
  refine CP.seq ?_
  refine go ?_
  refine CP.seq ?_
  refine CP.drawA (by kernel_rfl) (fun w2 k h => h.drawn k) ?_
  obtain ⟨x16, hx, ho⟩ := elt_bind ho
  refine DA.ghost (fun w2 h => h.elem see 0 rfl hx.1 hx.2) (fun p14 h_p14 => ?_)
  clear hx
  refine DA.ghost (fun w2 h => h.openE see 0 rfl (fun _ : Unit => [.int .u8 x16.Kind, .int .i64 x16.A, .int .i64 x16.B]) (fun _ => []) (fun h cs e => ⟨(), e, All.nil _⟩)) (fun _ _ => ?_)
  obtain ⟨x20, hx, ho⟩ := elt_bind ho
  refine DA.ghost (fun w2 h => h.elem see 3 rfl hx.1 hx.2) (fun p18 h_p18 => ?_)
  clear hx
  refine DA.ghost (fun w2 h => h.openE see 0 rfl (fun _ : Unit => [.int .u8 x20.Kind, .int .i64 x20.A, .int .i64 x20.B]) (fun _ => []) (fun h cs e => ⟨(), e, All.nil _⟩)) (fun _ _ => ?_)
  refine DA.ph 0 8 ?_
  refine DT.tk 0 ?_
  refine DT.tk 1 ?_
  refine DT.tv 2 rfl (Val.indexE h_p14 Tryz.underlying22 sz84 rfl rfl) ?_
  refine DT.tv 3 rfl (Val.loadAtA see 2 rfl Tryz.underlying84 rfl sz84 rfl) ?_
  refine DT.tk 4 ?_
  refine DT.tk 5 ?_
  refine DT.tv 6 rfl (Val.indexE h_p18 Tryz.underlying22 sz84 rfl rfl) ?_
  refine DT.tv 7 rfl (Val.loadAtA see 0 rfl Tryz.underlying84 rfl sz84 rfl) ?_
  refine DT.next (by kernel_rfl) ?_
  refine DA.one 8 rfl (by kernel_rfl) ?_
  refine SP.val (Val.neqA (by kernel_rfl) (fun w2 => eqA84 9998 w2 x16.Kind x20.Kind x16.A x20.A x16.B x20.B) rfl rfl) rfl rfl rfl ?_
  refine go ?_
  refine QE.atA ?_
  refine DA.done (by kernel_rfl) ?_
  refine go ?_
  refine CP.cb ho (fun ho => ?_) fun ho => ?_
  ·refine go ?_
   obtain rfl := fin ho hr
   exact QE.rt fun _ h => h
  refine go ?_
  obtain rfl := Option.some.inj ho
  exact QE.lower m13 (by omega) fun a w2 ha hw => ⟨(IntKind.i64.wrap (x12 + 1)), (by omega), hr, ha.sub sb, (St.selP [4, 5] rfl hw)⟩
 refine go ?_
 obtain rfl := fin ho hr
 exact QE.rt fun _ h => h
/-! ### capstan/capstanref07.Same: function 29 -/
def capstanref07_Same.f (a_0 : api_Method) (b_1 : api_Method) : Option Bool :=
  (capstanref07_SameKinds.f a_0.Args b_1.Args).bind fun t11 => (if t11 = true then ((capstanref07_SameKinds.f a_0.Locals b_1.Locals).bind fun t14 => some t14) else (some false)).bind fun t15 => some (((((t15 && (decide (a_0.Result = b_1.Result))) && (a_0.Reads == b_1.Reads)) && (decide (a_0.Fuel = b_1.Fuel))) && (decide (a_0.Stack = b_1.Stack))) && (decide (a_0.Heap = b_1.Heap)))
theorem capstanref07_Same.ok (a_0 : api_Method) (b_1 : api_Method) (v_a_0_Args v_a_0_Locals : Value) (v_a_0_Code v_b_1_Args : Value) (v_b_1_Locals v_b_1_Code : Value) (r : Bool) (H : capstanref07_Same.f a_0 b_1 = some r) (w : World) (hV : Hp) (sV : Sub hV (hp w)) (h0 : slR (kInt .u8) hV v_a_0_Args a_0.Args) (h1 : slR (kInt .u8) hV v_a_0_Locals a_0.Locals) (h2 : slR k_api_Instr hV v_a_0_Code a_0.Code) (h3 : slR (kInt .u8) hV v_b_1_Args b_1.Args) (h4 : slR (kInt .u8) hV v_b_1_Locals b_1.Locals) (h5 : slR k_api_Instr hV v_b_1_Code b_1.Code) :
    Trip Tryz.prog 29 [.agg #[v_a_0_Args, v_a_0_Locals, .int .u8 a_0.Result, .bool a_0.Reads, .int .i64 a_0.Fuel, .int .i64 a_0.Stack, .int .i64 a_0.Heap, v_a_0_Code], .agg #[v_b_1_Args, v_b_1_Locals, .int .u8 b_1.Result, .bool b_1.Reads, .int .i64 b_1.Fuel, .int .i64 b_1.Stack, .int .i64 b_1.Heap, v_b_1_Code]].toArray em hV w (fun v => HO.pure (v = .bool r)) := by
 have see : Sees w em hV := ⟨sV, Dj.em_right _⟩
 refine Trip.of (P := Tryz.prog) (n := ⟨52, []⟩) Tryz.func29 rfl ⟨rfl, rfl⟩ rfl (St.begin (aS h0 (aS h1 (aS h2 (aS h3 (aS h4 (aS h5 (All.nil _)))))))) ?_
 have ho := H
 refine go ?_
 refine SP.box (cs := [v_a_0_Args, v_a_0_Locals, .int .u8 a_0.Result, .bool a_0.Reads, .int .i64 a_0.Fuel, .int .i64 a_0.Stack, .int .i64 a_0.Heap, v_a_0_Code]) rfl rfl rfl rfl (fun b7 => ?_)
 refine SP.box (cs := [v_b_1_Args, v_b_1_Locals, .int .u8 b_1.Result, .bool b_1.Reads, .int .i64 b_1.Fuel, .int .i64 b_1.Stack, .int .i64 b_1.Heap, v_b_1_Code]) rfl rfl rfl rfl (fun b9 => ?_)
 refine go ?_
 obtain ⟨t11, hc, ho⟩ := bind_some (x := capstanref07_SameKinds.f a_0.Args b_1.Args) ho
 refine SP.callV see (caps := []) (.bool t11) fn11 rfl rfl rfl rfl (fun w2 hP hs sub ap => capstanref07_SameKinds.ok _ _ _ _ _ hc w2 hP sub (ap.get 0 rfl) (ap.get 3 rfl)) ?_
 clear hc
 refine go ?_
 obtain ⟨t15, hg_t15, ho⟩ := bind_some ho
 refine SP.jn 6 [2, 3] 16 (.bool t15) ?_ ?_
 ·clear hg_t15
  refine go ?_
  refine SP.jn 6 [2, 3] 23 (.bool (t15 && (decide (a_0.Result = b_1.Result)))) ?_ ?_
  ·refine go ?_
   refine SP.jn 6 [2, 3] 30 (.bool ((t15 && (decide (a_0.Result = b_1.Result))) && (a_0.Reads == b_1.Reads))) ?_ ?_
   ·refine go ?_
    refine SP.jn 6 [2, 3] 37 (.bool (((t15 && (decide (a_0.Result = b_1.Result))) && (a_0.Reads == b_1.Reads)) && (decide (a_0.Fuel = b_1.Fuel)))) ?_ ?_
    ·refine go ?_
     refine SP.jn 6 [2, 3] 44 (.bool ((((t15 && (decide (a_0.Result = b_1.Result))) && (a_0.Reads == b_1.Reads)) && (decide (a_0.Fuel = b_1.Fuel))) && (decide (a_0.Stack = b_1.Stack)))) ?_ ?_
     ·refine go ?_
      refine SP.jn 6 [] 51 (.bool (((((t15 && (decide (a_0.Result = b_1.Result))) && (a_0.Reads == b_1.Reads)) && (decide (a_0.Fuel = b_1.Fuel))) && (decide (a_0.Stack = b_1.Stack))) && (decide (a_0.Heap = b_1.Heap)))) ?_ ?_
      ·refine go ?_
       obtain rfl := Option.some.inj ho
       exact QE.rt fun _ h => h
      refine SP.bb 45 (fun hq25 => ?_) fun hq25 => ?_
      ·refine go ?_
       exact QE.jb (and_t hq25 rfl) fun w2 hw => hw
      refine go ?_
      exact QE.jb (and_f hq25) fun w2 hw => hw
     refine SP.bb 38 (fun hq23 => ?_) fun hq23 => ?_
     ·refine go ?_
      exact QE.jb (and_t hq23 rfl) fun w2 hw => hw
     refine go ?_
     exact QE.jb (and_f hq23) fun w2 hw => hw
    refine SP.bb 31 (fun hq21 => ?_) fun hq21 => ?_
    ·refine go ?_
     exact QE.jb (and_t hq21 rfl) fun w2 hw => hw
    refine go ?_
    exact QE.jb (and_f hq21) fun w2 hw => hw
   refine SP.bb 24 (fun hq19 => ?_) fun hq19 => ?_
   ·refine go ?_
    refine SP.val (Val.eqlB Tryz.underlying4 rfl rfl) rfl rfl rfl ?_
    refine go ?_
    exact QE.jb (and_t hq19 rfl) fun w2 hw => hw
   refine go ?_
   exact QE.jb (and_f hq19) fun w2 hw => hw
  refine SP.bb 17 (fun hq17 => ?_) fun hq17 => ?_
  ·refine go ?_
   exact QE.jb (and_t hq17 rfl) fun w2 hw => hw
  refine go ?_
  exact QE.jb (and_f hq17) fun w2 hw => hw
 refine SP.cb 10 hg_t15 (fun hq13 ho => ?_) fun hq13 ho => ?_
 ·refine go ?_
  obtain ⟨t14, hc, ho⟩ := bind_some (x := capstanref07_SameKinds.f a_0.Locals b_1.Locals) ho
  refine SP.callV see (caps := []) (.bool t14) fn11 rfl rfl rfl rfl (fun w2 hP hs sub ap => capstanref07_SameKinds.ok _ _ _ _ _ hc w2 hP sub (ap.get 1 rfl) (ap.get 4 rfl)) ?_
  clear hc
  refine go ?_
  obtain rfl := Option.some.inj ho
  exact QE.jn fun w2 hw => hw
 refine go ?_
 obtain rfl := Option.some.inj ho
 exact QE.jn fun w2 hw => hw
/-! ### capstan/capstanref05.Same: function 30 -/
inductive capstanref05_Same.S where
  | start
  | l1 (x12 : Int)

def capstanref05_Same.F (a_0 : (List api_Instr)) (b_1 : (List api_Instr)) : capstanref05_Same.S → Option (capstanref05_Same.S ⊕ Bool)
  | .start => if (a_0.length : Int) ≠ (b_1.length : Int) then (some (.inr false)) else (some (.inl (.l1 0)))
  | .l1 x12 => if x12 < (a_0.length : Int) then ((elt a_0 x12).bind fun x16 => (elt b_1 x12).bind fun x20 => if (!(x16.Op == x20.Op && (x16.A == x20.A && (x16.B == x20.B)))) = true then (some (.inr false)) else (some (.inl (.l1 (IntKind.i64.wrap (x12 + 1)))))) else (some (.inr true))

def capstanref05_Same.f (a_0 : (List api_Instr)) (b_1 : (List api_Instr)) : Option Bool := runF (capstanref05_Same.F a_0 b_1) .start
theorem capstanref05_Same.ok (a_0 : (List api_Instr)) (b_1 : (List api_Instr)) (v_a_0 v_b_1 : Value) (r : Bool) (H : capstanref05_Same.f a_0 b_1 = some r) (w : World) (hV : Hp) (sV : Sub hV (hp w)) (h0 : slR k_api_Instr hV v_a_0 a_0) (h1 : slR k_api_Instr hV v_b_1 b_1) :
    Trip Tryz.prog 30 [v_a_0, v_b_1].toArray em hV w (fun v => HO.pure (v = .bool r)) := by
 have see : Sees w em hV := ⟨sV, Dj.em_right _⟩
 refine Trip.of (P := Tryz.prog) (n := ⟨26, []⟩) Tryz.func30 rfl ⟨rfl, rfl⟩ rfl (St.begin (aS h0 (aS h1 (All.nil _)))) ?_
 obtain ⟨n0, hi⟩ := runF_iff.1 H
 obtain ⟨m0, o, hm0, ho, hr⟩ := iter_some hi
 clear hi
 refine go ?_
 refine CP.seq ?_
 refine go ?_
 refine CP.ci ho (fun ho => ?_) fun ho => ?_
 ·refine go ?_
  obtain rfl := fin ho hr
  exact QE.rt fun _ h => h
 refine go ?_
 refine CP.seq ?_
 refine go ?_
 obtain rfl := Option.some.inj ho
 refine CP.loop (fun cl1 a w2 => ∃ x12 : Int, cl1 ≤ m0 ∧ iter (capstanref05_Same.F a_0 b_1) cl1 (.l1 x12) = some r ∧ Env ⟨26, []⟩ [(0, v_a_0), (1, v_b_1), (5, .int .i64 x12)] a ∧ St w em hV [slP k_api_Instr v_a_0 a_0, slP k_api_Instr v_b_1 b_1] [] w2) m0 (fun a w2 ha hw => ⟨0, Nat.le_refl _, hr, ha.sub sb, hw⟩) ?_
 clear hr
 rintro cl1 a w2 ⟨x12, hc_l1, hi, ha, hw⟩
 obtain ⟨m13, o, hm_m13, ho, hr⟩ := iter_some hi
 refine CP.app ha hw ?_
 clear ha hw a w2 hi
 refine CP.seq ?_
 refine go ?_
 refine CP.ci ho (fun ho => ?_) fun ho => ?_
 ·refine go ?_
  refine CP.seq ?_
  refine go ?_
  refine CP.seq ?_
  refine CP.drawA (by kernel_rfl) (fun w2 k h => h.drawn k) ?_
  obtain ⟨x16, hx, ho⟩ := elt_bind ho
  refine DA.ghost (fun w2 h => h.elem see 0 rfl hx.1 hx.2) (fun p14 h_p14 => ?_)
  clear hx
  refine DA.ghost (fun w2 h => h.openE see 0 rfl (fun _ : Unit => [.int .u8 x16.Op, .int .i64 x16.A, .int .i64 x16.B]) (fun _ => []) (fun h cs e => ⟨(), e, All.nil _⟩)) (fun _ _ => ?_)
  obtain ⟨x20, hx, ho⟩ := elt_bind ho
  refine DA.ghost (fun w2 h => h.elem see 3 rfl hx.1 hx.2) (fun p18 h_p18 => ?_)
  clear hx
  refine DA.ghost (fun w2 h => h.openE see 0 rfl (fun _ : Unit => [.int .u8 x20.Op, .int .i64 x20.A, .int .i64 x20.B]) (fun _ => []) (fun h cs e => ⟨(), e, All.nil _⟩)) (fun _ _ => ?_)
  refine DA.ph 0 8 ?_
  refine DT.tk 0 ?_
  refine DT.tk 1 ?_
  refine DT.tv 2 rfl (Val.indexE h_p14 Tryz.underlying46 sz56 rfl rfl) ?_
  refine DT.tv 3 rfl (Val.loadAtA see 2 rfl Tryz.underlying56 rfl sz56 rfl) ?_
  refine DT.tk 4 ?_
  refine DT.tk 5 ?_
  refine DT.tv 6 rfl (Val.indexE h_p18 Tryz.underlying46 sz56 rfl rfl) ?_
  refine DT.tv 7 rfl (Val.loadAtA see 0 rfl Tryz.underlying56 rfl sz56 rfl) ?_
  refine DT.next (by kernel_rfl) ?_
  refine DA.one 8 rfl (by kernel_rfl) ?_
  refine SP.val (Val.neqA (by kernel_rfl) (fun w2 => eqA56 9998 w2 x16.Op x20.Op x16.A x20.A x16.B x20.B) rfl rfl) rfl rfl rfl ?_
  refine go ?_
  refine QE.atA ?_
  refine DA.done (by kernel_rfl) ?_
  refine go ?_
  refine CP.cb ho (fun ho => ?_) fun ho => ?_
  ·refine go ?_
   obtain rfl := fin ho hr
   exact QE.rt fun _ h => h
  refine go ?_
  obtain rfl := Option.some.inj ho
  exact QE.lower m13 (by omega) fun a w2 ha hw => ⟨(IntKind.i64.wrap (x12 + 1)), (by omega), hr, ha.sub sb, (St.selP [4, 5] rfl hw)⟩
 refine go ?_
 obtain rfl := fin ho hr
 exact QE.rt fun _ h => h
/-! ### capstan/capstanref08.Same: function 12 -/
inductive capstanref08_Same.S where
  | start
  | l1 (x64 : Int)

def capstanref08_Same.j1 (a_0 : api_Module) (b_1 : api_Module) (x64 : Int) (b106 : Bool) : Option (capstanref08_Same.S ⊕ Bool) :=
  if b106 = true then (some (.inr false)) else (some (.inl (.l1 (IntKind.i64.wrap (x64 + 1)))))

def capstanref08_Same.F (a_0 : api_Module) (b_1 : api_Module) : capstanref08_Same.S → Option (capstanref08_Same.S ⊕ Bool)
  | .start => (if a_0.Migrate ≠ b_1.Migrate then (some true) else ((capstanref03_Same.f a_0.Globals b_1.Globals).bind fun t13 => some (!t13))).bind fun t14 => (if t14 = true then (some true) else ((capstanref03_Same.f a_0.Pool b_1.Pool).bind fun t17 => some (!t17))).bind fun t18 => if (t18 || (decide ((a_0.Methods.length : Int) ≠ (b_1.Methods.length : Int)))) = true then (some (.inr false)) else (some (.inl (.l1 0)))
  | .l1 x64 => if x64 < (a_0.Methods.length : Int) then ((elt a_0.Methods x64).bind fun x68 => (elt b_1.Methods x64).bind fun x78 => (capstanref07_Same.f x68 x78).bind fun t86 => if (!t86) = true then (capstanref08_Same.j1 a_0 b_1 x64 true) else ((elt a_0.Methods x64).bind fun x91 => (elt b_1.Methods x64).bind fun x99 => (capstanref05_Same.f x91.Code x99.Code).bind fun t105 => capstanref08_Same.j1 a_0 b_1 x64 (!t105))) else (some (.inr true))

def capstanref08_Same.f (a_0 : api_Module) (b_1 : api_Module) : Option Bool := runF (capstanref08_Same.F a_0 b_1) .start
theorem capstanref08_Same.ok (a_0 : api_Module) (b_1 : api_Module) (v_a_0_Globals v_a_0_Pool : Value) (v_a_0_Methods v_b_1_Globals : Value) (v_b_1_Pool v_b_1_Methods : Value) (r : Bool) (H : capstanref08_Same.f a_0 b_1 = some r) (w : World) (hV : Hp) (sV : Sub hV (hp w)) (h0 : slR k_api_Value hV v_a_0_Globals a_0.Globals) (h1 : slR k_api_Value hV v_a_0_Pool a_0.Pool) (h2 : slR k_api_Method hV v_a_0_Methods a_0.Methods) (h3 : slR k_api_Value hV v_b_1_Globals b_1.Globals) (h4 : slR k_api_Value hV v_b_1_Pool b_1.Pool) (h5 : slR k_api_Method hV v_b_1_Methods b_1.Methods) :
    Trip Tryz.prog 12 [.agg #[v_a_0_Globals, v_a_0_Pool, v_a_0_Methods, .int .i64 a_0.Migrate], .agg #[v_b_1_Globals, v_b_1_Pool, v_b_1_Methods, .int .i64 b_1.Migrate]].toArray em hV w (fun v => HO.pure (v = .bool r)) := by
 have see : Sees w em hV := ⟨sV, Dj.em_right _⟩
 refine Trip.of (P := Tryz.prog) (n := ⟨71, []⟩) Tryz.func12 rfl ⟨rfl, rfl⟩ rfl (St.begin (aS h0 (aS h1 (aS h2 (aS h3 (aS h4 (aS h5 (All.nil _)))))))) ?_
 obtain ⟨n0, hi⟩ := runF_iff.1 H
 obtain ⟨m0, o, hm0, ho, hr⟩ := iter_some hi
 clear hi
 refine go ?_
 refine SP.box (cs := [v_a_0_Globals, v_a_0_Pool, v_a_0_Methods, .int .i64 a_0.Migrate]) rfl rfl rfl rfl (fun b7 => ?_)
 refine SP.box (cs := [v_b_1_Globals, v_b_1_Pool, v_b_1_Methods, .int .i64 b_1.Migrate]) rfl rfl rfl rfl (fun b9 => ?_)
 refine go ?_
 refine CP.seq ?_
 refine go ?_
 obtain ⟨t14, hg_t14, ho⟩ := bind_some ho
 refine SP.jn 7 [2, 3] 18 (.bool t14) ?_ ?_
 ·clear hg_t14
  refine go ?_
  obtain ⟨t18, hg_t18, ho⟩ := bind_some ho
  refine SP.jn 7 [2, 3] 26 (.bool t18) ?_ ?_
  ·clear hg_t18
   refine go ?_
   refine SP.jn 8 [2, 3] 35 (.bool (t18 || (decide ((a_0.Methods.length : Int) ≠ (b_1.Methods.length : Int))))) ?_ ?_
   ·refine go ?_
    refine CP.cb ho (fun ho => ?_) fun ho => ?_
    ·refine go ?_
     obtain rfl := fin ho hr
     exact QE.rt fun _ h => h
    refine go ?_
    refine CP.seq ?_
    refine go ?_
    obtain rfl := Option.some.inj ho
    refine CP.loop (fun cl1 a w2 => ∃ x64 : Int, cl1 ≤ m0 ∧ iter (capstanref08_Same.F a_0 b_1) cl1 (.l1 x64) = some r ∧ Env ⟨71, []⟩ [(2, .pointer (some ⟨b7, 0, none⟩)), (3, .pointer (some ⟨b9, 0, none⟩)), (5, .int .i64 x64)] a ∧ St w em hV [slP k_api_Value v_a_0_Globals a_0.Globals, slP k_api_Value v_a_0_Pool a_0.Pool, slP k_api_Method v_a_0_Methods a_0.Methods, slP k_api_Value v_b_1_Globals b_1.Globals, slP k_api_Value v_b_1_Pool b_1.Pool, slP k_api_Method v_b_1_Methods b_1.Methods] [boxO b9 [v_b_1_Globals, v_b_1_Pool, v_b_1_Methods, .int .i64 b_1.Migrate] 25, boxO b7 [v_a_0_Globals, v_a_0_Pool, v_a_0_Methods, .int .i64 a_0.Migrate] 25] w2) m0 (fun a w2 ha hw => ⟨0, Nat.le_refl _, hr, ha.sub sb, hw⟩) ?_
    clear hr
    rintro cl1 a w2 ⟨x64, hc_l1, hi, ha, hw⟩
    obtain ⟨m65, o, hm_m65, ho, hr⟩ := iter_some hi
    refine CP.app ha hw ?_
    clear ha hw a w2 hi
    refine CP.seq ?_
    refine go ?_
    refine CP.ci ho (fun ho => ?_) fun ho => ?_
    ·refine go ?_
     refine CP.seq ?_
     refine go ?_
     refine CP.join (fun a w2 => ∃ b106 : Bool, ∃ (m107 : Nat) (o : (capstanref08_Same.S ⊕ Bool)), m107 ≤ m65 ∧ capstanref08_Same.j1 a_0 b_1 x64 b106 = some o ∧ next (capstanref08_Same.F a_0 b_1) m107 o = some r ∧ Env ⟨71, []⟩ [(2, .pointer (some ⟨b7, 0, none⟩)), (3, .pointer (some ⟨b9, 0, none⟩)), (5, .int .i64 x64), (70, .bool b106)] a ∧ St w em hV [slP k_api_Value v_a_0_Globals a_0.Globals, slP k_api_Value v_a_0_Pool a_0.Pool, slP k_api_Method v_a_0_Methods a_0.Methods, slP k_api_Value v_b_1_Globals b_1.Globals, slP k_api_Value v_b_1_Pool b_1.Pool, slP k_api_Method v_b_1_Methods b_1.Methods] [boxO b9 [v_b_1_Globals, v_b_1_Pool, v_b_1_Methods, .int .i64 b_1.Migrate] 25, boxO b7 [v_a_0_Globals, v_a_0_Pool, v_a_0_Methods, .int .i64 a_0.Migrate] 25] w2) ?_ ?_
     ·rintro a w2 ⟨b106, m107, o, hm_m107, ho, hr, ha, hw⟩
      refine CP.app ha hw ?_
      clear ha hw a w2
      refine CP.cb ho (fun ho => ?_) fun ho => ?_
      ·refine go ?_
       obtain rfl := fin ho hr
       exact QE.rt fun _ h => h
      refine go ?_
      obtain rfl := Option.some.inj ho
      exact QE.lower m107 (by omega) fun a w2 ha hw => ⟨(IntKind.i64.wrap (x64 + 1)), (by omega), hr, ha.sub sb, hw⟩
     refine CP.drawA (by kernel_rfl) (fun w2 k h => h.drawn k) ?_
     obtain ⟨x68, hx, ho⟩ := elt_bind ho
     refine DA.ghost (fun w2 h => h.elem see 2 rfl hx.1 hx.2) (fun p66 h_p66 => ?_)
     clear hx
     refine DA.ghost (fun w2 h => h.openE see 0 rfl (fun ((v69, v71, v73) : Value × Value × Value) => [v69, v71, .int .u8 x68.Result, .bool x68.Reads, .int .i64 x68.Fuel, .int .i64 x68.Stack, .int .i64 x68.Heap, v73]) (fun ((v69, v71, v73) : Value × Value × Value) => [slP (kInt .u8) v69 x68.Args, slP (kInt .u8) v71 x68.Locals, slP k_api_Instr v73 x68.Code]) (fun h cs ⟨v69, v71, v73, e, p0, p1, p2⟩ => ⟨(v69, v71, v73), e, All.cons p0 (All.cons p1 (All.cons p2 (All.nil _)))⟩)) (fun z_ _ => ?_)
     obtain ⟨v69, v71, v73⟩ := z_
     obtain ⟨x78, hx, ho⟩ := elt_bind ho
     refine DA.ghost (fun w2 h => h.elem see 10 rfl hx.1 hx.2) (fun p76 h_p76 => ?_)
     clear hx
     refine DA.ghost (fun w2 h => h.openE see 0 rfl (fun ((v79, v81, v83) : Value × Value × Value) => [v79, v81, .int .u8 x78.Result, .bool x78.Reads, .int .i64 x78.Fuel, .int .i64 x78.Stack, .int .i64 x78.Heap, v83]) (fun ((v79, v81, v83) : Value × Value × Value) => [slP (kInt .u8) v79 x78.Args, slP (kInt .u8) v81 x78.Locals, slP k_api_Instr v83 x78.Code]) (fun h cs ⟨v79, v81, v83, e, p0, p1, p2⟩ => ⟨(v79, v81, v83), e, All.cons p0 (All.cons p1 (All.cons p2 (All.nil _)))⟩)) (fun z_ _ => ?_)
     obtain ⟨v79, v81, v83⟩ := z_
     refine DA.ph 0 10 ?_
     refine DT.tk 0 ?_
     refine DT.tk 1 ?_
     refine DT.tk 2 ?_
     refine DT.tv 3 rfl (Val.indexE h_p66 Tryz.underlying23 sz48 rfl rfl) ?_
     refine DT.tv 4 rfl (Val.loadAtA see 5 rfl Tryz.underlying48 rfl sz48 rfl) ?_
     refine DT.tk 5 ?_
     refine DT.tk 6 ?_
     refine DT.tk 7 ?_
     refine DT.tv 8 rfl (Val.indexE h_p76 Tryz.underlying23 sz48 rfl rfl) ?_
     refine DT.tv 9 rfl (Val.loadAtA see 0 rfl Tryz.underlying48 rfl sz48 rfl) ?_
     refine DT.next (by kernel_rfl) ?_
     refine DA.one 10 rfl (by kernel_rfl) ?_
     obtain ⟨t86, hc, ho⟩ := bind_some (x := capstanref07_Same.f x68 x78) ho
     refine SP.callV see (caps := []) (.bool t86) fn29 rfl rfl rfl rfl (fun w2 hP hs sub ap => capstanref07_Same.ok _ _ _ _ _ _ _ _ _ hc w2 hP sub (ap.get 6 rfl) (ap.get 7 rfl) (ap.get 8 rfl) (ap.get 1 rfl) (ap.get 2 rfl) (ap.get 3 rfl)) ?_
     clear hc
     refine go ?_
     refine QE.atA ?_
     refine DA.one 11 rfl (by kernel_rfl) ?_
     refine go ?_
     refine QE.atA ?_
     refine DA.one 12 rfl (by kernel_rfl) ?_
     refine go ?_
     refine QE.atA ?_
     rcases if_some ho with ⟨hc, ho⟩ | ⟨hc, ho⟩
     ·have hg87 := hc
      clear hc
      refine DA.ph 13 25 ?_
      refine DT.is (d := 55) (b := true) rfl hg87 ?_
      refine DT.tn 13 ?_
      refine DT.tn 14 ?_
      refine DT.tn 15 ?_
      refine DT.tn 16 ?_
      refine DT.tn 17 ?_
      refine DT.tn 18 ?_
      refine DT.tn 19 ?_
      refine DT.tn 20 ?_
      refine DT.tn 21 ?_
      refine DT.tn 22 ?_
      refine DT.tn 23 ?_
      refine DT.tn 24 ?_
      refine DT.next (by kernel_rfl) ?_
      refine DA.ph 25 26 ?_
      refine DT.tn 25 ?_
      refine DT.next (by kernel_rfl) ?_
      refine DA.ph 26 27 ?_
      refine DT.tn 26 ?_
      refine DT.next (by kernel_rfl) ?_
      refine DA.one 27 rfl (by kernel_rfl) ?_
      refine go ?_
      refine QE.atA ?_
      refine DA.done (by kernel_rfl) ?_
      exact QE.meet fun a w2 ha hw => ⟨true, m65, _, (by omega), ho, hr, ha.sub sb, (St.selP [10, 11, 12, 13, 14, 15] rfl hw)⟩
     have hg88 := (bf hc)
     clear hc
     obtain ⟨x91, hx, ho⟩ := elt_bind ho
     refine DA.ghost (fun w2 h => h.elem see 12 rfl hx.1 hx.2) (fun p89 h_p89 => ?_)
     clear hx
     refine DA.ghost (fun w2 h => h.fieldE see 0 rfl k_api_Method.part_Code) (fun p92 h_p92 => ?_)
     refine DA.ghost (fun w2 h => h.openE see 0 rfl (fun (v94 : Value) => [v94]) (fun (v94 : Value) => [slP k_api_Instr v94 x91.Code]) (fun h cs ⟨v94, e, p0⟩ => ⟨v94, e, All.cons p0 (All.nil _)⟩)) (fun z_ _ => ?_)
     rename Value => v94
     obtain ⟨x99, hx, ho⟩ := elt_bind ho
     refine DA.ghost (fun w2 h => h.elem see 19 rfl hx.1 hx.2) (fun p97 h_p97 => ?_)
     clear hx
     refine DA.ghost (fun w2 h => h.fieldE see 0 rfl k_api_Method.part_Code) (fun p100 h_p100 => ?_)
     refine DA.ghost (fun w2 h => h.openE see 0 rfl (fun (v102 : Value) => [v102]) (fun (v102 : Value) => [slP k_api_Instr v102 x99.Code]) (fun h cs ⟨v102, e, p0⟩ => ⟨v102, e, All.cons p0 (All.nil _)⟩)) (fun z_ _ => ?_)
     rename Value => v102
     refine DA.ph 13 25 ?_
     refine DT.is (d := 55) (b := false) rfl hg88 ?_
     refine DT.tk 13 ?_
     refine DT.tk 14 ?_
     refine DT.tk 15 ?_
     refine DT.tv 16 rfl (Val.indexE h_p89 Tryz.underlying23 sz48 rfl rfl) ?_
     refine DT.tv 17 rfl (Val.fieldE h_p92 Tryz.underlying48 rfl rfl sz46 rfl) ?_
     refine DT.tv 18 rfl (Val.loadAt1 see 4 rfl Tryz.underlying46 rfl rfl) ?_
     refine DT.tk 19 ?_
     refine DT.tk 20 ?_
     refine DT.tk 21 ?_
     refine DT.tv 22 rfl (Val.indexE h_p97 Tryz.underlying23 sz48 rfl rfl) ?_
     refine DT.tv 23 rfl (Val.fieldE h_p100 Tryz.underlying48 rfl rfl sz46 rfl) ?_
     refine DT.tv 24 rfl (Val.loadAt1 see 0 rfl Tryz.underlying46 rfl rfl) ?_
     refine DT.next (by kernel_rfl) ?_
     refine DA.one 25 rfl (by kernel_rfl) ?_
     obtain ⟨t105, hc, ho⟩ := bind_some (x := capstanref05_Same.f x91.Code x99.Code) ho
     refine SP.callV see (caps := []) (.bool t105) fn30 rfl rfl rfl rfl (fun w2 hP hs sub ap => capstanref05_Same.ok _ _ _ _ _ hc w2 hP sub (ap.get 5 rfl) (ap.get 1 rfl)) ?_
     clear hc
     refine go ?_
     refine QE.atA ?_
     refine DA.one 26 rfl (by kernel_rfl) ?_
     refine go ?_
     refine QE.atA ?_
     refine DA.one 27 rfl (by kernel_rfl) ?_
     refine go ?_
     refine QE.atA ?_
     refine DA.done (by kernel_rfl) ?_
     exact QE.meet fun a w2 ha hw => ⟨(!t105), m65, _, (by omega), ho, hr, ha.sub sb, (St.selP [18, 19, 20, 21, 22, 23] rfl hw)⟩
    refine go ?_
    obtain rfl := fin ho hr
    exact QE.rt fun _ h => h
   refine SP.bb 27 (fun hq20 => ?_) fun hq20 => ?_
   ·refine go ?_
    exact QE.jb (or_t hq20) fun w2 hw => hw
   refine go ?_
   exact QE.jb (or_f hq20 rfl) fun w2 hw => hw
  refine SP.cb 19 hg_t18 (fun hq16 ho => ?_) fun hq16 ho => ?_
  ·refine go ?_
   obtain rfl := Option.some.inj ho
   exact QE.jn fun w2 hw => hw
  refine go ?_
  obtain ⟨t17, hc, ho⟩ := bind_some (x := capstanref03_Same.f a_0.Pool b_1.Pool) ho
  refine SP.callV see (caps := []) (.bool t17) fn28 rfl rfl rfl rfl (fun w2 hP hs sub ap => capstanref03_Same.ok _ _ _ _ _ hc w2 hP sub (ap.get 1 rfl) (ap.get 4 rfl)) ?_
  clear hc
  refine go ?_
  obtain rfl := Option.some.inj ho
  exact QE.jn fun w2 hw => hw
 refine SP.ci 11 hg_t14 (fun hq12 ho => ?_) fun hq12 ho => ?_
 ·refine go ?_
  obtain rfl := Option.some.inj ho
  exact QE.jn fun w2 hw => hw
 refine go ?_
 obtain ⟨t13, hc, ho⟩ := bind_some (x := capstanref03_Same.f a_0.Globals b_1.Globals) ho
 refine SP.callV see (caps := []) (.bool t13) fn28 rfl rfl rfl rfl (fun w2 hP hs sub ap => capstanref03_Same.ok _ _ _ _ _ hc w2 hP sub (ap.get 0 rfl) (ap.get 3 rfl)) ?_
 clear hc
 refine go ?_
 obtain rfl := Option.some.inj ho
 exact QE.jn fun w2 hw => hw
/-! ### capstan/capstanlaw10.TypesTells: function 3 -/
inductive capstanlaw10_TypesTells.S where
  | start
  | l1 (t7 : api_Module) (t16 : (List capstanref10_Row) × Int) (t19 : (List types_Row) × Int) (x1010 : Int)
  | l2 (t7 : api_Module) (t16 : (List capstanref10_Row) × Int) (l1510 : List types_Row) (x1512 : Int)
  | l3 (t7 : api_Module) (t16 : (List capstanref10_Row) × Int) (x1512 : Int) (l1549 : List types_Row) (x1551 : Int)
  | l4 (t7 : api_Module) (t16 : (List capstanref10_Row) × Int) (t1591 : (List types_Row) × Int) (x1794 : Int)
  | l5 (t7 : api_Module) (t16 : (List capstanref10_Row) × Int) (l1900 : List types_Row) (x1902 : Int)
  | l6 (t7 : api_Module) (t16 : (List capstanref10_Row) × Int) (x1902 : Int) (l1939 : List types_Row) (x1941 : Int)

def capstanlaw10_TypesTells.j1 (m_0 : api_Module) (k_1 : Int) (t7 : api_Module) (t16 : (List capstanref10_Row) × Int) (t19 : (List types_Row) × Int) (x1010 : Int) (b1036 : Bool) : Option (capstanlaw10_TypesTells.S ⊕ Bool) :=
  if b1036 = true then (some (.inr false)) else (some (.inl (.l1 t7 t16 t19 (IntKind.i64.wrap (x1010 + 1)))))

def capstanlaw10_TypesTells.j2 (m_0 : api_Module) (k_1 : Int) (t7 : api_Module) (t16 : (List capstanref10_Row) × Int) (x1512 : Int) (l1549 : List types_Row) (b1585 : Bool) : Option (capstanlaw10_TypesTells.S ⊕ Bool) :=
  if b1585 = true then (some (.inr false)) else (some (.inl (.l2 t7 t16 l1549 (IntKind.i64.wrap (x1512 + 1)))))

def capstanlaw10_TypesTells.j3 (m_0 : api_Module) (k_1 : Int) (t7 : api_Module) (t16 : (List capstanref10_Row) × Int) (t1591 : (List types_Row) × Int) (x1794 : Int) (b1820 : Bool) : Option (capstanlaw10_TypesTells.S ⊕ Bool) :=
  if b1820 = true then (some (.inr false)) else (some (.inl (.l4 t7 t16 t1591 (IntKind.i64.wrap (x1794 + 1)))))

def capstanlaw10_TypesTells.j4 (m_0 : api_Module) (k_1 : Int) (t7 : api_Module) (t16 : (List capstanref10_Row) × Int) (x1902 : Int) (l1939 : List types_Row) (b1975 : Bool) : Option (capstanlaw10_TypesTells.S ⊕ Bool) :=
  if b1975 = true then (some (.inr false)) else (some (.inl (.l5 t7 t16 l1939 (IntKind.i64.wrap (x1902 + 1)))))

def capstanlaw10_TypesTells.F (m_0 : api_Module) (k_1 : Int) : capstanlaw10_TypesTells.S → Option (capstanlaw10_TypesTells.S ⊕ Bool)
  | .start => (capstanlaw08_Great.f m_0).bind fun t6 => if t6 = true then (some (.inr true)) else ((capstanref08_Copy.f m_0).bind fun t7 => (capstanref10_Rows.f m_0 k_1).bind fun t16 => (types_Rows.f t7 k_1).bind fun t19 => (if t19.2 ≠ t16.2 then (some true) else ((types_Check.f t7 k_1).bind fun t24 => some (decide (t24 ≠ t16.2)))).bind fun t25 => (if (t25 || (decide ((t19.1.length : Int) ≠ (t16.1.length : Int)))) = true then (some true) else ((types_Height.f t19.1).bind fun t30 => (capstanref10_Height.f t16.1).bind fun t31 => some (decide (t30 ≠ t31)))).bind fun t32 => if t32 = true then (some (.inr false)) else (some (.inl (.l1 t7 t16 t19 0))))
  | .l1 t7 t16 t19 x1010 => if x1010 < (t19.1.length : Int) then ((elt t19.1 x1010).bind fun x1013 => (elt t16.1 x1010).bind fun x1016 => if (!(x1013.Reached == x1016.Reached)) = true then (capstanlaw10_TypesTells.j1 m_0 k_1 t7 t16 t19 x1010 true) else ((elt t19.1 x1010).bind fun x1021 => (elt t16.1 x1010).bind fun x1027 => (capstanref07_SameKinds.f x1021.Kinds x1027.Kinds).bind fun t1035 => capstanlaw10_TypesTells.j1 m_0 k_1 t7 t16 t19 x1010 (!t1035))) else (some (.inl (.l2 t7 t16 t19.1 0)))
  | .l2 t7 t16 l1510 x1512 => if x1512 < (l1510.length : Int) then (some (.inl (.l3 t7 t16 x1512 l1510 0))) else ((capstanref08_Same.f t7 m_0).bind fun t1590 => if (!t1590) = true then (some (.inr false)) else ((types_Rows.f t7 k_1).bind fun t1591 => (if t1591.2 ≠ t16.2 then (some true) else ((types_Check.f t7 k_1).bind fun t1596 => some (decide (t1596 ≠ t16.2)))).bind fun t1597 => (if (t1597 || (decide ((t1591.1.length : Int) ≠ (t16.1.length : Int)))) = true then (some true) else ((types_Height.f t1591.1).bind fun t1602 => (capstanref10_Height.f t16.1).bind fun t1603 => some (decide (t1602 ≠ t1603)))).bind fun t1604 => if t1604 = true then (some (.inr false)) else (some (.inl (.l4 t7 t16 t1591 0)))))
  | .l3 t7 t16 x1512 l1549 x1551 => (elt l1549 x1512).bind fun x1554 => if x1551 < (x1554.Kinds.length : Int) then ((elt l1549 x1512).bind fun x1560 => (elt x1560.Kinds x1551).bind fun x1566 => some (.inl (.l3 t7 t16 x1512 (l1549.set x1512.toNat (types_Row.set_Kinds x1560 (x1560.Kinds.set x1551.toNat 77))) (IntKind.i64.wrap (x1551 + 1))))) else (if (IntKind.i64.wrap (x1512 + 1)) < (l1549.length : Int) then ((elt l1549 (IntKind.i64.wrap (x1512 + 1))).bind fun x1569 => (elt t16.1 (IntKind.i64.wrap (x1512 + 1))).bind fun x1575 => (capstanref07_SameKinds.f x1569.Kinds x1575.Kinds).bind fun t1583 => capstanlaw10_TypesTells.j2 m_0 k_1 t7 t16 x1512 l1549 (!t1583)) else (capstanlaw10_TypesTells.j2 m_0 k_1 t7 t16 x1512 l1549 false))
  | .l4 t7 t16 t1591 x1794 => if x1794 < (t1591.1.length : Int) then ((elt t1591.1 x1794).bind fun x1797 => (elt t16.1 x1794).bind fun x1800 => if (!(x1797.Reached == x1800.Reached)) = true then (capstanlaw10_TypesTells.j3 m_0 k_1 t7 t16 t1591 x1794 true) else ((elt t1591.1 x1794).bind fun x1805 => (elt t16.1 x1794).bind fun x1811 => (capstanref07_SameKinds.f x1805.Kinds x1811.Kinds).bind fun t1819 => capstanlaw10_TypesTells.j3 m_0 k_1 t7 t16 t1591 x1794 (!t1819))) else (some (.inl (.l5 t7 t16 t1591.1 0)))
  | .l5 t7 t16 l1900 x1902 => if x1902 < (l1900.length : Int) then (some (.inl (.l6 t7 t16 x1902 l1900 0))) else ((capstanref08_Same.f t7 m_0).bind fun t1980 => if (!t1980) = true then (some (.inr false)) else (some (.inr true)))
  | .l6 t7 t16 x1902 l1939 x1941 => (elt l1939 x1902).bind fun x1944 => if x1941 < (x1944.Kinds.length : Int) then ((elt l1939 x1902).bind fun x1950 => (elt x1950.Kinds x1941).bind fun x1956 => some (.inl (.l6 t7 t16 x1902 (l1939.set x1902.toNat (types_Row.set_Kinds x1950 (x1950.Kinds.set x1941.toNat 77))) (IntKind.i64.wrap (x1941 + 1))))) else (if (IntKind.i64.wrap (x1902 + 1)) < (l1939.length : Int) then ((elt l1939 (IntKind.i64.wrap (x1902 + 1))).bind fun x1959 => (elt t16.1 (IntKind.i64.wrap (x1902 + 1))).bind fun x1965 => (capstanref07_SameKinds.f x1959.Kinds x1965.Kinds).bind fun t1973 => capstanlaw10_TypesTells.j4 m_0 k_1 t7 t16 x1902 l1939 (!t1973)) else (capstanlaw10_TypesTells.j4 m_0 k_1 t7 t16 x1902 l1939 false))

def capstanlaw10_TypesTells.f (m_0 : api_Module) (k_1 : Int) : Option Bool := runF (capstanlaw10_TypesTells.F m_0 k_1) .start
theorem capstanlaw10_TypesTells.ok (m_0 : api_Module) (k_1 : Int) (v_m_0_Globals v_m_0_Pool v_m_0_Methods : Value)  (r : Bool) (H : capstanlaw10_TypesTells.f m_0 k_1 = some r) (w : World) (hV : Hp) (sV : Sub hV (hp w)) (h0 : slR k_api_Value hV v_m_0_Globals m_0.Globals) (h1 : slR k_api_Value hV v_m_0_Pool m_0.Pool) (h2 : slR k_api_Method hV v_m_0_Methods m_0.Methods) (h3 : (arrP k_arr136 0 tab0).p hV) :
    Trip Tryz.prog 3 [.agg #[v_m_0_Globals, v_m_0_Pool, v_m_0_Methods, .int .i64 m_0.Migrate], .int .i64 k_1].toArray em hV w (fun v => HO.pure (v = .bool r)) := by
 have see : Sees w em hV := ⟨sV, Dj.em_right _⟩
 refine Trip.of (P := Tryz.prog) (n := ⟨137, []⟩) Tryz.func3 rfl ⟨rfl, rfl⟩ rfl (St.begin (aS h0 (aS h1 (aS h2 (All.cons (x := arrP k_arr136 0 tab0) h3 (All.nil _)))))) ?_
 obtain ⟨n0, hi⟩ := runF_iff.1 H
 obtain ⟨m0, o, hm0, ho, hr⟩ := iter_some hi
 clear hi
 refine go ?_
 refine SP.box (cs := [v_m_0_Globals, v_m_0_Pool, v_m_0_Methods, .int .i64 m_0.Migrate]) rfl rfl rfl rfl (fun b4 => ?_)
 refine go ?_
 refine CP.seq ?_
 refine go ?_
 refine SP.val (Val.loadA 0 rfl Tryz.underlying25 rfl sz25 rfl rfl rfl) rfl rfl rfl ?_
 obtain ⟨t6, hc, ho⟩ := bind_some (x := capstanlaw08_Great.f m_0) ho
 refine SP.callV see (caps := []) (.bool t6) fn4 rfl rfl rfl rfl (fun w2 hP hs sub ap => capstanlaw08_Great.ok _ _ _ _ _ hc w2 hP sub (ap.get 0 rfl) (ap.get 1 rfl) (ap.get 2 rfl)) ?_
 clear hc
 refine go ?_
 refine CP.cb ho (fun ho => ?_) fun ho => ?_
 ·refine go ?_
  obtain rfl := fin ho hr
  exact QE.rt fun _ h => h
 refine go ?_
 refine SP.val (Val.loadA 0 rfl Tryz.underlying25 rfl sz25 rfl rfl rfl) rfl rfl rfl ?_
 obtain ⟨t7, hc, ho⟩ := bind_some (x := capstanref08_Copy.f m_0) ho
 refine SP.callK see (caps := []) _ fn5 rfl rfl rfl rfl (fun w2 hP hs sub ap => capstanref08_Copy.ok _ _ _ _ _ hc w2 hP sub (ap.get 0 rfl) (ap.get 1 rfl) (ap.get 2 rfl)) (SP.k3 fun v8 v9 v10 => ?_)
 clear hc
 refine SP.alloc (cs := [(.slice none 0 0), (.slice none 0 0), (.slice none 0 0), .int .i64 0]) inf25 rfl rfl (fun b14 => ?_)
 refine SP.have (fun w2 hw => slO.shape (St.own 1 rfl see.sub see.dj hw)) (fun hs_v8 => ?_)
 refine SP.have (fun w2 hw => slO.shape (St.own 2 rfl see.sub see.dj hw)) (fun hs_v9 => ?_)
 refine SP.have (fun w2 hw => slD.shape (St.own 3 rfl see.sub see.dj hw)) (fun hs_v10 => ?_)
 refine SP.store (v := .agg #[v8, v9, v10, .int .i64 t7.Migrate]) (vs := [v8, v9, v10, .int .i64 t7.Migrate]) 0 (by rfl) sz25 (by rfl) (by rfl) (by rfl) (by rfl) (one_cons hs_v8 (one_cons hs_v9 (one_cons hs_v10 (one_cons rfl (rfl))))) (by rfl) ?_
 refine go ?_
 refine SP.val (Val.loadA 4 rfl Tryz.underlying25 rfl sz25 rfl rfl rfl) rfl rfl rfl ?_
 refine go ?_
 obtain ⟨t16, hc, ho⟩ := bind_some (x := capstanref10_Rows.f m_0 k_1) ho
 refine SP.callK see (caps := []) _ fn6 rfl rfl rfl rfl (fun w2 hP hs sub ap => capstanref10_Rows.ok _ _ _ _ _ _ hc w2 hP sub (ap.get 0 rfl) (ap.get 1 rfl) (ap.get 2 rfl)) (SP.k1 fun v17 => ?_)
 clear hc
 refine go ?_
 refine CP.seq ?_
 refine go ?_
 refine CP.rounds 22 ?_
 refine LP.step ?_
 refine CP.seq ?_
 refine CP.seq ?_
 refine CP.region ?_
 refine SP.val (Val.move rfl) rfl rfl rfl ?_
 refine SP.val (Val.cast (v := .bool true) (Val.lss rfl rfl) rfl) rfl rfl rfl ?_
 refine go ?_
 refine CP.condT rfl rfl ?_
 refine go ?_
 refine CP.seq ?_
 refine go ?_
 refine SP.val (Val.loadA 1 rfl Tryz.underlying25 rfl sz25 rfl rfl rfl) rfl rfl rfl ?_
 refine go ?_
 refine SP.freezeS see 2 rfl ?_
 refine SP.freezeS see 2 rfl ?_
 refine SP.freezeD see 2 rfl ?_
 obtain ⟨t19, hc, ho⟩ := bind_some (x := types_Rows.f t7 k_1) ho
 refine SP.callK see (caps := []) _ fn7 rfl rfl rfl rfl (fun w2 hP hs sub ap => types_Rows.ok _ _ _ _ _ _ hc w2 hP sub (ap.get 2 rfl) (ap.get 1 rfl) (ap.get 0 rfl) (ap.get 6 rfl)) (SP.k1 fun v20 => ?_)
 clear hc
 refine go ?_
 refine CP.seq ?_
 refine go ?_
 obtain ⟨t25, hg_t25, ho⟩ := bind_some ho
 refine SP.jn 6 [1, 2, 5, 6, 7, 8, 9] 43 (.bool t25) ?_ ?_
 ·clear hg_t25
  refine go ?_
  refine SP.jn 6 [1, 2, 5, 6, 7, 8, 9] 50 (.bool (t25 || (decide ((t19.1.length : Int) ≠ (t16.1.length : Int))))) ?_ ?_
  ·refine go ?_
   obtain ⟨t32, hg_t32, ho⟩ := bind_some ho
   refine SP.jn 6 [1, 2, 5, 6, 7, 8, 9] 57 (.bool t32) ?_ ?_
   ·clear hg_t32
    refine go ?_
    refine CP.cb ho (fun ho => ?_) fun ho => ?_
    ·refine go ?_
     obtain rfl := fin ho hr
     exact QE.rt fun _ h => h
    refine go ?_
    refine CP.seq ?_
    refine go ?_
    obtain rfl := Option.some.inj ho
    refine CP.loop (fun cl1 a w2 => ∃ x1010 : Int, cl1 ≤ m0 ∧ iter (capstanlaw10_TypesTells.F m_0 k_1) cl1 (.l1 t7 t16 t19 x1010) = some r ∧ Env ⟨137, []⟩ [(1, .int .i64 k_1), (2, .pointer (some ⟨b4, 0, none⟩)), (5, .pointer (some ⟨b14, 0, none⟩)), (6, v17), (7, .int .i64 t16.2), (8, .int .i64 0), (9, v20), (11, .int .i64 x1010)] a ∧ St w em hV [slP k_api_Method v10 t7.Methods, slP k_api_Value v9 t7.Pool, slP k_api_Value v8 t7.Globals, slP k_api_Value v_m_0_Globals m_0.Globals, slP k_api_Value v_m_0_Pool m_0.Pool, slP k_api_Method v_m_0_Methods m_0.Methods, arrP k_arr136 0 tab0] [slD o_types_Row 40 v20 t19.1, slO k_capstanref10_Row 41 v17 t16.1, boxO b14 [v8, v9, v10, .int .i64 t7.Migrate] 25, boxO b4 [v_m_0_Globals, v_m_0_Pool, v_m_0_Methods, .int .i64 m_0.Migrate] 25] w2) m0 (fun a w2 ha hw => ⟨0, Nat.le_refl _, hr, ha.sub sb, hw⟩) ?_
    clear hr
    rintro cl1 a w2 ⟨x1010, hc_l1, hi, ha, hw⟩
    obtain ⟨m1011, o, hm_m1011, ho, hr⟩ := iter_some hi
    refine CP.app ha hw ?_
    clear ha hw a w2 hi
    refine CP.seq ?_
    refine go ?_
    refine SP.val (Val.lenW (fun w2 hw => slD.flat (St.own 0 rfl see.sub see.dj hw) (Sub.refl _) (Sub.refl _)) Tryz.underlying31 rfl) rfl rfl rfl ?_
    refine go ?_
    refine CP.ci ho (fun ho => ?_) fun ho => ?_
    ·refine go ?_
     refine CP.seq ?_
     refine go ?_
     refine CP.join (fun a w2 => ∃ b1036 : Bool, ∃ (m1037 : Nat) (o : (capstanlaw10_TypesTells.S ⊕ Bool)), m1037 ≤ m1011 ∧ capstanlaw10_TypesTells.j1 m_0 k_1 t7 t16 t19 x1010 b1036 = some o ∧ next (capstanlaw10_TypesTells.F m_0 k_1) m1037 o = some r ∧ Env ⟨137, []⟩ [(1, .int .i64 k_1), (2, .pointer (some ⟨b4, 0, none⟩)), (5, .pointer (some ⟨b14, 0, none⟩)), (6, v17), (7, .int .i64 t16.2), (8, .int .i64 0), (9, v20), (11, .int .i64 x1010), (88, .bool b1036)] a ∧ St w em hV [slP k_api_Method v10 t7.Methods, slP k_api_Value v9 t7.Pool, slP k_api_Value v8 t7.Globals, slP k_api_Value v_m_0_Globals m_0.Globals, slP k_api_Value v_m_0_Pool m_0.Pool, slP k_api_Method v_m_0_Methods m_0.Methods, arrP k_arr136 0 tab0] [slD o_types_Row 40 v20 t19.1, slO k_capstanref10_Row 41 v17 t16.1, boxO b14 [v8, v9, v10, .int .i64 t7.Migrate] 25, boxO b4 [v_m_0_Globals, v_m_0_Pool, v_m_0_Methods, .int .i64 m_0.Migrate] 25] w2) ?_ ?_
     ·rintro a w2 ⟨b1036, m1037, o, hm_m1037, ho, hr, ha, hw⟩
      refine CP.app ha hw ?_
      clear ha hw a w2
      refine CP.cb ho (fun ho => ?_) fun ho => ?_
      ·refine go ?_
       obtain rfl := fin ho hr
       exact QE.rt fun _ h => h
      refine go ?_
      obtain rfl := Option.some.inj ho
      exact QE.lower m1037 (by omega) fun a w2 ha hw => ⟨(IntKind.i64.wrap (x1010 + 1)), (by omega), hr, ha.sub sb, hw⟩
     refine CP.drawA (by kernel_rfl) (fun w2 k h => h.drawn k) ?_
     obtain ⟨x1013, hx_x1013, ho⟩ := elt_bind ho
     refine DA.ghost (fun w2 hw => let ⟨z, hz⟩ := ixC ((fun w2 hw => slD.flat (St.own 0 rfl see.sub see.dj hw) (Sub.refl _) (Sub.refl _)) w2 hw) hx_x1013.1 hx_x1013.2; ⟨z, hz, hw⟩) (fun p1012 i_p1012 => ?_)
     have h_p1012 := i_p1012.1
     obtain ⟨p1014, h_p1014⟩ := PtC.more h_p1012 0
     obtain ⟨x1016, hx_x1016, ho⟩ := elt_bind ho
     refine DA.ghost (fun w2 hw => let ⟨z, hz⟩ := ixC ((fun w2 hw => slO.whole (St.own 1 rfl see.sub see.dj hw)) w2 hw) hx_x1016.1 hx_x1016.2; ⟨z, hz, hw⟩) (fun p1015 i_p1015 => ?_)
     have h_p1015 := i_p1015.1
     obtain ⟨p1017, h_p1017⟩ := PtC.more h_p1015 0
     refine DA.ph 0 10 ?_
     refine DT.tk 0 ?_
     refine DT.tk 1 ?_
     refine DT.tv 2 rfl (Val.indexC' i_p1012 Tryz.underlying31 sz40 rfl rfl) ?_
     refine DT.tv 3 rfl (Val.fieldC h_p1012 h_p1014 Tryz.underlying40 rfl rfl sz4 rfl) ?_
     refine DT.tv 4 rfl (Val.loadW1 (off := 0) (k := k_types_Row) (fun w2 hw => slD.flat (St.own 0 rfl see.sub see.dj hw) (Sub.refl _) (Sub.refl _)) hx_x1013.2 h_p1014 (fun _ _ ⟨_, e, _⟩ => by subst e; rfl) Tryz.underlying4 rfl rfl) ?_
     refine DT.tk 5 ?_
     refine DT.tk 6 ?_
     refine DT.tv 7 rfl (Val.indexC' i_p1015 Tryz.underlying28 sz41 rfl rfl) ?_
     refine DT.tv 8 rfl (Val.fieldC h_p1015 h_p1017 Tryz.underlying41 rfl rfl sz4 rfl) ?_
     refine DT.tv 9 rfl (Val.loadW1 (off := 0) (k := k_capstanref10_Row) (fun w2 hw => slO.whole (St.own 1 rfl see.sub see.dj hw)) hx_x1016.2 h_p1017 (fun _ _ ⟨_, e, _⟩ => by subst e; rfl) Tryz.underlying4 rfl rfl) ?_
     refine DT.next (by kernel_rfl) ?_
     refine DA.one 10 rfl (by kernel_rfl) ?_
     refine SP.val (Val.neqB Tryz.underlying4 rfl rfl) rfl rfl rfl ?_
     refine go ?_
     refine QE.atA ?_
     refine DA.one 11 rfl (by kernel_rfl) ?_
     refine go ?_
     refine QE.atA ?_
     rcases if_some ho with ⟨hc, ho⟩ | ⟨hc, ho⟩
     ·have hg1018 := hc
      clear hc
      refine DA.ph 12 22 ?_
      refine DT.is (d := 75) (b := true) rfl hg1018 ?_
      refine DT.tn 12 ?_
      refine DT.tn 13 ?_
      refine DT.tn 14 ?_
      refine DT.tn 15 ?_
      refine DT.tn 16 ?_
      refine DT.tn 17 ?_
      refine DT.tn 18 ?_
      refine DT.tn 19 ?_
      refine DT.tn 20 ?_
      refine DT.tn 21 ?_
      refine DT.next (by kernel_rfl) ?_
      refine DA.ph 22 23 ?_
      refine DT.tn 22 ?_
      refine DT.next (by kernel_rfl) ?_
      refine DA.ph 23 24 ?_
      refine DT.tn 23 ?_
      refine DT.next (by kernel_rfl) ?_
      refine DA.one 24 rfl (by kernel_rfl) ?_
      refine go ?_
      refine QE.atA ?_
      refine DA.done (by kernel_rfl) ?_
      exact QE.meet fun a w2 ha hw => ⟨true, m1011, _, (by omega), ho, hr, ha.sub sb, hw⟩
     have hg1019 := (bf hc)
     clear hc
     obtain ⟨x1021, hx_x1021, ho⟩ := elt_bind ho
     refine DA.ghost (fun w2 hw => let ⟨z, hz⟩ := ixC ((fun w2 hw => slD.flat (St.own 0 rfl see.sub see.dj hw) (Sub.refl _) (Sub.refl _)) w2 hw) hx_x1021.1 hx_x1021.2; ⟨z, hz, hw⟩) (fun p1020 i_p1020 => ?_)
     have h_p1020 := i_p1020.1
     obtain ⟨p1022, h_p1022⟩ := PtC.more h_p1020 1
     refine DA.ghost (fun w2 hw => St.learnC (off := 1) (j := x1010) o_types_Row.leaf1 hx_x1021.2 hw) (fun v1023 _ => ?_)
     obtain ⟨x1027, hx_x1027, ho⟩ := elt_bind ho
     refine DA.ghost (fun w2 hw => let ⟨z, hz⟩ := ixC ((fun w2 hw => slO.whole (St.own 1 rfl see.sub see.dj hw)) w2 hw) hx_x1027.1 hx_x1027.2; ⟨z, hz, hw⟩) (fun p1026 i_p1026 => ?_)
     have h_p1026 := i_p1026.1
     obtain ⟨p1028, h_p1028⟩ := PtC.more h_p1026 1
     refine DA.ph 12 22 ?_
     refine DT.is (d := 75) (b := false) rfl hg1019 ?_
     refine DT.tk 12 ?_
     refine DT.tk 13 ?_
     refine DT.tv 14 rfl (Val.indexC' i_p1020 Tryz.underlying31 sz40 rfl rfl) ?_
     refine DT.tv 15 rfl (Val.fieldC h_p1020 h_p1022 Tryz.underlying40 rfl rfl sz38 rfl) ?_
     refine DT.tv 16 rfl (Val.loadC see 0 rfl h_p1022 Tryz.underlying38 rfl) ?_
     refine DT.tk 17 ?_
     refine DT.tk 18 ?_
     refine DT.tv 19 rfl (Val.indexC' i_p1026 Tryz.underlying28 sz41 rfl rfl) ?_
     refine DT.tv 20 rfl (Val.fieldC h_p1026 h_p1028 Tryz.underlying41 rfl rfl sz38 rfl) ?_
     refine DT.one 21 rfl (by kernel_rfl) rfl ?_
     refine SP.loadOS (j := x1010) see 1 1 rfl hx_x1027.2 h_p1028 (fun _ _ ⟨v0_, e, p0_⟩ => ⟨v0_, by subst e; rfl, p0_⟩) Tryz.underlying38 rfl rfl rfl (fun v1033 => ?_)
     refine go ?_
     refine QE.atT (fun w2 hw => (St.selP [1, 2, 3, 4, 5, 6, 7] rfl hw)) ?_
     refine DT.next (by kernel_rfl) ?_
     refine DA.imp (fun w2 hw => St.focusC o_types_Row.leaf1 hx_x1021.2 hw) ?_
     refine DA.one 22 rfl (by kernel_rfl) ?_
     obtain ⟨t1035, hc, ho⟩ := bind_some (x := capstanref07_SameKinds.f x1021.Kinds x1027.Kinds) ho
     refine SP.callVO see (caps := []) (.bool t1035) fn11 rfl rfl rfl rfl (fun w2 hs => capstanref07_SameKinds.ok _ _ _ _ _ hc w2 (hp w2) (Sub.refl _) (slO.read (St.own 0 rfl see.sub see.dj hs) (Sub.refl _) (Sub.refl _)) ((St.pers 0 rfl see.sub see.dj hs))) ?_
     clear hc
     refine go ?_
     refine QE.atA ?_
     refine DA.one 23 rfl (by kernel_rfl) ?_
     refine go ?_
     refine QE.atA ?_
     refine DA.one 24 rfl (by kernel_rfl) ?_
     refine go ?_
     refine QE.atA ?_
     refine DA.done (by kernel_rfl) ?_
     refine QE.imp (fun w2 hw => St.unfocus0 hx_x1021.2 rfl hw) ?_
     exact QE.meet fun a w2 ha hw => ⟨(!t1035), m1011, _, (by omega), ho, hr, ha.sub sb, (St.selP [1, 2, 3, 4, 5, 6, 7] rfl hw)⟩
    refine go ?_
    refine CP.seq ?_
    refine go ?_
    obtain rfl := Option.some.inj ho
    refine CP.loop (fun cl2 a w2 => ∃ l1510 : List types_Row, ∃ x1512 : Int, ∃ v1511 : Value, cl2 ≤ m1011 ∧ iter (capstanlaw10_TypesTells.F m_0 k_1) cl2 (.l2 t7 t16 l1510 x1512) = some r ∧ Env ⟨137, []⟩ [(1, .int .i64 k_1), (2, .pointer (some ⟨b4, 0, none⟩)), (5, .pointer (some ⟨b14, 0, none⟩)), (6, v17), (7, .int .i64 t16.2), (8, .int .i64 0), (9, v1511), (12, .int .i64 x1512)] a ∧ St w em hV [slP k_api_Method v10 t7.Methods, slP k_api_Value v9 t7.Pool, slP k_api_Value v8 t7.Globals, slP k_api_Value v_m_0_Globals m_0.Globals, slP k_api_Value v_m_0_Pool m_0.Pool, slP k_api_Method v_m_0_Methods m_0.Methods, arrP k_arr136 0 tab0] [slD o_types_Row 40 v1511 l1510, slO k_capstanref10_Row 41 v17 t16.1, boxO b14 [v8, v9, v10, .int .i64 t7.Migrate] 25, boxO b4 [v_m_0_Globals, v_m_0_Pool, v_m_0_Methods, .int .i64 m_0.Migrate] 25] w2) m1011 (fun a w2 ha hw => ⟨t19.1, 0, v20, Nat.le_refl _, hr, ha.sub sb, hw⟩) ?_
    clear hr
    rintro cl2 a w2 ⟨l1510, x1512, v1511, hc_l2, hi, ha, hw⟩
    obtain ⟨m1513, o, hm_m1513, ho, hr⟩ := iter_some hi
    refine CP.app ha hw ?_
    clear ha hw a w2 hi
    refine CP.seq ?_
    refine go ?_
    refine SP.val (Val.lenW (fun w2 hw => slD.flat (St.own 0 rfl see.sub see.dj hw) (Sub.refl _) (Sub.refl _)) Tryz.underlying31 rfl) rfl rfl rfl ?_
    refine go ?_
    refine CP.ci ho (fun ho => ?_) fun ho => ?_
    ·refine go ?_
     refine CP.seq ?_
     refine go ?_
     refine CP.seq ?_
     refine go ?_
     obtain rfl := Option.some.inj ho
     refine CP.loop (fun cl3 a w2 => ∃ l1549 : List types_Row, ∃ x1551 : Int, ∃ v1550 : Value, cl3 ≤ m1513 ∧ iter (capstanlaw10_TypesTells.F m_0 k_1) cl3 (.l3 t7 t16 x1512 l1549 x1551) = some r ∧ Env ⟨137, []⟩ [(1, .int .i64 k_1), (2, .pointer (some ⟨b4, 0, none⟩)), (5, .pointer (some ⟨b14, 0, none⟩)), (6, v17), (7, .int .i64 t16.2), (8, .int .i64 0), (9, v1550), (12, .int .i64 x1512), (13, .int .i64 x1551)] a ∧ St w em hV [slP k_api_Method v10 t7.Methods, slP k_api_Value v9 t7.Pool, slP k_api_Value v8 t7.Globals, slP k_api_Value v_m_0_Globals m_0.Globals, slP k_api_Value v_m_0_Pool m_0.Pool, slP k_api_Method v_m_0_Methods m_0.Methods, arrP k_arr136 0 tab0] [slD o_types_Row 40 v1550 l1549, slO k_capstanref10_Row 41 v17 t16.1, boxO b14 [v8, v9, v10, .int .i64 t7.Migrate] 25, boxO b4 [v_m_0_Globals, v_m_0_Pool, v_m_0_Methods, .int .i64 m_0.Migrate] 25] w2) m1513 (fun a w2 ha hw => ⟨l1510, 0, v1511, Nat.le_refl _, hr, ha.sub sb, hw⟩) ?_
     clear hr
     rintro cl3 a w2 ⟨l1549, x1551, v1550, hc_l3, hi, ha, hw⟩
     obtain ⟨m1552, o, hm_m1552, ho, hr⟩ := iter_some hi
     refine CP.app ha hw ?_
     clear ha hw a w2 hi
     refine CP.seq ?_
     refine go ?_
     obtain ⟨x1554, hx_x1554, ho⟩ := elt_bind ho
     refine SP.indexW (fun w2 hw => slD.flat (St.own 0 rfl see.sub see.dj hw) (Sub.refl _) (Sub.refl _)) Tryz.underlying31 sz40 hx_x1554.1 hx_x1554.2 rfl rfl rfl rfl (fun p1553 h_p1553 => ?_)
     refine SP.fieldO h_p1553 Tryz.underlying40 rfl sz38 rfl rfl rfl (fun p1555 h_p1555 => ?_)
     refine SP.loadDS o_types_Row.leaf1 hx_x1554.2 h_p1555 Tryz.underlying38 rfl rfl rfl (fun v1556 => ?_)
     refine SP.val (Val.lenW (fun w2 hw => slO.whole (St.own 0 rfl see.sub see.dj hw)) Tryz.underlying38 rfl) rfl rfl rfl ?_
     refine go ?_
     refine CP.ci ho (fun ho => ?_) fun ho => ?_
     ·refine go ?_
      refine CP.seq ?_
      refine go ?_
      refine SP.imp (fun w2 hw => St.unfocus0 hx_x1554.2 rfl hw) ?_
      obtain ⟨x1560, hx_x1560, ho⟩ := elt_bind ho
      refine SP.indexW (fun w2 hw => slD.flat (St.own 0 rfl see.sub see.dj hw) (Sub.refl _) (Sub.refl _)) Tryz.underlying31 sz40 hx_x1560.1 hx_x1560.2 rfl rfl rfl rfl (fun p1559 h_p1559 => ?_)
      refine SP.fieldO h_p1559 Tryz.underlying40 rfl sz38 rfl rfl rfl (fun p1561 h_p1561 => ?_)
      refine SP.loadDS o_types_Row.leaf1 hx_x1560.2 h_p1561 Tryz.underlying38 rfl rfl rfl (fun v1562 => ?_)
      refine go ?_
      obtain ⟨x1566, hx_x1566, ho⟩ := elt_bind ho
      refine SP.indexW (fun w2 hw => slO.whole (St.own 0 rfl see.sub see.dj hw)) Tryz.underlying38 sz5 hx_x1566.1 hx_x1566.2 rfl rfl rfl rfl (fun p1565 h_p1565 => ?_)
      refine SP.storeO (z0 := 77) (off := 0) (vs := [.int .u8 77]) see 0 rfl hx_x1566.2 h_p1565 rfl rfl sz5 rfl (fun a cs _ e => by subst e; rfl) rfl rfl rfl ?_
      refine go ?_
      refine QE.imp (fun w2 hw => St.unfocus hw) ?_
      obtain rfl := Option.some.inj ho
      exact QE.lower m1552 (by omega) fun a w2 ha hw => ⟨(l1549.set x1512.toNat (types_Row.set_Kinds x1560 (x1560.Kinds.set x1551.toNat 77))), (IntKind.i64.wrap (x1551 + 1)), v1550, (by omega), hr, ha.sub sb, hw⟩
     refine go ?_
     refine CP.join (fun a w2 => ∃ b1585 : Bool, ∃ (m1586 : Nat) (o : (capstanlaw10_TypesTells.S ⊕ Bool)), m1586 ≤ m1552 ∧ capstanlaw10_TypesTells.j2 m_0 k_1 t7 t16 x1512 l1549 b1585 = some o ∧ next (capstanlaw10_TypesTells.F m_0 k_1) m1586 o = some r ∧ Env ⟨137, []⟩ [(1, .int .i64 k_1), (2, .pointer (some ⟨b4, 0, none⟩)), (5, .pointer (some ⟨b14, 0, none⟩)), (6, v17), (7, .int .i64 t16.2), (8, .int .i64 0), (9, v1550), (12, .int .i64 x1512), (132, .bool b1585)] a ∧ St w em hV [slP k_api_Method v10 t7.Methods, slP k_api_Value v9 t7.Pool, slP k_api_Value v8 t7.Globals, slP k_api_Value v_m_0_Globals m_0.Globals, slP k_api_Value v_m_0_Pool m_0.Pool, slP k_api_Method v_m_0_Methods m_0.Methods, arrP k_arr136 0 tab0] [slD o_types_Row 40 v1550 l1549, slO k_capstanref10_Row 41 v17 t16.1, boxO b14 [v8, v9, v10, .int .i64 t7.Migrate] 25, boxO b4 [v_m_0_Globals, v_m_0_Pool, v_m_0_Methods, .int .i64 m_0.Migrate] 25] w2) ?_ ?_
     ·rintro a w2 ⟨b1585, m1586, o, hm_m1586, ho, hr, ha, hw⟩
      refine CP.app ha hw ?_
      clear ha hw a w2
      refine CP.cb ho (fun ho => ?_) fun ho => ?_
      ·refine go ?_
       obtain rfl := fin ho hr
       exact QE.rt fun _ h => h
      refine go ?_
      obtain rfl := Option.some.inj ho
      exact QE.lower m1586 (by omega) fun a w2 ha hw => ⟨l1549, (IntKind.i64.wrap (x1512 + 1)), v1550, (by omega), hr, ha.sub sb, hw⟩
     refine CP.drawA (by kernel_rfl) (fun w2 k h => h.drawn k) ?_
     refine (DA.phase (fun i => Nat.ble 0 i && Nat.blt i 4) (fun w2 => St w em hV [slP k_api_Method v10 t7.Methods, slP k_api_Value v9 t7.Pool, slP k_api_Value v8 t7.Globals, slP k_api_Value v_m_0_Globals m_0.Globals, slP k_api_Value v_m_0_Pool m_0.Pool, slP k_api_Method v_m_0_Methods m_0.Methods, arrP k_arr136 0 tab0] [slO k_capstanref10_Row 41 v17 t16.1, boxO b14 [v8, v9, v10, .int .i64 t7.Migrate] 25, boxO b4 [v_m_0_Globals, v_m_0_Pool, v_m_0_Methods, .int .i64 m_0.Migrate] 25] w2) ?_)
     refine DT.ts 0 rfl (Val.move rfl) (fun w2 hw => (St.selO [2, 3, 4] rfl rfl hw)) ?_
     refine DT.ts 1 rfl (Val.add rfl rfl) (fun w2 hw => (St.selO [2, 3, 4] rfl rfl hw)) ?_
     refine DT.ts 2 rfl (Val.move rfl) (fun w2 hw => (St.selO [2, 3, 4] rfl rfl hw)) ?_
     refine DT.one 3 rfl (by kernel_rfl) rfl ?_
     refine SP.imp (fun w2 hw => St.unfocus0 hx_x1554.2 rfl hw) ?_
     refine SP.val (Val.lenW (fun w2 hw => slD.flat (St.own 0 rfl see.sub see.dj hw) (Sub.refl _) (Sub.refl _)) Tryz.underlying31 rfl) rfl rfl rfl ?_
     refine go ?_
     refine QE.atT (fun w2 hw => (St.selO [1, 2, 3] rfl rfl hw)) ?_
     refine DT.next (by kernel_rfl) ?_
     refine DA.one 4 rfl (by kernel_rfl) ?_
     refine go ?_
     refine QE.atA ?_
     refine DA.one 5 rfl (by kernel_rfl) ?_
     refine go ?_
     refine QE.atA ?_
     rcases if_some ho with ⟨hc, ho⟩ | ⟨hc, ho⟩
     ·have hg1567 := (decide_eq_true hc)
      clear hc
      obtain ⟨x1569, hx_x1569, ho⟩ := elt_bind ho
      refine DA.ghost (fun w2 hw => let ⟨z, hz⟩ := ixC ((fun w2 hw => slD.flat (St.own 0 rfl see.sub see.dj hw) (Sub.refl _) (Sub.refl _)) w2 hw) hx_x1569.1 hx_x1569.2; ⟨z, hz, hw⟩) (fun p1568 i_p1568 => ?_)
      have h_p1568 := i_p1568.1
      obtain ⟨p1570, h_p1570⟩ := PtC.more h_p1568 1
      refine DA.ghost (fun w2 hw => St.learnC (off := 1) (j := IntKind.i64.wrap (x1512 + 1)) o_types_Row.leaf1 hx_x1569.2 hw) (fun v1571 _ => ?_)
      obtain ⟨x1575, hx_x1575, ho⟩ := elt_bind ho
      refine DA.ghost (fun w2 hw => let ⟨z, hz⟩ := ixC ((fun w2 hw => slO.whole (St.own 1 rfl see.sub see.dj hw)) w2 hw) hx_x1575.1 hx_x1575.2; ⟨z, hz, hw⟩) (fun p1574 i_p1574 => ?_)
      have h_p1574 := i_p1574.1
      obtain ⟨p1576, h_p1576⟩ := PtC.more h_p1574 1
      refine DA.ph 6 18 ?_
      refine DT.is (d := 117) (b := true) rfl hg1567 ?_
      refine DT.tk 6 ?_
      refine DT.tk 7 ?_
      refine DT.tk 8 ?_
      refine DT.tv 9 rfl (Val.indexC' i_p1568 Tryz.underlying31 sz40 rfl rfl) ?_
      refine DT.tv 10 rfl (Val.fieldC h_p1568 h_p1570 Tryz.underlying40 rfl rfl sz38 rfl) ?_
      refine DT.tv 11 rfl (Val.loadC see 0 rfl h_p1570 Tryz.underlying38 rfl) ?_
      refine DT.tk 12 ?_
      refine DT.tk 13 ?_
      refine DT.tk 14 ?_
      refine DT.tv 15 rfl (Val.indexC' i_p1574 Tryz.underlying28 sz41 rfl rfl) ?_
      refine DT.tv 16 rfl (Val.fieldC h_p1574 h_p1576 Tryz.underlying41 rfl rfl sz38 rfl) ?_
      refine DT.one 17 rfl (by kernel_rfl) rfl ?_
      refine SP.loadOS (j := IntKind.i64.wrap (x1512 + 1)) see 1 1 rfl hx_x1575.2 h_p1576 (fun _ _ ⟨v0_, e, p0_⟩ => ⟨v0_, by subst e; rfl, p0_⟩) Tryz.underlying38 rfl rfl rfl (fun v1581 => ?_)
      refine go ?_
      refine QE.atT (fun w2 hw => (St.selP [1, 2, 3, 4, 5, 6, 7] rfl hw)) ?_
      refine DT.next (by kernel_rfl) ?_
      refine DA.imp (fun w2 hw => St.focusC o_types_Row.leaf1 hx_x1569.2 hw) ?_
      refine DA.one 18 rfl (by kernel_rfl) ?_
      obtain ⟨t1583, hc, ho⟩ := bind_some (x := capstanref07_SameKinds.f x1569.Kinds x1575.Kinds) ho
      refine SP.callVO see (caps := []) (.bool t1583) fn11 rfl rfl rfl rfl (fun w2 hs => capstanref07_SameKinds.ok _ _ _ _ _ hc w2 (hp w2) (Sub.refl _) (slO.read (St.own 0 rfl see.sub see.dj hs) (Sub.refl _) (Sub.refl _)) ((St.pers 0 rfl see.sub see.dj hs))) ?_
      clear hc
      refine go ?_
      refine QE.atA ?_
      refine DA.one 19 rfl (by kernel_rfl) ?_
      refine go ?_
      refine QE.atA ?_
      refine DA.one 20 rfl (by kernel_rfl) ?_
      refine go ?_
      refine QE.atA ?_
      refine DA.done (by kernel_rfl) ?_
      refine QE.imp (fun w2 hw => St.unfocus0 hx_x1569.2 rfl hw) ?_
      exact QE.meet fun a w2 ha hw => ⟨(!t1583), m1552, _, (by omega), ho, hr, ha.sub sb, (St.selP [1, 2, 3, 4, 5, 6, 7] rfl hw)⟩
     have hg1584 := (decide_eq_false hc)
     clear hc
     refine DA.ph 6 18 ?_
     refine DT.is (d := 117) (b := false) rfl hg1584 ?_
     refine DT.tn 6 ?_
     refine DT.tn 7 ?_
     refine DT.tn 8 ?_
     refine DT.tn 9 ?_
     refine DT.tn 10 ?_
     refine DT.tn 11 ?_
     refine DT.tn 12 ?_
     refine DT.tn 13 ?_
     refine DT.tn 14 ?_
     refine DT.tn 15 ?_
     refine DT.tn 16 ?_
     refine DT.tn 17 ?_
     refine DT.next (by kernel_rfl) ?_
     refine DA.ph 18 19 ?_
     refine DT.tn 18 ?_
     refine DT.next (by kernel_rfl) ?_
     refine DA.ph 19 20 ?_
     refine DT.tn 19 ?_
     refine DT.next (by kernel_rfl) ?_
     refine DA.one 20 rfl (by kernel_rfl) ?_
     refine go ?_
     refine QE.atA ?_
     refine DA.done (by kernel_rfl) ?_
     exact QE.meet fun a w2 ha hw => ⟨false, m1552, _, (by omega), ho, hr, ha.sub sb, hw⟩
    refine go ?_
    refine SP.val (Val.loadA 2 rfl Tryz.underlying25 rfl sz25 rfl rfl rfl) rfl rfl rfl ?_
    refine SP.val (Val.loadA 3 rfl Tryz.underlying25 rfl sz25 rfl rfl rfl) rfl rfl rfl ?_
    obtain ⟨t1590, hc, ho⟩ := bind_some (x := capstanref08_Same.f t7 m_0) ho
    refine SP.callV see (caps := []) (.bool t1590) fn12 rfl rfl rfl rfl (fun w2 hP hs sub ap => capstanref08_Same.ok _ _ _ _ _ _ _ _ _ hc w2 hP sub (ap.get 2 rfl) (ap.get 1 rfl) (ap.get 0 rfl) (ap.get 3 rfl) (ap.get 4 rfl) (ap.get 5 rfl)) ?_
    clear hc
    refine go ?_
    refine CP.cb ho (fun ho => ?_) fun ho => ?_
    ·refine go ?_
     obtain rfl := fin ho hr
     exact QE.rt fun _ h => h
    refine CP.skip ?_
    refine QE.blockN ?_
    refine QE.then ?_
    refine CP.region ?_
    refine SP.val (Val.move rfl) rfl rfl rfl ?_
    refine SP.val (Val.cast (v := .int .i64 1) (Val.add rfl rfl) rfl) rfl rfl rfl ?_
    refine go ?_
    refine QE.round ?_
    refine LP.step ?_
    refine CP.seq ?_
    refine CP.seq ?_
    refine CP.region ?_
    refine SP.val (Val.move rfl) rfl rfl rfl ?_
    refine SP.val (Val.cast (v := .bool true) (Val.lss rfl rfl) rfl) rfl rfl rfl ?_
    refine go ?_
    refine CP.condT rfl rfl ?_
    refine go ?_
    refine CP.seq ?_
    refine go ?_
    refine SP.val (Val.loadA 2 rfl Tryz.underlying25 rfl sz25 rfl rfl rfl) rfl rfl rfl ?_
    refine go ?_
    obtain ⟨t1591, hc, ho⟩ := bind_some (x := types_Rows.f t7 k_1) ho
    refine SP.callK see (caps := []) _ fn7 rfl rfl rfl rfl (fun w2 hP hs sub ap => types_Rows.ok _ _ _ _ _ _ hc w2 hP sub (ap.get 2 rfl) (ap.get 1 rfl) (ap.get 0 rfl) (ap.get 6 rfl)) (SP.k1 fun v1592 => ?_)
    clear hc
    refine go ?_
    refine CP.seq ?_
    refine go ?_
    obtain ⟨t1597, hg_t1597, ho⟩ := bind_some ho
    refine SP.jn 6 [1, 2, 5, 6, 7, 8, 9] 43 (.bool t1597) ?_ ?_
    ·clear hg_t1597
     refine go ?_
     refine SP.jn 6 [1, 2, 5, 6, 7, 8, 9] 50 (.bool (t1597 || (decide ((t1591.1.length : Int) ≠ (t16.1.length : Int))))) ?_ ?_
     ·refine go ?_
      obtain ⟨t1604, hg_t1604, ho⟩ := bind_some ho
      refine SP.jn 6 [1, 2, 5, 6, 7, 8, 9] 57 (.bool t1604) ?_ ?_
      ·clear hg_t1604
       refine go ?_
       refine CP.cb ho (fun ho => ?_) fun ho => ?_
       ·refine go ?_
        obtain rfl := fin ho hr
        exact QE.rt fun _ h => h
       refine go ?_
       refine CP.seq ?_
       refine go ?_
       obtain rfl := Option.some.inj ho
       refine CP.loop (fun cl4 a w2 => ∃ x1794 : Int, cl4 ≤ m1513 ∧ iter (capstanlaw10_TypesTells.F m_0 k_1) cl4 (.l4 t7 t16 t1591 x1794) = some r ∧ Env ⟨137, []⟩ [(1, .int .i64 k_1), (2, .pointer (some ⟨b4, 0, none⟩)), (5, .pointer (some ⟨b14, 0, none⟩)), (6, v17), (7, .int .i64 t16.2), (8, .int .i64 1), (9, v1592), (11, .int .i64 x1794)] a ∧ St w em hV [slP k_api_Method v10 t7.Methods, slP k_api_Value v9 t7.Pool, slP k_api_Value v8 t7.Globals, slP k_api_Value v_m_0_Globals m_0.Globals, slP k_api_Value v_m_0_Pool m_0.Pool, slP k_api_Method v_m_0_Methods m_0.Methods, arrP k_arr136 0 tab0] [slD o_types_Row 40 v1592 t1591.1, slO k_capstanref10_Row 41 v17 t16.1, boxO b14 [v8, v9, v10, .int .i64 t7.Migrate] 25, boxO b4 [v_m_0_Globals, v_m_0_Pool, v_m_0_Methods, .int .i64 m_0.Migrate] 25] w2) m1513 (fun a w2 ha hw => ⟨0, Nat.le_refl _, hr, ha.sub sb, (St.selO [0, 2, 3, 4] rfl rfl hw)⟩) ?_
       clear hr
       rintro cl4 a w2 ⟨x1794, hc_l4, hi, ha, hw⟩
       obtain ⟨m1795, o, hm_m1795, ho, hr⟩ := iter_some hi
       refine CP.app ha hw ?_
       clear ha hw a w2 hi
       refine CP.seq ?_
       refine go ?_
       refine SP.val (Val.lenW (fun w2 hw => slD.flat (St.own 0 rfl see.sub see.dj hw) (Sub.refl _) (Sub.refl _)) Tryz.underlying31 rfl) rfl rfl rfl ?_
       refine go ?_
       refine CP.ci ho (fun ho => ?_) fun ho => ?_
       ·refine go ?_
        refine CP.seq ?_
        refine go ?_
        refine CP.join (fun a w2 => ∃ b1820 : Bool, ∃ (m1821 : Nat) (o : (capstanlaw10_TypesTells.S ⊕ Bool)), m1821 ≤ m1795 ∧ capstanlaw10_TypesTells.j3 m_0 k_1 t7 t16 t1591 x1794 b1820 = some o ∧ next (capstanlaw10_TypesTells.F m_0 k_1) m1821 o = some r ∧ Env ⟨137, []⟩ [(1, .int .i64 k_1), (2, .pointer (some ⟨b4, 0, none⟩)), (5, .pointer (some ⟨b14, 0, none⟩)), (6, v17), (7, .int .i64 t16.2), (8, .int .i64 1), (9, v1592), (11, .int .i64 x1794), (88, .bool b1820)] a ∧ St w em hV [slP k_api_Method v10 t7.Methods, slP k_api_Value v9 t7.Pool, slP k_api_Value v8 t7.Globals, slP k_api_Value v_m_0_Globals m_0.Globals, slP k_api_Value v_m_0_Pool m_0.Pool, slP k_api_Method v_m_0_Methods m_0.Methods, arrP k_arr136 0 tab0] [slD o_types_Row 40 v1592 t1591.1, slO k_capstanref10_Row 41 v17 t16.1, boxO b14 [v8, v9, v10, .int .i64 t7.Migrate] 25, boxO b4 [v_m_0_Globals, v_m_0_Pool, v_m_0_Methods, .int .i64 m_0.Migrate] 25] w2) ?_ ?_
        ·rintro a w2 ⟨b1820, m1821, o, hm_m1821, ho, hr, ha, hw⟩
         refine CP.app ha hw ?_
         clear ha hw a w2
         refine CP.cb ho (fun ho => ?_) fun ho => ?_
         ·refine go ?_
          obtain rfl := fin ho hr
          exact QE.rt fun _ h => h
         refine go ?_
         obtain rfl := Option.some.inj ho
         exact QE.lower m1821 (by omega) fun a w2 ha hw => ⟨(IntKind.i64.wrap (x1794 + 1)), (by omega), hr, ha.sub sb, hw⟩
        refine CP.drawA (by kernel_rfl) (fun w2 k h => h.drawn k) ?_
        obtain ⟨x1797, hx_x1797, ho⟩ := elt_bind ho
        refine DA.ghost (fun w2 hw => let ⟨z, hz⟩ := ixC ((fun w2 hw => slD.flat (St.own 0 rfl see.sub see.dj hw) (Sub.refl _) (Sub.refl _)) w2 hw) hx_x1797.1 hx_x1797.2; ⟨z, hz, hw⟩) (fun p1796 i_p1796 => ?_)
        have h_p1796 := i_p1796.1
        obtain ⟨p1798, h_p1798⟩ := PtC.more h_p1796 0
        obtain ⟨x1800, hx_x1800, ho⟩ := elt_bind ho
        refine DA.ghost (fun w2 hw => let ⟨z, hz⟩ := ixC ((fun w2 hw => slO.whole (St.own 1 rfl see.sub see.dj hw)) w2 hw) hx_x1800.1 hx_x1800.2; ⟨z, hz, hw⟩) (fun p1799 i_p1799 => ?_)
        have h_p1799 := i_p1799.1
        obtain ⟨p1801, h_p1801⟩ := PtC.more h_p1799 0
        refine DA.ph 0 10 ?_
        refine DT.tk 0 ?_
        refine DT.tk 1 ?_
        refine DT.tv 2 rfl (Val.indexC' i_p1796 Tryz.underlying31 sz40 rfl rfl) ?_
        refine DT.tv 3 rfl (Val.fieldC h_p1796 h_p1798 Tryz.underlying40 rfl rfl sz4 rfl) ?_
        refine DT.tv 4 rfl (Val.loadW1 (off := 0) (k := k_types_Row) (fun w2 hw => slD.flat (St.own 0 rfl see.sub see.dj hw) (Sub.refl _) (Sub.refl _)) hx_x1797.2 h_p1798 (fun _ _ ⟨_, e, _⟩ => by subst e; rfl) Tryz.underlying4 rfl rfl) ?_
        refine DT.tk 5 ?_
        refine DT.tk 6 ?_
        refine DT.tv 7 rfl (Val.indexC' i_p1799 Tryz.underlying28 sz41 rfl rfl) ?_
        refine DT.tv 8 rfl (Val.fieldC h_p1799 h_p1801 Tryz.underlying41 rfl rfl sz4 rfl) ?_
        refine DT.tv 9 rfl (Val.loadW1 (off := 0) (k := k_capstanref10_Row) (fun w2 hw => slO.whole (St.own 1 rfl see.sub see.dj hw)) hx_x1800.2 h_p1801 (fun _ _ ⟨_, e, _⟩ => by subst e; rfl) Tryz.underlying4 rfl rfl) ?_
        refine DT.next (by kernel_rfl) ?_
        refine DA.one 10 rfl (by kernel_rfl) ?_
        refine SP.val (Val.neqB Tryz.underlying4 rfl rfl) rfl rfl rfl ?_
        refine go ?_
        refine QE.atA ?_
        refine DA.one 11 rfl (by kernel_rfl) ?_
        refine go ?_
        refine QE.atA ?_
        rcases if_some ho with ⟨hc, ho⟩ | ⟨hc, ho⟩
        ·have hg1802 := hc
         clear hc
         refine DA.ph 12 22 ?_
         refine DT.is (d := 75) (b := true) rfl hg1802 ?_
         refine DT.tn 12 ?_
         refine DT.tn 13 ?_
         refine DT.tn 14 ?_
         refine DT.tn 15 ?_
         refine DT.tn 16 ?_
         refine DT.tn 17 ?_
         refine DT.tn 18 ?_
         refine DT.tn 19 ?_
         refine DT.tn 20 ?_
         refine DT.tn 21 ?_
         refine DT.next (by kernel_rfl) ?_
         refine DA.ph 22 23 ?_
         refine DT.tn 22 ?_
         refine DT.next (by kernel_rfl) ?_
         refine DA.ph 23 24 ?_
         refine DT.tn 23 ?_
         refine DT.next (by kernel_rfl) ?_
         refine DA.one 24 rfl (by kernel_rfl) ?_
         refine go ?_
         refine QE.atA ?_
         refine DA.done (by kernel_rfl) ?_
         exact QE.meet fun a w2 ha hw => ⟨true, m1795, _, (by omega), ho, hr, ha.sub sb, hw⟩
        have hg1803 := (bf hc)
        clear hc
        obtain ⟨x1805, hx_x1805, ho⟩ := elt_bind ho
        refine DA.ghost (fun w2 hw => let ⟨z, hz⟩ := ixC ((fun w2 hw => slD.flat (St.own 0 rfl see.sub see.dj hw) (Sub.refl _) (Sub.refl _)) w2 hw) hx_x1805.1 hx_x1805.2; ⟨z, hz, hw⟩) (fun p1804 i_p1804 => ?_)
        have h_p1804 := i_p1804.1
        obtain ⟨p1806, h_p1806⟩ := PtC.more h_p1804 1
        refine DA.ghost (fun w2 hw => St.learnC (off := 1) (j := x1794) o_types_Row.leaf1 hx_x1805.2 hw) (fun v1807 _ => ?_)
        obtain ⟨x1811, hx_x1811, ho⟩ := elt_bind ho
        refine DA.ghost (fun w2 hw => let ⟨z, hz⟩ := ixC ((fun w2 hw => slO.whole (St.own 1 rfl see.sub see.dj hw)) w2 hw) hx_x1811.1 hx_x1811.2; ⟨z, hz, hw⟩) (fun p1810 i_p1810 => ?_)
        have h_p1810 := i_p1810.1
        obtain ⟨p1812, h_p1812⟩ := PtC.more h_p1810 1
        refine DA.ph 12 22 ?_
        refine DT.is (d := 75) (b := false) rfl hg1803 ?_
        refine DT.tk 12 ?_
        refine DT.tk 13 ?_
        refine DT.tv 14 rfl (Val.indexC' i_p1804 Tryz.underlying31 sz40 rfl rfl) ?_
        refine DT.tv 15 rfl (Val.fieldC h_p1804 h_p1806 Tryz.underlying40 rfl rfl sz38 rfl) ?_
        refine DT.tv 16 rfl (Val.loadC see 0 rfl h_p1806 Tryz.underlying38 rfl) ?_
        refine DT.tk 17 ?_
        refine DT.tk 18 ?_
        refine DT.tv 19 rfl (Val.indexC' i_p1810 Tryz.underlying28 sz41 rfl rfl) ?_
        refine DT.tv 20 rfl (Val.fieldC h_p1810 h_p1812 Tryz.underlying41 rfl rfl sz38 rfl) ?_
        refine DT.one 21 rfl (by kernel_rfl) rfl ?_
        refine SP.loadOS (j := x1794) see 1 1 rfl hx_x1811.2 h_p1812 (fun _ _ ⟨v0_, e, p0_⟩ => ⟨v0_, by subst e; rfl, p0_⟩) Tryz.underlying38 rfl rfl rfl (fun v1817 => ?_)
        refine go ?_
        refine QE.atT (fun w2 hw => (St.selP [1, 2, 3, 4, 5, 6, 7] rfl hw)) ?_
        refine DT.next (by kernel_rfl) ?_
        refine DA.imp (fun w2 hw => St.focusC o_types_Row.leaf1 hx_x1805.2 hw) ?_
        refine DA.one 22 rfl (by kernel_rfl) ?_
        obtain ⟨t1819, hc, ho⟩ := bind_some (x := capstanref07_SameKinds.f x1805.Kinds x1811.Kinds) ho
        refine SP.callVO see (caps := []) (.bool t1819) fn11 rfl rfl rfl rfl (fun w2 hs => capstanref07_SameKinds.ok _ _ _ _ _ hc w2 (hp w2) (Sub.refl _) (slO.read (St.own 0 rfl see.sub see.dj hs) (Sub.refl _) (Sub.refl _)) ((St.pers 0 rfl see.sub see.dj hs))) ?_
        clear hc
        refine go ?_
        refine QE.atA ?_
        refine DA.one 23 rfl (by kernel_rfl) ?_
        refine go ?_
        refine QE.atA ?_
        refine DA.one 24 rfl (by kernel_rfl) ?_
        refine go ?_
        refine QE.atA ?_
        refine DA.done (by kernel_rfl) ?_
        refine QE.imp (fun w2 hw => St.unfocus0 hx_x1805.2 rfl hw) ?_
        exact QE.meet fun a w2 ha hw => ⟨(!t1819), m1795, _, (by omega), ho, hr, ha.sub sb, (St.selP [1, 2, 3, 4, 5, 6, 7] rfl hw)⟩
       refine go ?_
       refine CP.seq ?_
       refine go ?_
       obtain rfl := Option.some.inj ho
       refine CP.loop (fun cl5 a w2 => ∃ l1900 : List types_Row, ∃ x1902 : Int, ∃ v1901 : Value, cl5 ≤ m1795 ∧ iter (capstanlaw10_TypesTells.F m_0 k_1) cl5 (.l5 t7 t16 l1900 x1902) = some r ∧ Env ⟨137, []⟩ [(1, .int .i64 k_1), (2, .pointer (some ⟨b4, 0, none⟩)), (5, .pointer (some ⟨b14, 0, none⟩)), (6, v17), (7, .int .i64 t16.2), (8, .int .i64 1), (9, v1901), (12, .int .i64 x1902)] a ∧ St w em hV [slP k_api_Method v10 t7.Methods, slP k_api_Value v9 t7.Pool, slP k_api_Value v8 t7.Globals, slP k_api_Value v_m_0_Globals m_0.Globals, slP k_api_Value v_m_0_Pool m_0.Pool, slP k_api_Method v_m_0_Methods m_0.Methods, arrP k_arr136 0 tab0] [slD o_types_Row 40 v1901 l1900, slO k_capstanref10_Row 41 v17 t16.1, boxO b14 [v8, v9, v10, .int .i64 t7.Migrate] 25, boxO b4 [v_m_0_Globals, v_m_0_Pool, v_m_0_Methods, .int .i64 m_0.Migrate] 25] w2) m1795 (fun a w2 ha hw => ⟨t1591.1, 0, v1592, Nat.le_refl _, hr, ha.sub sb, hw⟩) ?_
       clear hr
       rintro cl5 a w2 ⟨l1900, x1902, v1901, hc_l5, hi, ha, hw⟩
       obtain ⟨m1903, o, hm_m1903, ho, hr⟩ := iter_some hi
       refine CP.app ha hw ?_
       clear ha hw a w2 hi
       refine CP.seq ?_
       refine go ?_
       refine SP.val (Val.lenW (fun w2 hw => slD.flat (St.own 0 rfl see.sub see.dj hw) (Sub.refl _) (Sub.refl _)) Tryz.underlying31 rfl) rfl rfl rfl ?_
       refine go ?_
       refine CP.ci ho (fun ho => ?_) fun ho => ?_
       ·refine go ?_
        refine CP.seq ?_
        refine go ?_
        refine CP.seq ?_
        refine go ?_
        obtain rfl := Option.some.inj ho
        refine CP.loop (fun cl6 a w2 => ∃ l1939 : List types_Row, ∃ x1941 : Int, ∃ v1940 : Value, cl6 ≤ m1903 ∧ iter (capstanlaw10_TypesTells.F m_0 k_1) cl6 (.l6 t7 t16 x1902 l1939 x1941) = some r ∧ Env ⟨137, []⟩ [(1, .int .i64 k_1), (2, .pointer (some ⟨b4, 0, none⟩)), (5, .pointer (some ⟨b14, 0, none⟩)), (6, v17), (7, .int .i64 t16.2), (8, .int .i64 1), (9, v1940), (12, .int .i64 x1902), (13, .int .i64 x1941)] a ∧ St w em hV [slP k_api_Method v10 t7.Methods, slP k_api_Value v9 t7.Pool, slP k_api_Value v8 t7.Globals, slP k_api_Value v_m_0_Globals m_0.Globals, slP k_api_Value v_m_0_Pool m_0.Pool, slP k_api_Method v_m_0_Methods m_0.Methods, arrP k_arr136 0 tab0] [slD o_types_Row 40 v1940 l1939, slO k_capstanref10_Row 41 v17 t16.1, boxO b14 [v8, v9, v10, .int .i64 t7.Migrate] 25, boxO b4 [v_m_0_Globals, v_m_0_Pool, v_m_0_Methods, .int .i64 m_0.Migrate] 25] w2) m1903 (fun a w2 ha hw => ⟨l1900, 0, v1901, Nat.le_refl _, hr, ha.sub sb, hw⟩) ?_
        clear hr
        rintro cl6 a w2 ⟨l1939, x1941, v1940, hc_l6, hi, ha, hw⟩
        obtain ⟨m1942, o, hm_m1942, ho, hr⟩ := iter_some hi
        refine CP.app ha hw ?_
        clear ha hw a w2 hi
        refine CP.seq ?_
        refine go ?_
        obtain ⟨x1944, hx_x1944, ho⟩ := elt_bind ho
        refine SP.indexW (fun w2 hw => slD.flat (St.own 0 rfl see.sub see.dj hw) (Sub.refl _) (Sub.refl _)) Tryz.underlying31 sz40 hx_x1944.1 hx_x1944.2 rfl rfl rfl rfl (fun p1943 h_p1943 => ?_)
        refine SP.fieldO h_p1943 Tryz.underlying40 rfl sz38 rfl rfl rfl (fun p1945 h_p1945 => ?_)
        refine SP.loadDS o_types_Row.leaf1 hx_x1944.2 h_p1945 Tryz.underlying38 rfl rfl rfl (fun v1946 => ?_)
        refine SP.val (Val.lenW (fun w2 hw => slO.whole (St.own 0 rfl see.sub see.dj hw)) Tryz.underlying38 rfl) rfl rfl rfl ?_
        refine go ?_
        refine CP.ci ho (fun ho => ?_) fun ho => ?_
        ·refine go ?_
         refine CP.seq ?_
         refine go ?_
         refine SP.imp (fun w2 hw => St.unfocus0 hx_x1944.2 rfl hw) ?_
         obtain ⟨x1950, hx_x1950, ho⟩ := elt_bind ho
         refine SP.indexW (fun w2 hw => slD.flat (St.own 0 rfl see.sub see.dj hw) (Sub.refl _) (Sub.refl _)) Tryz.underlying31 sz40 hx_x1950.1 hx_x1950.2 rfl rfl rfl rfl (fun p1949 h_p1949 => ?_)
         refine SP.fieldO h_p1949 Tryz.underlying40 rfl sz38 rfl rfl rfl (fun p1951 h_p1951 => ?_)
         refine SP.loadDS o_types_Row.leaf1 hx_x1950.2 h_p1951 Tryz.underlying38 rfl rfl rfl (fun v1952 => ?_)
         refine go ?_
         obtain ⟨x1956, hx_x1956, ho⟩ := elt_bind ho
         refine SP.indexW (fun w2 hw => slO.whole (St.own 0 rfl see.sub see.dj hw)) Tryz.underlying38 sz5 hx_x1956.1 hx_x1956.2 rfl rfl rfl rfl (fun p1955 h_p1955 => ?_)
         refine SP.storeO (z0 := 77) (off := 0) (vs := [.int .u8 77]) see 0 rfl hx_x1956.2 h_p1955 rfl rfl sz5 rfl (fun a cs _ e => by subst e; rfl) rfl rfl rfl ?_
         refine go ?_
         refine QE.imp (fun w2 hw => St.unfocus hw) ?_
         obtain rfl := Option.some.inj ho
         exact QE.lower m1942 (by omega) fun a w2 ha hw => ⟨(l1939.set x1902.toNat (types_Row.set_Kinds x1950 (x1950.Kinds.set x1941.toNat 77))), (IntKind.i64.wrap (x1941 + 1)), v1940, (by omega), hr, ha.sub sb, hw⟩
        refine go ?_
        refine CP.join (fun a w2 => ∃ b1975 : Bool, ∃ (m1976 : Nat) (o : (capstanlaw10_TypesTells.S ⊕ Bool)), m1976 ≤ m1942 ∧ capstanlaw10_TypesTells.j4 m_0 k_1 t7 t16 x1902 l1939 b1975 = some o ∧ next (capstanlaw10_TypesTells.F m_0 k_1) m1976 o = some r ∧ Env ⟨137, []⟩ [(1, .int .i64 k_1), (2, .pointer (some ⟨b4, 0, none⟩)), (5, .pointer (some ⟨b14, 0, none⟩)), (6, v17), (7, .int .i64 t16.2), (8, .int .i64 1), (9, v1940), (12, .int .i64 x1902), (132, .bool b1975)] a ∧ St w em hV [slP k_api_Method v10 t7.Methods, slP k_api_Value v9 t7.Pool, slP k_api_Value v8 t7.Globals, slP k_api_Value v_m_0_Globals m_0.Globals, slP k_api_Value v_m_0_Pool m_0.Pool, slP k_api_Method v_m_0_Methods m_0.Methods, arrP k_arr136 0 tab0] [slD o_types_Row 40 v1940 l1939, slO k_capstanref10_Row 41 v17 t16.1, boxO b14 [v8, v9, v10, .int .i64 t7.Migrate] 25, boxO b4 [v_m_0_Globals, v_m_0_Pool, v_m_0_Methods, .int .i64 m_0.Migrate] 25] w2) ?_ ?_
        ·rintro a w2 ⟨b1975, m1976, o, hm_m1976, ho, hr, ha, hw⟩
         refine CP.app ha hw ?_
         clear ha hw a w2
         refine CP.cb ho (fun ho => ?_) fun ho => ?_
         ·refine go ?_
          obtain rfl := fin ho hr
          exact QE.rt fun _ h => h
         refine go ?_
         obtain rfl := Option.some.inj ho
         exact QE.lower m1976 (by omega) fun a w2 ha hw => ⟨l1939, (IntKind.i64.wrap (x1902 + 1)), v1940, (by omega), hr, ha.sub sb, hw⟩
        refine CP.drawA (by kernel_rfl) (fun w2 k h => h.drawn k) ?_
        refine (DA.phase (fun i => Nat.ble 0 i && Nat.blt i 4) (fun w2 => St w em hV [slP k_api_Method v10 t7.Methods, slP k_api_Value v9 t7.Pool, slP k_api_Value v8 t7.Globals, slP k_api_Value v_m_0_Globals m_0.Globals, slP k_api_Value v_m_0_Pool m_0.Pool, slP k_api_Method v_m_0_Methods m_0.Methods, arrP k_arr136 0 tab0] [slO k_capstanref10_Row 41 v17 t16.1, boxO b14 [v8, v9, v10, .int .i64 t7.Migrate] 25, boxO b4 [v_m_0_Globals, v_m_0_Pool, v_m_0_Methods, .int .i64 m_0.Migrate] 25] w2) ?_)
        refine DT.ts 0 rfl (Val.move rfl) (fun w2 hw => (St.selO [2, 3, 4] rfl rfl hw)) ?_
        refine DT.ts 1 rfl (Val.add rfl rfl) (fun w2 hw => (St.selO [2, 3, 4] rfl rfl hw)) ?_
        refine DT.ts 2 rfl (Val.move rfl) (fun w2 hw => (St.selO [2, 3, 4] rfl rfl hw)) ?_
        refine DT.one 3 rfl (by kernel_rfl) rfl ?_
        refine SP.imp (fun w2 hw => St.unfocus0 hx_x1944.2 rfl hw) ?_
        refine SP.val (Val.lenW (fun w2 hw => slD.flat (St.own 0 rfl see.sub see.dj hw) (Sub.refl _) (Sub.refl _)) Tryz.underlying31 rfl) rfl rfl rfl ?_
        refine go ?_
        refine QE.atT (fun w2 hw => (St.selO [1, 2, 3] rfl rfl hw)) ?_
        refine DT.next (by kernel_rfl) ?_
        refine DA.one 4 rfl (by kernel_rfl) ?_
        refine go ?_
        refine QE.atA ?_
        refine DA.one 5 rfl (by kernel_rfl) ?_
        refine go ?_
        refine QE.atA ?_
        rcases if_some ho with ⟨hc, ho⟩ | ⟨hc, ho⟩
        ·have hg1957 := (decide_eq_true hc)
         clear hc
         obtain ⟨x1959, hx_x1959, ho⟩ := elt_bind ho
         refine DA.ghost (fun w2 hw => let ⟨z, hz⟩ := ixC ((fun w2 hw => slD.flat (St.own 0 rfl see.sub see.dj hw) (Sub.refl _) (Sub.refl _)) w2 hw) hx_x1959.1 hx_x1959.2; ⟨z, hz, hw⟩) (fun p1958 i_p1958 => ?_)
         have h_p1958 := i_p1958.1
         obtain ⟨p1960, h_p1960⟩ := PtC.more h_p1958 1
         refine DA.ghost (fun w2 hw => St.learnC (off := 1) (j := IntKind.i64.wrap (x1902 + 1)) o_types_Row.leaf1 hx_x1959.2 hw) (fun v1961 _ => ?_)
         obtain ⟨x1965, hx_x1965, ho⟩ := elt_bind ho
         refine DA.ghost (fun w2 hw => let ⟨z, hz⟩ := ixC ((fun w2 hw => slO.whole (St.own 1 rfl see.sub see.dj hw)) w2 hw) hx_x1965.1 hx_x1965.2; ⟨z, hz, hw⟩) (fun p1964 i_p1964 => ?_)
         have h_p1964 := i_p1964.1
         obtain ⟨p1966, h_p1966⟩ := PtC.more h_p1964 1
         refine DA.ph 6 18 ?_
         refine DT.is (d := 117) (b := true) rfl hg1957 ?_
         refine DT.tk 6 ?_
         refine DT.tk 7 ?_
         refine DT.tk 8 ?_
         refine DT.tv 9 rfl (Val.indexC' i_p1958 Tryz.underlying31 sz40 rfl rfl) ?_
         refine DT.tv 10 rfl (Val.fieldC h_p1958 h_p1960 Tryz.underlying40 rfl rfl sz38 rfl) ?_
         refine DT.tv 11 rfl (Val.loadC see 0 rfl h_p1960 Tryz.underlying38 rfl) ?_
         refine DT.tk 12 ?_
         refine DT.tk 13 ?_
         refine DT.tk 14 ?_
         refine DT.tv 15 rfl (Val.indexC' i_p1964 Tryz.underlying28 sz41 rfl rfl) ?_
         refine DT.tv 16 rfl (Val.fieldC h_p1964 h_p1966 Tryz.underlying41 rfl rfl sz38 rfl) ?_
         refine DT.one 17 rfl (by kernel_rfl) rfl ?_
         refine SP.loadOS (j := IntKind.i64.wrap (x1902 + 1)) see 1 1 rfl hx_x1965.2 h_p1966 (fun _ _ ⟨v0_, e, p0_⟩ => ⟨v0_, by subst e; rfl, p0_⟩) Tryz.underlying38 rfl rfl rfl (fun v1971 => ?_)
         refine go ?_
         refine QE.atT (fun w2 hw => (St.selP [1, 2, 3, 4, 5, 6, 7] rfl hw)) ?_
         refine DT.next (by kernel_rfl) ?_
         refine DA.imp (fun w2 hw => St.focusC o_types_Row.leaf1 hx_x1959.2 hw) ?_
         refine DA.one 18 rfl (by kernel_rfl) ?_
         obtain ⟨t1973, hc, ho⟩ := bind_some (x := capstanref07_SameKinds.f x1959.Kinds x1965.Kinds) ho
         refine SP.callVO see (caps := []) (.bool t1973) fn11 rfl rfl rfl rfl (fun w2 hs => capstanref07_SameKinds.ok _ _ _ _ _ hc w2 (hp w2) (Sub.refl _) (slO.read (St.own 0 rfl see.sub see.dj hs) (Sub.refl _) (Sub.refl _)) ((St.pers 0 rfl see.sub see.dj hs))) ?_
         clear hc
         refine go ?_
         refine QE.atA ?_
         refine DA.one 19 rfl (by kernel_rfl) ?_
         refine go ?_
         refine QE.atA ?_
         refine DA.one 20 rfl (by kernel_rfl) ?_
         refine go ?_
         refine QE.atA ?_
         refine DA.done (by kernel_rfl) ?_
         refine QE.imp (fun w2 hw => St.unfocus0 hx_x1959.2 rfl hw) ?_
         exact QE.meet fun a w2 ha hw => ⟨(!t1973), m1942, _, (by omega), ho, hr, ha.sub sb, (St.selP [1, 2, 3, 4, 5, 6, 7] rfl hw)⟩
        have hg1974 := (decide_eq_false hc)
        clear hc
        refine DA.ph 6 18 ?_
        refine DT.is (d := 117) (b := false) rfl hg1974 ?_
        refine DT.tn 6 ?_
        refine DT.tn 7 ?_
        refine DT.tn 8 ?_
        refine DT.tn 9 ?_
        refine DT.tn 10 ?_
        refine DT.tn 11 ?_
        refine DT.tn 12 ?_
        refine DT.tn 13 ?_
        refine DT.tn 14 ?_
        refine DT.tn 15 ?_
        refine DT.tn 16 ?_
        refine DT.tn 17 ?_
        refine DT.next (by kernel_rfl) ?_
        refine DA.ph 18 19 ?_
        refine DT.tn 18 ?_
        refine DT.next (by kernel_rfl) ?_
        refine DA.ph 19 20 ?_
        refine DT.tn 19 ?_
        refine DT.next (by kernel_rfl) ?_
        refine DA.one 20 rfl (by kernel_rfl) ?_
        refine go ?_
        refine QE.atA ?_
        refine DA.done (by kernel_rfl) ?_
        exact QE.meet fun a w2 ha hw => ⟨false, m1942, _, (by omega), ho, hr, ha.sub sb, hw⟩
       refine go ?_
       refine SP.val (Val.loadA 2 rfl Tryz.underlying25 rfl sz25 rfl rfl rfl) rfl rfl rfl ?_
       refine SP.val (Val.loadA 3 rfl Tryz.underlying25 rfl sz25 rfl rfl rfl) rfl rfl rfl ?_
       obtain ⟨t1980, hc, ho⟩ := bind_some (x := capstanref08_Same.f t7 m_0) ho
       refine SP.callV see (caps := []) (.bool t1980) fn12 rfl rfl rfl rfl (fun w2 hP hs sub ap => capstanref08_Same.ok _ _ _ _ _ _ _ _ _ hc w2 hP sub (ap.get 2 rfl) (ap.get 1 rfl) (ap.get 0 rfl) (ap.get 3 rfl) (ap.get 4 rfl) (ap.get 5 rfl)) ?_
       clear hc
       refine go ?_
       refine CP.cb ho (fun ho => ?_) fun ho => ?_
       ·refine go ?_
        obtain rfl := fin ho hr
        exact QE.rt fun _ h => h
       refine CP.skip ?_
       refine QE.blockN ?_
       refine QE.then ?_
       refine CP.region ?_
       refine SP.val (Val.move rfl) rfl rfl rfl ?_
       refine SP.val (Val.cast (v := .int .i64 2) (Val.add rfl rfl) rfl) rfl rfl rfl ?_
       refine go ?_
       refine QE.round ?_
       refine LP.step ?_
       refine CP.seq ?_
       refine CP.seq ?_
       refine CP.region ?_
       refine SP.val (Val.move rfl) rfl rfl rfl ?_
       refine SP.val (Val.cast (v := .bool false) (Val.lss rfl rfl) rfl) rfl rfl rfl ?_
       refine go ?_
       refine CP.condF rfl rfl ?_
       refine go ?_
       obtain rfl := fin ho hr
       exact QE.rt fun _ h => h
      refine SP.cb 51 hg_t1604 (fun hq1601 ho => ?_) fun hq1601 ho => ?_
      ·refine go ?_
       obtain rfl := Option.some.inj ho
       exact QE.jn fun w2 hw => hw
      refine go ?_
      obtain ⟨t1602, hc, ho⟩ := bind_some (x := types_Height.f t1591.1) ho
      refine SP.callVO see (caps := []) (.int .i64 t1602) fn9 rfl rfl rfl rfl (fun w2 hs => types_Height.ok _ _ _ hc w2 (hp w2) (Sub.refl _) (slD.read (St.own 0 rfl see.sub see.dj hs) (Sub.refl _) (Sub.refl _))) ?_
      clear hc
      refine go ?_
      obtain ⟨t1603, hc, ho⟩ := bind_some (x := capstanref10_Height.f t16.1) ho
      refine SP.callVO see (caps := []) (.int .i64 t1603) fn10 rfl rfl rfl rfl (fun w2 hs => capstanref10_Height.ok _ _ _ hc w2 (hp w2) (Sub.refl _) (slO.read (St.own 2 rfl see.sub see.dj hs) (Sub.refl _) (Sub.refl _))) ?_
      clear hc
      refine go ?_
      obtain rfl := Option.some.inj ho
      exact QE.jn fun w2 hw => hw
     refine SP.bb 44 (fun hq1599 => ?_) fun hq1599 => ?_
     ·refine go ?_
      exact QE.jb (or_t hq1599) fun w2 hw => hw
     refine go ?_
     refine SP.val (Val.lenW (fun w2 hw => slD.flat (St.own 0 rfl see.sub see.dj hw) (Sub.refl _) (Sub.refl _)) Tryz.underlying31 rfl) rfl rfl rfl ?_
     refine go ?_
     refine SP.val (Val.lenW (fun w2 hw => slO.whole (St.own 2 rfl see.sub see.dj hw)) Tryz.underlying28 rfl) rfl rfl rfl ?_
     refine go ?_
     exact QE.jb (or_f hq1599 rfl) fun w2 hw => hw
    refine SP.ci 37 hg_t1597 (fun hq1595 ho => ?_) fun hq1595 ho => ?_
    ·refine go ?_
     obtain rfl := Option.some.inj ho
     exact QE.jn fun w2 hw => hw
    refine SP.val (Val.loadA 3 rfl Tryz.underlying25 rfl sz25 rfl rfl rfl) rfl rfl rfl ?_
    refine go ?_
    obtain ⟨t1596, hc, ho⟩ := bind_some (x := types_Check.f t7 k_1) ho
    refine SP.callV see (caps := []) (.int .i64 t1596) fn8 rfl rfl rfl rfl (fun w2 hP hs sub ap => types_Check.ok _ _ _ _ _ _ hc w2 hP sub (ap.get 2 rfl) (ap.get 1 rfl) (ap.get 0 rfl) (ap.get 6 rfl)) ?_
    clear hc
    refine go ?_
    obtain rfl := Option.some.inj ho
    exact QE.jn fun w2 hw => hw
   refine SP.cb 51 hg_t32 (fun hq29 ho => ?_) fun hq29 ho => ?_
   ·refine go ?_
    obtain rfl := Option.some.inj ho
    exact QE.jn fun w2 hw => hw
   refine go ?_
   obtain ⟨t30, hc, ho⟩ := bind_some (x := types_Height.f t19.1) ho
   refine SP.callVO see (caps := []) (.int .i64 t30) fn9 rfl rfl rfl rfl (fun w2 hs => types_Height.ok _ _ _ hc w2 (hp w2) (Sub.refl _) (slD.read (St.own 0 rfl see.sub see.dj hs) (Sub.refl _) (Sub.refl _))) ?_
   clear hc
   refine go ?_
   obtain ⟨t31, hc, ho⟩ := bind_some (x := capstanref10_Height.f t16.1) ho
   refine SP.callVO see (caps := []) (.int .i64 t31) fn10 rfl rfl rfl rfl (fun w2 hs => capstanref10_Height.ok _ _ _ hc w2 (hp w2) (Sub.refl _) (slO.read (St.own 1 rfl see.sub see.dj hs) (Sub.refl _) (Sub.refl _))) ?_
   clear hc
   refine go ?_
   obtain rfl := Option.some.inj ho
   exact QE.jn fun w2 hw => hw
  refine SP.bb 44 (fun hq27 => ?_) fun hq27 => ?_
  ·refine go ?_
   exact QE.jb (or_t hq27) fun w2 hw => hw
  refine go ?_
  refine SP.val (Val.lenW (fun w2 hw => slD.flat (St.own 0 rfl see.sub see.dj hw) (Sub.refl _) (Sub.refl _)) Tryz.underlying31 rfl) rfl rfl rfl ?_
  refine go ?_
  refine SP.val (Val.lenW (fun w2 hw => slO.whole (St.own 1 rfl see.sub see.dj hw)) Tryz.underlying28 rfl) rfl rfl rfl ?_
  refine go ?_
  exact QE.jb (or_f hq27 rfl) fun w2 hw => hw
 refine SP.ci 37 hg_t25 (fun hq23 ho => ?_) fun hq23 ho => ?_
 ·refine go ?_
  obtain rfl := Option.some.inj ho
  exact QE.jn fun w2 hw => hw
 refine SP.val (Val.loadA 2 rfl Tryz.underlying25 rfl sz25 rfl rfl rfl) rfl rfl rfl ?_
 refine go ?_
 obtain ⟨t24, hc, ho⟩ := bind_some (x := types_Check.f t7 k_1) ho
 refine SP.callV see (caps := []) (.int .i64 t24) fn8 rfl rfl rfl rfl (fun w2 hP hs sub ap => types_Check.ok _ _ _ _ _ _ hc w2 hP sub (ap.get 2 rfl) (ap.get 1 rfl) (ap.get 0 rfl) (ap.get 6 rfl)) ?_
 clear hc
 refine go ?_
 obtain rfl := Option.some.inj ho
 exact QE.jn fun w2 hw => hw
theorem cl5 : Tryz.prog.cellsOf 5 = 1 := by kernel_rfl
theorem cl2 : Tryz.prog.cellsOf 2 = 1 := by kernel_rfl
theorem cl84 : Tryz.prog.cellsOf 84 = 3 := by kernel_rfl
def wf_api_Value (x : api_Value) : Prop := (Lit.int .u8 x.Kind).wf = true ∧ (Lit.int .i64 x.A).wf = true ∧ (Lit.int .i64 x.B).wf = true
theorem opens_api_Value : Opens Tryz.prog 84 k_api_Value wf_api_Value := by
  intro H enc W fuel cs d ps h
  cases fuel with
  | zero => simp [DataW.trod] at h
  | succ n =>
    obtain ⟨hl, hf⟩ := trod_struct Tryz.underlying84 h
    rw [cl84] at hl
    obtain ⟨c0, c1, c2, rfl⟩ := len3 hl
    obtain ⟨d0, q0, h0⟩ := hf 0 _ rfl
    replace h0 : DataW.trod enc Tryz.prog W 0 (fun _ => true) true n 5 (List.take (Tryz.prog.cellsOf 5) [c0, c1, c2]) = some (d0, q0) := h0
    rw [cl5] at h0
    replace h0 : DataW.trod enc Tryz.prog W 0 (fun _ => true) true n 5 [c0] = some (d0, q0) := h0
    obtain ⟨x0, r0, w0⟩ := (Opens.int Tryz.underlying5) enc W n _ _ _ h0
    obtain ⟨rfl, -⟩ := List.cons.inj r0
    obtain ⟨d1, q1, h1⟩ := hf 1 _ rfl
    replace h1 : DataW.trod enc Tryz.prog W 0 (fun _ => true) true n 2 (List.take (Tryz.prog.cellsOf 2) [c1, c2]) = some (d1, q1) := h1
    rw [cl2] at h1
    replace h1 : DataW.trod enc Tryz.prog W 0 (fun _ => true) true n 2 [c1] = some (d1, q1) := h1
    obtain ⟨x1, r1, w1⟩ := (Opens.int Tryz.underlying2) enc W n _ _ _ h1
    obtain ⟨rfl, -⟩ := List.cons.inj r1
    obtain ⟨d2, q2, h2⟩ := hf 2 _ rfl
    replace h2 : DataW.trod enc Tryz.prog W 0 (fun _ => true) true n 2 (List.take (Tryz.prog.cellsOf 2) [c2]) = some (d2, q2) := h2
    rw [cl2] at h2
    replace h2 : DataW.trod enc Tryz.prog W 0 (fun _ => true) true n 2 [c2] = some (d2, q2) := h2
    obtain ⟨x2, r2, w2⟩ := (Opens.int Tryz.underlying2) enc W n _ _ _ h2
    obtain ⟨rfl, -⟩ := List.cons.inj r2
    exact ⟨⟨x0, x1, x2⟩, rfl, w0, w1, w2⟩
theorem cl3 : Tryz.prog.cellsOf 3 = 1 := by kernel_rfl
theorem cl56 : Tryz.prog.cellsOf 56 = 3 := by kernel_rfl
def wf_api_Instr (x : api_Instr) : Prop := (Lit.int .u8 x.Op).wf = true ∧ (Lit.int .i64 x.A).wf = true ∧ (Lit.int .i64 x.B).wf = true
theorem opens_api_Instr : Opens Tryz.prog 56 k_api_Instr wf_api_Instr := by
  intro H enc W fuel cs d ps h
  cases fuel with
  | zero => simp [DataW.trod] at h
  | succ n =>
    obtain ⟨hl, hf⟩ := trod_struct Tryz.underlying56 h
    rw [cl56] at hl
    obtain ⟨c0, c1, c2, rfl⟩ := len3 hl
    obtain ⟨d0, q0, h0⟩ := hf 0 _ rfl
    replace h0 : DataW.trod enc Tryz.prog W 0 (fun _ => true) true n 5 (List.take (Tryz.prog.cellsOf 5) [c0, c1, c2]) = some (d0, q0) := h0
    rw [cl5] at h0
    replace h0 : DataW.trod enc Tryz.prog W 0 (fun _ => true) true n 5 [c0] = some (d0, q0) := h0
    obtain ⟨x0, r0, w0⟩ := (Opens.int Tryz.underlying5) enc W n _ _ _ h0
    obtain ⟨rfl, -⟩ := List.cons.inj r0
    obtain ⟨d1, q1, h1⟩ := hf 1 _ rfl
    replace h1 : DataW.trod enc Tryz.prog W 0 (fun _ => true) true n 3 (List.take (Tryz.prog.cellsOf 3) [c1, c2]) = some (d1, q1) := h1
    rw [cl3] at h1
    replace h1 : DataW.trod enc Tryz.prog W 0 (fun _ => true) true n 3 [c1] = some (d1, q1) := h1
    obtain ⟨x1, r1, w1⟩ := (Opens.int Tryz.underlying3) enc W n _ _ _ h1
    obtain ⟨rfl, -⟩ := List.cons.inj r1
    obtain ⟨d2, q2, h2⟩ := hf 2 _ rfl
    replace h2 : DataW.trod enc Tryz.prog W 0 (fun _ => true) true n 3 (List.take (Tryz.prog.cellsOf 3) [c2]) = some (d2, q2) := h2
    rw [cl3] at h2
    replace h2 : DataW.trod enc Tryz.prog W 0 (fun _ => true) true n 3 [c2] = some (d2, q2) := h2
    obtain ⟨x2, r2, w2⟩ := (Opens.int Tryz.underlying3) enc W n _ _ _ h2
    obtain ⟨rfl, -⟩ := List.cons.inj r2
    exact ⟨⟨x0, x1, x2⟩, rfl, w0, w1, w2⟩
theorem cl38 : Tryz.prog.cellsOf 38 = 1 := by kernel_rfl
theorem cl4 : Tryz.prog.cellsOf 4 = 1 := by kernel_rfl
theorem cl46 : Tryz.prog.cellsOf 46 = 1 := by kernel_rfl
theorem cl48 : Tryz.prog.cellsOf 48 = 8 := by kernel_rfl
def wf_api_Method (x : api_Method) : Prop := (x.Args.length ≤ maxLen ∧ ∀ y ∈ x.Args, (Lit.int .u8 y).wf = true) ∧ (x.Locals.length ≤ maxLen ∧ ∀ y ∈ x.Locals, (Lit.int .u8 y).wf = true) ∧ (Lit.int .u8 x.Result).wf = true ∧ True ∧ (Lit.int .i64 x.Fuel).wf = true ∧ (Lit.int .i64 x.Stack).wf = true ∧ (Lit.int .i64 x.Heap).wf = true ∧ (x.Code.length ≤ maxLen ∧ ∀ y ∈ x.Code, wf_api_Instr y)
theorem opens_api_Method : Opens Tryz.prog 48 k_api_Method wf_api_Method := by
  intro H enc W fuel cs d ps h
  cases fuel with
  | zero => simp [DataW.trod] at h
  | succ n =>
    obtain ⟨hl, hf⟩ := trod_struct Tryz.underlying48 h
    rw [cl48] at hl
    obtain ⟨c0, c1, c2, c3, c4, c5, c6, c7, rfl⟩ := len8 hl
    obtain ⟨d0, q0, h0⟩ := hf 0 _ rfl
    replace h0 : DataW.trod enc Tryz.prog W 0 (fun _ => true) true n 38 (List.take (Tryz.prog.cellsOf 38) [c0, c1, c2, c3, c4, c5, c6, c7]) = some (d0, q0) := h0
    rw [cl38] at h0
    replace h0 : DataW.trod enc Tryz.prog W 0 (fun _ => true) true n 38 [c0] = some (d0, q0) := h0
    obtain ⟨x0, r0, w0⟩ := (Opens.slice Tryz.underlying38 (Opens.int Tryz.underlying5) cl5 (by decide)) enc W n _ _ _ h0
    obtain ⟨v0, e0, r0⟩ := r0
    obtain ⟨rfl, -⟩ := List.cons.inj e0
    obtain ⟨d1, q1, h1⟩ := hf 1 _ rfl
    replace h1 : DataW.trod enc Tryz.prog W 0 (fun _ => true) true n 38 (List.take (Tryz.prog.cellsOf 38) [c1, c2, c3, c4, c5, c6, c7]) = some (d1, q1) := h1
    rw [cl38] at h1
    replace h1 : DataW.trod enc Tryz.prog W 0 (fun _ => true) true n 38 [c1] = some (d1, q1) := h1
    obtain ⟨x1, r1, w1⟩ := (Opens.slice Tryz.underlying38 (Opens.int Tryz.underlying5) cl5 (by decide)) enc W n _ _ _ h1
    obtain ⟨v1, e1, r1⟩ := r1
    obtain ⟨rfl, -⟩ := List.cons.inj e1
    obtain ⟨d2, q2, h2⟩ := hf 2 _ rfl
    replace h2 : DataW.trod enc Tryz.prog W 0 (fun _ => true) true n 5 (List.take (Tryz.prog.cellsOf 5) [c2, c3, c4, c5, c6, c7]) = some (d2, q2) := h2
    rw [cl5] at h2
    replace h2 : DataW.trod enc Tryz.prog W 0 (fun _ => true) true n 5 [c2] = some (d2, q2) := h2
    obtain ⟨x2, r2, w2⟩ := (Opens.int Tryz.underlying5) enc W n _ _ _ h2
    obtain ⟨rfl, -⟩ := List.cons.inj r2
    obtain ⟨d3, q3, h3⟩ := hf 3 _ rfl
    replace h3 : DataW.trod enc Tryz.prog W 0 (fun _ => true) true n 4 (List.take (Tryz.prog.cellsOf 4) [c3, c4, c5, c6, c7]) = some (d3, q3) := h3
    rw [cl4] at h3
    replace h3 : DataW.trod enc Tryz.prog W 0 (fun _ => true) true n 4 [c3] = some (d3, q3) := h3
    obtain ⟨x3, r3, w3⟩ := (Opens.bool Tryz.underlying4) enc W n _ _ _ h3
    obtain ⟨rfl, -⟩ := List.cons.inj r3
    obtain ⟨d4, q4, h4⟩ := hf 4 _ rfl
    replace h4 : DataW.trod enc Tryz.prog W 0 (fun _ => true) true n 3 (List.take (Tryz.prog.cellsOf 3) [c4, c5, c6, c7]) = some (d4, q4) := h4
    rw [cl3] at h4
    replace h4 : DataW.trod enc Tryz.prog W 0 (fun _ => true) true n 3 [c4] = some (d4, q4) := h4
    obtain ⟨x4, r4, w4⟩ := (Opens.int Tryz.underlying3) enc W n _ _ _ h4
    obtain ⟨rfl, -⟩ := List.cons.inj r4
    obtain ⟨d5, q5, h5⟩ := hf 5 _ rfl
    replace h5 : DataW.trod enc Tryz.prog W 0 (fun _ => true) true n 3 (List.take (Tryz.prog.cellsOf 3) [c5, c6, c7]) = some (d5, q5) := h5
    rw [cl3] at h5
    replace h5 : DataW.trod enc Tryz.prog W 0 (fun _ => true) true n 3 [c5] = some (d5, q5) := h5
    obtain ⟨x5, r5, w5⟩ := (Opens.int Tryz.underlying3) enc W n _ _ _ h5
    obtain ⟨rfl, -⟩ := List.cons.inj r5
    obtain ⟨d6, q6, h6⟩ := hf 6 _ rfl
    replace h6 : DataW.trod enc Tryz.prog W 0 (fun _ => true) true n 3 (List.take (Tryz.prog.cellsOf 3) [c6, c7]) = some (d6, q6) := h6
    rw [cl3] at h6
    replace h6 : DataW.trod enc Tryz.prog W 0 (fun _ => true) true n 3 [c6] = some (d6, q6) := h6
    obtain ⟨x6, r6, w6⟩ := (Opens.int Tryz.underlying3) enc W n _ _ _ h6
    obtain ⟨rfl, -⟩ := List.cons.inj r6
    obtain ⟨d7, q7, h7⟩ := hf 7 _ rfl
    replace h7 : DataW.trod enc Tryz.prog W 0 (fun _ => true) true n 46 (List.take (Tryz.prog.cellsOf 46) [c7]) = some (d7, q7) := h7
    rw [cl46] at h7
    replace h7 : DataW.trod enc Tryz.prog W 0 (fun _ => true) true n 46 [c7] = some (d7, q7) := h7
    obtain ⟨x7, r7, w7⟩ := (Opens.slice Tryz.underlying46 opens_api_Instr cl56 (by decide)) enc W n _ _ _ h7
    obtain ⟨v7, e7, r7⟩ := r7
    obtain ⟨rfl, -⟩ := List.cons.inj e7
    exact ⟨⟨x0, x1, x2, x3, x4, x5, x6, x7⟩, ⟨_, _, _, rfl, r0, r1, r7⟩, w0, w1, w2, w3, w4, w5, w6, w7⟩
theorem cl22 : Tryz.prog.cellsOf 22 = 1 := by kernel_rfl
theorem cl23 : Tryz.prog.cellsOf 23 = 1 := by kernel_rfl
theorem cl25 : Tryz.prog.cellsOf 25 = 4 := by kernel_rfl
def wf_api_Module (x : api_Module) : Prop := (x.Globals.length ≤ maxLen ∧ ∀ y ∈ x.Globals, wf_api_Value y) ∧ (x.Pool.length ≤ maxLen ∧ ∀ y ∈ x.Pool, wf_api_Value y) ∧ (x.Methods.length ≤ maxLen ∧ ∀ y ∈ x.Methods, wf_api_Method y) ∧ (Lit.int .i64 x.Migrate).wf = true
theorem opens_api_Module : Opens Tryz.prog 25 k_api_Module wf_api_Module := by
  intro H enc W fuel cs d ps h
  cases fuel with
  | zero => simp [DataW.trod] at h
  | succ n =>
    obtain ⟨hl, hf⟩ := trod_struct Tryz.underlying25 h
    rw [cl25] at hl
    obtain ⟨c0, c1, c2, c3, rfl⟩ := len4 hl
    obtain ⟨d0, q0, h0⟩ := hf 0 _ rfl
    replace h0 : DataW.trod enc Tryz.prog W 0 (fun _ => true) true n 22 (List.take (Tryz.prog.cellsOf 22) [c0, c1, c2, c3]) = some (d0, q0) := h0
    rw [cl22] at h0
    replace h0 : DataW.trod enc Tryz.prog W 0 (fun _ => true) true n 22 [c0] = some (d0, q0) := h0
    obtain ⟨x0, r0, w0⟩ := (Opens.slice Tryz.underlying22 opens_api_Value cl84 (by decide)) enc W n _ _ _ h0
    obtain ⟨v0, e0, r0⟩ := r0
    obtain ⟨rfl, -⟩ := List.cons.inj e0
    obtain ⟨d1, q1, h1⟩ := hf 1 _ rfl
    replace h1 : DataW.trod enc Tryz.prog W 0 (fun _ => true) true n 22 (List.take (Tryz.prog.cellsOf 22) [c1, c2, c3]) = some (d1, q1) := h1
    rw [cl22] at h1
    replace h1 : DataW.trod enc Tryz.prog W 0 (fun _ => true) true n 22 [c1] = some (d1, q1) := h1
    obtain ⟨x1, r1, w1⟩ := (Opens.slice Tryz.underlying22 opens_api_Value cl84 (by decide)) enc W n _ _ _ h1
    obtain ⟨v1, e1, r1⟩ := r1
    obtain ⟨rfl, -⟩ := List.cons.inj e1
    obtain ⟨d2, q2, h2⟩ := hf 2 _ rfl
    replace h2 : DataW.trod enc Tryz.prog W 0 (fun _ => true) true n 23 (List.take (Tryz.prog.cellsOf 23) [c2, c3]) = some (d2, q2) := h2
    rw [cl23] at h2
    replace h2 : DataW.trod enc Tryz.prog W 0 (fun _ => true) true n 23 [c2] = some (d2, q2) := h2
    obtain ⟨x2, r2, w2⟩ := (Opens.slice Tryz.underlying23 opens_api_Method cl48 (by decide)) enc W n _ _ _ h2
    obtain ⟨v2, e2, r2⟩ := r2
    obtain ⟨rfl, -⟩ := List.cons.inj e2
    obtain ⟨d3, q3, h3⟩ := hf 3 _ rfl
    replace h3 : DataW.trod enc Tryz.prog W 0 (fun _ => true) true n 3 (List.take (Tryz.prog.cellsOf 3) [c3]) = some (d3, q3) := h3
    rw [cl3] at h3
    replace h3 : DataW.trod enc Tryz.prog W 0 (fun _ => true) true n 3 [c3] = some (d3, q3) := h3
    obtain ⟨x3, r3, w3⟩ := (Opens.int Tryz.underlying3) enc W n _ _ _ h3
    obtain ⟨rfl, -⟩ := List.cons.inj r3
    exact ⟨⟨x0, x1, x2, x3⟩, ⟨_, _, _, rfl, r0, r1, r2⟩, w0, w1, w2, w3⟩
/-- What is left to be shown of the law: of plain values alone. -/
def capstanlaw10_TypesTells.Pure : Prop := ∀ (x0 : api_Module) (x1 : Int), wf_api_Module x0 → (Lit.int .i64 x1).wf = true → capstanlaw10_TypesTells.f x0 x1 = some true
end Go.Proofs.YtpbmkaenleedoaaGreatDoor
end
