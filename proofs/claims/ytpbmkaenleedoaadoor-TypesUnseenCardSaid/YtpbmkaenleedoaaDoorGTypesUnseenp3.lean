/- Functions of the program as plain functions, with the proof that the code computes them: printed by gen.py of this session. -/
import Derived.Test.YtpbmkaenleedoaaDoorProg
import Derived.Test.YtpbmkaenleedoaaDoorQ32v539090
import Derived.Ground.Names8Prog
import Derived.Ground.NamesProg
import Derived.Ground.SlgcProg
import Derived.Ground.SlgmProg
import Derived.Ground.SlgnProg
import Derived.Ground.SlsfProg
import Derived.Shelf.Bits.Mul64
import Derived.Shelf.Lay
import Derived.Shelf.SlGeneric
import Derived.Shelf.SlSortCmp.WholeK
import Derived.Shelf.SlicesE.Reverse
import Derived.Shelf.SlicesG.Cmp
import Derived.Shelf.SlicesG.CompactI
import Derived.Shelf.Small.Bits
import Derived.Shelf.SortM.Plain
import Derived.Shelf.SortM.SortNone
import Derived.Shelf.Spec.SlicesGrow
import Derived.Test.YtpbmkaenleedoaaDoorGTypesUnseenp2
set_option linter.unusedVariables false
set_option linter.unusedSimpArgs false
set_option maxRecDepth 20000
set_option maxHeartbeats 2000000
noncomputable section
namespace Go.Proofs.YtpbmkaenleedoaaDoor
open Go.Q
/-! ### (*capstan/types.look).place: function 25 -/
inductive types_look_place_s1.S where
  | start
  | l1 (t32 : ((List Int) × Int) × (List types_Row)) (t35 : (List Int) × Int) (l58 : List types_Row) (x59 : Int)

def types_look_place_s1.F (k_0_2 : List api_Value) (k_0_4 : List api_Value) (k_0_6 : List api_Method) (k_0_8 : Int) (k_0_9 : List Int) (k_0_11 : List Int) (k_0_13 : Int) (k_0_14 : Bool) (k_0_15 : Int) (k_0_16 : Int) (k_0_17 : Int) (k_0_18 : List api_Instr) (k_0_20 : List Int) (l22 : List types_Row) (a1 : Int) : types_look_place_s1.S → Option (types_look_place_s1.S ⊕ (Int × (List types_Row)))
  | .start => (elt l22 a1).bind fun x23 => if (!x23.Reached) = true then (some (.inr (0, l22))) else ((elt k_0_18 a1).bind fun x30 => (types_look_after_s1.f k_0_2 k_0_4 k_0_6 k_0_8 k_0_9 k_0_11 k_0_13 k_0_14 k_0_15 k_0_16 k_0_17 k_0_18 k_0_20 l22 x30 x23.Kinds).bind fun t32 => if t32.1.2 ≠ 0 then (some (.inr (t32.1.2, t32.2))) else ((flow_Ways.f k_0_18 a1).bind fun t35 => some (.inl (.l1 t32 t35 t32.2 0))))
  | .l1 t32 t35 l58 x59 => if x59 < (t35.1.length : Int) then ((elt t35.1 x59).bind fun x62 => (elt l58 x62).bind fun x63 => (if x63.Reached = true then ((slices_Equal_uint8_uint8.f x63.Kinds t32.1.1).bind fun t68 => some (!t68)) else (some false)).bind fun t69 => if t69 = true then (some (.inr (100, l58))) else (some (.inl (.l1 t32 t35 (l58.set x62.toNat (⟨true, t32.1.1⟩ : types_Row)) (IntKind.i64.wrap (x59 + 1)))))) else (some (.inr (0, l58)))

def types_look_place_s1.f (k_0_2 : List api_Value) (k_0_4 : List api_Value) (k_0_6 : List api_Method) (k_0_8 : Int) (k_0_9 : List Int) (k_0_11 : List Int) (k_0_13 : Int) (k_0_14 : Bool) (k_0_15 : Int) (k_0_16 : Int) (k_0_17 : Int) (k_0_18 : List api_Instr) (k_0_20 : List Int) (l22 : List types_Row) (a1 : Int) : Option (Int × (List types_Row)) := runF (types_look_place_s1.F k_0_2 k_0_4 k_0_6 k_0_8 k_0_9 k_0_11 k_0_13 k_0_14 k_0_15 k_0_16 k_0_17 k_0_18 k_0_20 l22 a1) .start
theorem types_look_place_s1.ok (k_0_2 : List api_Value) (k_0_4 : List api_Value) (k_0_6 : List api_Method) (k_0_8 : Int) (k_0_9 : List Int) (k_0_11 : List Int) (k_0_13 : Int) (k_0_14 : Bool) (k_0_15 : Int) (k_0_16 : Int) (k_0_17 : Int) (k_0_18 : List api_Instr) (k_0_20 : List Int) (l22 : List types_Row) (a1 : Int) (v_k_0_2 : Value) (v_k_0_4 : Value) (v_k_0_6 : Value) (v_k_0_9 : Value) (v_k_0_11 : Value) (v_k_0_18 : Value) (v_k_0_20 : Value)  (r : Int × (List types_Row)) (H : types_look_place_s1.f k_0_2 k_0_4 k_0_6 k_0_8 k_0_9 k_0_11 k_0_13 k_0_14 k_0_15 k_0_16 k_0_17 k_0_18 k_0_20 l22 a1 = some r) (w : World) (hV : Hp) (sV : Sub hV (hp w)) (h0 : slR k_api_Value hV v_k_0_2 k_0_2) (h1 : slR k_api_Value hV v_k_0_4 k_0_4) (h2 : slR k_api_Method hV v_k_0_6 k_0_6) (h3 : slR (kInt .u8) hV v_k_0_9 k_0_9) (h4 : slR (kInt .u8) hV v_k_0_11 k_0_11) (h5 : slR k_api_Instr hV v_k_0_18 k_0_18) (h6 : slR (kInt .u8) hV v_k_0_20 k_0_20) (h7 : (arrP k_arr136 0 tab0).p hV) (b1 : Nat) (hA : Hp) (sA : Sub hA (hp w)) (dA : Dj hV hA) (hI : (arrK k_types_Row b1 [v_k_0_2, v_k_0_4, v_k_0_6, .int .i64 k_0_8, v_k_0_9, v_k_0_11, .int .u8 k_0_13, .bool k_0_14, .int .i64 k_0_15, .int .i64 k_0_16, .int .i64 k_0_17, v_k_0_18, v_k_0_20] 200 l22 [] 65).p hV hA) :
    Trip Tryd.prog 25 [.pointer (some ⟨b1, 0, none⟩), .int .i64 a1].toArray hA hV w (fun v => HO.pand (v = .int .i64 r.1) (HO.seps [arrK k_types_Row b1 [v_k_0_2, v_k_0_4, v_k_0_6, .int .i64 k_0_8, v_k_0_9, v_k_0_11, .int .u8 k_0_13, .bool k_0_14, .int .i64 k_0_15, .int .i64 k_0_16, .int .i64 k_0_17, v_k_0_18, v_k_0_20] 200 r.2 [] 65])) := by
  have see : Sees w hA hV := ⟨sV, dA⟩
  refine Trip.of (P := Tryd.prog) (n := ⟨79, []⟩) Tryd.func25 rfl ⟨rfl, rfl⟩ rfl (St.beginA (os := [arrK k_types_Row b1 [v_k_0_2, v_k_0_4, v_k_0_6, .int .i64 k_0_8, v_k_0_9, v_k_0_11, .int .u8 k_0_13, .bool k_0_14, .int .i64 k_0_15, .int .i64 k_0_16, .int .i64 k_0_17, v_k_0_18, v_k_0_20] 200 l22 [] 65]) sA (All.cons (x := slP k_api_Value v_k_0_2 k_0_2) h0 (All.cons (x := slP k_api_Value v_k_0_4 k_0_4) h1 (All.cons (x := slP k_api_Method v_k_0_6 k_0_6) h2 (All.cons (x := slP (kInt .u8) v_k_0_9 k_0_9) h3 (All.cons (x := slP (kInt .u8) v_k_0_11 k_0_11) h4 (All.cons (x := slP k_api_Instr v_k_0_18 k_0_18) h5 (All.cons (x := slP (kInt .u8) v_k_0_20 k_0_20) h6 (All.cons (x := arrP k_arr136 0 tab0) h7 (All.nil _))))))))) ⟨hA, em, Dj.em_right _, Sub.refl _, Sub.em _, hI, trivial⟩) ?_
  obtain ⟨n0, hi⟩ := runF_iff.1 H
  obtain ⟨m0, o, hm0, ho, hr⟩ := iter_some hi
  clear hi
  refine CP.seq ?_
  refine CP.region ?_
  refine SP.val (Val.assign rfl) rfl rfl rfl ?_
  refine SP.nil ?_
  refine QE.then ?_
  refine CP.seq ?_
  refine CP.region ?_
  refine SP.val (Val.move rfl) rfl rfl rfl ?_
  refine SP.val (Val.move rfl) rfl rfl rfl ?_
  refine SP.val (Val.nilCheck rfl) rfl rfl rfl ?_
  refine SP.val (Val.fieldAddr Tryd.underlying65 rfl sz63 rfl) rfl rfl rfl ?_
  obtain ⟨x23, hx_x23, ho⟩ := bind_some ho
  have hx_x23 := elt_some hx_x23
  refine SP.val (Val.indexK see 0 rfl Tryd.underlying63 sz39 hx_x23.1 hx_x23.2 rfl rfl) rfl rfl rfl ?_
  refine SP.loadKO (j := a1) see 0 (fun (v24 : Value) => [.bool x23.Reached, v24]) (fun (v24 : Value) => [slP (kInt .u8) v24 x23.Kinds]) rfl hx_x23.2 (fun a cs ⟨v24, e, p0⟩ => ⟨v24, e, All.cons p0 (All.nil _)⟩) Tryd.underlying39 rfl sz39 rfl rfl rfl (fun z_ => ?_)
  rename Value => v24
  refine SP.alloc (cs := [.bool false, (.slice none 0 0)]) inf39 rfl rfl (fun b26 => ?_)
  refine SP.have (fun w2 hw => slR.shape (St.pers 0 rfl see.sub see.dj hw)) (fun hs_v24 => ?_)
  refine SP.store (v := .agg #[.bool x23.Reached, v24]) (vs := [.bool x23.Reached, v24]) 0 (by rfl) sz39 (by rfl) (by rfl) (by rfl) (by rfl) (one_cons rfl (one_cons hs_v24 (rfl))) (by rfl) ?_
  refine SP.nil ?_
  refine QE.then ?_
  refine CP.seq ?_
  refine CP.seq ?_
  refine CP.region ?_
  refine SP.val (Val.fieldAddr Tryd.underlying39 rfl sz4 rfl) rfl rfl rfl ?_
  refine SP.val (Val.load1 0 rfl Tryd.underlying4 rfl rfl rfl) rfl rfl rfl ?_
  refine SP.val (Val.notB rfl) rfl rfl rfl ?_
  refine SP.nil ?_
  refine QE.then ?_
  rcases if_some ho with ⟨hc, ho⟩ | ⟨hc, ho⟩
  · refine CP.condT rfl hc ?_
    refine CP.seq ?_
    refine CP.region ?_
    refine SP.val (Val.assign rfl) rfl rfl rfl ?_
    refine SP.nil ?_
    refine QE.then ?_
    refine CP.ret ?_
    refine QE.thru (by intro e; cases e) ?_
    obtain rfl := Option.some.inj ho
    obtain rfl := Option.some.inj hr
    exact QE.rets (rs := [.tmp 4]) (vs := [.int .i64 0]) Tryd.results25 rfl ⟨RVs.tmp rfl, trivial⟩ (fun w2 h => St.done (fun a b p s => ⟨rfl, s⟩) (St.selO [1] rfl rfl h))
  · refine CP.condF rfl (bf hc) ?_
    refine CP.skip ?_
    refine QE.then ?_
    refine CP.seq ?_
    refine CP.drawA (by kernel_rfl) (fun w2 k h => h.drawn k) ?_
    obtain ⟨x30, hx, ho⟩ := bind_some ho
    have hx := elt_some hx
    refine DA.ghost (fun w2 h => h.elem see 6 rfl hx.1 hx.2) (fun p28 h_p28 => ?_)
    clear hx
    refine DA.ghost (fun w2 h => h.openE see 0 rfl (fun _ : Unit => [.int .u8 x30.Op, .int .i64 x30.A, .int .i64 x30.B]) (fun _ => []) (fun h cs e => ⟨(), e, All.nil _⟩)) (fun _ _ => ?_)
    refine DA.phase (fun i => Nat.ble 0 i && Nat.blt i 11) (fun w2 => St w hA hV [atP p28 [.int .u8 x30.Op, .int .i64 x30.A, .int .i64 x30.B], elP k_api_Instr p28 x30, slP (kInt .u8) v24 x23.Kinds, slP k_api_Value v_k_0_2 k_0_2, slP k_api_Value v_k_0_4 k_0_4, slP k_api_Method v_k_0_6 k_0_6, slP (kInt .u8) v_k_0_9 k_0_9, slP (kInt .u8) v_k_0_11 k_0_11, slP k_api_Instr v_k_0_18 k_0_18, slP (kInt .u8) v_k_0_20 k_0_20, arrP k_arr136 0 tab0] [boxO b26 [.bool x23.Reached, v24] 39, arrK k_types_Row b1 [v_k_0_2, v_k_0_4, v_k_0_6, .int .i64 k_0_8, v_k_0_9, v_k_0_11, .int .u8 k_0_13, .bool k_0_14, .int .i64 k_0_15, .int .i64 k_0_16, .int .i64 k_0_17, v_k_0_18, v_k_0_20] 200 l22 [] 65] w2) ?_
    refine DT.take 0 rfl rfl rfl rfl (by kernel_rfl) (fun _ _ _ h => h) (Val.move rfl) (fun w2 hw => hw) ?_
    refine DT.take 1 rfl rfl rfl rfl (by kernel_rfl) (fun _ _ _ h => h) (Val.move rfl) (fun w2 hw => hw) ?_
    refine DT.take 2 rfl rfl rfl rfl (by kernel_rfl) (fun _ _ _ h => h) (Val.nilCheck rfl) (fun w2 hw => hw) ?_
    refine DT.take 3 rfl rfl rfl rfl (by kernel_rfl) (fun _ _ _ h => h) (Val.fieldAddr Tryd.underlying65 rfl sz36 rfl) (fun w2 hw => hw) ?_
    refine DT.take 4 rfl rfl rfl rfl (by kernel_rfl) (fun _ _ _ h => h) (Val.fieldAddr Tryd.underlying36 rfl sz34 rfl) (fun w2 hw => hw) ?_
    refine DT.take 5 rfl rfl rfl rfl (by kernel_rfl) (fun _ _ _ h => h) (Val.loadKPre1 see 1 rfl Tryd.underlying34 rfl rfl rfl) (fun w2 hw => hw) ?_
    refine DT.take 6 rfl rfl rfl rfl (by kernel_rfl) (fun _ _ _ h => h) (Val.move rfl) (fun w2 hw => hw) ?_
    refine DT.take 7 rfl rfl rfl rfl (by kernel_rfl) (fun _ _ _ h => h) (Val.indexE h_p28 Tryd.underlying34 sz45 rfl rfl) (fun w2 hw => hw) ?_
    refine DT.take 8 rfl rfl rfl rfl (by kernel_rfl) (fun _ _ _ h => h) (Val.loadAtA see 0 rfl Tryd.underlying45 rfl sz45 rfl) (fun w2 hw => hw) ?_
    refine DT.take 9 rfl rfl rfl rfl (by kernel_rfl) (fun _ _ _ h => h) (Val.fieldAddr Tryd.underlying39 rfl sz33 rfl) (fun w2 hw => hw) ?_
    refine DT.take 10 rfl rfl rfl rfl (by kernel_rfl) (fun _ _ _ h => h) (Val.load1 0 rfl Tryd.underlying33 rfl rfl rfl) (fun w2 hw => hw) ?_
    refine DT.next (by kernel_rfl) ?_
    refine DA.one 11 rfl (by kernel_rfl) ?_
    refine SP.imp (fun w2 hw => St.selO [1, 0] rfl rfl hw) ?_
    obtain ⟨t32, hc, ho⟩ := bind_some (x := types_look_after_s1.f k_0_2 k_0_4 k_0_6 k_0_8 k_0_9 k_0_11 k_0_13 k_0_14 k_0_15 k_0_16 k_0_17 k_0_18 k_0_20 l22 x30 x23.Kinds) ho
    refine SP.callA see (caps := []) (X := arrK k_types_Row b1 [v_k_0_2, v_k_0_4, v_k_0_6, .int .i64 k_0_8, v_k_0_9, v_k_0_11, .int .u8 k_0_13, .bool k_0_14, .int .i64 k_0_15, .int .i64 k_0_16, .int .i64 k_0_17, v_k_0_18, v_k_0_20] 200 l22 [] 65) _ fn42 rfl rfl rfl rfl (fun w2 hP h1 sub s1 d1 ap hI => types_look_after_s1.ok k_0_2 k_0_4 k_0_6 k_0_8 k_0_9 k_0_11 k_0_13 k_0_14 k_0_15 k_0_16 k_0_17 k_0_18 k_0_20 l22 x30 x23.Kinds _ _ _ _ _ _ _ _ _ hc w2 hP sub (ap.get 3 rfl) (ap.get 4 rfl) (ap.get 5 rfl) (ap.get 6 rfl) (ap.get 7 rfl) (ap.get 8 rfl) (ap.get 9 rfl) (ap.get 2 rfl) _ h1 s1 d1 hI) (fun vr => ?_)
    refine SP.ex (fun w2 h => St.open h) (fun v33 => ?_)
    refine SP.have (fun w2 h => (St.pand h).1.symm) (fun er => ?_)
    subst er
    refine SP.imp (fun w2 h => St.seps (St.pand h).2) ?_
    clear hc
    refine SP.nil ?_
    refine QE.atA ?_
    refine DA.one 12 rfl (by kernel_rfl) ?_
    refine SP.val (Val.move rfl) rfl rfl rfl ?_
    refine SP.nil ?_
    refine QE.atA ?_
    refine DA.phase (fun i => Nat.ble 13 i && Nat.blt i 16) (fun w2 => St w hA hV [atP p28 [.int .u8 x30.Op, .int .i64 x30.A, .int .i64 x30.B], elP k_api_Instr p28 x30, slP (kInt .u8) v24 x23.Kinds, slP k_api_Value v_k_0_2 k_0_2, slP k_api_Value v_k_0_4 k_0_4, slP k_api_Method v_k_0_6 k_0_6, slP (kInt .u8) v_k_0_9 k_0_9, slP (kInt .u8) v_k_0_11 k_0_11, slP k_api_Instr v_k_0_18 k_0_18, slP (kInt .u8) v_k_0_20 k_0_20, arrP k_arr136 0 tab0] [slO (kInt .u8) 5 v33 t32.1.1, arrK k_types_Row b1 [v_k_0_2, v_k_0_4, v_k_0_6, .int .i64 k_0_8, v_k_0_9, v_k_0_11, .int .u8 k_0_13, .bool k_0_14, .int .i64 k_0_15, .int .i64 k_0_16, .int .i64 k_0_17, v_k_0_18, v_k_0_20] 200 t32.2 [] 65, boxO b26 [.bool x23.Reached, v24] 39] w2) ?_
    refine DT.take 13 rfl rfl rfl rfl (by kernel_rfl) (fun _ _ _ h => h) (Val.extract rfl rfl) (fun w2 hw => hw) ?_
    refine DT.take 14 rfl rfl rfl rfl (by kernel_rfl) (fun _ _ _ h => h) (Val.extract rfl rfl) (fun w2 hw => hw) ?_
    refine DT.take 15 rfl rfl rfl rfl (by kernel_rfl) (fun _ _ _ h => h) (Val.assign rfl) (fun w2 hw => hw) ?_
    refine DT.next (by kernel_rfl) ?_
    refine DA.one 16 rfl (by kernel_rfl) ?_
    refine SP.val (Val.assign rfl) rfl rfl rfl ?_
    refine SP.nil ?_
    refine QE.atA ?_
    refine DA.done (by kernel_rfl) ?_
    refine QE.then ?_
    refine CP.seq ?_
    refine CP.seq ?_
    refine CP.region ?_
    refine SP.val (Val.move rfl) rfl rfl rfl ?_
    refine SP.val (Val.neq rfl rfl) rfl rfl rfl ?_
    refine SP.nil ?_
    refine QE.then ?_
    rcases if_some ho with ⟨hc, ho⟩ | ⟨hc, ho⟩
    · refine CP.condT rfl (decide_eq_true hc) ?_
      refine CP.seq ?_
      refine CP.region ?_
      refine SP.val (Val.move rfl) rfl rfl rfl ?_
      refine SP.val (Val.assign rfl) rfl rfl rfl ?_
      refine SP.nil ?_
      refine QE.then ?_
      refine CP.ret ?_
      refine QE.thru (by intro e; cases e) ?_
      obtain rfl := Option.some.inj ho
      obtain rfl := Option.some.inj hr
      exact QE.rets (rs := [.tmp 4]) (vs := [.int .i64 t32.1.2]) Tryd.results25 rfl ⟨RVs.tmp rfl, trivial⟩ (fun w2 h => St.done (fun a b p s => ⟨rfl, s⟩) (St.selO [1] rfl rfl h))
    · refine CP.condF rfl (decide_eq_false hc) ?_
      refine CP.skip ?_
      refine QE.then ?_
      refine CP.seq ?_
      refine CP.region ?_
      refine SP.val (Val.move rfl) rfl rfl rfl ?_
      refine SP.val (Val.nilCheck rfl) rfl rfl rfl ?_
      refine SP.val (Val.fieldAddr Tryd.underlying65 rfl sz36 rfl) rfl rfl rfl ?_
      refine SP.val (Val.fieldAddr Tryd.underlying36 rfl sz34 rfl) rfl rfl rfl ?_
      refine SP.val (Val.loadKPre1 see 1 rfl Tryd.underlying34 rfl rfl rfl) rfl rfl rfl ?_
      refine SP.val (Val.move rfl) rfl rfl rfl ?_
      obtain ⟨t35, hc, ho⟩ := bind_some (x := flow_Ways.f k_0_18 a1) ho
      refine SP.callK see (caps := []) _ fn14 rfl rfl rfl rfl (fun w2 hP hs sub ap => flow_Ways.ok k_0_18 a1 _ _ hc w2 hP sub (ap.get 8 rfl) (ap.get 10 rfl)) (fun vr => ?_)
      refine SP.ex (fun w2 h => St.open h) (fun v36 => ?_)
      refine SP.have (fun w2 h => (St.pand h).1.symm) (fun er => ?_)
      subst er
      refine SP.imp (fun w2 h => St.seps (St.pand h).2) ?_
      clear hc
      refine SP.val (Val.move rfl) rfl rfl rfl ?_
      refine SP.val (Val.extract rfl rfl) rfl rfl rfl ?_
      refine SP.val (Val.extract rfl rfl) rfl rfl rfl ?_
      refine SP.val (Val.assign rfl) rfl rfl rfl ?_
      refine SP.val (Val.assign rfl) rfl rfl rfl ?_
      refine SP.nil ?_
      refine QE.then ?_
      refine CP.seq ?_
      refine CP.seq ?_
      refine CP.region ?_
      refine SP.val (Val.move rfl) rfl rfl rfl ?_
      refine SP.val (Val.lenW (fun w2 hw => slO.whole (St.own 0 rfl see.sub see.dj hw)) Tryd.underlying46 rfl) rfl rfl rfl ?_
      refine SP.val (Val.move rfl) rfl rfl rfl ?_
      refine SP.nil ?_
      refine QE.then ?_
      refine CP.block ?_
      refine CP.freezeS see 1 rfl ?_
      obtain rfl := Option.some.inj ho
      refine CP.loop (fun cl1 a w2 => ∃ l58 : List types_Row, ∃ x59 : Int, cl1 ≤ m0 ∧ iter (types_look_place_s1.F k_0_2 k_0_4 k_0_6 k_0_8 k_0_9 k_0_11 k_0_13 k_0_14 k_0_15 k_0_16 k_0_17 k_0_18 k_0_20 l22 a1) cl1 (.l1 t32 t35 l58 x59) = some r ∧ Env ⟨79, []⟩ [(0, .pointer (some ⟨b1, 0, none⟩)), (6, v33), (50, v36), (51, .int .i64 (t35.1.length : Int)), (52, .int .i64 x59)] a ∧ St w hA hV [slP (kInt .u8) v33 t32.1.1, slP k_api_Value v_k_0_2 k_0_2, slP k_api_Value v_k_0_4 k_0_4, slP k_api_Method v_k_0_6 k_0_6, slP (kInt .u8) v_k_0_9 k_0_9, slP (kInt .u8) v_k_0_11 k_0_11, slP k_api_Instr v_k_0_18 k_0_18, slP (kInt .u8) v_k_0_20 k_0_20, arrP k_arr136 0 tab0] [slO (kInt .i64) 3 v36 t35.1, arrK k_types_Row b1 [v_k_0_2, v_k_0_4, v_k_0_6, .int .i64 k_0_8, v_k_0_9, v_k_0_11, .int .u8 k_0_13, .bool k_0_14, .int .i64 k_0_15, .int .i64 k_0_16, .int .i64 k_0_17, v_k_0_18, v_k_0_20] 200 l58 [] 65] w2) m0 (fun a w2 ha hw => ⟨t32.2, 0, Nat.le_refl _, hr, ha.sub ⟨rfl, rfl, rfl, rfl, rfl, trivial⟩, (St.selP [0, 4, 5, 6, 7, 8, 9, 10, 11] rfl (St.selO [0, 1] rfl rfl hw))⟩) ?_
      clear hr
      rintro cl1 a w2 ⟨l58, x59, hc_l1, hi, ha, hw⟩
      obtain ⟨m60, o, hm_m60, ho, hr⟩ := iter_some hi
      refine CP.app ha hw ?_
      clear ha hw a w2 hi
      refine CP.seq ?_
      refine CP.region ?_
      refine SP.val (Val.lss rfl rfl) rfl rfl rfl ?_
      refine SP.nil ?_
      refine QE.then ?_
      refine CP.seq ?_
      rcases if_some ho with ⟨hc, ho⟩ | ⟨hc, ho⟩
      · refine CP.condT rfl (decide_eq_true hc) ?_
        refine CP.skip ?_
        refine QE.then ?_
        refine CP.seq ?_
        refine CP.block ?_
        refine CP.seq ?_
        refine CP.region ?_
        obtain ⟨x62, hx_x62, ho⟩ := bind_some ho
        have hx_x62 := elt_some hx_x62
        refine SP.indexW (fun w2 hw => slO.whole (St.own 0 rfl see.sub see.dj hw)) Tryd.underlying46 sz3 hx_x62.1 hx_x62.2 rfl rfl rfl rfl (fun p61 h_p61 => ?_)
        refine SP.val (Val.loadW1 (off := 0) (k := (kInt .i64)) (fun w2 hw => slO.whole (St.own 0 rfl see.sub see.dj hw)) hx_x62.2 h_p61 (fun _ _ e => by subst e; rfl) Tryd.underlying3 rfl rfl) rfl rfl rfl ?_
        refine SP.val (Val.assign rfl) rfl rfl rfl ?_
        refine SP.nil ?_
        refine QE.then ?_
        refine CP.seq ?_
        refine CP.region ?_
        refine SP.val (Val.move rfl) rfl rfl rfl ?_
        refine SP.val (Val.move rfl) rfl rfl rfl ?_
        refine SP.val (Val.nilCheck rfl) rfl rfl rfl ?_
        refine SP.val (Val.fieldAddr Tryd.underlying65 rfl sz63 rfl) rfl rfl rfl ?_
        obtain ⟨x63, hx_x63, ho⟩ := bind_some ho
        have hx_x63 := elt_some hx_x63
        refine SP.val (Val.indexK see 1 rfl Tryd.underlying63 sz39 hx_x63.1 hx_x63.2 rfl rfl) rfl rfl rfl ?_
        refine SP.val (Val.assign rfl) rfl rfl rfl ?_
        refine SP.nil ?_
        refine QE.then ?_
        refine CP.seq ?_
        refine CP.seq ?_
        refine CP.region ?_
        refine SP.val (Val.move rfl) rfl rfl rfl ?_
        refine SP.val (Val.nilCheck rfl) rfl rfl rfl ?_
        refine SP.val (Val.fieldX Tryd.underlying39 rfl sz4 rfl) rfl rfl rfl ?_
        refine SP.val (Val.loadK1 (j := x62) see 1 0 rfl hx_x63.2 (fun _ _ ⟨v0_, e, p0_⟩ => by subst e; rfl) Tryd.underlying4 rfl rfl) rfl rfl rfl ?_
        refine SP.val (Val.move rfl) rfl rfl rfl ?_
        obtain ⟨t69, hg_t69, ho⟩ := bind_some ho
        refine SP.join 8 (fun a w2 => Env ⟨79, []⟩ [(0, .pointer (some ⟨b1, 0, none⟩)), (6, v33), (50, v36), (51, .int .i64 (t35.1.length : Int)), (52, .int .i64 x59), (12, .pointer (some ⟨b1, 13 + (x62 : Int).toNat * 2, none⟩)), (73, .bool t69)] a ∧ St w hA hV [slP (kInt .u8) v33 t32.1.1, slP k_api_Value v_k_0_2 k_0_2, slP k_api_Value v_k_0_4 k_0_4, slP k_api_Method v_k_0_6 k_0_6, slP (kInt .u8) v_k_0_9 k_0_9, slP (kInt .u8) v_k_0_11 k_0_11, slP k_api_Instr v_k_0_18 k_0_18, slP (kInt .u8) v_k_0_20 k_0_20, arrP k_arr136 0 tab0] [slO (kInt .i64) 3 v36 t35.1, arrK k_types_Row b1 [v_k_0_2, v_k_0_4, v_k_0_6, .int .i64 k_0_8, v_k_0_9, v_k_0_11, .int .u8 k_0_13, .bool k_0_14, .int .i64 k_0_15, .int .i64 k_0_16, .int .i64 k_0_17, v_k_0_18, v_k_0_20] 200 l58 [] 65] w2) ?_ ?_
        · rintro a w2 ⟨ha, hw⟩
          refine SP.app ha hw ?_
          clear ha hw a w2 hg_t69
          refine SP.nil ?_
          refine QE.then ?_
          rcases if_some ho with ⟨hc, ho⟩ | ⟨hc, ho⟩
          · refine CP.condT rfl hc ?_
            refine CP.seq ?_
            refine CP.region ?_
            refine SP.val (Val.assign rfl) rfl rfl rfl ?_
            refine SP.nil ?_
            refine QE.then ?_
            refine CP.ret ?_
            refine QE.thru (by intro e; cases e) ?_
            refine QE.blockR ?_
            refine QE.thru (by intro e; cases e) ?_
            refine QE.thru (by intro e; cases e) ?_
            refine QE.blockR ?_
            refine QE.thru (by intro e; cases e) ?_
            obtain rfl := Option.some.inj ho
            obtain rfl := Option.some.inj hr
            exact QE.rets (rs := [.tmp 4]) (vs := [.int .i64 100]) Tryd.results25 rfl ⟨RVs.tmp rfl, trivial⟩ (fun w2 h => St.done (fun a b p s => ⟨rfl, s⟩) (St.selO [1] rfl rfl h))
          · refine CP.condF rfl (bf hc) ?_
            refine CP.skip ?_
            refine QE.then ?_
            refine CP.region ?_
            refine SP.val (Val.move rfl) rfl rfl rfl ?_
            refine SP.val (Val.move rfl) rfl rfl rfl ?_
            refine SP.have (fun w2 hw => slR.shape (St.pers 0 rfl see.sub see.dj hw)) (fun hs_v33 => ?_)
            refine SP.val (Val.buildC (us := [(0, .bool true), (1, v33)]) (ucs := [(0, [.bool true]), (1, [v33])]) (cs := [.bool true, v33]) bt39 rfl rfl ⟨rfl, rfl, ⟨rfl, one_cells hs_v33, trivial⟩⟩ (by rfl)) rfl rfl rfl ?_
            refine SP.val (Val.nilCheck rfl) rfl rfl rfl ?_
            refine SP.have (fun w2 hw => slR.shape (St.pers 0 rfl see.sub see.dj hw)) (fun hs_v33 => ?_)
            refine SP.storeK (j := x62) (z0 := (⟨true, t32.1.1⟩ : types_Row)) (vs := [.bool true, v33]) see 1 0 rfl hx_x63.2 rfl (one_cons rfl (one_cons hs_v33 (rfl))) sz39 rfl (fun a cs ap r => by obtain ⟨_, e, _⟩ := r; subst e; exact ⟨v33, rfl, (ap.get 0 rfl)⟩) rfl rfl rfl ?_
            refine SP.nil ?_
            refine QE.blockN ?_
            refine QE.then ?_
            refine CP.region ?_
            refine SP.val (Val.add rfl rfl) rfl rfl rfl ?_
            refine SP.val (Val.move rfl) rfl rfl rfl ?_
            refine SP.nil ?_
            obtain rfl := Option.some.inj ho
            exact QE.lower m60 (by omega) fun a w2 ha hw => ⟨(l58.set x62.toNat (⟨true, t32.1.1⟩ : types_Row)), (IntKind.i64.wrap (x59 + 1)), (by omega), hr, ha.sub ⟨rfl, rfl, rfl, rfl, rfl, trivial⟩, hw⟩
        · intro J
          clear ho
          have ho := hg_t69
          clear hg_t69
          rcases if_some ho with ⟨hc, ho⟩ | ⟨hc, ho⟩
          · have hq65 := hc
            refine SP.isT (d := 65) rfl hq65 ?_
            refine SP.val (Val.move rfl) rfl rfl rfl ?_
            refine SP.val (Val.nilCheck rfl) rfl rfl rfl ?_
            refine SP.val (Val.fieldX Tryd.underlying39 rfl sz33 rfl) rfl rfl rfl ?_
            refine SP.loadKS (j := x62) see 1 1 rfl hx_x63.2 (fun _ _ ⟨v0_, e, p0_⟩ => ⟨v0_, by subst e; rfl, p0_⟩) Tryd.underlying33 rfl rfl rfl (fun v66 => ?_)
            refine SP.val (Val.move rfl) rfl rfl rfl ?_
            obtain ⟨t68, hc, ho⟩ := bind_some (x := slices_Equal_uint8_uint8.f x63.Kinds t32.1.1) ho
            refine SP.callV see (caps := []) (.bool t68) fn43 rfl rfl rfl rfl (fun w2 hP hs sub ap => slices_Equal_uint8_uint8.ok x63.Kinds t32.1.1 _ _ _ hc w2 hP sub (ap.get 0 rfl) (ap.get 1 rfl)) ?_
            clear hc
            refine SP.val (Val.notB rfl) rfl rfl rfl ?_
            refine SP.val (Val.pickT rfl rfl) rfl rfl rfl ?_
            obtain rfl := Option.some.inj ho
            exact J fun a w2 ha hw => ⟨ha.sub ⟨rfl, rfl, rfl, rfl, rfl, rfl, rfl, trivial⟩, (St.selP [1, 2, 3, 4, 5, 6, 7, 8, 9] rfl hw)⟩
          · have hq65 := (bf hc)
            refine SP.isF (d := 65) rfl hq65 ?_
            refine SP.not rfl rfl rfl ?_
            refine SP.not rfl rfl rfl ?_
            refine SP.not rfl rfl rfl ?_
            refine SP.not rfl rfl rfl ?_
            refine SP.not rfl rfl rfl ?_
            refine SP.not rfl rfl rfl ?_
            refine SP.not rfl rfl rfl ?_
            refine SP.val (Val.pickF rfl rfl) rfl rfl rfl ?_
            obtain rfl := Option.some.inj ho
            exact J fun a w2 ha hw => ⟨ha.sub ⟨rfl, rfl, rfl, rfl, rfl, rfl, rfl, trivial⟩, hw⟩
      · refine CP.condF rfl (decide_eq_false hc) ?_
        refine CP.exit ?_
        refine QE.thru (by intro e; cases e) ?_
        refine QE.thru (by intro e; cases e) ?_
        refine QE.blockE ?_
        refine QE.then ?_
        refine CP.seq ?_
        refine CP.region ?_
        refine SP.val (Val.assign rfl) rfl rfl rfl ?_
        refine SP.nil ?_
        refine QE.then ?_
        refine CP.ret ?_
        obtain rfl := Option.some.inj ho
        obtain rfl := Option.some.inj hr
        exact QE.rets (rs := [.tmp 4]) (vs := [.int .i64 0]) Tryd.results25 rfl ⟨RVs.tmp rfl, trivial⟩ (fun w2 h => St.done (fun a b p s => ⟨rfl, s⟩) (St.selO [1] rfl rfl h))
/-! ### slices.Clone[[]capstan/types.Row,capstan/types.Row]: function 26 -/
def slices_Clone_types_Row_types_Row.f (s_0 : (List types_Row)) : Option (List types_Row) :=
  nilOr s_0 (some []) (if (([] : List types_Row).length + s_0.length) * 32 ≤ 140737488355328 then (some (([] : List types_Row) ++ s_0)) else none)
theorem slices_Clone_types_Row_types_Row.ok (s_0 : (List types_Row)) (v_s_0 : Value) (r : (List types_Row)) (H : slices_Clone_types_Row_types_Row.f s_0 = some r) (w : World) (hV : Hp) (sV : Sub hV (hp w)) (h0 : slR k_types_Row hV v_s_0 s_0) :
    Trip Tryd.prog 26 [v_s_0].toArray em hV w (fun v => HO.ex fun u0 : Value => HO.pand (v = u0) (HO.seps [slO k_types_Row 39 u0 r])) := by
  have see : Sees w em hV := ⟨sV, Dj.em_right _⟩
  refine Trip.of (P := Tryd.prog) (n := ⟨8, []⟩) Tryd.func26 rfl ⟨rfl, rfl⟩ rfl (St.begin (All.cons (x := slP k_types_Row v_s_0 s_0) h0 (All.nil _))) ?_
  have ho := H
  refine CP.seq ?_
  refine CP.region ?_
  refine SP.val (Val.assign rfl) rfl rfl rfl ?_
  refine SP.nil ?_
  refine QE.then ?_
  refine CP.seq ?_
  refine CP.seq ?_
  refine CP.region ?_
  refine SP.val (Val.move rfl) rfl rfl rfl ?_
  refine SP.val (Val.eqlNP see 0 rfl Tryd.underlying29 rfl rfl) rfl rfl rfl ?_
  refine SP.nil ?_
  refine QE.then ?_
  refine CP.have (fun w2 hw => slR.isNil (v := v_s_0) (St.pers 0 rfl see.sub see.dj hw)) (fun hnil => ?_)
  rcases Bool.eq_false_or_eq_true (nilB v_s_0) with hc | hc
  · replace ho := nilOr_t ho (hnil hc)
    refine CP.condT rfl hc ?_
    refine CP.seq ?_
    refine CP.region ?_
    refine SP.val (Val.assign rfl) rfl rfl rfl ?_
    refine SP.nil ?_
    refine QE.then ?_
    refine CP.ret ?_
    refine QE.thru (by intro e; cases e) ?_
    obtain rfl := Option.some.inj ho
    exact QE.rets (rs := [.tmp 2]) (vs := [(.slice none 0 0)]) Tryd.results26 rfl ⟨RVs.tmp rfl, trivial⟩ (fun w2 h => St.done (fun a b p s => ⟨_, rfl, s⟩) (St.selO [0] rfl rfl (St.addO (slO.nil k_types_Row 39) h)))
  · replace ho := nilOr_f ho
    refine CP.condF rfl hc ?_
    refine CP.skip ?_
    refine QE.then ?_
    refine CP.seq ?_
    refine CP.region ?_
    refine SP.lit0 (k := k_types_Row) Tryd.underlying29 inf39 rfl rfl (fun v3 => ?_)
    refine SP.val (Val.move rfl) rfl rfl rfl ?_
    obtain ⟨hb, ho⟩ := must_some ho
    refine SP.append see 0 rfl 0 rfl Tryd.underlying29 inf39 rfl rfl hb rfl rfl rfl rfl rfl (fun v5 => ?_)
    clear hb
    refine SP.val (Val.assign rfl) rfl rfl rfl ?_
    refine SP.nil ?_
    refine QE.then ?_
    refine CP.ret ?_
    obtain rfl := Option.some.inj ho
    exact QE.rets (rs := [.tmp 2]) (vs := [v5]) Tryd.results26 rfl ⟨RVs.tmp rfl, trivial⟩ (fun w2 h => St.done (fun a b p s => ⟨_, rfl, s⟩) (St.selO [0] rfl rfl h))
/-! ### capstan/types.Rows: function 9 -/
inductive types_Rows.S where
  | start
  | l1 (x11 : api_Method) (t1828 : (List Int)) (l2826 : List types_Row) (x2827 : Int)
  | l2 (t2833 : (List types_Row)) (l2848 : List types_Row) (x2850 : Int)

def types_Rows.F (m_0 : api_Module) (k_1 : Int) : types_Rows.S → Option (types_Rows.S ⊕ ((List types_Row) × Int))
  | .start => if ((decide (k_1 < 0)) || (decide (k_1 ≥ (m_0.Methods.length : Int)))) = true then (some (.inr ([], 2))) else ((elt m_0.Methods k_1).bind fun x11 => (flow_Check.f x11.Code).bind fun t20 => if t20 ≠ 0 then (some (.inr ([], t20))) else ((slices_Concat_uint8_uint8.f [x11.Args, x11.Locals]).bind fun t1828 => (slices_ContainsFunc_api_Instr_api_Instr_s2.f x11.Code m_0.Globals m_0.Pool m_0.Methods m_0.Migrate x11.Args x11.Locals x11.Result x11.Reads x11.Fuel x11.Stack x11.Heap x11.Code t1828).bind fun t2747 => if t2747 = true then (some (.inr ([], 100))) else ((elt (List.replicate 200 types_Row.zero : List types_Row) 0).bind fun x2749 => some (.inl (.l1 x11 t1828 ((List.replicate 200 types_Row.zero : List types_Row).set (0 : Int).toNat ({ x2749 with Reached := true } : types_Row)) 0)))))
  | .l1 x11 t1828 l2826 x2827 => if x2827 < (x11.Code.length : Int) then ((types_look_place_s1.f m_0.Globals m_0.Pool m_0.Methods m_0.Migrate x11.Args x11.Locals x11.Result x11.Reads x11.Fuel x11.Stack x11.Heap x11.Code t1828 l2826 x2827).bind fun t2829 => if t2829.1 ≠ 0 then (some (.inr ([], t2829.1))) else (some (.inl (.l1 x11 t1828 t2829.2 (IntKind.i64.wrap (x2827 + 1)))))) else (if (0 : Int) ≤ (x11.Code.length : Int) ∧ (x11.Code.length : Int) ≤ (200 : Nat) then ((slices_Clone_types_Row_types_Row.f (l2826.take ((x11.Code.length : Int) : Int).toNat)).bind fun t2833 => some (.inl (.l2 t2833 t2833 0))) else none)
  | .l2 t2833 l2848 x2850 => if x2850 < (t2833.length : Int) then ((elt l2848 x2850).bind fun x2853 => (slices_Clone_uint8_uint8.f x2853.Kinds).bind fun t2857 => (elt l2848 x2850).bind fun x2861 => some (.inl (.l2 t2833 (l2848.set x2850.toNat ({ x2861 with Kinds := t2857 } : types_Row)) (IntKind.i64.wrap (x2850 + 1))))) else (some (.inr (l2848, 0)))

def types_Rows.f (m_0 : api_Module) (k_1 : Int) : Option ((List types_Row) × Int) := runF (types_Rows.F m_0 k_1) .start
theorem types_Rows.ok (m_0 : api_Module) (k_1 : Int) (v_m_0_Globals : Value) (v_m_0_Pool : Value) (v_m_0_Methods : Value)  (r : (List types_Row) × Int) (H : types_Rows.f m_0 k_1 = some r) (w : World) (hV : Hp) (sV : Sub hV (hp w)) (h0 : slR k_api_Value hV v_m_0_Globals m_0.Globals) (h1 : slR k_api_Value hV v_m_0_Pool m_0.Pool) (h2 : slR k_api_Method hV v_m_0_Methods m_0.Methods) (h3 : (arrP k_arr136 0 tab0).p hV) :
    Trip Tryd.prog 9 [.agg #[v_m_0_Globals, v_m_0_Pool, v_m_0_Methods, .int .i64 m_0.Migrate], .int .i64 k_1].toArray em hV w (fun v => HO.ex fun u0 : Value => HO.pand (v = .tuple #[u0, .int .i64 r.2]) (HO.seps [slO k_types_Row 39 u0 r.1])) := by
  have see : Sees w em hV := ⟨sV, Dj.em_right _⟩
  refine Trip.of (P := Tryd.prog) (n := ⟨90, []⟩) Tryd.func9 rfl ⟨rfl, rfl⟩ rfl (St.begin (All.cons (x := slP k_api_Value v_m_0_Globals m_0.Globals) h0 (All.cons (x := slP k_api_Value v_m_0_Pool m_0.Pool) h1 (All.cons (x := slP k_api_Method v_m_0_Methods m_0.Methods) h2 (All.cons (x := arrP k_arr136 0 tab0) h3 (All.nil _)))))) ?_
  obtain ⟨n0, hi⟩ := runF_iff.1 H
  obtain ⟨m0, o, hm0, ho, hr⟩ := iter_some hi
  clear hi
  refine CP.seq ?_
  refine CP.region ?_
  refine SP.box (cs := [v_m_0_Globals, v_m_0_Pool, v_m_0_Methods, .int .i64 m_0.Migrate]) rfl rfl rfl rfl (fun b4 => ?_)
  refine SP.val (Val.assign rfl) rfl rfl rfl ?_
  refine SP.val (Val.assign rfl) rfl rfl rfl ?_
  refine SP.nil ?_
  refine QE.then ?_
  refine CP.seq ?_
  refine CP.seq ?_
  refine CP.region ?_
  refine SP.val (Val.move rfl) rfl rfl rfl ?_
  refine SP.val (Val.lss rfl rfl) rfl rfl rfl ?_
  refine SP.val (Val.move rfl) rfl rfl rfl ?_
  refine SP.join 6 (fun a w2 => Env ⟨90, []⟩ [(1, .int .i64 k_1), (2, .pointer (some ⟨b4, 0, none⟩)), (21, .bool ((decide (k_1 < 0)) || (decide (k_1 ≥ (m_0.Methods.length : Int)))))] a ∧ St w em hV [slP k_api_Value v_m_0_Globals m_0.Globals, slP k_api_Value v_m_0_Pool m_0.Pool, slP k_api_Method v_m_0_Methods m_0.Methods, arrP k_arr136 0 tab0] [boxO b4 [v_m_0_Globals, v_m_0_Pool, v_m_0_Methods, .int .i64 m_0.Migrate] 25] w2) ?_ ?_
  · rintro a w2 ⟨ha, hw⟩
    refine SP.app ha hw ?_
    clear ha hw a w2
    refine SP.nil ?_
    refine QE.then ?_
    rcases if_some ho with ⟨hc, ho⟩ | ⟨hc, ho⟩
    · refine CP.condT rfl hc ?_
      refine CP.seq ?_
      refine CP.region ?_
      refine SP.val (Val.assign rfl) rfl rfl rfl ?_
      refine SP.val (Val.assign rfl) rfl rfl rfl ?_
      refine SP.nil ?_
      refine QE.then ?_
      refine CP.ret ?_
      refine QE.thru (by intro e; cases e) ?_
      obtain rfl := Option.some.inj ho
      obtain rfl := Option.some.inj hr
      exact QE.rets (rs := [.tmp 4, .tmp 5]) (vs := [(.slice none 0 0), .int .i64 2]) Tryd.results9 rfl ⟨RVs.tmp rfl, RVs.tmp rfl, trivial⟩ (fun w2 h => St.done (fun a b p s => ⟨_, rfl, s⟩) (St.selO [0] rfl rfl (St.addO (slO.nil k_types_Row 39) h)))
    · refine CP.condF rfl (bf hc) ?_
      refine CP.skip ?_
      refine QE.then ?_
      refine CP.seq ?_
      refine CP.region ?_
      refine SP.val (Val.fieldAddr Tryd.underlying25 rfl sz23 rfl) rfl rfl rfl ?_
      refine SP.val (Val.load1 0 rfl Tryd.underlying23 rfl rfl rfl) rfl rfl rfl ?_
      refine SP.val (Val.move rfl) rfl rfl rfl ?_
      obtain ⟨x11, hx, ho⟩ := bind_some ho
      have hx := elt_some hx
      refine SP.indexP see 2 rfl Tryd.underlying23 sz36 hx.1 hx.2 rfl rfl rfl rfl (fun p9 => ?_)
      clear hx
      refine k_api_Method.load see 0 rfl Tryd.underlying36 rfl sz36 rfl rfl rfl (fun v12 v14 v16 => ?_)
      refine SP.alloc (cs := [(.slice none 0 0), (.slice none 0 0), .int .u8 0, .bool false, .int .i64 0, .int .i64 0, .int .i64 0, (.slice none 0 0)]) inf36 rfl rfl (fun b18 => ?_)
      refine SP.have (fun w2 hw => slR.shape (St.pers 0 rfl see.sub see.dj hw)) (fun hs_v12 => ?_)
      refine SP.have (fun w2 hw => slR.shape (St.pers 1 rfl see.sub see.dj hw)) (fun hs_v14 => ?_)
      refine SP.have (fun w2 hw => slR.shape (St.pers 2 rfl see.sub see.dj hw)) (fun hs_v16 => ?_)
      refine SP.store (v := .agg #[v12, v14, .int .u8 x11.Result, .bool x11.Reads, .int .i64 x11.Fuel, .int .i64 x11.Stack, .int .i64 x11.Heap, v16]) (vs := [v12, v14, .int .u8 x11.Result, .bool x11.Reads, .int .i64 x11.Fuel, .int .i64 x11.Stack, .int .i64 x11.Heap, v16]) 0 (by rfl) sz36 (by rfl) (by rfl) (by rfl) (by rfl) (one_cons hs_v12 (one_cons hs_v14 (one_cons rfl (one_cons rfl (one_cons rfl (one_cons rfl (one_cons rfl (one_cons hs_v16 (rfl))))))))) (by rfl) ?_
      refine SP.nil ?_
      refine QE.then ?_
      refine CP.seq ?_
      refine CP.seq ?_
      refine CP.region ?_
      refine SP.val (Val.fieldAddr Tryd.underlying36 rfl sz34 rfl) rfl rfl rfl ?_
      refine SP.val (Val.load1 0 rfl Tryd.underlying34 rfl rfl rfl) rfl rfl rfl ?_
      obtain ⟨t20, hc, ho⟩ := bind_some (x := flow_Check.f x11.Code) ho
      refine SP.callV see (caps := []) (.int .i64 t20) fn20 rfl rfl rfl rfl (fun w2 hP hs sub ap => flow_Check.ok x11.Code _ _ hc w2 hP sub (ap.get 2 rfl) (ap.get 7 rfl)) ?_
      clear hc
      refine SP.val (Val.assign rfl) rfl rfl rfl ?_
      refine SP.nil ?_
      refine QE.then ?_
      refine CP.seq ?_
      refine CP.region ?_
      refine SP.val (Val.move rfl) rfl rfl rfl ?_
      refine SP.val (Val.neq rfl rfl) rfl rfl rfl ?_
      refine SP.nil ?_
      refine QE.then ?_
      rcases if_some ho with ⟨hc, ho⟩ | ⟨hc, ho⟩
      · refine CP.condT rfl (decide_eq_true hc) ?_
        refine CP.seq ?_
        refine CP.region ?_
        refine SP.val (Val.move rfl) rfl rfl rfl ?_
        refine SP.val (Val.assign rfl) rfl rfl rfl ?_
        refine SP.val (Val.assign rfl) rfl rfl rfl ?_
        refine SP.nil ?_
        refine QE.then ?_
        refine CP.ret ?_
        refine QE.thru (by intro e; cases e) ?_
        obtain rfl := Option.some.inj ho
        obtain rfl := Option.some.inj hr
        exact QE.rets (rs := [.tmp 4, .tmp 5]) (vs := [(.slice none 0 0), .int .i64 t20]) Tryd.results9 rfl ⟨RVs.tmp rfl, RVs.tmp rfl, trivial⟩ (fun w2 h => St.done (fun a b p s => ⟨_, rfl, s⟩) (St.selO [0] rfl rfl (St.addO (slO.nil k_types_Row 39) h)))
      · refine CP.condF rfl (decide_eq_false hc) ?_
        refine CP.skip ?_
        refine QE.then ?_
        refine CP.seq ?_
        refine CP.drawA (by kernel_rfl) (fun w2 k h => h.drawn k) ?_
        refine DA.phase (fun i => Nat.ble 0 i && Nat.blt i 11) (fun w2 => St w em hV [slP (kInt .u8) v12 x11.Args, slP (kInt .u8) v14 x11.Locals, slP k_api_Instr v16 x11.Code, elP k_api_Method p9 x11, slP k_api_Value v_m_0_Globals m_0.Globals, slP k_api_Value v_m_0_Pool m_0.Pool, slP k_api_Method v_m_0_Methods m_0.Methods, arrP k_arr136 0 tab0] [boxO b18 [v12, v14, .int .u8 x11.Result, .bool x11.Reads, .int .i64 x11.Fuel, .int .i64 x11.Stack, .int .i64 x11.Heap, v16] 36, boxO b4 [v_m_0_Globals, v_m_0_Pool, v_m_0_Methods, .int .i64 m_0.Migrate] 25] w2) ?_
        refine DT.take 0 rfl rfl rfl rfl (by kernel_rfl) (fun _ _ _ h => h) (Val.loadA 1 rfl Tryd.underlying25 rfl sz25 rfl rfl rfl) (fun w2 hw => hw) ?_
        refine DT.take 1 rfl rfl rfl rfl (by kernel_rfl) (fun _ _ _ h => h) (Val.loadA 0 rfl Tryd.underlying36 rfl sz36 rfl rfl rfl) (fun w2 hw => hw) ?_
        refine DT.take 2 rfl rfl rfl rfl (by kernel_rfl) (fun _ _ _ h => h) (Val.fieldAddr Tryd.underlying36 rfl sz33 rfl) (fun w2 hw => hw) ?_
        refine DT.take 3 rfl rfl rfl rfl (by kernel_rfl) (fun _ _ _ h => h) (Val.load1 0 rfl Tryd.underlying33 rfl rfl rfl) (fun w2 hw => hw) ?_
        refine DT.take 4 rfl rfl rfl rfl (by kernel_rfl) (fun _ _ _ h => h) (Val.fieldAddr Tryd.underlying36 rfl sz33 rfl) (fun w2 hw => hw) ?_
        refine DT.take 5 rfl rfl rfl rfl (by kernel_rfl) (fun _ _ _ h => h) (Val.load1 0 rfl Tryd.underlying33 rfl rfl rfl) (fun w2 hw => hw) ?_
        obtain ⟨t1828, hc_t1828, ho⟩ := bind_some (x := slices_Concat_uint8_uint8.f [x11.Args, x11.Locals]) ho
        refine DT.list (l2 := #[true, true, true, true, true, true, false, false, false, false, false, false]) (by kernel_rfl) ?_
        refine DT.cut (ι := Value × Value × Nat × Nat) (fun z => [(6, .pointer (some ⟨b18, 0, none⟩)), (8, .pointer (some ⟨z.2.2.2, 0, none⟩)), (42, .pointer (some ⟨z.2.2.1, 0, none⟩))]) (fun z w2 => St w em hV [slP (kInt .u8) v12 x11.Args, slP (kInt .u8) v14 x11.Locals, slP k_api_Instr v16 x11.Code, elP k_api_Method p9 x11, slP k_api_Value v_m_0_Globals m_0.Globals, slP k_api_Value v_m_0_Pool m_0.Pool, slP k_api_Method v_m_0_Methods m_0.Methods, arrP k_arr136 0 tab0] [boxO z.2.2.2 [.pointer none] 61, arrK k_types_Row z.2.2.1 [v_m_0_Globals, v_m_0_Pool, v_m_0_Methods, .int .i64 m_0.Migrate, v12, v14, .int .u8 x11.Result, .bool x11.Reads, .int .i64 x11.Fuel, .int .i64 x11.Stack, .int .i64 x11.Heap, v16, z.2.1] 200 (List.replicate 200 types_Row.zero : List types_Row) [] 65, slO (kInt .u8) 5 z.2.1 t1828, slO (kSl (kInt .u8)) 33 z.1 [x11.Args, x11.Locals], boxO b18 [v12, v14, .int .u8 x11.Result, .bool x11.Reads, .int .i64 x11.Fuel, .int .i64 x11.Stack, .int .i64 x11.Heap, v16] 36, boxO b4 [v_m_0_Globals, v_m_0_Pool, v_m_0_Methods, .int .i64 m_0.Migrate] 25] w2) 1 #[true, true, true, true, true, true, true, true, true, true, true, false] (fun z => ?_) (fun J2746 => ?_)
        · obtain ⟨v1430, v1630, b2030, b2230⟩ := z
          refine DT.next (by kernel_rfl) ?_
          refine DA.one 11 rfl (by kernel_rfl) ?_
          refine SP.store (v := .pointer (some ⟨b2030, 0, none⟩)) (vs := [.pointer (some ⟨b2030, 0, none⟩)]) 0 (by rfl) sz61 (by rfl) (by rfl) (by rfl) (by rfl) (by rfl) (by rfl) ?_
          refine SP.nil ?_
          refine QE.atA ?_
          refine DA.done (by kernel_rfl) ?_
          refine QE.then ?_
          refine CP.seq ?_
          refine CP.seq ?_
          refine CP.region ?_
          refine SP.val (Val.fieldAddr Tryd.underlying36 rfl sz34 rfl) rfl rfl rfl ?_
          refine SP.val (Val.load1 4 rfl Tryd.underlying34 rfl rfl rfl) rfl rfl rfl ?_
          refine SP.val (Val.makeFunc (us := []) (vs := [.pointer (some ⟨b2230, 0, none⟩)]) rfl rfl) rfl rfl rfl ?_
          obtain ⟨t2747, hc, ho⟩ := bind_some (x := slices_ContainsFunc_api_Instr_api_Instr_s2.f x11.Code m_0.Globals m_0.Pool m_0.Methods m_0.Migrate x11.Args x11.Locals x11.Result x11.Reads x11.Fuel x11.Stack x11.Heap x11.Code t1828) ho
          refine SP.callVO see (caps := []) (.bool t2747) fn22 rfl rfl rfl rfl (fun w2 hs => slices_ContainsFunc_api_Instr_api_Instr_s2.ok x11.Code m_0.Globals m_0.Pool m_0.Methods m_0.Migrate x11.Args x11.Locals x11.Result x11.Reads x11.Fuel x11.Stack x11.Heap x11.Code t1828 _ _ _ _ _ _ _ _ _ _ _ hc w2 (hp w2) (Sub.refl _) ((St.pers 2 rfl see.sub see.dj hs)) ((St.pers 4 rfl see.sub see.dj hs)) ((St.pers 5 rfl see.sub see.dj hs)) ((St.pers 6 rfl see.sub see.dj hs)) ((St.pers 0 rfl see.sub see.dj hs)) ((St.pers 1 rfl see.sub see.dj hs)) ((St.pers 2 rfl see.sub see.dj hs)) (slO.read (St.own 2 rfl see.sub see.dj hs) (Sub.refl _) (Sub.refl _)) (arrK.preP (St.own 1 rfl see.sub see.dj hs)) (St.own 0 rfl see.sub see.dj hs)) ?_
          clear hc
          refine SP.nil ?_
          refine QE.then ?_
          rcases if_some ho with ⟨hc, ho⟩ | ⟨hc, ho⟩
          · refine CP.condT rfl hc ?_
            refine CP.seq ?_
            refine CP.region ?_
            refine SP.val (Val.assign rfl) rfl rfl rfl ?_
            refine SP.val (Val.assign rfl) rfl rfl rfl ?_
            refine SP.nil ?_
            refine QE.then ?_
            refine CP.ret ?_
            refine QE.thru (by intro e; cases e) ?_
            obtain rfl := Option.some.inj ho
            obtain rfl := Option.some.inj hr
            exact QE.rets (rs := [.tmp 4, .tmp 5]) (vs := [(.slice none 0 0), .int .i64 100]) Tryd.results9 rfl ⟨RVs.tmp rfl, RVs.tmp rfl, trivial⟩ (fun w2 h => St.done (fun a b p s => ⟨_, rfl, s⟩) (St.selO [0] rfl rfl (St.addO (slO.nil k_types_Row 39) h)))
          · refine CP.condF rfl (bf hc) ?_
            refine CP.skip ?_
            refine QE.then ?_
            refine CP.seq ?_
            refine CP.region ?_
            refine SP.val (Val.load1 0 rfl Tryd.underlying61 rfl rfl rfl) rfl rfl rfl ?_
            refine SP.val (Val.nilCheck rfl) rfl rfl rfl ?_
            refine SP.val (Val.fieldAddr Tryd.underlying65 rfl sz63 rfl) rfl rfl rfl ?_
            obtain ⟨x2749, hx_x2749, ho⟩ := bind_some ho
            have hx_x2749 := elt_some hx_x2749
            refine SP.val (Val.indexK see 1 rfl Tryd.underlying63 sz39 hx_x2749.1 hx_x2749.2 rfl rfl) rfl rfl rfl ?_
            refine SP.val (Val.fieldX Tryd.underlying39 rfl sz4 rfl) rfl rfl rfl ?_
            refine SP.storeK (j := 0) (z0 := ({ x2749 with Reached := true } : types_Row)) (vs := [.bool true]) see 1 0 rfl hx_x2749.2 rfl (by rfl) sz4 rfl (fun a cs ap r => by obtain ⟨v0_, e, p0_⟩ := r; subst e; exact ⟨v0_, rfl, p0_⟩) rfl rfl rfl ?_
            refine SP.nil ?_
            refine QE.then ?_
            refine CP.seq ?_
            refine CP.seq ?_
            refine CP.region ?_
            refine SP.val (Val.fieldAddr Tryd.underlying36 rfl sz34 rfl) rfl rfl rfl ?_
            refine SP.val (Val.load1 4 rfl Tryd.underlying34 rfl rfl rfl) rfl rfl rfl ?_
            refine SP.val (Val.lenP see 2 rfl Tryd.underlying34 rfl) rfl rfl rfl ?_
            refine SP.val (Val.move rfl) rfl rfl rfl ?_
            refine SP.nil ?_
            refine QE.then ?_
            refine CP.block ?_
            refine CP.freezeS see 2 rfl ?_
            obtain rfl := Option.some.inj ho
            refine CP.loop (fun cl1 a w2 => ∃ l2826 : List types_Row, ∃ x2827 : Int, cl1 ≤ m0 ∧ iter (types_Rows.F m_0 k_1) cl1 (.l1 x11 t1828 l2826 x2827) = some r ∧ Env ⟨90, []⟩ [(6, .pointer (some ⟨b18, 0, none⟩)), (8, .pointer (some ⟨b2230, 0, none⟩)), (54, .int .i64 (x11.Code.length : Int)), (55, .int .i64 x2827)] a ∧ St w em hV [slP (kInt .u8) v1630 t1828, slP (kInt .u8) v12 x11.Args, slP (kInt .u8) v14 x11.Locals, slP k_api_Instr v16 x11.Code, slP k_api_Value v_m_0_Globals m_0.Globals, slP k_api_Value v_m_0_Pool m_0.Pool, slP k_api_Method v_m_0_Methods m_0.Methods, arrP k_arr136 0 tab0] [boxO b2230 [.pointer (some ⟨b2030, 0, none⟩)] 61, arrK k_types_Row b2030 [v_m_0_Globals, v_m_0_Pool, v_m_0_Methods, .int .i64 m_0.Migrate, v12, v14, .int .u8 x11.Result, .bool x11.Reads, .int .i64 x11.Fuel, .int .i64 x11.Stack, .int .i64 x11.Heap, v16, v1630] 200 l2826 [] 65, boxO b18 [v12, v14, .int .u8 x11.Result, .bool x11.Reads, .int .i64 x11.Fuel, .int .i64 x11.Stack, .int .i64 x11.Heap, v16] 36] w2) m0 (fun a w2 ha hw => ⟨((List.replicate 200 types_Row.zero : List types_Row).set (0 : Int).toNat ({ x2749 with Reached := true } : types_Row)), 0, Nat.le_refl _, hr, ha.sub ⟨rfl, rfl, rfl, rfl, trivial⟩, (St.selP [0, 1, 2, 3, 5, 6, 7, 8] rfl (St.selO [0, 1, 3] rfl rfl hw))⟩) ?_
            clear hr
            rintro cl1 a w2 ⟨l2826, x2827, hc_l1, hi, ha, hw⟩
            obtain ⟨m2828, o, hm_m2828, ho, hr⟩ := iter_some hi
            refine CP.app ha hw ?_
            clear ha hw a w2 hi
            refine CP.seq ?_
            refine CP.region ?_
            refine SP.val (Val.lss rfl rfl) rfl rfl rfl ?_
            refine SP.nil ?_
            refine QE.then ?_
            refine CP.seq ?_
            rcases if_some ho with ⟨hc, ho⟩ | ⟨hc, ho⟩
            · refine CP.condT rfl (decide_eq_true hc) ?_
              refine CP.skip ?_
              refine QE.then ?_
              refine CP.seq ?_
              refine CP.block ?_
              refine CP.seq ?_
              refine CP.region ?_
              refine SP.val (Val.move rfl) rfl rfl rfl ?_
              refine SP.val (Val.assign rfl) rfl rfl rfl ?_
              refine SP.nil ?_
              refine QE.then ?_
              refine CP.seq ?_
              refine CP.region ?_
              refine SP.val (Val.load1 0 rfl Tryd.underlying61 rfl rfl rfl) rfl rfl rfl ?_
              refine SP.val (Val.move rfl) rfl rfl rfl ?_
              refine SP.imp (fun w2 hw => St.selO [1, 0, 2] rfl rfl hw) ?_
              obtain ⟨t2829, hc, ho⟩ := bind_some (x := types_look_place_s1.f m_0.Globals m_0.Pool m_0.Methods m_0.Migrate x11.Args x11.Locals x11.Result x11.Reads x11.Fuel x11.Stack x11.Heap x11.Code t1828 l2826 x2827) ho
              refine SP.callA see (caps := []) (X := arrK k_types_Row b2030 [v_m_0_Globals, v_m_0_Pool, v_m_0_Methods, .int .i64 m_0.Migrate, v12, v14, .int .u8 x11.Result, .bool x11.Reads, .int .i64 x11.Fuel, .int .i64 x11.Stack, .int .i64 x11.Heap, v16, v1630] 200 l2826 [] 65) _ fn25 rfl rfl rfl rfl (fun w2 hP h1 sub s1 d1 ap hI => types_look_place_s1.ok m_0.Globals m_0.Pool m_0.Methods m_0.Migrate x11.Args x11.Locals x11.Result x11.Reads x11.Fuel x11.Stack x11.Heap x11.Code t1828 l2826 x2827 _ _ _ _ _ _ _ _ hc w2 hP sub (ap.get 4 rfl) (ap.get 5 rfl) (ap.get 6 rfl) (ap.get 1 rfl) (ap.get 2 rfl) (ap.get 3 rfl) (ap.get 0 rfl) (ap.get 7 rfl) _ h1 s1 d1 hI) (fun vr => ?_)
              refine SP.have (fun w2 h => (St.pand h).1.symm) (fun er => ?_)
              subst er
              refine SP.imp (fun w2 h => St.seps (St.pand h).2) ?_
              clear hc
              refine SP.val (Val.assign rfl) rfl rfl rfl ?_
              refine SP.nil ?_
              refine QE.then ?_
              refine CP.seq ?_
              refine CP.region ?_
              refine SP.val (Val.move rfl) rfl rfl rfl ?_
              refine SP.val (Val.neq rfl rfl) rfl rfl rfl ?_
              refine SP.nil ?_
              refine QE.then ?_
              rcases if_some ho with ⟨hc, ho⟩ | ⟨hc, ho⟩
              · refine CP.condT rfl (decide_eq_true hc) ?_
                refine CP.seq ?_
                refine CP.region ?_
                refine SP.val (Val.move rfl) rfl rfl rfl ?_
                refine SP.val (Val.assign rfl) rfl rfl rfl ?_
                refine SP.val (Val.assign rfl) rfl rfl rfl ?_
                refine SP.nil ?_
                refine QE.then ?_
                refine CP.ret ?_
                refine QE.blockR ?_
                refine QE.thru (by intro e; cases e) ?_
                refine QE.thru (by intro e; cases e) ?_
                refine QE.blockR ?_
                refine QE.thru (by intro e; cases e) ?_
                obtain rfl := Option.some.inj ho
                obtain rfl := Option.some.inj hr
                exact QE.rets (rs := [.tmp 4, .tmp 5]) (vs := [(.slice none 0 0), .int .i64 t2829.1]) Tryd.results9 rfl ⟨RVs.tmp rfl, RVs.tmp rfl, trivial⟩ (fun w2 h => St.done (fun a b p s => ⟨_, rfl, s⟩) (St.selO [0] rfl rfl (St.addO (slO.nil k_types_Row 39) h)))
              · refine CP.condF rfl (decide_eq_false hc) ?_
                refine CP.skip ?_
                refine QE.blockN ?_
                refine QE.then ?_
                refine CP.region ?_
                refine SP.val (Val.add rfl rfl) rfl rfl rfl ?_
                refine SP.val (Val.move rfl) rfl rfl rfl ?_
                refine SP.nil ?_
                obtain rfl := Option.some.inj ho
                exact QE.lower m2828 (by omega) fun a w2 ha hw => ⟨t2829.2, (IntKind.i64.wrap (x2827 + 1)), (by omega), hr, ha.sub ⟨rfl, rfl, rfl, rfl, trivial⟩, (St.selO [1, 0, 2] rfl rfl hw)⟩
            · refine CP.condF rfl (decide_eq_false hc) ?_
              refine CP.exit ?_
              refine QE.thru (by intro e; cases e) ?_
              refine QE.thru (by intro e; cases e) ?_
              refine QE.blockE ?_
              refine QE.then ?_
              refine CP.seq ?_
              refine CP.drawA (by kernel_rfl) (fun w2 k h => h.drawn k) ?_
              refine DA.phase (fun i => Nat.ble 0 i && Nat.blt i 6) (fun w2 => St w em hV [slP (kInt .u8) v1630 t1828, slP (kInt .u8) v12 x11.Args, slP (kInt .u8) v14 x11.Locals, slP k_api_Instr v16 x11.Code, slP k_api_Value v_m_0_Globals m_0.Globals, slP k_api_Value v_m_0_Pool m_0.Pool, slP k_api_Method v_m_0_Methods m_0.Methods, arrP k_arr136 0 tab0] [boxO b2230 [.pointer (some ⟨b2030, 0, none⟩)] 61, arrK k_types_Row b2030 [v_m_0_Globals, v_m_0_Pool, v_m_0_Methods, .int .i64 m_0.Migrate, v12, v14, .int .u8 x11.Result, .bool x11.Reads, .int .i64 x11.Fuel, .int .i64 x11.Stack, .int .i64 x11.Heap, v16, v1630] 200 l2826 [] 65, boxO b18 [v12, v14, .int .u8 x11.Result, .bool x11.Reads, .int .i64 x11.Fuel, .int .i64 x11.Stack, .int .i64 x11.Heap, v16] 36] w2) ?_
              refine DT.take 0 rfl rfl rfl rfl (by kernel_rfl) (fun _ _ _ h => h) (Val.load1 0 rfl Tryd.underlying61 rfl rfl rfl) (fun w2 hw => hw) ?_
              refine DT.take 1 rfl rfl rfl rfl (by kernel_rfl) (fun _ _ _ h => h) (Val.nilCheck rfl) (fun w2 hw => hw) ?_
              refine DT.take 2 rfl rfl rfl rfl (by kernel_rfl) (fun _ _ _ h => h) (Val.fieldAddr Tryd.underlying65 rfl sz63 rfl) (fun w2 hw => hw) ?_
              refine DT.take 3 rfl rfl rfl rfl (by kernel_rfl) (fun _ _ _ h => h) (Val.fieldAddr Tryd.underlying36 rfl sz34 rfl) (fun w2 hw => hw) ?_
              refine DT.take 4 rfl rfl rfl rfl (by kernel_rfl) (fun _ _ _ h => h) (Val.load1 2 rfl Tryd.underlying34 rfl rfl rfl) (fun w2 hw => hw) ?_
              refine DT.take 5 rfl rfl rfl rfl (by kernel_rfl) (fun _ _ _ h => h) (Val.lenP see 3 rfl Tryd.underlying34 rfl) (fun w2 hw => hw) ?_
              refine DT.next (by kernel_rfl) ?_
              refine DA.one 6 rfl (by kernel_rfl) ?_
              obtain ⟨hz, ho⟩ := must_some ho
              refine SP.sliceK see 1 rfl Tryd.underlying63 sz39 rfl rfl rfl hz rfl rfl (fun v2831 => ?_)
              clear hz
              refine SP.nil ?_
              refine QE.atA ?_
              refine DA.one 7 rfl (by kernel_rfl) ?_
              obtain ⟨t2833, hc, ho⟩ := bind_some (x := slices_Clone_types_Row_types_Row.f (l2826.take ((x11.Code.length : Int) : Int).toNat)) ho
              refine SP.callK see (caps := []) _ fn26 rfl rfl rfl rfl (fun w2 hP hs sub ap => slices_Clone_types_Row_types_Row.ok (l2826.take ((x11.Code.length : Int) : Int).toNat) _ _ hc w2 hP sub (ap.get 0 rfl)) (fun vr => ?_)
              refine SP.ex (fun w2 h => St.open h) (fun v2834 => ?_)
              refine SP.have (fun w2 h => (St.pand h).1.symm) (fun er => ?_)
              subst er
              refine SP.imp (fun w2 h => St.seps (St.pand h).2) ?_
              clear hc
              refine SP.nil ?_
              refine QE.atA ?_
              refine DA.one 8 rfl (by kernel_rfl) ?_
              refine SP.val (Val.assign rfl) rfl rfl rfl ?_
              refine SP.nil ?_
              refine QE.atA ?_
              refine DA.done (by kernel_rfl) ?_
              refine QE.then ?_
              refine CP.seq ?_
              refine CP.seq ?_
              refine CP.region ?_
              refine SP.val (Val.move rfl) rfl rfl rfl ?_
              refine SP.val (Val.lenW (fun w2 hw => slO.whole (St.own 0 rfl see.sub see.dj hw)) Tryd.underlying29 rfl) rfl rfl rfl ?_
              refine SP.val (Val.move rfl) rfl rfl rfl ?_
              refine SP.nil ?_
              refine QE.then ?_
              refine CP.block ?_
              obtain rfl := Option.some.inj ho
              refine CP.loop (fun cl2 a w2 => ∃ l2848 : List types_Row, ∃ x2850 : Int, ∃ v2849 : Value, cl2 ≤ m2828 ∧ iter (types_Rows.F m_0 k_1) cl2 (.l2 t2833 l2848 x2850) = some r ∧ Env ⟨90, []⟩ [(11, v2849), (74, .int .i64 (t2833.length : Int)), (75, .int .i64 x2850)] a ∧ St w em hV [arrP k_arr136 0 tab0] [slO k_types_Row 39 v2849 l2848] w2) m2828 (fun a w2 ha hw => ⟨t2833, 0, v2834, Nat.le_refl _, hr, ha.sub ⟨rfl, rfl, rfl, trivial⟩, (St.selP [8] rfl (St.selO [0] rfl rfl hw))⟩) ?_
              clear hr
              rintro cl2 a w2 ⟨l2848, x2850, v2849, hc_l2, hi, ha, hw⟩
              obtain ⟨m2851, o, hm_m2851, ho, hr⟩ := iter_some hi
              refine CP.app ha hw ?_
              clear ha hw a w2 hi
              refine CP.seq ?_
              refine CP.region ?_
              refine SP.val (Val.lss rfl rfl) rfl rfl rfl ?_
              refine SP.nil ?_
              refine QE.then ?_
              refine CP.seq ?_
              rcases if_some ho with ⟨hc, ho⟩ | ⟨hc, ho⟩
              · refine CP.condT rfl (decide_eq_true hc) ?_
                refine CP.skip ?_
                refine QE.then ?_
                refine CP.seq ?_
                refine CP.block ?_
                refine CP.seq ?_
                refine CP.region ?_
                refine SP.val (Val.move rfl) rfl rfl rfl ?_
                refine SP.val (Val.assign rfl) rfl rfl rfl ?_
                refine SP.nil ?_
                refine QE.then ?_
                refine CP.region ?_
                refine SP.val (Val.move rfl) rfl rfl rfl ?_
                refine SP.val (Val.move rfl) rfl rfl rfl ?_
                refine SP.val (Val.move rfl) rfl rfl rfl ?_
                refine SP.val (Val.move rfl) rfl rfl rfl ?_
                obtain ⟨x2853, hx_x2853, ho⟩ := bind_some ho
                have hx_x2853 := elt_some hx_x2853
                refine SP.indexW (fun w2 hw => slO.whole (St.own 0 rfl see.sub see.dj hw)) Tryd.underlying29 sz39 hx_x2853.1 hx_x2853.2 rfl rfl rfl rfl (fun p2852 h_p2852 => ?_)
                refine SP.fieldO h_p2852 Tryd.underlying39 rfl sz33 rfl rfl rfl (fun p2854 h_p2854 => ?_)
                refine SP.loadOS (j := x2850) see 0 1 rfl hx_x2853.2 h_p2854 (fun _ _ ⟨v0_, e, p0_⟩ => ⟨v0_, by subst e; rfl, p0_⟩) Tryd.underlying33 rfl rfl rfl (fun v2855 => ?_)
                obtain ⟨t2857, hc, ho⟩ := bind_some (x := slices_Clone_uint8_uint8.f x2853.Kinds) ho
                refine SP.callK see (caps := []) _ fn27 rfl rfl rfl rfl (fun w2 hP hs sub ap => slices_Clone_uint8_uint8.ok x2853.Kinds _ _ hc w2 hP sub (ap.get 0 rfl)) (fun vr => ?_)
                refine SP.ex (fun w2 h => St.open h) (fun v2858 => ?_)
                refine SP.have (fun w2 h => (St.pand h).1.symm) (fun er => ?_)
                subst er
                refine SP.imp (fun w2 h => St.seps (St.pand h).2) ?_
                clear hc
                obtain ⟨x2861, hx_x2861, ho⟩ := bind_some ho
                have hx_x2861 := elt_some hx_x2861
                refine SP.indexW (fun w2 hw => slO.whole (St.own 1 rfl see.sub see.dj hw)) Tryd.underlying29 sz39 hx_x2861.1 hx_x2861.2 rfl rfl rfl rfl (fun p2860 h_p2860 => ?_)
                refine SP.fieldO h_p2860 Tryd.underlying39 rfl sz33 rfl rfl rfl (fun p2862 h_p2862 => ?_)
                refine SP.freezeS see 0 rfl ?_
                refine SP.have (fun w2 hw => slR.shape (St.pers 0 rfl see.sub see.dj hw)) (fun hs_v2858 => ?_)
                refine SP.storeO (z0 := ({ x2861 with Kinds := t2857 } : types_Row)) (off := 1) (vs := [v2858]) see 0 rfl hx_x2861.2 h_p2862 (one_cells hs_v2858) (one_cons hs_v2858 (rfl)) sz33 rfl (fun a cs ap r => by obtain ⟨v0_, e, p0_⟩ := r; subst e; exact ⟨v2858, rfl, ap.get 0 rfl⟩) rfl rfl rfl ?_
                refine SP.nil ?_
                refine QE.blockN ?_
                refine QE.then ?_
                refine CP.region ?_
                refine SP.val (Val.add rfl rfl) rfl rfl rfl ?_
                refine SP.val (Val.move rfl) rfl rfl rfl ?_
                refine SP.nil ?_
                obtain rfl := Option.some.inj ho
                exact QE.lower m2851 (by omega) fun a w2 ha hw => ⟨(l2848.set x2850.toNat ({ x2861 with Kinds := t2857 } : types_Row)), (IntKind.i64.wrap (x2850 + 1)), v2849, (by omega), hr, ha.sub ⟨rfl, rfl, rfl, trivial⟩, (St.selP [2] rfl hw)⟩
              · refine CP.condF rfl (decide_eq_false hc) ?_
                refine CP.exit ?_
                refine QE.thru (by intro e; cases e) ?_
                refine QE.thru (by intro e; cases e) ?_
                refine QE.blockE ?_
                refine QE.then ?_
                refine CP.seq ?_
                refine CP.region ?_
                refine SP.val (Val.move rfl) rfl rfl rfl ?_
                refine SP.val (Val.assign rfl) rfl rfl rfl ?_
                refine SP.val (Val.assign rfl) rfl rfl rfl ?_
                refine SP.nil ?_
                refine QE.then ?_
                refine CP.ret ?_
                obtain rfl := Option.some.inj ho
                obtain rfl := Option.some.inj hr
                exact QE.rets (rs := [.tmp 4, .tmp 5]) (vs := [v2849, .int .i64 0]) Tryd.results9 rfl ⟨RVs.tmp rfl, RVs.tmp rfl, trivial⟩ (fun w2 h => St.done (fun a b p s => ⟨_, rfl, s⟩) (St.selO [0] rfl rfl h))
        refine DT.cut (ι := Value × Value × Nat) (fun z => [(6, .pointer (some ⟨b18, 0, none⟩)), (42, .pointer (some ⟨z.2.2, 0, none⟩))]) (fun z w2 => St w em hV [slP (kInt .u8) v12 x11.Args, slP (kInt .u8) v14 x11.Locals, slP k_api_Instr v16 x11.Code, elP k_api_Method p9 x11, slP k_api_Value v_m_0_Globals m_0.Globals, slP k_api_Value v_m_0_Pool m_0.Pool, slP k_api_Method v_m_0_Methods m_0.Methods, arrP k_arr136 0 tab0] [arrK k_types_Row z.2.2 [v_m_0_Globals, v_m_0_Pool, v_m_0_Methods, .int .i64 m_0.Migrate, v12, v14, .int .u8 x11.Result, .bool x11.Reads, .int .i64 x11.Fuel, .int .i64 x11.Stack, .int .i64 x11.Heap, v16, z.2.1] 200 (List.replicate 200 types_Row.zero : List types_Row) [] 65, slO (kInt .u8) 5 z.2.1 t1828, slO (kSl (kInt .u8)) 33 z.1 [x11.Args, x11.Locals], boxO b18 [v12, v14, .int .u8 x11.Result, .bool x11.Reads, .int .i64 x11.Fuel, .int .i64 x11.Stack, .int .i64 x11.Heap, v16] 36, boxO b4 [v_m_0_Globals, v_m_0_Pool, v_m_0_Methods, .int .i64 m_0.Migrate] 25] w2) 2 #[true, true, true, true, true, true, true, true, true, true, false, false] (fun z => ?_) (fun J2868 => ?_)
        · obtain ⟨v1430, v1630, b2030⟩ := z
          refine DT.one 10 rfl (by kernel_rfl) rfl ?_
          refine SP.alloc (cs := [.pointer none]) inf61 rfl rfl (fun b2230 => ?_)
          refine SP.nil ?_
          refine QE.atT (fun w2 hw => (St.selO [4, 5] rfl rfl hw)) ?_
          refine DT.list (l2 := #[true, true, true, true, true, true, true, true, true, true, true, false]) (by kernel_rfl) ?_
          exact DT.weak (by exact ⟨rfl, rfl, rfl, trivial⟩) (by exact fun w2 hw => hw) (J2746 (v1430, v1630, b2030, b2230))
        refine DT.cut (ι := Value × Value × Nat) (fun z => [(6, .pointer (some ⟨b18, 0, none⟩)), (8, .pointer (some ⟨z.2.2, 0, none⟩)), (41, .agg (([v_m_0_Globals, v_m_0_Pool, v_m_0_Methods, .int .i64 m_0.Migrate, v12, v14, .int .u8 x11.Result, .bool x11.Reads, .int .i64 x11.Fuel, .int .i64 x11.Stack, .int .i64 x11.Heap, v16, z.2.1] ++ zz200_2384)).toArray)]) (fun z w2 => St w em hV [slP (kInt .u8) v12 x11.Args, slP (kInt .u8) v14 x11.Locals, slP k_api_Instr v16 x11.Code, elP k_api_Method p9 x11, slP k_api_Value v_m_0_Globals m_0.Globals, slP k_api_Value v_m_0_Pool m_0.Pool, slP k_api_Method v_m_0_Methods m_0.Methods, arrP k_arr136 0 tab0] [boxO z.2.2 [.pointer none] 61, slO (kInt .u8) 5 z.2.1 t1828, slO (kSl (kInt .u8)) 33 z.1 [x11.Args, x11.Locals], boxO b18 [v12, v14, .int .u8 x11.Result, .bool x11.Reads, .int .i64 x11.Fuel, .int .i64 x11.Stack, .int .i64 x11.Heap, v16] 36, boxO b4 [v_m_0_Globals, v_m_0_Pool, v_m_0_Methods, .int .i64 m_0.Migrate] 25] w2) 2 #[true, true, true, true, true, true, true, true, true, false, true, false] (fun z => ?_) (fun J2869 => ?_)
        · obtain ⟨v1430, v1630, b2230⟩ := z
          refine DT.one 9 rfl (by kernel_rfl) rfl ?_
          refine SP.box (cs := ([v_m_0_Globals, v_m_0_Pool, v_m_0_Methods, .int .i64 m_0.Migrate, v12, v14, .int .u8 x11.Result, .bool x11.Reads, .int .i64 x11.Fuel, .int .i64 x11.Stack, .int .i64 x11.Heap, v16, v1630] ++ zz200_2384)) rfl rfl rfl rfl (fun b2030 => ?_)
          refine SP.imp (fun w2 hw => St.arrK (k := k_types_Row) 0 rfl (List.replicate 200 types_Row.zero : List types_Row) [v_m_0_Globals, v_m_0_Pool, v_m_0_Methods, .int .i64 m_0.Migrate, v12, v14, .int .u8 x11.Result, .bool x11.Reads, .int .i64 x11.Fuel, .int .i64 x11.Stack, .int .i64 x11.Heap, v16, v1630] zz200_2384 [] (Flat.rep (k := k_types_Row) (z := [.bool false, (.slice none 0 0)]) (x := types_Row.zero) ⟨_, rfl, slP.nil _ _⟩ 200) (congrArg _ (List.append_nil _).symm) List.length_replicate hw) ?_
          refine SP.nil ?_
          refine QE.atT (fun w2 hw => (St.selO [4, 5] rfl rfl hw)) ?_
          refine DT.list (l2 := #[true, true, true, true, true, true, true, true, true, true, true, false]) (by kernel_rfl) ?_
          exact DT.weak (by exact ⟨rfl, rfl, rfl, trivial⟩) (by exact fun w2 hw => (St.selO [1, 0, 2, 3, 4, 5] rfl rfl hw)) (J2746 (v1430, v1630, b2030, b2230))
        refine DT.cut (ι := Value × Value) (fun z => [(6, .pointer (some ⟨b18, 0, none⟩)), (41, .agg (([v_m_0_Globals, v_m_0_Pool, v_m_0_Methods, .int .i64 m_0.Migrate, v12, v14, .int .u8 x11.Result, .bool x11.Reads, .int .i64 x11.Fuel, .int .i64 x11.Stack, .int .i64 x11.Heap, v16, z.2] ++ zz200_2384)).toArray)]) (fun z w2 => St w em hV [slP (kInt .u8) v12 x11.Args, slP (kInt .u8) v14 x11.Locals, slP k_api_Instr v16 x11.Code, elP k_api_Method p9 x11, slP k_api_Value v_m_0_Globals m_0.Globals, slP k_api_Value v_m_0_Pool m_0.Pool, slP k_api_Method v_m_0_Methods m_0.Methods, arrP k_arr136 0 tab0] [slO (kInt .u8) 5 z.2 t1828, slO (kSl (kInt .u8)) 33 z.1 [x11.Args, x11.Locals], boxO b18 [v12, v14, .int .u8 x11.Result, .bool x11.Reads, .int .i64 x11.Fuel, .int .i64 x11.Stack, .int .i64 x11.Heap, v16] 36, boxO b4 [v_m_0_Globals, v_m_0_Pool, v_m_0_Methods, .int .i64 m_0.Migrate] 25] w2) 3 #[true, true, true, true, true, true, true, true, true, false, false, false] (fun z => ?_) (fun J2870 => ?_)
        · obtain ⟨v1430, v1630⟩ := z
          refine DT.any 9 [10] (by kernel_rfl) ⟨⟨_, rfl, rfl, ?_⟩, ⟨_, rfl, rfl, ?_⟩, trivial⟩
          · refine SP.box (cs := ([v_m_0_Globals, v_m_0_Pool, v_m_0_Methods, .int .i64 m_0.Migrate, v12, v14, .int .u8 x11.Result, .bool x11.Reads, .int .i64 x11.Fuel, .int .i64 x11.Stack, .int .i64 x11.Heap, v16, v1630] ++ zz200_2384)) rfl rfl rfl rfl (fun b2030 => ?_)
            refine SP.imp (fun w2 hw => St.arrK (k := k_types_Row) 0 rfl (List.replicate 200 types_Row.zero : List types_Row) [v_m_0_Globals, v_m_0_Pool, v_m_0_Methods, .int .i64 m_0.Migrate, v12, v14, .int .u8 x11.Result, .bool x11.Reads, .int .i64 x11.Fuel, .int .i64 x11.Stack, .int .i64 x11.Heap, v16, v1630] zz200_2384 [] (Flat.rep (k := k_types_Row) (z := [.bool false, (.slice none 0 0)]) (x := types_Row.zero) ⟨_, rfl, slP.nil _ _⟩ 200) (congrArg _ (List.append_nil _).symm) List.length_replicate hw) ?_
            refine SP.nil ?_
            refine QE.atT (fun w2 hw => (St.selO [3, 4] rfl rfl hw)) ?_
            refine DT.list (l2 := #[true, true, true, true, true, true, true, true, true, true, false, false]) (by kernel_rfl) ?_
            exact DT.weak (by exact ⟨rfl, rfl, trivial⟩) (by exact fun w2 hw => hw) (J2868 (v1430, v1630, b2030))
          · refine SP.alloc (cs := [.pointer none]) inf61 rfl rfl (fun b2230 => ?_)
            refine SP.nil ?_
            refine QE.atT (fun w2 hw => (St.selO [3, 4] rfl rfl hw)) ?_
            refine DT.list (l2 := #[true, true, true, true, true, true, true, true, true, false, true, false]) (by kernel_rfl) ?_
            exact DT.weak (by exact ⟨rfl, rfl, rfl, trivial⟩) (by exact fun w2 hw => hw) (J2869 (v1430, v1630, b2230))
        refine DT.cut (ι := Value × Value × Nat) (fun z => [(6, .pointer (some ⟨b18, 0, none⟩)), (8, .pointer (some ⟨z.2.2, 0, none⟩)), (33, .agg #[v_m_0_Globals, v_m_0_Pool, v_m_0_Methods, .int .i64 m_0.Migrate]), (34, .agg #[v12, v14, .int .u8 x11.Result, .bool x11.Reads, .int .i64 x11.Fuel, .int .i64 x11.Stack, .int .i64 x11.Heap, v16]), (40, z.2.1)]) (fun z w2 => St w em hV [slP (kInt .u8) v12 x11.Args, slP (kInt .u8) v14 x11.Locals, slP k_api_Instr v16 x11.Code, elP k_api_Method p9 x11, slP k_api_Value v_m_0_Globals m_0.Globals, slP k_api_Value v_m_0_Pool m_0.Pool, slP k_api_Method v_m_0_Methods m_0.Methods, arrP k_arr136 0 tab0] [boxO z.2.2 [.pointer none] 61, slO (kInt .u8) 5 z.2.1 t1828, slO (kSl (kInt .u8)) 33 z.1 [x11.Args, x11.Locals], boxO b18 [v12, v14, .int .u8 x11.Result, .bool x11.Reads, .int .i64 x11.Fuel, .int .i64 x11.Stack, .int .i64 x11.Heap, v16] 36, boxO b4 [v_m_0_Globals, v_m_0_Pool, v_m_0_Methods, .int .i64 m_0.Migrate] 25] w2) 3 #[true, true, true, true, true, true, true, true, false, false, true, false] (fun z => ?_) (fun J2875 => ?_)
        · obtain ⟨v1430, v1630, b2230⟩ := z
          refine DT.one 8 rfl (by kernel_rfl) rfl ?_
          refine SP.have (fun w2 hw => slO.shape (St.own 1 rfl see.sub see.dj hw)) (fun hs_v1630 => ?_)
          refine SP.val (Val.buildC (us := [(0, .agg #[v_m_0_Globals, v_m_0_Pool, v_m_0_Methods, .int .i64 m_0.Migrate]), (1, .agg #[v12, v14, .int .u8 x11.Result, .bool x11.Reads, .int .i64 x11.Fuel, .int .i64 x11.Stack, .int .i64 x11.Heap, v16]), (2, v1630)]) (ucs := [(0, [v_m_0_Globals, v_m_0_Pool, v_m_0_Methods, .int .i64 m_0.Migrate]), (1, [v12, v14, .int .u8 x11.Result, .bool x11.Reads, .int .i64 x11.Fuel, .int .i64 x11.Stack, .int .i64 x11.Heap, v16]), (2, [v1630])]) (cs := ([v_m_0_Globals, v_m_0_Pool, v_m_0_Methods, .int .i64 m_0.Migrate, v12, v14, .int .u8 x11.Result, .bool x11.Reads, .int .i64 x11.Fuel, .int .i64 x11.Stack, .int .i64 x11.Heap, v16, v1630] ++ zz200_2384)) bt65 rfl rfl ⟨rfl, rfl, ⟨rfl, rfl, ⟨rfl, one_cells hs_v1630, trivial⟩⟩⟩ (by rfl)) rfl rfl rfl ?_
          refine SP.nil ?_
          refine QE.atT (fun w2 hw => (St.selO [3, 4] rfl rfl hw)) ?_
          refine DT.list (l2 := #[true, true, true, true, true, true, true, true, true, false, true, false]) (by kernel_rfl) ?_
          exact DT.weak (by exact ⟨rfl, rfl, rfl, trivial⟩) (by exact fun w2 hw => hw) (J2869 (v1430, v1630, b2230))
        refine DT.cut (ι := Value × Value) (fun z => [(6, .pointer (some ⟨b18, 0, none⟩)), (33, .agg #[v_m_0_Globals, v_m_0_Pool, v_m_0_Methods, .int .i64 m_0.Migrate]), (34, .agg #[v12, v14, .int .u8 x11.Result, .bool x11.Reads, .int .i64 x11.Fuel, .int .i64 x11.Stack, .int .i64 x11.Heap, v16]), (40, z.2)]) (fun z w2 => St w em hV [slP (kInt .u8) v12 x11.Args, slP (kInt .u8) v14 x11.Locals, slP k_api_Instr v16 x11.Code, elP k_api_Method p9 x11, slP k_api_Value v_m_0_Globals m_0.Globals, slP k_api_Value v_m_0_Pool m_0.Pool, slP k_api_Method v_m_0_Methods m_0.Methods, arrP k_arr136 0 tab0] [slO (kInt .u8) 5 z.2 t1828, slO (kSl (kInt .u8)) 33 z.1 [x11.Args, x11.Locals], boxO b18 [v12, v14, .int .u8 x11.Result, .bool x11.Reads, .int .i64 x11.Fuel, .int .i64 x11.Stack, .int .i64 x11.Heap, v16] 36, boxO b4 [v_m_0_Globals, v_m_0_Pool, v_m_0_Methods, .int .i64 m_0.Migrate] 25] w2) 4 #[true, true, true, true, true, true, true, true, false, false, false, false] (fun z => ?_) (fun J2878 => ?_)
        · obtain ⟨v1430, v1630⟩ := z
          refine DT.any 8 [10] (by kernel_rfl) ⟨⟨_, rfl, rfl, ?_⟩, ⟨_, rfl, rfl, ?_⟩, trivial⟩
          · refine SP.have (fun w2 hw => slO.shape (St.own 0 rfl see.sub see.dj hw)) (fun hs_v1630 => ?_)
            refine SP.val (Val.buildC (us := [(0, .agg #[v_m_0_Globals, v_m_0_Pool, v_m_0_Methods, .int .i64 m_0.Migrate]), (1, .agg #[v12, v14, .int .u8 x11.Result, .bool x11.Reads, .int .i64 x11.Fuel, .int .i64 x11.Stack, .int .i64 x11.Heap, v16]), (2, v1630)]) (ucs := [(0, [v_m_0_Globals, v_m_0_Pool, v_m_0_Methods, .int .i64 m_0.Migrate]), (1, [v12, v14, .int .u8 x11.Result, .bool x11.Reads, .int .i64 x11.Fuel, .int .i64 x11.Stack, .int .i64 x11.Heap, v16]), (2, [v1630])]) (cs := ([v_m_0_Globals, v_m_0_Pool, v_m_0_Methods, .int .i64 m_0.Migrate, v12, v14, .int .u8 x11.Result, .bool x11.Reads, .int .i64 x11.Fuel, .int .i64 x11.Stack, .int .i64 x11.Heap, v16, v1630] ++ zz200_2384)) bt65 rfl rfl ⟨rfl, rfl, ⟨rfl, rfl, ⟨rfl, one_cells hs_v1630, trivial⟩⟩⟩ (by rfl)) rfl rfl rfl ?_
            refine SP.nil ?_
            refine QE.atT (fun w2 hw => (St.selO [2, 3] rfl rfl hw)) ?_
            refine DT.list (l2 := #[true, true, true, true, true, true, true, true, true, false, false, false]) (by kernel_rfl) ?_
            exact DT.weak (by exact ⟨rfl, rfl, trivial⟩) (by exact fun w2 hw => hw) (J2870 (v1430, v1630))
          · refine SP.alloc (cs := [.pointer none]) inf61 rfl rfl (fun b2230 => ?_)
            refine SP.nil ?_
            refine QE.atT (fun w2 hw => (St.selO [3, 4] rfl rfl hw)) ?_
            refine DT.list (l2 := #[true, true, true, true, true, true, true, true, false, false, true, false]) (by kernel_rfl) ?_
            exact DT.weak (by exact ⟨rfl, rfl, rfl, rfl, rfl, trivial⟩) (by exact fun w2 hw => hw) (J2875 (v1430, v1630, b2230))
        refine DT.cut (ι := Value × Nat) (fun z => [(6, .pointer (some ⟨b18, 0, none⟩)), (8, .pointer (some ⟨z.2, 0, none⟩)), (33, .agg #[v_m_0_Globals, v_m_0_Pool, v_m_0_Methods, .int .i64 m_0.Migrate]), (34, .agg #[v12, v14, .int .u8 x11.Result, .bool x11.Reads, .int .i64 x11.Fuel, .int .i64 x11.Stack, .int .i64 x11.Heap, v16]), (39, z.1)]) (fun z w2 => St w em hV [slP (kInt .u8) v12 x11.Args, slP (kInt .u8) v14 x11.Locals, slP k_api_Instr v16 x11.Code, elP k_api_Method p9 x11, slP k_api_Value v_m_0_Globals m_0.Globals, slP k_api_Value v_m_0_Pool m_0.Pool, slP k_api_Method v_m_0_Methods m_0.Methods, arrP k_arr136 0 tab0] [boxO z.2 [.pointer none] 61, slO (kSl (kInt .u8)) 33 z.1 [x11.Args, x11.Locals], boxO b18 [v12, v14, .int .u8 x11.Result, .bool x11.Reads, .int .i64 x11.Fuel, .int .i64 x11.Stack, .int .i64 x11.Heap, v16] 36, boxO b4 [v_m_0_Globals, v_m_0_Pool, v_m_0_Methods, .int .i64 m_0.Migrate] 25] w2) 4 #[true, true, true, true, true, true, true, false, false, false, true, false] (fun z => ?_) (fun J2883 => ?_)
        · obtain ⟨v1430, b2230⟩ := z
          refine DT.one 7 rfl (by kernel_rfl) rfl ?_
          refine SP.callKO see (caps := []) _ fn21 rfl rfl rfl rfl (fun w2 hs => slices_Concat_uint8_uint8.ok [x11.Args, x11.Locals] _ _ hc_t1828 w2 (hp w2) (Sub.refl _) (slO.read (St.own 1 rfl see.sub see.dj hs) (Sub.refl _) (Sub.refl _))) (fun v a a2 b ⟨v1630, e, h⟩ => ⟨v1630, e, (Sep.fcons (fun _ => slO.flip (fun _ _ _ _ h => h)) (fun _ => Sep.fnil)) h⟩) (fun vr => ?_)
          refine SP.ex (fun w2 h => St.open h) (fun v1630 => ?_)
          refine SP.have (fun w2 h => (St.pand h).1.symm) (fun er => ?_)
          subst er
          refine SP.imp (fun w2 h => St.seps (St.pand h).2) ?_
          refine SP.nil ?_
          refine QE.atT (fun w2 hw => (St.selO [3, 4] rfl rfl hw)) ?_
          refine DT.list (l2 := #[true, true, true, true, true, true, true, true, false, false, true, false]) (by kernel_rfl) ?_
          exact DT.weak (by exact ⟨rfl, rfl, rfl, rfl, rfl, trivial⟩) (by exact fun w2 hw => (St.selO [1, 0, 2, 3, 4] rfl rfl hw)) (J2875 (v1430, v1630, b2230))
        refine DT.cut (ι := Value) (fun z => [(6, .pointer (some ⟨b18, 0, none⟩)), (33, .agg #[v_m_0_Globals, v_m_0_Pool, v_m_0_Methods, .int .i64 m_0.Migrate]), (34, .agg #[v12, v14, .int .u8 x11.Result, .bool x11.Reads, .int .i64 x11.Fuel, .int .i64 x11.Stack, .int .i64 x11.Heap, v16]), (39, z)]) (fun z w2 => St w em hV [slP (kInt .u8) v12 x11.Args, slP (kInt .u8) v14 x11.Locals, slP k_api_Instr v16 x11.Code, elP k_api_Method p9 x11, slP k_api_Value v_m_0_Globals m_0.Globals, slP k_api_Value v_m_0_Pool m_0.Pool, slP k_api_Method v_m_0_Methods m_0.Methods, arrP k_arr136 0 tab0] [slO (kSl (kInt .u8)) 33 z [x11.Args, x11.Locals], boxO b18 [v12, v14, .int .u8 x11.Result, .bool x11.Reads, .int .i64 x11.Fuel, .int .i64 x11.Stack, .int .i64 x11.Heap, v16] 36, boxO b4 [v_m_0_Globals, v_m_0_Pool, v_m_0_Methods, .int .i64 m_0.Migrate] 25] w2) 5 #[true, true, true, true, true, true, true, false, false, false, false, false] (fun z => ?_) (fun J2884 => ?_)
        · rename Value => v1430
          refine DT.any 7 [10] (by kernel_rfl) ⟨⟨_, rfl, rfl, ?_⟩, ⟨_, rfl, rfl, ?_⟩, trivial⟩
          · refine SP.callKO see (caps := []) _ fn21 rfl rfl rfl rfl (fun w2 hs => slices_Concat_uint8_uint8.ok [x11.Args, x11.Locals] _ _ hc_t1828 w2 (hp w2) (Sub.refl _) (slO.read (St.own 0 rfl see.sub see.dj hs) (Sub.refl _) (Sub.refl _))) (fun v a a2 b ⟨v1630, e, h⟩ => ⟨v1630, e, (Sep.fcons (fun _ => slO.flip (fun _ _ _ _ h => h)) (fun _ => Sep.fnil)) h⟩) (fun vr => ?_)
            refine SP.ex (fun w2 h => St.open h) (fun v1630 => ?_)
            refine SP.have (fun w2 h => (St.pand h).1.symm) (fun er => ?_)
            subst er
            refine SP.imp (fun w2 h => St.seps (St.pand h).2) ?_
            refine SP.nil ?_
            refine QE.atT (fun w2 hw => (St.selO [2, 3] rfl rfl hw)) ?_
            refine DT.list (l2 := #[true, true, true, true, true, true, true, true, false, false, false, false]) (by kernel_rfl) ?_
            exact DT.weak (by exact ⟨rfl, rfl, rfl, rfl, trivial⟩) (by exact fun w2 hw => hw) (J2878 (v1430, v1630))
          · refine SP.alloc (cs := [.pointer none]) inf61 rfl rfl (fun b2230 => ?_)
            refine SP.nil ?_
            refine QE.atT (fun w2 hw => (St.selO [2, 3] rfl rfl hw)) ?_
            refine DT.list (l2 := #[true, true, true, true, true, true, true, false, false, false, true, false]) (by kernel_rfl) ?_
            exact DT.weak (by exact ⟨rfl, rfl, rfl, rfl, rfl, trivial⟩) (by exact fun w2 hw => hw) (J2883 (v1430, b2230))
        refine DT.cut (ι := Nat) (fun z => [(6, .pointer (some ⟨b18, 0, none⟩)), (8, .pointer (some ⟨z, 0, none⟩)), (33, .agg #[v_m_0_Globals, v_m_0_Pool, v_m_0_Methods, .int .i64 m_0.Migrate]), (34, .agg #[v12, v14, .int .u8 x11.Result, .bool x11.Reads, .int .i64 x11.Fuel, .int .i64 x11.Stack, .int .i64 x11.Heap, v16]), (36, v12), (38, v14)]) (fun z w2 => St w em hV [slP (kInt .u8) v12 x11.Args, slP (kInt .u8) v14 x11.Locals, slP k_api_Instr v16 x11.Code, elP k_api_Method p9 x11, slP k_api_Value v_m_0_Globals m_0.Globals, slP k_api_Value v_m_0_Pool m_0.Pool, slP k_api_Method v_m_0_Methods m_0.Methods, arrP k_arr136 0 tab0] [boxO z [.pointer none] 61, boxO b18 [v12, v14, .int .u8 x11.Result, .bool x11.Reads, .int .i64 x11.Fuel, .int .i64 x11.Stack, .int .i64 x11.Heap, v16] 36, boxO b4 [v_m_0_Globals, v_m_0_Pool, v_m_0_Methods, .int .i64 m_0.Migrate] 25] w2) 5 #[true, true, true, true, true, true, false, false, false, false, true, false] (fun z => ?_) (fun J2888 => ?_)
        · rename Nat => b2230
          refine DT.one 6 rfl (by kernel_rfl) rfl ?_
          refine SP.litS (k := (kSl (kInt .u8))) (xs := [x11.Args, x11.Locals]) (vs := [v12, v14]) Tryd.underlying87 inf33 rfl rfl rfl rfl rfl rfl (fun _ ap => ⟨slR.cells1 (ap.get 0 rfl), slR.cells1 (ap.get 1 rfl), trivial⟩) (fun _ ap => ⟨[v12], _, rfl, ⟨_, rfl, ap.get 0 rfl⟩, ⟨[v14], _, rfl, ⟨_, rfl, ap.get 1 rfl⟩, rfl⟩⟩) rfl rfl rfl (fun v1430 => ?_)
          refine SP.nil ?_
          refine QE.atT (fun w2 hw => (St.selO [2, 3] rfl rfl hw)) ?_
          refine DT.list (l2 := #[true, true, true, true, true, true, true, false, false, false, true, false]) (by kernel_rfl) ?_
          exact DT.weak (by exact ⟨rfl, rfl, rfl, rfl, rfl, trivial⟩) (by exact fun w2 hw => (St.selO [1, 0, 2, 3] rfl rfl hw)) (J2883 (v1430, b2230))
        refine DT.any 6 [10] (by kernel_rfl) ⟨⟨_, rfl, rfl, ?_⟩, ⟨_, rfl, rfl, ?_⟩, trivial⟩
        · refine SP.litS (k := (kSl (kInt .u8))) (xs := [x11.Args, x11.Locals]) (vs := [v12, v14]) Tryd.underlying87 inf33 rfl rfl rfl rfl rfl rfl (fun _ ap => ⟨slR.cells1 (ap.get 0 rfl), slR.cells1 (ap.get 1 rfl), trivial⟩) (fun _ ap => ⟨[v12], _, rfl, ⟨_, rfl, ap.get 0 rfl⟩, ⟨[v14], _, rfl, ⟨_, rfl, ap.get 1 rfl⟩, rfl⟩⟩) rfl rfl rfl (fun v1430 => ?_)
          refine SP.nil ?_
          refine QE.atT (fun w2 hw => (St.selO [1, 2] rfl rfl hw)) ?_
          refine DT.list (l2 := #[true, true, true, true, true, true, true, false, false, false, false, false]) (by kernel_rfl) ?_
          exact DT.weak (by exact ⟨rfl, rfl, rfl, rfl, trivial⟩) (by exact fun w2 hw => hw) (J2884 v1430)
        · refine SP.alloc (cs := [.pointer none]) inf61 rfl rfl (fun b2230 => ?_)
          refine SP.nil ?_
          refine QE.atT (fun w2 hw => (St.selO [1, 2] rfl rfl hw)) ?_
          refine DT.list (l2 := #[true, true, true, true, true, true, false, false, false, false, true, false]) (by kernel_rfl) ?_
          exact DT.weak (by exact ⟨rfl, rfl, rfl, rfl, rfl, rfl, trivial⟩) (by exact fun w2 hw => hw) (J2888 b2230)
  · intro J
    by_cases hc : k_1 < 0
    · have hq7 := (decide_eq_true hc)
      refine SP.isT (d := 15) rfl hq7 ?_
      refine SP.not rfl rfl rfl ?_
      refine SP.not rfl rfl rfl ?_
      refine SP.not rfl rfl rfl ?_
      refine SP.not rfl rfl rfl ?_
      refine SP.not rfl rfl rfl ?_
      refine SP.val (Val.pickT rfl rfl) rfl rfl rfl ?_
      exact J fun a w2 ha hw => ⟨ha.sub ⟨rfl, rfl, congrArg (fun z => some (Value.bool z)) (or_t hq7), trivial⟩, hw⟩
    · have hq7 := (decide_eq_false hc)
      refine SP.isF (d := 15) rfl hq7 ?_
      refine SP.val (Val.move rfl) rfl rfl rfl ?_
      refine SP.val (Val.fieldAddr Tryd.underlying25 rfl sz23 rfl) rfl rfl rfl ?_
      refine SP.val (Val.load1 0 rfl Tryd.underlying23 rfl rfl rfl) rfl rfl rfl ?_
      refine SP.val (Val.lenP see 2 rfl Tryd.underlying23 rfl) rfl rfl rfl ?_
      refine SP.val (Val.geq rfl rfl) rfl rfl rfl ?_
      refine SP.val (Val.pickF rfl rfl) rfl rfl rfl ?_
      exact J fun a w2 ha hw => ⟨ha.sub ⟨rfl, rfl, congrArg (fun z => some (Value.bool z)) (or_f hq7 rfl), trivial⟩, hw⟩
/-! ### capstan/types.Height: function 12 -/
inductive types_Height.S where
  | start
  | l1 (x10 : Int) (x11 : Int)

def types_Height.F (rows_0 : (List types_Row)) : types_Height.S → Option (types_Height.S ⊕ Int)
  | .start => some (.inl (.l1 0 0))
  | .l1 x10 x11 => if x11 < (rows_0.length : Int) then ((elt rows_0 x11).bind fun x15 => some (.inl (.l1 (if (x15.Kinds.length : Int) > x10 then (x15.Kinds.length : Int) else x10) (IntKind.i64.wrap (x11 + 1))))) else (some (.inr x10))

def types_Height.f (rows_0 : (List types_Row)) : Option Int := runF (types_Height.F rows_0) .start
theorem types_Height.ok (rows_0 : (List types_Row)) (v_rows_0 : Value) (r : Int) (H : types_Height.f rows_0 = some r) (w : World) (hV : Hp) (sV : Sub hV (hp w)) (h0 : slR k_types_Row hV v_rows_0 rows_0) :
    Trip Tryd.prog 12 [v_rows_0].toArray em hV w (fun v => HO.pure (v = .int .i64 r)) := by
  have see : Sees w em hV := ⟨sV, Dj.em_right _⟩
  refine Trip.of (P := Tryd.prog) (n := ⟨19, []⟩) Tryd.func12 rfl ⟨rfl, rfl⟩ rfl (St.begin (All.cons (x := slP k_types_Row v_rows_0 rows_0) h0 (All.nil _))) ?_
  obtain ⟨n0, hi⟩ := runF_iff.1 H
  obtain ⟨m0, o, hm0, ho, hr⟩ := iter_some hi
  clear hi
  refine CP.seq ?_
  refine CP.region ?_
  refine SP.val (Val.assign rfl) rfl rfl rfl ?_
  refine SP.nil ?_
  refine QE.then ?_
  refine CP.seq ?_
  refine CP.region ?_
  refine SP.val (Val.assign rfl) rfl rfl rfl ?_
  refine SP.nil ?_
  refine QE.then ?_
  refine CP.seq ?_
  refine CP.seq ?_
  refine CP.region ?_
  refine SP.val (Val.move rfl) rfl rfl rfl ?_
  refine SP.val (Val.lenP see 0 rfl Tryd.underlying29 rfl) rfl rfl rfl ?_
  refine SP.val (Val.move rfl) rfl rfl rfl ?_
  refine SP.nil ?_
  refine QE.then ?_
  refine CP.block ?_
  obtain rfl := Option.some.inj ho
  refine CP.loop (fun cl1 a w2 => ∃ x10 : Int, ∃ x11 : Int, cl1 ≤ m0 ∧ iter (types_Height.F rows_0) cl1 (.l1 x10 x11) = some r ∧ Env ⟨19, []⟩ [(3, .int .i64 x10), (6, v_rows_0), (7, .int .i64 (rows_0.length : Int)), (8, .int .i64 x11)] a ∧ St w em hV [slP k_types_Row v_rows_0 rows_0] [] w2) m0 (fun a w2 ha hw => ⟨0, 0, Nat.le_refl _, hr, ha.sub ⟨rfl, rfl, rfl, rfl, trivial⟩, hw⟩) ?_
  clear hr
  rintro cl1 a w2 ⟨x10, x11, hc_l1, hi, ha, hw⟩
  obtain ⟨m12, o, hm_m12, ho, hr⟩ := iter_some hi
  refine CP.app ha hw ?_
  clear ha hw a w2 hi
  refine CP.seq ?_
  refine CP.region ?_
  refine SP.val (Val.lss rfl rfl) rfl rfl rfl ?_
  refine SP.nil ?_
  refine QE.then ?_
  refine CP.seq ?_
  rcases if_some ho with ⟨hc, ho⟩ | ⟨hc, ho⟩
  · refine CP.condT rfl (decide_eq_true hc) ?_
    refine CP.skip ?_
    refine QE.then ?_
    refine CP.seq ?_
    refine CP.block ?_
    refine CP.seq ?_
    refine CP.region ?_
    obtain ⟨x15, hx, ho⟩ := bind_some ho
    have hx := elt_some hx
    refine SP.indexP see 0 rfl Tryd.underlying29 sz39 hx.1 hx.2 rfl rfl rfl rfl (fun p13 => ?_)
    clear hx
    refine k_types_Row.load see 0 rfl Tryd.underlying39 rfl sz39 rfl rfl rfl (fun v16 => ?_)
    refine SP.alloc (cs := [.bool false, (.slice none 0 0)]) inf39 rfl rfl (fun b18 => ?_)
    refine SP.have (fun w2 hw => slR.shape (St.pers 0 rfl see.sub see.dj hw)) (fun hs_v16 => ?_)
    refine SP.store (v := .agg #[.bool x15.Reached, v16]) (vs := [.bool x15.Reached, v16]) 0 (by rfl) sz39 (by rfl) (by rfl) (by rfl) (by rfl) (one_cons rfl (one_cons hs_v16 (rfl))) (by rfl) ?_
    refine SP.nil ?_
    refine QE.then ?_
    refine CP.region ?_
    refine SP.val (Val.move rfl) rfl rfl rfl ?_
    refine SP.val (Val.fieldAddr Tryd.underlying39 rfl sz33 rfl) rfl rfl rfl ?_
    refine SP.val (Val.load1 0 rfl Tryd.underlying33 rfl rfl rfl) rfl rfl rfl ?_
    refine SP.val (Val.lenP see 0 rfl Tryd.underlying33 rfl) rfl rfl rfl ?_
    refine SP.val (Val.max2 rfl rfl) rfl rfl rfl ?_
    refine SP.val (Val.assign rfl) rfl rfl rfl ?_
    refine SP.nil ?_
    refine QE.blockN ?_
    refine QE.then ?_
    refine CP.region ?_
    refine SP.val (Val.add rfl rfl) rfl rfl rfl ?_
    refine SP.val (Val.move rfl) rfl rfl rfl ?_
    refine SP.nil ?_
    obtain rfl := Option.some.inj ho
    exact QE.lower m12 (by omega) fun a w2 ha hw => ⟨(if (x15.Kinds.length : Int) > x10 then (x15.Kinds.length : Int) else x10), (IntKind.i64.wrap (x11 + 1)), (by omega), hr, ha.sub ⟨rfl, rfl, rfl, rfl, trivial⟩, (St.selP [2] rfl (St.selO [] rfl rfl hw))⟩
  · refine CP.condF rfl (decide_eq_false hc) ?_
    refine CP.exit ?_
    refine QE.thru (by intro e; cases e) ?_
    refine QE.thru (by intro e; cases e) ?_
    refine QE.blockE ?_
    refine QE.then ?_
    refine CP.seq ?_
    refine CP.region ?_
    refine SP.val (Val.move rfl) rfl rfl rfl ?_
    refine SP.val (Val.assign rfl) rfl rfl rfl ?_
    refine SP.nil ?_
    refine QE.then ?_
    refine CP.ret ?_
    obtain rfl := Option.some.inj ho
    obtain rfl := Option.some.inj hr
    exact QE.rets (rs := [.tmp 2]) (vs := [.int .i64 x10]) Tryd.results12 rfl ⟨RVs.tmp rfl, trivial⟩ (fun w2 h => St.done (fun a b p s => rfl) h)
/-! ### capstan/types.Check: function 16 -/
def types_Check.f (m_0 : api_Module) (k_1 : Int) : Option Int :=
  (types_Rows.f m_0 k_1).bind fun t6 => some t6.2
theorem types_Check.ok (m_0 : api_Module) (k_1 : Int) (v_m_0_Globals : Value) (v_m_0_Pool : Value) (v_m_0_Methods : Value)  (r : Int) (H : types_Check.f m_0 k_1 = some r) (w : World) (hV : Hp) (sV : Sub hV (hp w)) (h0 : slR k_api_Value hV v_m_0_Globals m_0.Globals) (h1 : slR k_api_Value hV v_m_0_Pool m_0.Pool) (h2 : slR k_api_Method hV v_m_0_Methods m_0.Methods) (h3 : (arrP k_arr136 0 tab0).p hV) :
    Trip Tryd.prog 16 [.agg #[v_m_0_Globals, v_m_0_Pool, v_m_0_Methods, .int .i64 m_0.Migrate], .int .i64 k_1].toArray em hV w (fun v => HO.pure (v = .int .i64 r)) := by
  have see : Sees w em hV := ⟨sV, Dj.em_right _⟩
  refine Trip.of (P := Tryd.prog) (n := ⟨14, []⟩) Tryd.func16 rfl ⟨rfl, rfl⟩ rfl (St.begin (All.cons (x := slP k_api_Value v_m_0_Globals m_0.Globals) h0 (All.cons (x := slP k_api_Value v_m_0_Pool m_0.Pool) h1 (All.cons (x := slP k_api_Method v_m_0_Methods m_0.Methods) h2 (All.cons (x := arrP k_arr136 0 tab0) h3 (All.nil _)))))) ?_
  have ho := H
  refine CP.seq ?_
  refine CP.region ?_
  refine SP.box (cs := [v_m_0_Globals, v_m_0_Pool, v_m_0_Methods, .int .i64 m_0.Migrate]) rfl rfl rfl rfl (fun b4 => ?_)
  refine SP.val (Val.assign rfl) rfl rfl rfl ?_
  refine SP.nil ?_
  refine QE.then ?_
  refine CP.seq ?_
  refine CP.region ?_
  refine SP.val (Val.loadA 0 rfl Tryd.underlying25 rfl sz25 rfl rfl rfl) rfl rfl rfl ?_
  refine SP.val (Val.move rfl) rfl rfl rfl ?_
  obtain ⟨t6, hc, ho⟩ := bind_some (x := types_Rows.f m_0 k_1) ho
  refine SP.callK see (caps := []) _ fn9 rfl rfl rfl rfl (fun w2 hP hs sub ap => types_Rows.ok m_0 k_1 _ _ _ _ hc w2 hP sub (ap.get 0 rfl) (ap.get 1 rfl) (ap.get 2 rfl) (ap.get 3 rfl)) (fun vr => ?_)
  refine SP.ex (fun w2 h => St.open h) (fun v7 => ?_)
  refine SP.have (fun w2 h => (St.pand h).1.symm) (fun er => ?_)
  subst er
  refine SP.imp (fun w2 h => St.seps (St.pand h).2) ?_
  clear hc
  refine SP.val (Val.move rfl) rfl rfl rfl ?_
  refine SP.val (Val.extract rfl rfl) rfl rfl rfl ?_
  refine SP.val (Val.extract rfl rfl) rfl rfl rfl ?_
  refine SP.val (Val.assign rfl) rfl rfl rfl ?_
  refine SP.val (Val.assign rfl) rfl rfl rfl ?_
  refine SP.nil ?_
  refine QE.then ?_
  refine CP.seq ?_
  refine CP.region ?_
  refine SP.val (Val.move rfl) rfl rfl rfl ?_
  refine SP.val (Val.assign rfl) rfl rfl rfl ?_
  refine SP.nil ?_
  refine QE.then ?_
  refine CP.ret ?_
  obtain rfl := Option.some.inj ho
  exact QE.rets (rs := [.tmp 4]) (vs := [.int .i64 t6.2]) Tryd.results16 rfl ⟨RVs.tmp rfl, trivial⟩ (fun w2 h => St.done (fun a b p s => rfl) h)
/-! ### capstan/capstanlaw10.awake: function 7 -/
def capstanlaw10_awake.f  : Option Bool :=
  (capstanlaw10_one.f ([2, 0, 1, 0, 9, 0, 31, 0] : List Int)).bind fun t3 => (types_Rows.f t3 0).bind fun t10 => (if ((decide (t10.2 ≠ 0)) || (decide ((t10.1.length : Int) ≠ 4))) = true then (some true) else ((elt t10.1 0).bind fun x18 => some (!x18.Reached))).bind fun t20 => (if t20 = true then (some true) else ((elt t10.1 0).bind fun x24 => some (decide ((x24.Kinds.length : Int) ≠ 0)))).bind fun t28 => (if t28 = true then (some true) else ((elt t10.1 1).bind fun x32 => some (decide ((x32.Kinds.length : Int) ≠ 1)))).bind fun t36 => (if t36 = true then (some true) else ((elt t10.1 2).bind fun x40 => some (decide ((x40.Kinds.length : Int) ≠ 2)))).bind fun t44 => (if t44 = true then (some true) else ((elt t10.1 3).bind fun x48 => some (decide ((x48.Kinds.length : Int) ≠ 1)))).bind fun t52 => (if t52 = true then (some true) else ((types_Height.f t10.1).bind fun t55 => some (decide (t55 ≠ 2)))).bind fun t56 => if t56 = true then (some false) else ((capstanlaw10_one.f ([2, 0, 31, 0, 1, 9, 31, 0] : List Int)).bind fun t59 => (types_Check.f t59 0).bind fun t66 => (if t66 = 100 then ((capstanlaw10_one.f ([9, 0, 31, 0] : List Int)).bind fun t71 => (types_Check.f t71 0).bind fun t78 => some (decide (t78 = 101))) else (some false)).bind fun t79 => (if t79 = true then ((capstanlaw10_one.f ([2, 0, 27, 3, 1, 0, 31, 0] : List Int)).bind fun t84 => (types_Check.f t84 0).bind fun t91 => some (decide (t91 = 100))) else (some false)).bind fun t92 => (if t92 = true then ((capstanlaw10_one.f [31, 0]).bind fun t97 => (types_Check.f t97 1).bind fun t104 => some (decide (t104 = 2))) else (some false)).bind fun t105 => some t105)
theorem capstanlaw10_awake.ok   (r : Bool) (H : capstanlaw10_awake.f  = some r) (w : World) (hV : Hp) (sV : Sub hV (hp w)) (h0 : (arrP k_arr136 0 tab0).p hV) :
    Trip Tryd.prog 7 [].toArray em hV w (fun v => HO.pure (v = .bool r)) := by
  have see : Sees w em hV := ⟨sV, Dj.em_right _⟩
  refine Trip.of (P := Tryd.prog) (n := ⟨102, []⟩) Tryd.func7 rfl ⟨rfl, rfl⟩ rfl (St.begin (All.cons (x := arrP k_arr136 0 tab0) h0 (All.nil _))) ?_
  have ho := H
  refine CP.seq ?_
  refine CP.region ?_
  refine SP.val (Val.assign rfl) rfl rfl rfl ?_
  refine SP.nil ?_
  refine QE.then ?_
  refine CP.seq ?_
  refine CP.region ?_
  refine SP.val (Val.assign rfl) rfl rfl rfl ?_
  refine SP.val (Val.assign rfl) rfl rfl rfl ?_
  refine SP.val (Val.assign rfl) rfl rfl rfl ?_
  refine SP.val (Val.assign rfl) rfl rfl rfl ?_
  refine SP.val (Val.assign rfl) rfl rfl rfl ?_
  refine SP.nil ?_
  refine QE.then ?_
  refine CP.seq ?_
  refine CP.region ?_
  refine SP.val (Val.move rfl) rfl rfl rfl ?_
  refine SP.val (Val.move rfl) rfl rfl rfl ?_
  refine SP.val (Val.move rfl) rfl rfl rfl ?_
  refine SP.val (Val.move rfl) rfl rfl rfl ?_
  refine SP.lit (k := (kInt .i64)) (xs := ([2, 0, 1, 0, 9, 0, 31, 0] : List Int)) (vs := [.int .i64 2, .int .i64 0, .int .i64 1, .int .i64 0, .int .i64 9, .int .i64 0, .int .i64 31, .int .i64 0]) (cells := [.int .i64 2, .int .i64 0, .int .i64 1, .int .i64 0, .int .i64 9, .int .i64 0, .int .i64 31, .int .i64 0]) Tryd.underlying46 inf3 rfl rfl rfl rfl rfl rfl rfl rfl (fun _ ap => ⟨[.int .i64 2], _, rfl, rfl, ⟨[.int .i64 0], _, rfl, rfl, ⟨[.int .i64 1], _, rfl, rfl, ⟨[.int .i64 0], _, rfl, rfl, ⟨[.int .i64 9], _, rfl, rfl, ⟨[.int .i64 0], _, rfl, rfl, ⟨[.int .i64 31], _, rfl, rfl, ⟨[.int .i64 0], _, rfl, rfl, rfl⟩⟩⟩⟩⟩⟩⟩⟩) rfl rfl rfl (fun v1 => ?_)
  refine SP.freezeS see 0 rfl ?_
  obtain ⟨t3, hc, ho⟩ := bind_some (x := capstanlaw10_one.f ([2, 0, 1, 0, 9, 0, 31, 0] : List Int)) ho
  refine SP.callK see (caps := []) _ fn18 rfl rfl rfl rfl (fun w2 hP hs sub ap => capstanlaw10_one.ok ([2, 0, 1, 0, 9, 0, 31, 0] : List Int) _ _ hc w2 hP sub (ap.get 0 rfl)) (fun vr => ?_)
  refine SP.ex (fun w2 h => St.open h) (fun v4 => ?_)
  refine SP.ex (fun w2 h => St.open h) (fun v5 => ?_)
  refine SP.ex (fun w2 h => St.open h) (fun v6 => ?_)
  refine SP.have (fun w2 h => (St.pand h).1.symm) (fun er => ?_)
  subst er
  refine SP.imp (fun w2 h => St.seps (St.pand h).2) ?_
  clear hc
  refine SP.freezeS see 0 rfl ?_
  refine SP.freezeS see 0 rfl ?_
  refine SP.freezeD see 0 rfl ?_
  obtain ⟨t10, hc, ho⟩ := bind_some (x := types_Rows.f t3 0) ho
  refine SP.callK see (caps := []) _ fn9 rfl rfl rfl rfl (fun w2 hP hs sub ap => types_Rows.ok t3 0 _ _ _ _ hc w2 hP sub (ap.get 2 rfl) (ap.get 1 rfl) (ap.get 0 rfl) (ap.get 4 rfl)) (fun vr => ?_)
  refine SP.ex (fun w2 h => St.open h) (fun v11 => ?_)
  refine SP.have (fun w2 h => (St.pand h).1.symm) (fun er => ?_)
  subst er
  refine SP.imp (fun w2 h => St.seps (St.pand h).2) ?_
  clear hc
  refine SP.val (Val.move rfl) rfl rfl rfl ?_
  refine SP.val (Val.extract rfl rfl) rfl rfl rfl ?_
  refine SP.val (Val.extract rfl rfl) rfl rfl rfl ?_
  refine SP.val (Val.assign rfl) rfl rfl rfl ?_
  refine SP.val (Val.assign rfl) rfl rfl rfl ?_
  refine SP.nil ?_
  refine QE.then ?_
  refine CP.seq ?_
  refine CP.seq ?_
  refine CP.region ?_
  refine SP.val (Val.move rfl) rfl rfl rfl ?_
  refine SP.val (Val.neq rfl rfl) rfl rfl rfl ?_
  refine SP.val (Val.move rfl) rfl rfl rfl ?_
  refine SP.join 4 (fun a w2 => Env ⟨102, []⟩ [(1, .int .i64 2), (2, .int .i64 1), (3, .int .i64 9), (4, .int .i64 31), (5, .int .i64 27), (6, v11), (24, .bool ((decide (t10.2 ≠ 0)) || (decide ((t10.1.length : Int) ≠ 4))))] a ∧ St w em hV [slP k_api_Method v6 t3.Methods, slP k_api_Value v5 t3.Pool, slP k_api_Value v4 t3.Globals, slP (kInt .i64) v1 ([2, 0, 1, 0, 9, 0, 31, 0] : List Int), arrP k_arr136 0 tab0] [slO k_types_Row 39 v11 t10.1] w2) ?_ ?_
  · rintro a w2 ⟨ha, hw⟩
    refine SP.app ha hw ?_
    clear ha hw a w2
    refine SP.val (Val.move rfl) rfl rfl rfl ?_
    obtain ⟨t20, hg_t20, ho⟩ := bind_some ho
    refine SP.join 6 (fun a w2 => Env ⟨102, []⟩ [(1, .int .i64 2), (2, .int .i64 1), (3, .int .i64 9), (4, .int .i64 31), (5, .int .i64 27), (6, v11), (31, .bool t20)] a ∧ St w em hV [slP k_api_Method v6 t3.Methods, slP k_api_Value v5 t3.Pool, slP k_api_Value v4 t3.Globals, slP (kInt .i64) v1 ([2, 0, 1, 0, 9, 0, 31, 0] : List Int), arrP k_arr136 0 tab0] [slO k_types_Row 39 v11 t10.1] w2) ?_ ?_
    · rintro a w2 ⟨ha, hw⟩
      refine SP.app ha hw ?_
      clear ha hw a w2 hg_t20
      refine SP.val (Val.move rfl) rfl rfl rfl ?_
      obtain ⟨t28, hg_t28, ho⟩ := bind_some ho
      refine SP.join 7 (fun a w2 => Env ⟨102, []⟩ [(1, .int .i64 2), (2, .int .i64 1), (3, .int .i64 9), (4, .int .i64 31), (5, .int .i64 27), (6, v11), (39, .bool t28)] a ∧ St w em hV [slP k_api_Method v6 t3.Methods, slP k_api_Value v5 t3.Pool, slP k_api_Value v4 t3.Globals, slP (kInt .i64) v1 ([2, 0, 1, 0, 9, 0, 31, 0] : List Int), arrP k_arr136 0 tab0] [slO k_types_Row 39 v11 t10.1] w2) ?_ ?_
      · rintro a w2 ⟨ha, hw⟩
        refine SP.app ha hw ?_
        clear ha hw a w2 hg_t28
        refine SP.val (Val.move rfl) rfl rfl rfl ?_
        obtain ⟨t36, hg_t36, ho⟩ := bind_some ho
        refine SP.join 7 (fun a w2 => Env ⟨102, []⟩ [(1, .int .i64 2), (2, .int .i64 1), (3, .int .i64 9), (4, .int .i64 31), (5, .int .i64 27), (6, v11), (47, .bool t36)] a ∧ St w em hV [slP k_api_Method v6 t3.Methods, slP k_api_Value v5 t3.Pool, slP k_api_Value v4 t3.Globals, slP (kInt .i64) v1 ([2, 0, 1, 0, 9, 0, 31, 0] : List Int), arrP k_arr136 0 tab0] [slO k_types_Row 39 v11 t10.1] w2) ?_ ?_
        · rintro a w2 ⟨ha, hw⟩
          refine SP.app ha hw ?_
          clear ha hw a w2 hg_t36
          refine SP.val (Val.move rfl) rfl rfl rfl ?_
          obtain ⟨t44, hg_t44, ho⟩ := bind_some ho
          refine SP.join 7 (fun a w2 => Env ⟨102, []⟩ [(1, .int .i64 2), (2, .int .i64 1), (3, .int .i64 9), (4, .int .i64 31), (5, .int .i64 27), (6, v11), (55, .bool t44)] a ∧ St w em hV [slP k_api_Method v6 t3.Methods, slP k_api_Value v5 t3.Pool, slP k_api_Value v4 t3.Globals, slP (kInt .i64) v1 ([2, 0, 1, 0, 9, 0, 31, 0] : List Int), arrP k_arr136 0 tab0] [slO k_types_Row 39 v11 t10.1] w2) ?_ ?_
          · rintro a w2 ⟨ha, hw⟩
            refine SP.app ha hw ?_
            clear ha hw a w2 hg_t44
            refine SP.val (Val.move rfl) rfl rfl rfl ?_
            obtain ⟨t52, hg_t52, ho⟩ := bind_some ho
            refine SP.join 7 (fun a w2 => Env ⟨102, []⟩ [(1, .int .i64 2), (2, .int .i64 1), (3, .int .i64 9), (4, .int .i64 31), (5, .int .i64 27), (6, v11), (63, .bool t52)] a ∧ St w em hV [slP k_api_Method v6 t3.Methods, slP k_api_Value v5 t3.Pool, slP k_api_Value v4 t3.Globals, slP (kInt .i64) v1 ([2, 0, 1, 0, 9, 0, 31, 0] : List Int), arrP k_arr136 0 tab0] [slO k_types_Row 39 v11 t10.1] w2) ?_ ?_
            · rintro a w2 ⟨ha, hw⟩
              refine SP.app ha hw ?_
              clear ha hw a w2 hg_t52
              refine SP.val (Val.move rfl) rfl rfl rfl ?_
              obtain ⟨t56, hg_t56, ho⟩ := bind_some ho
              refine SP.join 4 (fun a w2 => Env ⟨102, []⟩ [(1, .int .i64 2), (2, .int .i64 1), (3, .int .i64 9), (4, .int .i64 31), (5, .int .i64 27), (68, .bool t56)] a ∧ St w em hV [slP k_api_Method v6 t3.Methods, slP k_api_Value v5 t3.Pool, slP k_api_Value v4 t3.Globals, slP (kInt .i64) v1 ([2, 0, 1, 0, 9, 0, 31, 0] : List Int), arrP k_arr136 0 tab0] [slO k_types_Row 39 v11 t10.1] w2) ?_ ?_
              · rintro a w2 ⟨ha, hw⟩
                refine SP.app ha hw ?_
                clear ha hw a w2 hg_t56
                refine SP.nil ?_
                refine QE.then ?_
                rcases if_some ho with ⟨hc, ho⟩ | ⟨hc, ho⟩
                · refine CP.condT rfl hc ?_
                  refine CP.seq ?_
                  refine CP.region ?_
                  refine SP.val (Val.assign rfl) rfl rfl rfl ?_
                  refine SP.nil ?_
                  refine QE.then ?_
                  refine CP.ret ?_
                  refine QE.thru (by intro e; cases e) ?_
                  obtain rfl := Option.some.inj ho
                  exact QE.rets (rs := [.tmp 0]) (vs := [.bool false]) Tryd.results7 rfl ⟨RVs.tmp rfl, trivial⟩ (fun w2 h => St.done (fun a b p s => rfl) h)
                · refine CP.condF rfl (bf hc) ?_
                  refine CP.skip ?_
                  refine QE.then ?_
                  refine CP.seq ?_
                  refine CP.region ?_
                  refine SP.val (Val.move rfl) rfl rfl rfl ?_
                  refine SP.val (Val.move rfl) rfl rfl rfl ?_
                  refine SP.val (Val.move rfl) rfl rfl rfl ?_
                  refine SP.val (Val.move rfl) rfl rfl rfl ?_
                  refine SP.lit (k := (kInt .i64)) (xs := ([2, 0, 31, 0, 1, 9, 31, 0] : List Int)) (vs := [.int .i64 2, .int .i64 0, .int .i64 31, .int .i64 0, .int .i64 1, .int .i64 9, .int .i64 31, .int .i64 0]) (cells := [.int .i64 2, .int .i64 0, .int .i64 31, .int .i64 0, .int .i64 1, .int .i64 9, .int .i64 31, .int .i64 0]) Tryd.underlying46 inf3 rfl rfl rfl rfl rfl rfl rfl rfl (fun _ ap => ⟨[.int .i64 2], _, rfl, rfl, ⟨[.int .i64 0], _, rfl, rfl, ⟨[.int .i64 31], _, rfl, rfl, ⟨[.int .i64 0], _, rfl, rfl, ⟨[.int .i64 1], _, rfl, rfl, ⟨[.int .i64 9], _, rfl, rfl, ⟨[.int .i64 31], _, rfl, rfl, ⟨[.int .i64 0], _, rfl, rfl, rfl⟩⟩⟩⟩⟩⟩⟩⟩) rfl rfl rfl (fun v57 => ?_)
                  refine SP.freezeS see 0 rfl ?_
                  obtain ⟨t59, hc, ho⟩ := bind_some (x := capstanlaw10_one.f ([2, 0, 31, 0, 1, 9, 31, 0] : List Int)) ho
                  refine SP.callK see (caps := []) _ fn18 rfl rfl rfl rfl (fun w2 hP hs sub ap => capstanlaw10_one.ok ([2, 0, 31, 0, 1, 9, 31, 0] : List Int) _ _ hc w2 hP sub (ap.get 0 rfl)) (fun vr => ?_)
                  refine SP.ex (fun w2 h => St.open h) (fun v60 => ?_)
                  refine SP.ex (fun w2 h => St.open h) (fun v61 => ?_)
                  refine SP.ex (fun w2 h => St.open h) (fun v62 => ?_)
                  refine SP.have (fun w2 h => (St.pand h).1.symm) (fun er => ?_)
                  subst er
                  refine SP.imp (fun w2 h => St.seps (St.pand h).2) ?_
                  clear hc
                  obtain ⟨t66, hc, ho⟩ := bind_some (x := types_Check.f t59 0) ho
                  refine SP.callVO see (caps := []) (.int .i64 t66) fn16 rfl rfl rfl rfl (fun w2 hs => types_Check.ok t59 0 _ _ _ _ hc w2 (hp w2) (Sub.refl _) (slO.read (St.own 0 rfl see.sub see.dj hs) (Sub.refl _) (Sub.refl _)) (slO.read (St.own 1 rfl see.sub see.dj hs) (Sub.refl _) (Sub.refl _)) (slD.read (St.own 2 rfl see.sub see.dj hs) (Sub.refl _) (Sub.refl _)) ((St.pers 5 rfl see.sub see.dj hs))) ?_
                  clear hc
                  refine SP.val (Val.eql rfl rfl) rfl rfl rfl ?_
                  refine SP.val (Val.move rfl) rfl rfl rfl ?_
                  obtain ⟨t79, hg_t79, ho⟩ := bind_some ho
                  refine SP.join 7 (fun a w2 => Env ⟨102, []⟩ [(1, .int .i64 2), (2, .int .i64 1), (4, .int .i64 31), (5, .int .i64 27), (84, .bool t79)] a ∧ St w em hV [slP (kInt .i64) v57 ([2, 0, 31, 0, 1, 9, 31, 0] : List Int), slP k_api_Method v6 t3.Methods, slP k_api_Value v5 t3.Pool, slP k_api_Value v4 t3.Globals, slP (kInt .i64) v1 ([2, 0, 1, 0, 9, 0, 31, 0] : List Int), arrP k_arr136 0 tab0] [slO k_api_Value 52 v60 t59.Globals, slO k_api_Value 52 v61 t59.Pool, slD o_api_Method 36 v62 t59.Methods, slO k_types_Row 39 v11 t10.1] w2) ?_ ?_
                  · rintro a w2 ⟨ha, hw⟩
                    refine SP.app ha hw ?_
                    clear ha hw a w2 hg_t79
                    refine SP.val (Val.move rfl) rfl rfl rfl ?_
                    obtain ⟨t92, hg_t92, ho⟩ := bind_some ho
                    refine SP.join 9 (fun a w2 => Env ⟨102, []⟩ [(4, .int .i64 31), (94, .bool t92)] a ∧ St w em hV [slP (kInt .i64) v57 ([2, 0, 31, 0, 1, 9, 31, 0] : List Int), slP k_api_Method v6 t3.Methods, slP k_api_Value v5 t3.Pool, slP k_api_Value v4 t3.Globals, slP (kInt .i64) v1 ([2, 0, 1, 0, 9, 0, 31, 0] : List Int), arrP k_arr136 0 tab0] [slO k_api_Value 52 v60 t59.Globals, slO k_api_Value 52 v61 t59.Pool, slD o_api_Method 36 v62 t59.Methods, slO k_types_Row 39 v11 t10.1] w2) ?_ ?_
                    · rintro a w2 ⟨ha, hw⟩
                      refine SP.app ha hw ?_
                      clear ha hw a w2 hg_t92
                      refine SP.val (Val.move rfl) rfl rfl rfl ?_
                      obtain ⟨t105, hg_t105, ho⟩ := bind_some ho
                      refine SP.join 6 (fun a w2 => Env ⟨102, []⟩ [(101, .bool t105)] a ∧ St w em hV [slP (kInt .i64) v57 ([2, 0, 31, 0, 1, 9, 31, 0] : List Int), slP k_api_Method v6 t3.Methods, slP k_api_Value v5 t3.Pool, slP k_api_Value v4 t3.Globals, slP (kInt .i64) v1 ([2, 0, 1, 0, 9, 0, 31, 0] : List Int), arrP k_arr136 0 tab0] [slO k_api_Value 52 v60 t59.Globals, slO k_api_Value 52 v61 t59.Pool, slD o_api_Method 36 v62 t59.Methods, slO k_types_Row 39 v11 t10.1] w2) ?_ ?_
                      · rintro a w2 ⟨ha, hw⟩
                        refine SP.app ha hw ?_
                        clear ha hw a w2 hg_t105
                        refine SP.val (Val.assign rfl) rfl rfl rfl ?_
                        refine SP.nil ?_
                        refine QE.then ?_
                        refine CP.ret ?_
                        obtain rfl := Option.some.inj ho
                        exact QE.rets (rs := [.tmp 0]) (vs := [.bool t105]) Tryd.results7 rfl ⟨RVs.tmp rfl, trivial⟩ (fun w2 h => St.done (fun a b p s => rfl) h)
                      · intro J
                        clear ho
                        have ho := hg_t105
                        clear hg_t105
                        rcases if_some ho with ⟨hc, ho⟩ | ⟨hc, ho⟩
                        · have hq94 := hc
                          refine SP.isT (d := 95) rfl hq94 ?_
                          refine SP.val (Val.move rfl) rfl rfl rfl ?_
                          refine SP.lit (k := (kInt .i64)) (xs := [31, 0]) (vs := [.int .i64 31, .int .i64 0]) (cells := [.int .i64 31, .int .i64 0]) Tryd.underlying46 inf3 rfl rfl rfl rfl rfl rfl rfl rfl (fun _ ap => ⟨[.int .i64 31], _, rfl, rfl, ⟨[.int .i64 0], _, rfl, rfl, rfl⟩⟩) rfl rfl rfl (fun v95 => ?_)
                          refine SP.freezeS see 0 rfl ?_
                          obtain ⟨t97, hc, ho⟩ := bind_some (x := capstanlaw10_one.f [31, 0]) ho
                          refine SP.callK see (caps := []) _ fn18 rfl rfl rfl rfl (fun w2 hP hs sub ap => capstanlaw10_one.ok [31, 0] _ _ hc w2 hP sub (ap.get 0 rfl)) (fun vr => ?_)
                          refine SP.ex (fun w2 h => St.open h) (fun v98 => ?_)
                          refine SP.ex (fun w2 h => St.open h) (fun v99 => ?_)
                          refine SP.ex (fun w2 h => St.open h) (fun v100 => ?_)
                          refine SP.have (fun w2 h => (St.pand h).1.symm) (fun er => ?_)
                          subst er
                          refine SP.imp (fun w2 h => St.seps (St.pand h).2) ?_
                          clear hc
                          obtain ⟨t104, hc, ho⟩ := bind_some (x := types_Check.f t97 1) ho
                          refine SP.callVO see (caps := []) (.int .i64 t104) fn16 rfl rfl rfl rfl (fun w2 hs => types_Check.ok t97 1 _ _ _ _ hc w2 (hp w2) (Sub.refl _) (slO.read (St.own 0 rfl see.sub see.dj hs) (Sub.refl _) (Sub.refl _)) (slO.read (St.own 1 rfl see.sub see.dj hs) (Sub.refl _) (Sub.refl _)) (slD.read (St.own 2 rfl see.sub see.dj hs) (Sub.refl _) (Sub.refl _)) ((St.pers 6 rfl see.sub see.dj hs))) ?_
                          clear hc
                          refine SP.val (Val.eql rfl rfl) rfl rfl rfl ?_
                          refine SP.val (Val.pickT rfl rfl) rfl rfl rfl ?_
                          obtain rfl := Option.some.inj ho
                          exact J fun a w2 ha hw => ⟨ha.sub ⟨rfl, trivial⟩, (St.selP [1, 2, 3, 4, 5, 6] rfl (St.selO [3, 4, 5, 6] rfl rfl hw))⟩
                        · have hq94 := (bf hc)
                          refine SP.isF (d := 95) rfl hq94 ?_
                          refine SP.not rfl rfl rfl ?_
                          refine SP.not rfl rfl rfl ?_
                          refine SP.not rfl rfl rfl ?_
                          refine SP.not rfl rfl rfl ?_
                          refine SP.not rfl rfl rfl ?_
                          refine SP.val (Val.pickF rfl rfl) rfl rfl rfl ?_
                          obtain rfl := Option.some.inj ho
                          exact J fun a w2 ha hw => ⟨ha.sub ⟨rfl, trivial⟩, hw⟩
                    · intro J
                      clear ho
                      have ho := hg_t92
                      clear hg_t92
                      rcases if_some ho with ⟨hc, ho⟩ | ⟨hc, ho⟩
                      · have hq81 := hc
                        refine SP.isT (d := 85) rfl hq81 ?_
                        refine SP.val (Val.move rfl) rfl rfl rfl ?_
                        refine SP.val (Val.move rfl) rfl rfl rfl ?_
                        refine SP.val (Val.move rfl) rfl rfl rfl ?_
                        refine SP.val (Val.move rfl) rfl rfl rfl ?_
                        refine SP.lit (k := (kInt .i64)) (xs := ([2, 0, 27, 3, 1, 0, 31, 0] : List Int)) (vs := [.int .i64 2, .int .i64 0, .int .i64 27, .int .i64 3, .int .i64 1, .int .i64 0, .int .i64 31, .int .i64 0]) (cells := [.int .i64 2, .int .i64 0, .int .i64 27, .int .i64 3, .int .i64 1, .int .i64 0, .int .i64 31, .int .i64 0]) Tryd.underlying46 inf3 rfl rfl rfl rfl rfl rfl rfl rfl (fun _ ap => ⟨[.int .i64 2], _, rfl, rfl, ⟨[.int .i64 0], _, rfl, rfl, ⟨[.int .i64 27], _, rfl, rfl, ⟨[.int .i64 3], _, rfl, rfl, ⟨[.int .i64 1], _, rfl, rfl, ⟨[.int .i64 0], _, rfl, rfl, ⟨[.int .i64 31], _, rfl, rfl, ⟨[.int .i64 0], _, rfl, rfl, rfl⟩⟩⟩⟩⟩⟩⟩⟩) rfl rfl rfl (fun v82 => ?_)
                        refine SP.freezeS see 0 rfl ?_
                        obtain ⟨t84, hc, ho⟩ := bind_some (x := capstanlaw10_one.f ([2, 0, 27, 3, 1, 0, 31, 0] : List Int)) ho
                        refine SP.callK see (caps := []) _ fn18 rfl rfl rfl rfl (fun w2 hP hs sub ap => capstanlaw10_one.ok ([2, 0, 27, 3, 1, 0, 31, 0] : List Int) _ _ hc w2 hP sub (ap.get 0 rfl)) (fun vr => ?_)
                        refine SP.ex (fun w2 h => St.open h) (fun v85 => ?_)
                        refine SP.ex (fun w2 h => St.open h) (fun v86 => ?_)
                        refine SP.ex (fun w2 h => St.open h) (fun v87 => ?_)
                        refine SP.have (fun w2 h => (St.pand h).1.symm) (fun er => ?_)
                        subst er
                        refine SP.imp (fun w2 h => St.seps (St.pand h).2) ?_
                        clear hc
                        obtain ⟨t91, hc, ho⟩ := bind_some (x := types_Check.f t84 0) ho
                        refine SP.callVO see (caps := []) (.int .i64 t91) fn16 rfl rfl rfl rfl (fun w2 hs => types_Check.ok t84 0 _ _ _ _ hc w2 (hp w2) (Sub.refl _) (slO.read (St.own 0 rfl see.sub see.dj hs) (Sub.refl _) (Sub.refl _)) (slO.read (St.own 1 rfl see.sub see.dj hs) (Sub.refl _) (Sub.refl _)) (slD.read (St.own 2 rfl see.sub see.dj hs) (Sub.refl _) (Sub.refl _)) ((St.pers 6 rfl see.sub see.dj hs))) ?_
                        clear hc
                        refine SP.val (Val.eql rfl rfl) rfl rfl rfl ?_
                        refine SP.val (Val.pickT rfl rfl) rfl rfl rfl ?_
                        obtain rfl := Option.some.inj ho
                        exact J fun a w2 ha hw => ⟨ha.sub ⟨rfl, rfl, trivial⟩, (St.selP [1, 2, 3, 4, 5, 6] rfl (St.selO [3, 4, 5, 6] rfl rfl hw))⟩
                      · have hq81 := (bf hc)
                        refine SP.isF (d := 85) rfl hq81 ?_
                        refine SP.not rfl rfl rfl ?_
                        refine SP.not rfl rfl rfl ?_
                        refine SP.not rfl rfl rfl ?_
                        refine SP.not rfl rfl rfl ?_
                        refine SP.not rfl rfl rfl ?_
                        refine SP.not rfl rfl rfl ?_
                        refine SP.not rfl rfl rfl ?_
                        refine SP.not rfl rfl rfl ?_
                        refine SP.val (Val.pickF rfl rfl) rfl rfl rfl ?_
                        obtain rfl := Option.some.inj ho
                        exact J fun a w2 ha hw => ⟨ha.sub ⟨rfl, rfl, trivial⟩, hw⟩
                  · intro J
                    clear ho
                    have ho := hg_t79
                    clear hg_t79
                    rcases if_some ho with ⟨hc, ho⟩ | ⟨hc, ho⟩
                    · have hq68 := (decide_eq_true hc)
                      refine SP.isT (d := 77) rfl hq68 ?_
                      refine SP.val (Val.move rfl) rfl rfl rfl ?_
                      refine SP.val (Val.move rfl) rfl rfl rfl ?_
                      refine SP.lit (k := (kInt .i64)) (xs := ([9, 0, 31, 0] : List Int)) (vs := [.int .i64 9, .int .i64 0, .int .i64 31, .int .i64 0]) (cells := [.int .i64 9, .int .i64 0, .int .i64 31, .int .i64 0]) Tryd.underlying46 inf3 rfl rfl rfl rfl rfl rfl rfl rfl (fun _ ap => ⟨[.int .i64 9], _, rfl, rfl, ⟨[.int .i64 0], _, rfl, rfl, ⟨[.int .i64 31], _, rfl, rfl, ⟨[.int .i64 0], _, rfl, rfl, rfl⟩⟩⟩⟩) rfl rfl rfl (fun v69 => ?_)
                      refine SP.freezeS see 0 rfl ?_
                      obtain ⟨t71, hc, ho⟩ := bind_some (x := capstanlaw10_one.f ([9, 0, 31, 0] : List Int)) ho
                      refine SP.callK see (caps := []) _ fn18 rfl rfl rfl rfl (fun w2 hP hs sub ap => capstanlaw10_one.ok ([9, 0, 31, 0] : List Int) _ _ hc w2 hP sub (ap.get 0 rfl)) (fun vr => ?_)
                      refine SP.ex (fun w2 h => St.open h) (fun v72 => ?_)
                      refine SP.ex (fun w2 h => St.open h) (fun v73 => ?_)
                      refine SP.ex (fun w2 h => St.open h) (fun v74 => ?_)
                      refine SP.have (fun w2 h => (St.pand h).1.symm) (fun er => ?_)
                      subst er
                      refine SP.imp (fun w2 h => St.seps (St.pand h).2) ?_
                      clear hc
                      obtain ⟨t78, hc, ho⟩ := bind_some (x := types_Check.f t71 0) ho
                      refine SP.callVO see (caps := []) (.int .i64 t78) fn16 rfl rfl rfl rfl (fun w2 hs => types_Check.ok t71 0 _ _ _ _ hc w2 (hp w2) (Sub.refl _) (slO.read (St.own 0 rfl see.sub see.dj hs) (Sub.refl _) (Sub.refl _)) (slO.read (St.own 1 rfl see.sub see.dj hs) (Sub.refl _) (Sub.refl _)) (slD.read (St.own 2 rfl see.sub see.dj hs) (Sub.refl _) (Sub.refl _)) ((St.pers 6 rfl see.sub see.dj hs))) ?_
                      clear hc
                      refine SP.val (Val.eql rfl rfl) rfl rfl rfl ?_
                      refine SP.val (Val.pickT rfl rfl) rfl rfl rfl ?_
                      obtain rfl := Option.some.inj ho
                      exact J fun a w2 ha hw => ⟨ha.sub ⟨rfl, rfl, rfl, rfl, rfl, trivial⟩, (St.selP [1, 2, 3, 4, 5, 6] rfl (St.selO [3, 4, 5, 6] rfl rfl hw))⟩
                    · have hq68 := (decide_eq_false hc)
                      refine SP.isF (d := 77) rfl hq68 ?_
                      refine SP.not rfl rfl rfl ?_
                      refine SP.not rfl rfl rfl ?_
                      refine SP.not rfl rfl rfl ?_
                      refine SP.not rfl rfl rfl ?_
                      refine SP.not rfl rfl rfl ?_
                      refine SP.not rfl rfl rfl ?_
                      refine SP.val (Val.pickF rfl rfl) rfl rfl rfl ?_
                      obtain rfl := Option.some.inj ho
                      exact J fun a w2 ha hw => ⟨ha.sub ⟨rfl, rfl, rfl, rfl, rfl, trivial⟩, hw⟩
              · intro J
                clear ho
                have ho := hg_t56
                clear hg_t56
                rcases if_some ho with ⟨hc, ho⟩ | ⟨hc, ho⟩
                · have hq54 := hc
                  refine SP.isT (d := 64) rfl hq54 ?_
                  refine SP.not rfl rfl rfl ?_
                  refine SP.not rfl rfl rfl ?_
                  refine SP.not rfl rfl rfl ?_
                  refine SP.val (Val.pickT rfl rfl) rfl rfl rfl ?_
                  obtain rfl := Option.some.inj ho
                  exact J fun a w2 ha hw => ⟨ha.sub ⟨rfl, rfl, rfl, rfl, rfl, rfl, trivial⟩, hw⟩
                · have hq54 := (bf hc)
                  refine SP.isF (d := 64) rfl hq54 ?_
                  refine SP.val (Val.move rfl) rfl rfl rfl ?_
                  obtain ⟨t55, hc, ho⟩ := bind_some (x := types_Height.f t10.1) ho
                  refine SP.callVO see (caps := []) (.int .i64 t55) fn12 rfl rfl rfl rfl (fun w2 hs => types_Height.ok t10.1 _ _ hc w2 (hp w2) (Sub.refl _) (slO.read (St.own 0 rfl see.sub see.dj hs) (Sub.refl _) (Sub.refl _))) ?_
                  clear hc
                  refine SP.val (Val.neq rfl rfl) rfl rfl rfl ?_
                  refine SP.val (Val.pickF rfl rfl) rfl rfl rfl ?_
                  obtain rfl := Option.some.inj ho
                  exact J fun a w2 ha hw => ⟨ha.sub ⟨rfl, rfl, rfl, rfl, rfl, rfl, trivial⟩, hw⟩
            · intro J
              clear ho
              have ho := hg_t52
              clear hg_t52
              rcases if_some ho with ⟨hc, ho⟩ | ⟨hc, ho⟩
              · have hq46 := hc
                refine SP.isT (d := 56) rfl hq46 ?_
                refine SP.not rfl rfl rfl ?_
                refine SP.not rfl rfl rfl ?_
                refine SP.not rfl rfl rfl ?_
                refine SP.not rfl rfl rfl ?_
                refine SP.not rfl rfl rfl ?_
                refine SP.not rfl rfl rfl ?_
                refine SP.val (Val.pickT rfl rfl) rfl rfl rfl ?_
                obtain rfl := Option.some.inj ho
                exact J fun a w2 ha hw => ⟨ha.sub ⟨rfl, rfl, rfl, rfl, rfl, rfl, rfl, trivial⟩, hw⟩
              · have hq46 := (bf hc)
                refine SP.isF (d := 56) rfl hq46 ?_
                refine SP.val (Val.move rfl) rfl rfl rfl ?_
                obtain ⟨x48, hx_x48, ho⟩ := bind_some ho
                have hx_x48 := elt_some hx_x48
                refine SP.indexW (fun w2 hw => slO.whole (St.own 0 rfl see.sub see.dj hw)) Tryd.underlying29 sz39 hx_x48.1 hx_x48.2 rfl rfl rfl rfl (fun p47 h_p47 => ?_)
                refine SP.fieldO h_p47 Tryd.underlying39 rfl sz33 rfl rfl rfl (fun p49 h_p49 => ?_)
                refine SP.loadOS (j := 3) see 0 1 rfl hx_x48.2 h_p49 (fun _ _ ⟨v0_, e, p0_⟩ => ⟨v0_, by subst e; rfl, p0_⟩) Tryd.underlying33 rfl rfl rfl (fun v50 => ?_)
                refine SP.val (Val.lenP see 0 rfl Tryd.underlying33 rfl) rfl rfl rfl ?_
                refine SP.val (Val.neq rfl rfl) rfl rfl rfl ?_
                refine SP.val (Val.pickF rfl rfl) rfl rfl rfl ?_
                obtain rfl := Option.some.inj ho
                exact J fun a w2 ha hw => ⟨ha.sub ⟨rfl, rfl, rfl, rfl, rfl, rfl, rfl, trivial⟩, (St.selP [1, 2, 3, 4, 5] rfl hw)⟩
          · intro J
            clear ho
            have ho := hg_t44
            clear hg_t44
            rcases if_some ho with ⟨hc, ho⟩ | ⟨hc, ho⟩
            · have hq38 := hc
              refine SP.isT (d := 48) rfl hq38 ?_
              refine SP.not rfl rfl rfl ?_
              refine SP.not rfl rfl rfl ?_
              refine SP.not rfl rfl rfl ?_
              refine SP.not rfl rfl rfl ?_
              refine SP.not rfl rfl rfl ?_
              refine SP.not rfl rfl rfl ?_
              refine SP.val (Val.pickT rfl rfl) rfl rfl rfl ?_
              obtain rfl := Option.some.inj ho
              exact J fun a w2 ha hw => ⟨ha.sub ⟨rfl, rfl, rfl, rfl, rfl, rfl, rfl, trivial⟩, hw⟩
            · have hq38 := (bf hc)
              refine SP.isF (d := 48) rfl hq38 ?_
              refine SP.val (Val.move rfl) rfl rfl rfl ?_
              obtain ⟨x40, hx_x40, ho⟩ := bind_some ho
              have hx_x40 := elt_some hx_x40
              refine SP.indexW (fun w2 hw => slO.whole (St.own 0 rfl see.sub see.dj hw)) Tryd.underlying29 sz39 hx_x40.1 hx_x40.2 rfl rfl rfl rfl (fun p39 h_p39 => ?_)
              refine SP.fieldO h_p39 Tryd.underlying39 rfl sz33 rfl rfl rfl (fun p41 h_p41 => ?_)
              refine SP.loadOS (j := 2) see 0 1 rfl hx_x40.2 h_p41 (fun _ _ ⟨v0_, e, p0_⟩ => ⟨v0_, by subst e; rfl, p0_⟩) Tryd.underlying33 rfl rfl rfl (fun v42 => ?_)
              refine SP.val (Val.lenP see 0 rfl Tryd.underlying33 rfl) rfl rfl rfl ?_
              refine SP.val (Val.neq rfl rfl) rfl rfl rfl ?_
              refine SP.val (Val.pickF rfl rfl) rfl rfl rfl ?_
              obtain rfl := Option.some.inj ho
              exact J fun a w2 ha hw => ⟨ha.sub ⟨rfl, rfl, rfl, rfl, rfl, rfl, rfl, trivial⟩, (St.selP [1, 2, 3, 4, 5] rfl hw)⟩
        · intro J
          clear ho
          have ho := hg_t36
          clear hg_t36
          rcases if_some ho with ⟨hc, ho⟩ | ⟨hc, ho⟩
          · have hq30 := hc
            refine SP.isT (d := 40) rfl hq30 ?_
            refine SP.not rfl rfl rfl ?_
            refine SP.not rfl rfl rfl ?_
            refine SP.not rfl rfl rfl ?_
            refine SP.not rfl rfl rfl ?_
            refine SP.not rfl rfl rfl ?_
            refine SP.not rfl rfl rfl ?_
            refine SP.val (Val.pickT rfl rfl) rfl rfl rfl ?_
            obtain rfl := Option.some.inj ho
            exact J fun a w2 ha hw => ⟨ha.sub ⟨rfl, rfl, rfl, rfl, rfl, rfl, rfl, trivial⟩, hw⟩
          · have hq30 := (bf hc)
            refine SP.isF (d := 40) rfl hq30 ?_
            refine SP.val (Val.move rfl) rfl rfl rfl ?_
            obtain ⟨x32, hx_x32, ho⟩ := bind_some ho
            have hx_x32 := elt_some hx_x32
            refine SP.indexW (fun w2 hw => slO.whole (St.own 0 rfl see.sub see.dj hw)) Tryd.underlying29 sz39 hx_x32.1 hx_x32.2 rfl rfl rfl rfl (fun p31 h_p31 => ?_)
            refine SP.fieldO h_p31 Tryd.underlying39 rfl sz33 rfl rfl rfl (fun p33 h_p33 => ?_)
            refine SP.loadOS (j := 1) see 0 1 rfl hx_x32.2 h_p33 (fun _ _ ⟨v0_, e, p0_⟩ => ⟨v0_, by subst e; rfl, p0_⟩) Tryd.underlying33 rfl rfl rfl (fun v34 => ?_)
            refine SP.val (Val.lenP see 0 rfl Tryd.underlying33 rfl) rfl rfl rfl ?_
            refine SP.val (Val.neq rfl rfl) rfl rfl rfl ?_
            refine SP.val (Val.pickF rfl rfl) rfl rfl rfl ?_
            obtain rfl := Option.some.inj ho
            exact J fun a w2 ha hw => ⟨ha.sub ⟨rfl, rfl, rfl, rfl, rfl, rfl, rfl, trivial⟩, (St.selP [1, 2, 3, 4, 5] rfl hw)⟩
      · intro J
        clear ho
        have ho := hg_t28
        clear hg_t28
        rcases if_some ho with ⟨hc, ho⟩ | ⟨hc, ho⟩
        · have hq22 := hc
          refine SP.isT (d := 32) rfl hq22 ?_
          refine SP.not rfl rfl rfl ?_
          refine SP.not rfl rfl rfl ?_
          refine SP.not rfl rfl rfl ?_
          refine SP.not rfl rfl rfl ?_
          refine SP.not rfl rfl rfl ?_
          refine SP.not rfl rfl rfl ?_
          refine SP.val (Val.pickT rfl rfl) rfl rfl rfl ?_
          obtain rfl := Option.some.inj ho
          exact J fun a w2 ha hw => ⟨ha.sub ⟨rfl, rfl, rfl, rfl, rfl, rfl, rfl, trivial⟩, hw⟩
        · have hq22 := (bf hc)
          refine SP.isF (d := 32) rfl hq22 ?_
          refine SP.val (Val.move rfl) rfl rfl rfl ?_
          obtain ⟨x24, hx_x24, ho⟩ := bind_some ho
          have hx_x24 := elt_some hx_x24
          refine SP.indexW (fun w2 hw => slO.whole (St.own 0 rfl see.sub see.dj hw)) Tryd.underlying29 sz39 hx_x24.1 hx_x24.2 rfl rfl rfl rfl (fun p23 h_p23 => ?_)
          refine SP.fieldO h_p23 Tryd.underlying39 rfl sz33 rfl rfl rfl (fun p25 h_p25 => ?_)
          refine SP.loadOS (j := 0) see 0 1 rfl hx_x24.2 h_p25 (fun _ _ ⟨v0_, e, p0_⟩ => ⟨v0_, by subst e; rfl, p0_⟩) Tryd.underlying33 rfl rfl rfl (fun v26 => ?_)
          refine SP.val (Val.lenP see 0 rfl Tryd.underlying33 rfl) rfl rfl rfl ?_
          refine SP.val (Val.neq rfl rfl) rfl rfl rfl ?_
          refine SP.val (Val.pickF rfl rfl) rfl rfl rfl ?_
          obtain rfl := Option.some.inj ho
          exact J fun a w2 ha hw => ⟨ha.sub ⟨rfl, rfl, rfl, rfl, rfl, rfl, rfl, trivial⟩, (St.selP [1, 2, 3, 4, 5] rfl hw)⟩
    · intro J
      clear ho
      have ho := hg_t20
      clear hg_t20
      rcases if_some ho with ⟨hc, ho⟩ | ⟨hc, ho⟩
      · have hq16 := hc
        refine SP.isT (d := 25) rfl hq16 ?_
        refine SP.not rfl rfl rfl ?_
        refine SP.not rfl rfl rfl ?_
        refine SP.not rfl rfl rfl ?_
        refine SP.not rfl rfl rfl ?_
        refine SP.not rfl rfl rfl ?_
        refine SP.val (Val.pickT rfl rfl) rfl rfl rfl ?_
        obtain rfl := Option.some.inj ho
        exact J fun a w2 ha hw => ⟨ha.sub ⟨rfl, rfl, rfl, rfl, rfl, rfl, rfl, trivial⟩, hw⟩
      · have hq16 := (bf hc)
        refine SP.isF (d := 25) rfl hq16 ?_
        refine SP.val (Val.move rfl) rfl rfl rfl ?_
        obtain ⟨x18, hx_x18, ho⟩ := bind_some ho
        have hx_x18 := elt_some hx_x18
        refine SP.indexW (fun w2 hw => slO.whole (St.own 0 rfl see.sub see.dj hw)) Tryd.underlying29 sz39 hx_x18.1 hx_x18.2 rfl rfl rfl rfl (fun p17 h_p17 => ?_)
        refine SP.fieldO h_p17 Tryd.underlying39 rfl sz4 rfl rfl rfl (fun p19 h_p19 => ?_)
        refine SP.val (Val.loadW1 (off := 0) (k := k_types_Row) (fun w2 hw => slO.whole (St.own 0 rfl see.sub see.dj hw)) hx_x18.2 h_p19 (fun _ _ ⟨_, e, _⟩ => by subst e; rfl) Tryd.underlying4 rfl rfl) rfl rfl rfl ?_
        refine SP.val (Val.notB rfl) rfl rfl rfl ?_
        refine SP.val (Val.pickF rfl rfl) rfl rfl rfl ?_
        obtain rfl := Option.some.inj ho
        exact J fun a w2 ha hw => ⟨ha.sub ⟨rfl, rfl, rfl, rfl, rfl, rfl, rfl, trivial⟩, hw⟩
  · intro J
    by_cases hc : t10.2 ≠ 0
    · have hq14 := (decide_eq_true hc)
      refine SP.isT (d := 20) rfl hq14 ?_
      refine SP.not rfl rfl rfl ?_
      refine SP.not rfl rfl rfl ?_
      refine SP.not rfl rfl rfl ?_
      refine SP.val (Val.pickT rfl rfl) rfl rfl rfl ?_
      exact J fun a w2 ha hw => ⟨ha.sub ⟨rfl, rfl, rfl, rfl, rfl, rfl, congrArg (fun z => some (Value.bool z)) (or_t hq14), trivial⟩, hw⟩
    · have hq14 := (decide_eq_false hc)
      refine SP.isF (d := 20) rfl hq14 ?_
      refine SP.val (Val.move rfl) rfl rfl rfl ?_
      refine SP.val (Val.lenW (fun w2 hw => slO.whole (St.own 0 rfl see.sub see.dj hw)) Tryd.underlying29 rfl) rfl rfl rfl ?_
      refine SP.val (Val.neq rfl rfl) rfl rfl rfl ?_
      refine SP.val (Val.pickF rfl rfl) rfl rfl rfl ?_
      exact J fun a w2 ha hw => ⟨ha.sub ⟨rfl, rfl, rfl, rfl, rfl, rfl, congrArg (fun z => some (Value.bool z)) (or_f hq14 rfl), trivial⟩, hw⟩
/-! ### capstan/capstanlaw07.Great: function 19 -/
def capstanlaw07_Great.f (m_0 : api_Method) : Option Bool :=
  some ((decide ((m_0.Args.length : Int) > 100)) || (decide ((m_0.Locals.length : Int) > 100)))
theorem capstanlaw07_Great.ok (m_0 : api_Method) (v_m_0_Args : Value) (v_m_0_Locals : Value) (v_m_0_Code : Value) (r : Bool) (H : capstanlaw07_Great.f m_0 = some r) (w : World) (hV : Hp) (sV : Sub hV (hp w)) (h0 : slR (kInt .u8) hV v_m_0_Args m_0.Args) (h1 : slR (kInt .u8) hV v_m_0_Locals m_0.Locals) (h2 : slR k_api_Instr hV v_m_0_Code m_0.Code) :
    Trip Tryd.prog 19 [.agg #[v_m_0_Args, v_m_0_Locals, .int .u8 m_0.Result, .bool m_0.Reads, .int .i64 m_0.Fuel, .int .i64 m_0.Stack, .int .i64 m_0.Heap, v_m_0_Code]].toArray em hV w (fun v => HO.pure (v = .bool r)) := by
  have see : Sees w em hV := ⟨sV, Dj.em_right _⟩
  refine Trip.of (P := Tryd.prog) (n := ⟨13, []⟩) Tryd.func19 rfl ⟨rfl, rfl⟩ rfl (St.begin (All.cons (x := slP (kInt .u8) v_m_0_Args m_0.Args) h0 (All.cons (x := slP (kInt .u8) v_m_0_Locals m_0.Locals) h1 (All.cons (x := slP k_api_Instr v_m_0_Code m_0.Code) h2 (All.nil _))))) ?_
  have ho := H
  refine CP.seq ?_
  refine CP.region ?_
  refine SP.box (cs := [v_m_0_Args, v_m_0_Locals, .int .u8 m_0.Result, .bool m_0.Reads, .int .i64 m_0.Fuel, .int .i64 m_0.Stack, .int .i64 m_0.Heap, v_m_0_Code]) rfl rfl rfl rfl (fun b4 => ?_)
  refine SP.val (Val.assign rfl) rfl rfl rfl ?_
  refine SP.nil ?_
  refine QE.then ?_
  refine CP.seq ?_
  refine CP.region ?_
  refine SP.val (Val.fieldAddr Tryd.underlying36 rfl sz33 rfl) rfl rfl rfl ?_
  refine SP.val (Val.load1 0 rfl Tryd.underlying33 rfl rfl rfl) rfl rfl rfl ?_
  refine SP.val (Val.lenP see 0 rfl Tryd.underlying33 rfl) rfl rfl rfl ?_
  refine SP.val (Val.gtr rfl rfl) rfl rfl rfl ?_
  refine SP.val (Val.move rfl) rfl rfl rfl ?_
  refine SP.join 5 (fun a w2 => Env ⟨13, []⟩ [(12, .bool ((decide ((m_0.Args.length : Int) > 100)) || (decide ((m_0.Locals.length : Int) > 100))))] a ∧ St w em hV [slP (kInt .u8) v_m_0_Args m_0.Args, slP (kInt .u8) v_m_0_Locals m_0.Locals, slP k_api_Instr v_m_0_Code m_0.Code] [boxO b4 [v_m_0_Args, v_m_0_Locals, .int .u8 m_0.Result, .bool m_0.Reads, .int .i64 m_0.Fuel, .int .i64 m_0.Stack, .int .i64 m_0.Heap, v_m_0_Code] 36] w2) ?_ ?_
  · rintro a w2 ⟨ha, hw⟩
    refine SP.app ha hw ?_
    clear ha hw a w2
    refine SP.val (Val.assign rfl) rfl rfl rfl ?_
    refine SP.nil ?_
    refine QE.then ?_
    refine CP.ret ?_
    obtain rfl := Option.some.inj ho
    exact QE.rets (rs := [.tmp 2]) (vs := [.bool ((decide ((m_0.Args.length : Int) > 100)) || (decide ((m_0.Locals.length : Int) > 100)))]) Tryd.results19 rfl ⟨RVs.tmp rfl, trivial⟩ (fun w2 h => St.done (fun a b p s => rfl) h)
  · intro J
    by_cases hc : (m_0.Args.length : Int) > 100
    · have hq7 := (decide_eq_true hc)
      refine SP.isT (d := 7) rfl hq7 ?_
      refine SP.not rfl rfl rfl ?_
      refine SP.not rfl rfl rfl ?_
      refine SP.not rfl rfl rfl ?_
      refine SP.not rfl rfl rfl ?_
      refine SP.val (Val.pickT rfl rfl) rfl rfl rfl ?_
      exact J fun a w2 ha hw => ⟨ha.sub ⟨congrArg (fun z => some (Value.bool z)) (or_t hq7), trivial⟩, hw⟩
    · have hq7 := (decide_eq_false hc)
      refine SP.isF (d := 7) rfl hq7 ?_
      refine SP.val (Val.fieldAddr Tryd.underlying36 rfl sz33 rfl) rfl rfl rfl ?_
      refine SP.val (Val.load1 0 rfl Tryd.underlying33 rfl rfl rfl) rfl rfl rfl ?_
      refine SP.val (Val.lenP see 1 rfl Tryd.underlying33 rfl) rfl rfl rfl ?_
      refine SP.val (Val.gtr rfl rfl) rfl rfl rfl ?_
      refine SP.val (Val.pickF rfl rfl) rfl rfl rfl ?_
      exact J fun a w2 ha hw => ⟨ha.sub ⟨congrArg (fun z => some (Value.bool z)) (or_f hq7 rfl), trivial⟩, hw⟩
/-! ### capstan/capstanlaw08.Great: function 8 -/
inductive capstanlaw08_Great.S where
  | start
  | l1 (x31 : Int)

def capstanlaw08_Great.F (m_0 : api_Module) : capstanlaw08_Great.S → Option (capstanlaw08_Great.S ⊕ Bool)
  | .start => if (((decide ((m_0.Globals.length : Int) > 100)) || (decide ((m_0.Pool.length : Int) > 100))) || (decide ((m_0.Methods.length : Int) > 40))) = true then (some (.inr true)) else (some (.inl (.l1 0)))
  | .l1 x31 => if x31 < (m_0.Methods.length : Int) then ((elt m_0.Methods x31).bind fun x35 => (capstanlaw07_Great.f x35).bind fun t42 => (if t42 = true then (some true) else ((elt m_0.Methods x31).bind fun x47 => some (decide ((x47.Code.length : Int) > 300)))).bind fun t52 => if t52 = true then (some (.inr true)) else (some (.inl (.l1 (IntKind.i64.wrap (x31 + 1)))))) else (some (.inr false))

def capstanlaw08_Great.f (m_0 : api_Module) : Option Bool := runF (capstanlaw08_Great.F m_0) .start
theorem capstanlaw08_Great.ok (m_0 : api_Module) (v_m_0_Globals : Value) (v_m_0_Pool : Value) (v_m_0_Methods : Value) (r : Bool) (H : capstanlaw08_Great.f m_0 = some r) (w : World) (hV : Hp) (sV : Sub hV (hp w)) (h0 : slR k_api_Value hV v_m_0_Globals m_0.Globals) (h1 : slR k_api_Value hV v_m_0_Pool m_0.Pool) (h2 : slR k_api_Method hV v_m_0_Methods m_0.Methods) :
    Trip Tryd.prog 8 [.agg #[v_m_0_Globals, v_m_0_Pool, v_m_0_Methods, .int .i64 m_0.Migrate]].toArray em hV w (fun v => HO.pure (v = .bool r)) := by
  have see : Sees w em hV := ⟨sV, Dj.em_right _⟩
  refine Trip.of (P := Tryd.prog) (n := ⟨43, []⟩) Tryd.func8 rfl ⟨rfl, rfl⟩ rfl (St.begin (All.cons (x := slP k_api_Value v_m_0_Globals m_0.Globals) h0 (All.cons (x := slP k_api_Value v_m_0_Pool m_0.Pool) h1 (All.cons (x := slP k_api_Method v_m_0_Methods m_0.Methods) h2 (All.nil _))))) ?_
  obtain ⟨n0, hi⟩ := runF_iff.1 H
  obtain ⟨m0, o, hm0, ho, hr⟩ := iter_some hi
  clear hi
  refine CP.seq ?_
  refine CP.region ?_
  refine SP.box (cs := [v_m_0_Globals, v_m_0_Pool, v_m_0_Methods, .int .i64 m_0.Migrate]) rfl rfl rfl rfl (fun b4 => ?_)
  refine SP.val (Val.assign rfl) rfl rfl rfl ?_
  refine SP.nil ?_
  refine QE.then ?_
  refine CP.seq ?_
  refine CP.seq ?_
  refine CP.region ?_
  refine SP.val (Val.fieldAddr Tryd.underlying25 rfl sz22 rfl) rfl rfl rfl ?_
  refine SP.val (Val.load1 0 rfl Tryd.underlying22 rfl rfl rfl) rfl rfl rfl ?_
  refine SP.val (Val.lenP see 0 rfl Tryd.underlying22 rfl) rfl rfl rfl ?_
  refine SP.val (Val.gtr rfl rfl) rfl rfl rfl ?_
  refine SP.val (Val.move rfl) rfl rfl rfl ?_
  refine SP.join 5 (fun a w2 => Env ⟨43, []⟩ [(1, .pointer (some ⟨b4, 0, none⟩)), (13, .bool ((decide ((m_0.Globals.length : Int) > 100)) || (decide ((m_0.Pool.length : Int) > 100))))] a ∧ St w em hV [slP k_api_Value v_m_0_Globals m_0.Globals, slP k_api_Value v_m_0_Pool m_0.Pool, slP k_api_Method v_m_0_Methods m_0.Methods] [boxO b4 [v_m_0_Globals, v_m_0_Pool, v_m_0_Methods, .int .i64 m_0.Migrate] 25] w2) ?_ ?_
  · rintro a w2 ⟨ha, hw⟩
    refine SP.app ha hw ?_
    clear ha hw a w2
    refine SP.val (Val.move rfl) rfl rfl rfl ?_
    refine SP.join 5 (fun a w2 => Env ⟨43, []⟩ [(1, .pointer (some ⟨b4, 0, none⟩)), (19, .bool (((decide ((m_0.Globals.length : Int) > 100)) || (decide ((m_0.Pool.length : Int) > 100))) || (decide ((m_0.Methods.length : Int) > 40))))] a ∧ St w em hV [slP k_api_Value v_m_0_Globals m_0.Globals, slP k_api_Value v_m_0_Pool m_0.Pool, slP k_api_Method v_m_0_Methods m_0.Methods] [boxO b4 [v_m_0_Globals, v_m_0_Pool, v_m_0_Methods, .int .i64 m_0.Migrate] 25] w2) ?_ ?_
    · rintro a w2 ⟨ha, hw⟩
      refine SP.app ha hw ?_
      clear ha hw a w2
      refine SP.nil ?_
      refine QE.then ?_
      rcases if_some ho with ⟨hc, ho⟩ | ⟨hc, ho⟩
      · refine CP.condT rfl hc ?_
        refine CP.seq ?_
        refine CP.region ?_
        refine SP.val (Val.assign rfl) rfl rfl rfl ?_
        refine SP.nil ?_
        refine QE.then ?_
        refine CP.ret ?_
        refine QE.thru (by intro e; cases e) ?_
        obtain rfl := Option.some.inj ho
        obtain rfl := Option.some.inj hr
        exact QE.rets (rs := [.tmp 2]) (vs := [.bool true]) Tryd.results8 rfl ⟨RVs.tmp rfl, trivial⟩ (fun w2 h => St.done (fun a b p s => rfl) h)
      · refine CP.condF rfl (bf hc) ?_
        refine CP.skip ?_
        refine QE.then ?_
        refine CP.seq ?_
        refine CP.seq ?_
        refine CP.region ?_
        refine SP.val (Val.assign rfl) rfl rfl rfl ?_
        refine SP.nil ?_
        refine QE.then ?_
        refine CP.block ?_
        obtain rfl := Option.some.inj ho
        refine CP.loop (fun cl1 a w2 => ∃ x31 : Int, cl1 ≤ m0 ∧ iter (capstanlaw08_Great.F m_0) cl1 (.l1 x31) = some r ∧ Env ⟨43, []⟩ [(1, .pointer (some ⟨b4, 0, none⟩)), (3, .int .i64 x31)] a ∧ St w em hV [slP k_api_Value v_m_0_Globals m_0.Globals, slP k_api_Value v_m_0_Pool m_0.Pool, slP k_api_Method v_m_0_Methods m_0.Methods] [boxO b4 [v_m_0_Globals, v_m_0_Pool, v_m_0_Methods, .int .i64 m_0.Migrate] 25] w2) m0 (fun a w2 ha hw => ⟨0, Nat.le_refl _, hr, ha.sub ⟨rfl, rfl, trivial⟩, hw⟩) ?_
        clear hr
        rintro cl1 a w2 ⟨x31, hc_l1, hi, ha, hw⟩
        obtain ⟨m32, o, hm_m32, ho, hr⟩ := iter_some hi
        refine CP.app ha hw ?_
        clear ha hw a w2 hi
        refine CP.seq ?_
        refine CP.seq ?_
        refine CP.region ?_
        refine SP.val (Val.move rfl) rfl rfl rfl ?_
        refine SP.val (Val.fieldAddr Tryd.underlying25 rfl sz23 rfl) rfl rfl rfl ?_
        refine SP.val (Val.load1 0 rfl Tryd.underlying23 rfl rfl rfl) rfl rfl rfl ?_
        refine SP.val (Val.lenP see 2 rfl Tryd.underlying23 rfl) rfl rfl rfl ?_
        refine SP.val (Val.lss rfl rfl) rfl rfl rfl ?_
        refine SP.nil ?_
        refine QE.then ?_
        rcases if_some ho with ⟨hc, ho⟩ | ⟨hc, ho⟩
        · refine CP.condT rfl (decide_eq_true hc) ?_
          refine CP.skip ?_
          refine QE.then ?_
          refine CP.seq ?_
          refine CP.block ?_
          refine CP.seq ?_
          refine CP.region ?_
          refine SP.val (Val.fieldAddr Tryd.underlying25 rfl sz23 rfl) rfl rfl rfl ?_
          refine SP.val (Val.load1 0 rfl Tryd.underlying23 rfl rfl rfl) rfl rfl rfl ?_
          refine SP.val (Val.move rfl) rfl rfl rfl ?_
          obtain ⟨x35, hx, ho⟩ := bind_some ho
          have hx := elt_some hx
          refine SP.indexP see 2 rfl Tryd.underlying23 sz36 hx.1 hx.2 rfl rfl rfl rfl (fun p33 => ?_)
          clear hx
          refine k_api_Method.load see 0 rfl Tryd.underlying36 rfl sz36 rfl rfl rfl (fun v36 v38 v40 => ?_)
          obtain ⟨t42, hc, ho⟩ := bind_some (x := capstanlaw07_Great.f x35) ho
          refine SP.callV see (caps := []) (.bool t42) fn19 rfl rfl rfl rfl (fun w2 hP hs sub ap => capstanlaw07_Great.ok x35 _ _ _ _ hc w2 hP sub (ap.get 0 rfl) (ap.get 1 rfl) (ap.get 2 rfl)) ?_
          clear hc
          refine SP.val (Val.move rfl) rfl rfl rfl ?_
          obtain ⟨t52, hg_t52, ho⟩ := bind_some ho
          refine SP.join 9 (fun a w2 => Env ⟨43, []⟩ [(1, .pointer (some ⟨b4, 0, none⟩)), (3, .int .i64 x31), (42, .bool t52)] a ∧ St w em hV [slP (kInt .u8) v36 x35.Args, slP (kInt .u8) v38 x35.Locals, slP k_api_Instr v40 x35.Code, elP k_api_Method p33 x35, slP k_api_Value v_m_0_Globals m_0.Globals, slP k_api_Value v_m_0_Pool m_0.Pool, slP k_api_Method v_m_0_Methods m_0.Methods] [boxO b4 [v_m_0_Globals, v_m_0_Pool, v_m_0_Methods, .int .i64 m_0.Migrate] 25] w2) ?_ ?_
          · rintro a w2 ⟨ha, hw⟩
            refine SP.app ha hw ?_
            clear ha hw a w2 hg_t52
            refine SP.nil ?_
            refine QE.then ?_
            rcases if_some ho with ⟨hc, ho⟩ | ⟨hc, ho⟩
            · refine CP.condT rfl hc ?_
              refine CP.seq ?_
              refine CP.region ?_
              refine SP.val (Val.assign rfl) rfl rfl rfl ?_
              refine SP.nil ?_
              refine QE.then ?_
              refine CP.ret ?_
              refine QE.blockR ?_
              refine QE.thru (by intro e; cases e) ?_
              refine QE.thru (by intro e; cases e) ?_
              refine QE.blockR ?_
              refine QE.thru (by intro e; cases e) ?_
              obtain rfl := Option.some.inj ho
              obtain rfl := Option.some.inj hr
              exact QE.rets (rs := [.tmp 2]) (vs := [.bool true]) Tryd.results8 rfl ⟨RVs.tmp rfl, trivial⟩ (fun w2 h => St.done (fun a b p s => rfl) h)
            · refine CP.condF rfl (bf hc) ?_
              refine CP.skip ?_
              refine QE.blockN ?_
              refine QE.then ?_
              refine CP.region ?_
              refine SP.val (Val.move rfl) rfl rfl rfl ?_
              refine SP.val (Val.add rfl rfl) rfl rfl rfl ?_
              refine SP.val (Val.assign rfl) rfl rfl rfl ?_
              refine SP.nil ?_
              obtain rfl := Option.some.inj ho
              exact QE.lower m32 (by omega) fun a w2 ha hw => ⟨(IntKind.i64.wrap (x31 + 1)), (by omega), hr, ha.sub ⟨rfl, rfl, trivial⟩, (St.selP [4, 5, 6] rfl hw)⟩
          · intro J
            clear ho
            have ho := hg_t52
            clear hg_t52
            rcases if_some ho with ⟨hc, ho⟩ | ⟨hc, ho⟩
            · have hq44 := hc
              refine SP.isT (d := 33) rfl hq44 ?_
              refine SP.not rfl rfl rfl ?_
              refine SP.not rfl rfl rfl ?_
              refine SP.not rfl rfl rfl ?_
              refine SP.not rfl rfl rfl ?_
              refine SP.not rfl rfl rfl ?_
              refine SP.not rfl rfl rfl ?_
              refine SP.not rfl rfl rfl ?_
              refine SP.not rfl rfl rfl ?_
              refine SP.val (Val.pickT rfl rfl) rfl rfl rfl ?_
              obtain rfl := Option.some.inj ho
              exact J fun a w2 ha hw => ⟨ha.sub ⟨rfl, rfl, rfl, trivial⟩, hw⟩
            · have hq44 := (bf hc)
              refine SP.isF (d := 33) rfl hq44 ?_
              refine SP.val (Val.fieldAddr Tryd.underlying25 rfl sz23 rfl) rfl rfl rfl ?_
              refine SP.val (Val.load1 0 rfl Tryd.underlying23 rfl rfl rfl) rfl rfl rfl ?_
              refine SP.val (Val.move rfl) rfl rfl rfl ?_
              obtain ⟨x47, hx, ho⟩ := bind_some ho
              have hx := elt_some hx
              refine SP.indexP see 6 rfl Tryd.underlying23 sz36 hx.1 hx.2 rfl rfl rfl rfl (fun p45 => ?_)
              clear hx
              refine SP.fieldP see 0 rfl Tryd.underlying36 rfl sz34 k_api_Method.part_Code rfl rfl rfl (fun p48 => ?_)
              refine SP.loadPS see 0 rfl Tryd.underlying34 rfl rfl rfl (fun v50 => ?_)
              refine SP.val (Val.lenP see 0 rfl Tryd.underlying34 rfl) rfl rfl rfl ?_
              refine SP.val (Val.gtr rfl rfl) rfl rfl rfl ?_
              refine SP.val (Val.pickF rfl rfl) rfl rfl rfl ?_
              obtain rfl := Option.some.inj ho
              exact J fun a w2 ha hw => ⟨ha.sub ⟨rfl, rfl, rfl, trivial⟩, (St.selP [3, 4, 5, 6, 7, 8, 9] rfl hw)⟩
        · refine CP.condF rfl (decide_eq_false hc) ?_
          refine CP.exit ?_
          refine QE.thru (by intro e; cases e) ?_
          refine QE.thru (by intro e; cases e) ?_
          refine QE.blockE ?_
          refine QE.then ?_
          refine CP.seq ?_
          refine CP.region ?_
          refine SP.val (Val.assign rfl) rfl rfl rfl ?_
          refine SP.nil ?_
          refine QE.then ?_
          refine CP.ret ?_
          obtain rfl := Option.some.inj ho
          obtain rfl := Option.some.inj hr
          exact QE.rets (rs := [.tmp 2]) (vs := [.bool false]) Tryd.results8 rfl ⟨RVs.tmp rfl, trivial⟩ (fun w2 h => St.done (fun a b p s => rfl) h)
    · intro J
      by_cases hc : ((decide ((m_0.Globals.length : Int) > 100)) || (decide ((m_0.Pool.length : Int) > 100))) = true
      · have hq9 := hc
        refine SP.isT (d := 14) rfl hq9 ?_
        refine SP.not rfl rfl rfl ?_
        refine SP.not rfl rfl rfl ?_
        refine SP.not rfl rfl rfl ?_
        refine SP.not rfl rfl rfl ?_
        refine SP.val (Val.pickT rfl rfl) rfl rfl rfl ?_
        exact J fun a w2 ha hw => ⟨ha.sub ⟨rfl, congrArg (fun z => some (Value.bool z)) (or_t hq9), trivial⟩, hw⟩
      · have hq9 := (bf hc)
        refine SP.isF (d := 14) rfl hq9 ?_
        refine SP.val (Val.fieldAddr Tryd.underlying25 rfl sz23 rfl) rfl rfl rfl ?_
        refine SP.val (Val.load1 0 rfl Tryd.underlying23 rfl rfl rfl) rfl rfl rfl ?_
        refine SP.val (Val.lenP see 2 rfl Tryd.underlying23 rfl) rfl rfl rfl ?_
        refine SP.val (Val.gtr rfl rfl) rfl rfl rfl ?_
        refine SP.val (Val.pickF rfl rfl) rfl rfl rfl ?_
        exact J fun a w2 ha hw => ⟨ha.sub ⟨rfl, congrArg (fun z => some (Value.bool z)) (or_f hq9 rfl), trivial⟩, hw⟩
  · intro J
    by_cases hc : (m_0.Globals.length : Int) > 100
    · have hq7 := (decide_eq_true hc)
      refine SP.isT (d := 8) rfl hq7 ?_
      refine SP.not rfl rfl rfl ?_
      refine SP.not rfl rfl rfl ?_
      refine SP.not rfl rfl rfl ?_
      refine SP.not rfl rfl rfl ?_
      refine SP.val (Val.pickT rfl rfl) rfl rfl rfl ?_
      exact J fun a w2 ha hw => ⟨ha.sub ⟨rfl, congrArg (fun z => some (Value.bool z)) (or_t hq7), trivial⟩, hw⟩
    · have hq7 := (decide_eq_false hc)
      refine SP.isF (d := 8) rfl hq7 ?_
      refine SP.val (Val.fieldAddr Tryd.underlying25 rfl sz22 rfl) rfl rfl rfl ?_
      refine SP.val (Val.load1 0 rfl Tryd.underlying22 rfl rfl rfl) rfl rfl rfl ?_
      refine SP.val (Val.lenP see 1 rfl Tryd.underlying22 rfl) rfl rfl rfl ?_
      refine SP.val (Val.gtr rfl rfl) rfl rfl rfl ?_
      refine SP.val (Val.pickF rfl rfl) rfl rfl rfl ?_
      exact J fun a w2 ha hw => ⟨ha.sub ⟨rfl, congrArg (fun z => some (Value.bool z)) (or_f hq7 rfl), trivial⟩, hw⟩
/-! ### capstan/capstanref03.Copy: function 35 -/
def capstanref03_Copy.f (l_0 : (List api_Value)) : Option (List api_Value) :=
  if (([] : List api_Value).length + l_0.length) * 24 ≤ 140737488355328 then (some (([] : List api_Value) ++ l_0)) else none
theorem capstanref03_Copy.ok (l_0 : (List api_Value)) (v_l_0 : Value) (r : (List api_Value)) (H : capstanref03_Copy.f l_0 = some r) (w : World) (hV : Hp) (sV : Sub hV (hp w)) (h0 : slR k_api_Value hV v_l_0 l_0) :
    Trip Tryd.prog 35 [v_l_0].toArray em hV w (fun v => HO.ex fun u0 : Value => HO.pand (v = u0) (HO.seps [slO k_api_Value 52 u0 r])) := by
  have see : Sees w em hV := ⟨sV, Dj.em_right _⟩
  refine Trip.of (P := Tryd.prog) (n := ⟨7, []⟩) Tryd.func35 rfl ⟨rfl, rfl⟩ rfl (St.begin (All.cons (x := slP k_api_Value v_l_0 l_0) h0 (All.nil _))) ?_
  have ho := H
  refine CP.seq ?_
  refine CP.region ?_
  refine SP.val (Val.assign rfl) rfl rfl rfl ?_
  refine SP.nil ?_
  refine QE.then ?_
  refine CP.seq ?_
  refine CP.region ?_
  refine SP.val (Val.assign rfl) rfl rfl rfl ?_
  refine SP.nil ?_
  refine QE.then ?_
  refine CP.seq ?_
  refine CP.region ?_
  refine SP.val (Val.move rfl) rfl rfl rfl ?_
  refine SP.val (Val.move rfl) rfl rfl rfl ?_
  refine SP.imp (fun w2 hw => St.addO (slO.nil k_api_Value 52) hw) ?_
  obtain ⟨hb, ho⟩ := must_some ho
  refine SP.append see 0 rfl 0 rfl Tryd.underlying22 inf52 rfl rfl hb rfl rfl rfl rfl rfl (fun v3 => ?_)
  clear hb
  refine SP.val (Val.assign rfl) rfl rfl rfl ?_
  refine SP.nil ?_
  refine QE.then ?_
  refine CP.ret ?_
  obtain rfl := Option.some.inj ho
  exact QE.rets (rs := [.tmp 2]) (vs := [v3]) Tryd.results35 rfl ⟨RVs.tmp rfl, trivial⟩ (fun w2 h => St.done (fun a b p s => ⟨_, rfl, s⟩) (St.selO [0] rfl rfl h))
/-! ### capstan/capstanref05.Copy: function 36 -/
def capstanref05_Copy.f (l_0 : (List api_Instr)) : Option (List api_Instr) :=
  if (([] : List api_Instr).length + l_0.length) * 24 ≤ 140737488355328 then (some (([] : List api_Instr) ++ l_0)) else none
theorem capstanref05_Copy.ok (l_0 : (List api_Instr)) (v_l_0 : Value) (r : (List api_Instr)) (H : capstanref05_Copy.f l_0 = some r) (w : World) (hV : Hp) (sV : Sub hV (hp w)) (h0 : slR k_api_Instr hV v_l_0 l_0) :
    Trip Tryd.prog 36 [v_l_0].toArray em hV w (fun v => HO.ex fun u0 : Value => HO.pand (v = u0) (HO.seps [slO k_api_Instr 45 u0 r])) := by
  have see : Sees w em hV := ⟨sV, Dj.em_right _⟩
  refine Trip.of (P := Tryd.prog) (n := ⟨7, []⟩) Tryd.func36 rfl ⟨rfl, rfl⟩ rfl (St.begin (All.cons (x := slP k_api_Instr v_l_0 l_0) h0 (All.nil _))) ?_
  have ho := H
  refine CP.seq ?_
  refine CP.region ?_
  refine SP.val (Val.assign rfl) rfl rfl rfl ?_
  refine SP.nil ?_
  refine QE.then ?_
  refine CP.seq ?_
  refine CP.region ?_
  refine SP.val (Val.assign rfl) rfl rfl rfl ?_
  refine SP.nil ?_
  refine QE.then ?_
  refine CP.seq ?_
  refine CP.region ?_
  refine SP.val (Val.move rfl) rfl rfl rfl ?_
  refine SP.val (Val.move rfl) rfl rfl rfl ?_
  refine SP.imp (fun w2 hw => St.addO (slO.nil k_api_Instr 45) hw) ?_
  obtain ⟨hb, ho⟩ := must_some ho
  refine SP.append see 0 rfl 0 rfl Tryd.underlying34 inf45 rfl rfl hb rfl rfl rfl rfl rfl (fun v3 => ?_)
  clear hb
  refine SP.val (Val.assign rfl) rfl rfl rfl ?_
  refine SP.nil ?_
  refine QE.then ?_
  refine CP.ret ?_
  obtain rfl := Option.some.inj ho
  exact QE.rets (rs := [.tmp 2]) (vs := [v3]) Tryd.results36 rfl ⟨RVs.tmp rfl, trivial⟩ (fun w2 h => St.done (fun a b p s => ⟨_, rfl, s⟩) (St.selO [0] rfl rfl h))
/-! ### capstan/capstanref08.Copy: function 15 -/
inductive capstanref08_Copy.S where
  | start
  | l1 (t831 : (List api_Value)) (t1431 : (List api_Value)) (x2565 : Int) (l2567 : List api_Method)

def capstanref08_Copy.F (m_0 : api_Module) : capstanref08_Copy.S → Option (capstanref08_Copy.S ⊕ api_Module)
  | .start => (capstanref03_Copy.f m_0.Globals).bind fun t831 => (capstanref03_Copy.f m_0.Pool).bind fun t1431 => some (.inl (.l1 t831 t1431 0 []))
  | .l1 t831 t1431 x2565 l2567 => if x2565 < (m_0.Methods.length : Int) then ((elt m_0.Methods x2565).bind fun x2572 => if (([] : List Int).length + x2572.Args.length) * 1 ≤ 140737488355328 then (if (([] : List Int).length + x2572.Locals.length) * 1 ≤ 140737488355328 then ((capstanref05_Copy.f x2572.Code).bind fun t2589 => if (l2567.length + [(⟨([] : List Int) ++ x2572.Args, ([] : List Int) ++ x2572.Locals, x2572.Result, x2572.Reads, x2572.Fuel, x2572.Stack, x2572.Heap, t2589⟩ : api_Method)].length) * 104 ≤ 140737488355328 then (some (.inl (.l1 t831 t1431 (IntKind.i64.wrap (x2565 + 1)) (l2567 ++ [(⟨([] : List Int) ++ x2572.Args, ([] : List Int) ++ x2572.Locals, x2572.Result, x2572.Reads, x2572.Fuel, x2572.Stack, x2572.Heap, t2589⟩ : api_Method)])))) else none) else none) else none) else (some (.inr (⟨t831, t1431, l2567, m_0.Migrate⟩ : api_Module)))

def capstanref08_Copy.f (m_0 : api_Module) : Option api_Module := runF (capstanref08_Copy.F m_0) .start
theorem capstanref08_Copy.ok (m_0 : api_Module) (v_m_0_Globals : Value) (v_m_0_Pool : Value) (v_m_0_Methods : Value) (r : api_Module) (H : capstanref08_Copy.f m_0 = some r) (w : World) (hV : Hp) (sV : Sub hV (hp w)) (h0 : slR k_api_Value hV v_m_0_Globals m_0.Globals) (h1 : slR k_api_Value hV v_m_0_Pool m_0.Pool) (h2 : slR k_api_Method hV v_m_0_Methods m_0.Methods) :
    Trip Tryd.prog 15 [.agg #[v_m_0_Globals, v_m_0_Pool, v_m_0_Methods, .int .i64 m_0.Migrate]].toArray em hV w (fun v => HO.ex fun u0 : Value => HO.ex fun u1 : Value => HO.ex fun u2 : Value => HO.pand (v = .agg #[u0, u1, u2, .int .i64 r.Migrate]) (HO.seps [slO k_api_Value 52 u0 r.Globals, slO k_api_Value 52 u1 r.Pool, slD o_api_Method 36 u2 r.Methods])) := by
  have see : Sees w em hV := ⟨sV, Dj.em_right _⟩
  refine Trip.of (P := Tryd.prog) (n := ⟨48, []⟩) Tryd.func15 rfl ⟨rfl, rfl⟩ rfl (St.begin (All.cons (x := slP k_api_Value v_m_0_Globals m_0.Globals) h0 (All.cons (x := slP k_api_Value v_m_0_Pool m_0.Pool) h1 (All.cons (x := slP k_api_Method v_m_0_Methods m_0.Methods) h2 (All.nil _))))) ?_
  obtain ⟨n0, hi⟩ := runF_iff.1 H
  obtain ⟨m0, o, hm0, ho, hr⟩ := iter_some hi
  clear hi
  refine CP.seq ?_
  refine CP.region ?_
  refine SP.box (cs := [v_m_0_Globals, v_m_0_Pool, v_m_0_Methods, .int .i64 m_0.Migrate]) rfl rfl rfl rfl (fun b4 => ?_)
  refine SP.alloc (cs := [(.slice none 0 0), (.slice none 0 0), (.slice none 0 0), .int .i64 0]) inf25 rfl rfl (fun b6 => ?_)
  refine SP.nil ?_
  refine QE.then ?_
  refine CP.seq ?_
  refine CP.drawA (by kernel_rfl) (fun w2 k h => h.drawn k) ?_
  refine DA.phase (fun i => Nat.ble 0 i && Nat.blt i 10) (fun w2 => St w em hV [slP k_api_Value v_m_0_Globals m_0.Globals, slP k_api_Value v_m_0_Pool m_0.Pool, slP k_api_Method v_m_0_Methods m_0.Methods] [boxO b6 [(.slice none 0 0), (.slice none 0 0), (.slice none 0 0), .int .i64 0] 25, boxO b4 [v_m_0_Globals, v_m_0_Pool, v_m_0_Methods, .int .i64 m_0.Migrate] 25] w2) ?_
  refine DT.take 0 rfl rfl rfl rfl (by kernel_rfl) (fun _ _ _ h => h) (Val.fieldAddr Tryd.underlying25 rfl sz22 rfl) (fun w2 hw => hw) ?_
  refine DT.take 1 rfl rfl rfl rfl (by kernel_rfl) (fun _ _ _ h => h) (Val.load1 1 rfl Tryd.underlying22 rfl rfl rfl) (fun w2 hw => hw) ?_
  refine DT.take 3 rfl rfl rfl rfl (by kernel_rfl) (fun _ _ _ h => h) (Val.fieldAddr Tryd.underlying25 rfl sz22 rfl) (fun w2 hw => hw) ?_
  refine DT.take 4 rfl rfl rfl rfl (by kernel_rfl) (fun _ _ _ h => h) (Val.load1 1 rfl Tryd.underlying22 rfl rfl rfl) (fun w2 hw => hw) ?_
  refine DT.take 6 rfl rfl rfl rfl (by kernel_rfl) (fun _ _ _ h => h) (Val.fieldAddr Tryd.underlying25 rfl sz3 rfl) (fun w2 hw => hw) ?_
  refine DT.take 7 rfl rfl rfl rfl (by kernel_rfl) (fun _ _ _ h => h) (Val.load1 1 rfl Tryd.underlying3 rfl rfl rfl) (fun w2 hw => hw) ?_
  obtain ⟨t831, hc_t831, ho⟩ := bind_some (x := capstanref03_Copy.f m_0.Globals) ho
  obtain ⟨t1431, hc_t1431, ho⟩ := bind_some (x := capstanref03_Copy.f m_0.Pool) ho
  refine DT.list (l2 := #[true, true, false, true, true, false, true, true, false, false, false]) (by kernel_rfl) ?_
  refine DT.cut (ι := Value × Value × Nat) (fun z => [(1, .pointer (some ⟨b4, 0, none⟩)), (2, .pointer (some ⟨b6, 0, none⟩)), (3, .pointer (some ⟨z.2.2, 0, none⟩)), (14, .agg #[z.1, z.2.1, (.slice none 0 0), .int .i64 m_0.Migrate])]) (fun z w2 => St w em hV [slP k_api_Value v_m_0_Globals m_0.Globals, slP k_api_Value v_m_0_Pool m_0.Pool, slP k_api_Method v_m_0_Methods m_0.Methods] [boxO z.2.2 [(.slice none 0 0), (.slice none 0 0), (.slice none 0 0), .int .i64 0] 25, slO k_api_Value 52 z.2.1 t1431, slO k_api_Value 52 z.1 t831, boxO b6 [(.slice none 0 0), (.slice none 0 0), (.slice none 0 0), .int .i64 0] 25, boxO b4 [v_m_0_Globals, v_m_0_Pool, v_m_0_Methods, .int .i64 m_0.Migrate] 25] w2) 1 #[true, true, true, true, true, true, true, true, true, true, false] (fun z => ?_) (fun J2535 => ?_)
  · obtain ⟨v633, v1233, b2033⟩ := z
    refine DT.next (by kernel_rfl) ?_
    refine DA.one 10 rfl (by kernel_rfl) ?_
    refine SP.have (fun w2 hw => slO.shape (St.own 2 rfl see.sub see.dj hw)) (fun hs_v633 => ?_)
    refine SP.have (fun w2 hw => slO.shape (St.own 1 rfl see.sub see.dj hw)) (fun hs_v1233 => ?_)
    refine SP.store (v := .agg #[v633, v1233, (.slice none 0 0), .int .i64 m_0.Migrate]) (vs := [v633, v1233, (.slice none 0 0), .int .i64 m_0.Migrate]) 0 (by rfl) sz25 (by rfl) (by rfl) (by rfl) (by rfl) (one_cons hs_v633 (one_cons hs_v1233 (one_cons rfl (one_cons rfl (rfl))))) (by rfl) ?_
    refine SP.nil ?_
    refine QE.atA ?_
    refine DA.done (by kernel_rfl) ?_
    refine QE.then ?_
    refine CP.seq ?_
    refine CP.seq ?_
    refine CP.region ?_
    refine SP.val (Val.assign rfl) rfl rfl rfl ?_
    refine SP.nil ?_
    refine QE.then ?_
    refine CP.block ?_
    obtain rfl := Option.some.inj ho
    refine CP.loop (fun cl1 a w2 => ∃ x2565 : Int, ∃ l2567 : List api_Method, ∃ v2568 : Value, cl1 ≤ m0 ∧ iter (capstanref08_Copy.F m_0) cl1 (.l1 t831 t1431 x2565 l2567) = some r ∧ Env ⟨48, []⟩ [(1, .pointer (some ⟨b4, 0, none⟩)), (2, .pointer (some ⟨b6, 0, none⟩)), (3, .pointer (some ⟨b2033, 0, none⟩)), (4, .int .i64 x2565)] a ∧ St w em hV [slP k_api_Value v_m_0_Globals m_0.Globals, slP k_api_Value v_m_0_Pool m_0.Pool, slP k_api_Method v_m_0_Methods m_0.Methods] [slD o_api_Method 36 v2568 l2567, boxO b2033 [v633, v1233, v2568, .int .i64 m_0.Migrate] 25, slO k_api_Value 52 v1233 t1431, slO k_api_Value 52 v633 t831, boxO b6 [(.slice none 0 0), (.slice none 0 0), (.slice none 0 0), .int .i64 0] 25, boxO b4 [v_m_0_Globals, v_m_0_Pool, v_m_0_Methods, .int .i64 m_0.Migrate] 25] w2) m0 (fun a w2 ha hw => ⟨0, [], (.slice none 0 0), Nat.le_refl _, hr, ha.sub ⟨rfl, rfl, rfl, rfl, trivial⟩, (St.addO (slD.nil o_api_Method 36) hw)⟩) ?_
    clear hr
    rintro cl1 a w2 ⟨x2565, l2567, v2568, hc_l1, hi, ha, hw⟩
    obtain ⟨m2569, o, hm_m2569, ho, hr⟩ := iter_some hi
    refine CP.app ha hw ?_
    clear ha hw a w2 hi
    refine CP.seq ?_
    refine CP.seq ?_
    refine CP.region ?_
    refine SP.val (Val.move rfl) rfl rfl rfl ?_
    refine SP.val (Val.fieldAddr Tryd.underlying25 rfl sz23 rfl) rfl rfl rfl ?_
    refine SP.val (Val.load1 5 rfl Tryd.underlying23 rfl rfl rfl) rfl rfl rfl ?_
    refine SP.val (Val.lenP see 2 rfl Tryd.underlying23 rfl) rfl rfl rfl ?_
    refine SP.val (Val.lss rfl rfl) rfl rfl rfl ?_
    refine SP.nil ?_
    refine QE.then ?_
    rcases if_some ho with ⟨hc, ho⟩ | ⟨hc, ho⟩
    · refine CP.condT rfl (decide_eq_true hc) ?_
      refine CP.skip ?_
      refine QE.then ?_
      refine CP.seq ?_
      refine CP.block ?_
      refine CP.seq ?_
      refine CP.region ?_
      refine SP.val (Val.fieldAddr Tryd.underlying25 rfl sz23 rfl) rfl rfl rfl ?_
      refine SP.val (Val.load1 5 rfl Tryd.underlying23 rfl rfl rfl) rfl rfl rfl ?_
      refine SP.val (Val.move rfl) rfl rfl rfl ?_
      obtain ⟨x2572, hx, ho⟩ := bind_some ho
      have hx := elt_some hx
      refine SP.indexP see 2 rfl Tryd.underlying23 sz36 hx.1 hx.2 rfl rfl rfl rfl (fun p2570 => ?_)
      clear hx
      refine k_api_Method.load see 0 rfl Tryd.underlying36 rfl sz36 rfl rfl rfl (fun v2573 v2575 v2577 => ?_)
      refine SP.alloc (cs := [(.slice none 0 0), (.slice none 0 0), .int .u8 0, .bool false, .int .i64 0, .int .i64 0, .int .i64 0, (.slice none 0 0)]) inf36 rfl rfl (fun b2579 => ?_)
      refine SP.have (fun w2 hw => slR.shape (St.pers 0 rfl see.sub see.dj hw)) (fun hs_v2573 => ?_)
      refine SP.have (fun w2 hw => slR.shape (St.pers 1 rfl see.sub see.dj hw)) (fun hs_v2575 => ?_)
      refine SP.have (fun w2 hw => slR.shape (St.pers 2 rfl see.sub see.dj hw)) (fun hs_v2577 => ?_)
      refine SP.store (v := .agg #[v2573, v2575, .int .u8 x2572.Result, .bool x2572.Reads, .int .i64 x2572.Fuel, .int .i64 x2572.Stack, .int .i64 x2572.Heap, v2577]) (vs := [v2573, v2575, .int .u8 x2572.Result, .bool x2572.Reads, .int .i64 x2572.Fuel, .int .i64 x2572.Stack, .int .i64 x2572.Heap, v2577]) 0 (by rfl) sz36 (by rfl) (by rfl) (by rfl) (by rfl) (one_cons hs_v2573 (one_cons hs_v2575 (one_cons rfl (one_cons rfl (one_cons rfl (one_cons rfl (one_cons rfl (one_cons hs_v2577 (rfl))))))))) (by rfl) ?_
      refine SP.nil ?_
      refine QE.then ?_
      refine CP.seq ?_
      refine CP.region ?_
      refine SP.lit0 (k := (kInt .u8)) Tryd.underlying33 inf5 rfl rfl (fun v2581 => ?_)
      refine SP.val (Val.fieldAddr Tryd.underlying36 rfl sz33 rfl) rfl rfl rfl ?_
      refine SP.val (Val.load1 1 rfl Tryd.underlying33 rfl rfl rfl) rfl rfl rfl ?_
      obtain ⟨hb, ho⟩ := must_some ho
      refine SP.append see 0 rfl 0 rfl Tryd.underlying33 inf5 rfl rfl hb rfl rfl rfl rfl rfl (fun v2583 => ?_)
      clear hb
      refine SP.val (Val.fieldAddr Tryd.underlying36 rfl sz33 rfl) rfl rfl rfl ?_
      refine SP.have (fun w2 hw => slO.shape (St.own 0 rfl see.sub see.dj hw)) (fun hs_v2583 => ?_)
      refine SP.store (v := v2583) (vs := [v2583]) 1 (by rfl) sz33 (by rfl) (by rfl) (by rfl) (one_cells hs_v2583) (one_cons hs_v2583 (rfl)) (by rfl) ?_
      refine SP.nil ?_
      refine QE.then ?_
      refine CP.seq ?_
      refine CP.region ?_
      refine SP.lit0 (k := (kInt .u8)) Tryd.underlying33 inf5 rfl rfl (fun v2585 => ?_)
      refine SP.val (Val.fieldAddr Tryd.underlying36 rfl sz33 rfl) rfl rfl rfl ?_
      refine SP.val (Val.load1 2 rfl Tryd.underlying33 rfl rfl rfl) rfl rfl rfl ?_
      obtain ⟨hb, ho⟩ := must_some ho
      refine SP.append see 0 rfl 1 rfl Tryd.underlying33 inf5 rfl rfl hb rfl rfl rfl rfl rfl (fun v2587 => ?_)
      clear hb
      refine SP.val (Val.fieldAddr Tryd.underlying36 rfl sz33 rfl) rfl rfl rfl ?_
      refine SP.have (fun w2 hw => slO.shape (St.own 0 rfl see.sub see.dj hw)) (fun hs_v2587 => ?_)
      refine SP.store (v := v2587) (vs := [v2587]) 2 (by rfl) sz33 (by rfl) (by rfl) (by rfl) (one_cells hs_v2587) (one_cons hs_v2587 (rfl)) (by rfl) ?_
      refine SP.nil ?_
      refine QE.then ?_
      refine CP.seq ?_
      refine CP.region ?_
      refine SP.val (Val.fieldAddr Tryd.underlying36 rfl sz34 rfl) rfl rfl rfl ?_
      refine SP.val (Val.load1 2 rfl Tryd.underlying34 rfl rfl rfl) rfl rfl rfl ?_
      obtain ⟨t2589, hc, ho⟩ := bind_some (x := capstanref05_Copy.f x2572.Code) ho
      refine SP.callK see (caps := []) _ fn36 rfl rfl rfl rfl (fun w2 hP hs sub ap => capstanref05_Copy.ok x2572.Code _ _ hc w2 hP sub (ap.get 2 rfl)) (fun vr => ?_)
      refine SP.ex (fun w2 h => St.open h) (fun v2590 => ?_)
      refine SP.have (fun w2 h => (St.pand h).1.symm) (fun er => ?_)
      subst er
      refine SP.imp (fun w2 h => St.seps (St.pand h).2) ?_
      clear hc
      refine SP.val (Val.fieldAddr Tryd.underlying36 rfl sz34 rfl) rfl rfl rfl ?_
      refine SP.have (fun w2 hw => slO.shape (St.own 0 rfl see.sub see.dj hw)) (fun hs_v2590 => ?_)
      refine SP.store (v := v2590) (vs := [v2590]) 3 (by rfl) sz34 (by rfl) (by rfl) (by rfl) (one_cells hs_v2590) (one_cons hs_v2590 (rfl)) (by rfl) ?_
      refine SP.nil ?_
      refine QE.then ?_
      refine CP.region ?_
      refine SP.val (Val.fieldAddr Tryd.underlying25 rfl sz23 rfl) rfl rfl rfl ?_
      refine SP.val (Val.load1 5 rfl Tryd.underlying23 rfl rfl rfl) rfl rfl rfl ?_
      refine SP.val (Val.loadA 3 rfl Tryd.underlying36 rfl sz36 rfl rfl rfl) rfl rfl rfl ?_
      refine SP.have (fun w2 hw => slO.shape (St.own 2 rfl see.sub see.dj hw)) (fun hs_v2583 => ?_)
      refine SP.have (fun w2 hw => slO.shape (St.own 1 rfl see.sub see.dj hw)) (fun hs_v2587 => ?_)
      refine SP.have (fun w2 hw => slO.shape (St.own 0 rfl see.sub see.dj hw)) (fun hs_v2590 => ?_)
      refine SP.lit (k := kRaw 8) (xs := [[v2583, v2587, .int .u8 x2572.Result, .bool x2572.Reads, .int .i64 x2572.Fuel, .int .i64 x2572.Stack, .int .i64 x2572.Heap, v2590]]) (vs := [.agg #[v2583, v2587, .int .u8 x2572.Result, .bool x2572.Reads, .int .i64 x2572.Fuel, .int .i64 x2572.Stack, .int .i64 x2572.Heap, v2590]]) (cells := [v2583, v2587, .int .u8 x2572.Result, .bool x2572.Reads, .int .i64 x2572.Fuel, .int .i64 x2572.Stack, .int .i64 x2572.Heap, v2590]) Tryd.underlying23 inf36 rfl rfl rfl rfl rfl rfl rfl rfl (fun _ ap => ⟨[v2583, v2587, .int .u8 x2572.Result, .bool x2572.Reads, .int .i64 x2572.Fuel, .int .i64 x2572.Stack, .int .i64 x2572.Heap, v2590], _, rfl, ⟨rfl, rfl, one_cons hs_v2583 (one_cons hs_v2587 (one_cons rfl (one_cons rfl (one_cons rfl (one_cons rfl (one_cons rfl (one_cons hs_v2590 (rfl))))))))⟩, rfl⟩) rfl rfl rfl (fun v2592 => ?_)
      refine SP.imp (fun w2 hw => St.litD (k := o_api_Method) (c := [v2583, v2587, .int .u8 x2572.Result, .bool x2572.Reads, .int .i64 x2572.Fuel, .int .i64 x2572.Stack, .int .i64 x2572.Heap, v2590]) (x0 := (⟨([] : List Int) ++ x2572.Args, ([] : List Int) ++ x2572.Locals, x2572.Result, x2572.Reads, x2572.Fuel, x2572.Stack, x2572.Heap, t2589⟩ : api_Method)) [slO (kInt .u8) 5 v2583 (([] : List Int) ++ x2572.Args), slO (kInt .u8) 5 v2587 (([] : List Int) ++ x2572.Locals), slO k_api_Instr 45 v2590 t2589] (St.selO [0, 3, 2, 1, 4, 5, 6, 7, 8, 9, 10] rfl rfl hw) (fun a b q => ⟨_, _, _, rfl, q⟩)) ?_
      refine SP.imp (fun w2 hw => St.selO [2, 0, 1, 3, 4, 5, 6, 7] rfl rfl hw) ?_
      obtain ⟨hb, ho⟩ := must_some ho
      refine SP.appendD see Tryd.underlying23 inf36 rfl rfl hb rfl rfl rfl rfl rfl (fun v2594 => ?_)
      clear hb
      refine SP.val (Val.fieldAddr Tryd.underlying25 rfl sz23 rfl) rfl rfl rfl ?_
      refine SP.have (fun w2 hw => slD.shape (St.own 0 rfl see.sub see.dj hw)) (fun hs_v2594 => ?_)
      refine SP.store (v := v2594) (vs := [v2594]) 2 (by rfl) sz23 (by rfl) (by rfl) (by rfl) (one_cells hs_v2594) (one_cons hs_v2594 (rfl)) (by rfl) ?_
      refine SP.nil ?_
      refine QE.blockN ?_
      refine QE.then ?_
      refine CP.region ?_
      refine SP.val (Val.move rfl) rfl rfl rfl ?_
      refine SP.val (Val.add rfl rfl) rfl rfl rfl ?_
      refine SP.val (Val.assign rfl) rfl rfl rfl ?_
      refine SP.nil ?_
      obtain rfl := Option.some.inj ho
      exact QE.lower m2569 (by omega) fun a w2 ha hw => ⟨(IntKind.i64.wrap (x2565 + 1)), (l2567 ++ [(⟨([] : List Int) ++ x2572.Args, ([] : List Int) ++ x2572.Locals, x2572.Result, x2572.Reads, x2572.Fuel, x2572.Stack, x2572.Heap, t2589⟩ : api_Method)]), v2594, (by omega), hr, ha.sub ⟨rfl, rfl, rfl, rfl, trivial⟩, (St.selP [4, 5, 6] rfl (St.selO [0, 2, 3, 4, 5, 6] rfl rfl hw))⟩
    · refine CP.condF rfl (decide_eq_false hc) ?_
      refine CP.exit ?_
      refine QE.thru (by intro e; cases e) ?_
      refine QE.thru (by intro e; cases e) ?_
      refine QE.blockE ?_
      refine QE.then ?_
      refine CP.seq ?_
      refine CP.region ?_
      refine SP.val (Val.loadA 1 rfl Tryd.underlying25 rfl sz25 rfl rfl rfl) rfl rfl rfl ?_
      refine SP.have (fun w2 hw => slO.shape (St.own 3 rfl see.sub see.dj hw)) (fun hs_v633 => ?_)
      refine SP.have (fun w2 hw => slO.shape (St.own 2 rfl see.sub see.dj hw)) (fun hs_v1233 => ?_)
      refine SP.have (fun w2 hw => slD.shape (St.own 0 rfl see.sub see.dj hw)) (fun hs_v2568 => ?_)
      refine SP.store (v := .agg #[v633, v1233, v2568, .int .i64 m_0.Migrate]) (vs := [v633, v1233, v2568, .int .i64 m_0.Migrate]) 4 (by rfl) sz25 (by rfl) (by rfl) (by rfl) (by rfl) (one_cons hs_v633 (one_cons hs_v1233 (one_cons hs_v2568 (one_cons rfl (rfl))))) (by rfl) ?_
      refine SP.nil ?_
      refine QE.then ?_
      refine CP.ret ?_
      obtain rfl := Option.some.inj ho
      obtain rfl := Option.some.inj hr
      exact QE.rets (rs := [.cell 2 25]) (vs := [.agg #[v633, v1233, v2568, .int .i64 m_0.Migrate]]) Tryd.results15 rfl ⟨RVs.cellA 4 rfl rfl Tryd.underlying25 rfl sz25, trivial⟩ (fun w2 h => St.done (fun a b p s => ⟨_, _, _, rfl, s⟩) (St.selO [3, 2, 0] rfl rfl h))
  refine DT.cut (ι := Value × Value) (fun z => [(1, .pointer (some ⟨b4, 0, none⟩)), (2, .pointer (some ⟨b6, 0, none⟩)), (14, .agg #[z.1, z.2, (.slice none 0 0), .int .i64 m_0.Migrate])]) (fun z w2 => St w em hV [slP k_api_Value v_m_0_Globals m_0.Globals, slP k_api_Value v_m_0_Pool m_0.Pool, slP k_api_Method v_m_0_Methods m_0.Methods] [slO k_api_Value 52 z.2 t1431, slO k_api_Value 52 z.1 t831, boxO b6 [(.slice none 0 0), (.slice none 0 0), (.slice none 0 0), .int .i64 0] 25, boxO b4 [v_m_0_Globals, v_m_0_Pool, v_m_0_Methods, .int .i64 m_0.Migrate] 25] w2) 2 #[true, true, true, true, true, true, true, true, true, false, false] (fun z => ?_) (fun J2601 => ?_)
  · obtain ⟨v633, v1233⟩ := z
    refine DT.one 9 rfl (by kernel_rfl) rfl ?_
    refine SP.alloc (cs := [(.slice none 0 0), (.slice none 0 0), (.slice none 0 0), .int .i64 0]) inf25 rfl rfl (fun b2033 => ?_)
    refine SP.nil ?_
    refine QE.atT (fun w2 hw => (St.selO [3, 4] rfl rfl hw)) ?_
    refine DT.list (l2 := #[true, true, true, true, true, true, true, true, true, true, false]) (by kernel_rfl) ?_
    exact DT.weak (by exact ⟨rfl, rfl, rfl, rfl, trivial⟩) (by exact fun w2 hw => hw) (J2535 (v633, v1233, b2033))
  refine DT.cut (ι := Value × Value × Nat) (fun z => [(1, .pointer (some ⟨b4, 0, none⟩)), (2, .pointer (some ⟨b6, 0, none⟩)), (3, .pointer (some ⟨z.2.2, 0, none⟩)), (8, z.1), (11, z.2.1), (13, .int .i64 m_0.Migrate)]) (fun z w2 => St w em hV [slP k_api_Value v_m_0_Globals m_0.Globals, slP k_api_Value v_m_0_Pool m_0.Pool, slP k_api_Method v_m_0_Methods m_0.Methods] [boxO z.2.2 [(.slice none 0 0), (.slice none 0 0), (.slice none 0 0), .int .i64 0] 25, slO k_api_Value 52 z.2.1 t1431, slO k_api_Value 52 z.1 t831, boxO b6 [(.slice none 0 0), (.slice none 0 0), (.slice none 0 0), .int .i64 0] 25, boxO b4 [v_m_0_Globals, v_m_0_Pool, v_m_0_Methods, .int .i64 m_0.Migrate] 25] w2) 2 #[true, true, true, true, true, true, true, true, false, true, false] (fun z => ?_) (fun J2602 => ?_)
  · obtain ⟨v633, v1233, b2033⟩ := z
    refine DT.one 8 rfl (by kernel_rfl) rfl ?_
    refine SP.have (fun w2 hw => slO.shape (St.own 2 rfl see.sub see.dj hw)) (fun hs_v633 => ?_)
    refine SP.have (fun w2 hw => slO.shape (St.own 1 rfl see.sub see.dj hw)) (fun hs_v1233 => ?_)
    refine SP.val (Val.buildC (us := [(0, v633), (1, v1233), (3, .int .i64 m_0.Migrate)]) (ucs := [(0, [v633]), (1, [v1233]), (3, [.int .i64 m_0.Migrate])]) (cs := [v633, v1233, (.slice none 0 0), .int .i64 m_0.Migrate]) bt25 rfl rfl ⟨rfl, one_cells hs_v633, ⟨rfl, one_cells hs_v1233, ⟨rfl, rfl, trivial⟩⟩⟩ (by rfl)) rfl rfl rfl ?_
    refine SP.nil ?_
    refine QE.atT (fun w2 hw => (St.selO [3, 4] rfl rfl hw)) ?_
    refine DT.list (l2 := #[true, true, true, true, true, true, true, true, true, true, false]) (by kernel_rfl) ?_
    exact DT.weak (by exact ⟨rfl, rfl, rfl, rfl, trivial⟩) (by exact fun w2 hw => hw) (J2535 (v633, v1233, b2033))
  refine DT.cut (ι := Value × Value) (fun z => [(1, .pointer (some ⟨b4, 0, none⟩)), (2, .pointer (some ⟨b6, 0, none⟩)), (8, z.1), (11, z.2), (13, .int .i64 m_0.Migrate)]) (fun z w2 => St w em hV [slP k_api_Value v_m_0_Globals m_0.Globals, slP k_api_Value v_m_0_Pool m_0.Pool, slP k_api_Method v_m_0_Methods m_0.Methods] [slO k_api_Value 52 z.2 t1431, slO k_api_Value 52 z.1 t831, boxO b6 [(.slice none 0 0), (.slice none 0 0), (.slice none 0 0), .int .i64 0] 25, boxO b4 [v_m_0_Globals, v_m_0_Pool, v_m_0_Methods, .int .i64 m_0.Migrate] 25] w2) 3 #[true, true, true, true, true, true, true, true, false, false, false] (fun z => ?_) (fun J2603 => ?_)
  · obtain ⟨v633, v1233⟩ := z
    refine DT.any 8 [9] (by kernel_rfl) ⟨⟨_, rfl, rfl, ?_⟩, ⟨_, rfl, rfl, ?_⟩, trivial⟩
    · refine SP.have (fun w2 hw => slO.shape (St.own 1 rfl see.sub see.dj hw)) (fun hs_v633 => ?_)
      refine SP.have (fun w2 hw => slO.shape (St.own 0 rfl see.sub see.dj hw)) (fun hs_v1233 => ?_)
      refine SP.val (Val.buildC (us := [(0, v633), (1, v1233), (3, .int .i64 m_0.Migrate)]) (ucs := [(0, [v633]), (1, [v1233]), (3, [.int .i64 m_0.Migrate])]) (cs := [v633, v1233, (.slice none 0 0), .int .i64 m_0.Migrate]) bt25 rfl rfl ⟨rfl, one_cells hs_v633, ⟨rfl, one_cells hs_v1233, ⟨rfl, rfl, trivial⟩⟩⟩ (by rfl)) rfl rfl rfl ?_
      refine SP.nil ?_
      refine QE.atT (fun w2 hw => (St.selO [2, 3] rfl rfl hw)) ?_
      refine DT.list (l2 := #[true, true, true, true, true, true, true, true, true, false, false]) (by kernel_rfl) ?_
      exact DT.weak (by exact ⟨rfl, rfl, rfl, trivial⟩) (by exact fun w2 hw => hw) (J2601 (v633, v1233))
    · refine SP.alloc (cs := [(.slice none 0 0), (.slice none 0 0), (.slice none 0 0), .int .i64 0]) inf25 rfl rfl (fun b2033 => ?_)
      refine SP.nil ?_
      refine QE.atT (fun w2 hw => (St.selO [3, 4] rfl rfl hw)) ?_
      refine DT.list (l2 := #[true, true, true, true, true, true, true, true, false, true, false]) (by kernel_rfl) ?_
      exact DT.weak (by exact ⟨rfl, rfl, rfl, rfl, rfl, rfl, trivial⟩) (by exact fun w2 hw => hw) (J2602 (v633, v1233, b2033))
  refine DT.cut (ι := Value × Nat) (fun z => [(1, .pointer (some ⟨b4, 0, none⟩)), (2, .pointer (some ⟨b6, 0, none⟩)), (3, .pointer (some ⟨z.2, 0, none⟩)), (8, z.1), (10, v_m_0_Pool), (13, .int .i64 m_0.Migrate)]) (fun z w2 => St w em hV [slP k_api_Value v_m_0_Globals m_0.Globals, slP k_api_Value v_m_0_Pool m_0.Pool, slP k_api_Method v_m_0_Methods m_0.Methods] [boxO z.2 [(.slice none 0 0), (.slice none 0 0), (.slice none 0 0), .int .i64 0] 25, slO k_api_Value 52 z.1 t831, boxO b6 [(.slice none 0 0), (.slice none 0 0), (.slice none 0 0), .int .i64 0] 25, boxO b4 [v_m_0_Globals, v_m_0_Pool, v_m_0_Methods, .int .i64 m_0.Migrate] 25] w2) 3 #[true, true, true, true, true, false, true, true, false, true, false] (fun z => ?_) (fun J2606 => ?_)
  · obtain ⟨v633, b2033⟩ := z
    refine DT.one 5 rfl (by kernel_rfl) rfl ?_
    refine SP.callK see (caps := []) _ fn35 rfl rfl rfl rfl (fun w2 hP hs sub ap => capstanref03_Copy.ok m_0.Pool _ _ hc_t1431 w2 hP sub (ap.get 1 rfl)) (fun vr => ?_)
    refine SP.ex (fun w2 h => St.open h) (fun v1233 => ?_)
    refine SP.have (fun w2 h => (St.pand h).1.symm) (fun er => ?_)
    subst er
    refine SP.imp (fun w2 h => St.seps (St.pand h).2) ?_
    refine SP.nil ?_
    refine QE.atT (fun w2 hw => (St.selO [3, 4] rfl rfl hw)) ?_
    refine DT.list (l2 := #[true, true, true, true, true, true, true, true, false, true, false]) (by kernel_rfl) ?_
    exact DT.weak (by exact ⟨rfl, rfl, rfl, rfl, rfl, rfl, trivial⟩) (by exact fun w2 hw => (St.selO [1, 0, 2, 3, 4] rfl rfl hw)) (J2602 (v633, v1233, b2033))
  refine DT.cut (ι := Value) (fun z => [(1, .pointer (some ⟨b4, 0, none⟩)), (2, .pointer (some ⟨b6, 0, none⟩)), (8, z), (10, v_m_0_Pool), (13, .int .i64 m_0.Migrate)]) (fun z w2 => St w em hV [slP k_api_Value v_m_0_Globals m_0.Globals, slP k_api_Value v_m_0_Pool m_0.Pool, slP k_api_Method v_m_0_Methods m_0.Methods] [slO k_api_Value 52 z t831, boxO b6 [(.slice none 0 0), (.slice none 0 0), (.slice none 0 0), .int .i64 0] 25, boxO b4 [v_m_0_Globals, v_m_0_Pool, v_m_0_Methods, .int .i64 m_0.Migrate] 25] w2) 4 #[true, true, true, true, true, false, true, true, false, false, false] (fun z => ?_) (fun J2607 => ?_)
  · rename Value => v633
    refine DT.any 5 [9] (by kernel_rfl) ⟨⟨_, rfl, rfl, ?_⟩, ⟨_, rfl, rfl, ?_⟩, trivial⟩
    · refine SP.callK see (caps := []) _ fn35 rfl rfl rfl rfl (fun w2 hP hs sub ap => capstanref03_Copy.ok m_0.Pool _ _ hc_t1431 w2 hP sub (ap.get 1 rfl)) (fun vr => ?_)
      refine SP.ex (fun w2 h => St.open h) (fun v1233 => ?_)
      refine SP.have (fun w2 h => (St.pand h).1.symm) (fun er => ?_)
      subst er
      refine SP.imp (fun w2 h => St.seps (St.pand h).2) ?_
      refine SP.nil ?_
      refine QE.atT (fun w2 hw => (St.selO [2, 3] rfl rfl hw)) ?_
      refine DT.list (l2 := #[true, true, true, true, true, true, true, true, false, false, false]) (by kernel_rfl) ?_
      exact DT.weak (by exact ⟨rfl, rfl, rfl, rfl, rfl, trivial⟩) (by exact fun w2 hw => hw) (J2603 (v633, v1233))
    · refine SP.alloc (cs := [(.slice none 0 0), (.slice none 0 0), (.slice none 0 0), .int .i64 0]) inf25 rfl rfl (fun b2033 => ?_)
      refine SP.nil ?_
      refine QE.atT (fun w2 hw => (St.selO [2, 3] rfl rfl hw)) ?_
      refine DT.list (l2 := #[true, true, true, true, true, false, true, true, false, true, false]) (by kernel_rfl) ?_
      exact DT.weak (by exact ⟨rfl, rfl, rfl, rfl, rfl, rfl, trivial⟩) (by exact fun w2 hw => hw) (J2606 (v633, b2033))
  refine DT.cut (ι := Nat) (fun z => [(1, .pointer (some ⟨b4, 0, none⟩)), (2, .pointer (some ⟨b6, 0, none⟩)), (3, .pointer (some ⟨z, 0, none⟩)), (7, v_m_0_Globals), (10, v_m_0_Pool), (13, .int .i64 m_0.Migrate)]) (fun z w2 => St w em hV [slP k_api_Value v_m_0_Globals m_0.Globals, slP k_api_Value v_m_0_Pool m_0.Pool, slP k_api_Method v_m_0_Methods m_0.Methods] [boxO z [(.slice none 0 0), (.slice none 0 0), (.slice none 0 0), .int .i64 0] 25, boxO b6 [(.slice none 0 0), (.slice none 0 0), (.slice none 0 0), .int .i64 0] 25, boxO b4 [v_m_0_Globals, v_m_0_Pool, v_m_0_Methods, .int .i64 m_0.Migrate] 25] w2) 4 #[true, true, false, true, true, false, true, true, false, true, false] (fun z => ?_) (fun J2613 => ?_)
  · rename Nat => b2033
    refine DT.one 2 rfl (by kernel_rfl) rfl ?_
    refine SP.callK see (caps := []) _ fn35 rfl rfl rfl rfl (fun w2 hP hs sub ap => capstanref03_Copy.ok m_0.Globals _ _ hc_t831 w2 hP sub (ap.get 0 rfl)) (fun vr => ?_)
    refine SP.ex (fun w2 h => St.open h) (fun v633 => ?_)
    refine SP.have (fun w2 h => (St.pand h).1.symm) (fun er => ?_)
    subst er
    refine SP.imp (fun w2 h => St.seps (St.pand h).2) ?_
    refine SP.nil ?_
    refine QE.atT (fun w2 hw => (St.selO [2, 3] rfl rfl hw)) ?_
    refine DT.list (l2 := #[true, true, true, true, true, false, true, true, false, true, false]) (by kernel_rfl) ?_
    exact DT.weak (by exact ⟨rfl, rfl, rfl, rfl, rfl, rfl, trivial⟩) (by exact fun w2 hw => (St.selO [1, 0, 2, 3] rfl rfl hw)) (J2606 (v633, b2033))
  refine DT.any 2 [9] (by kernel_rfl) ⟨⟨_, rfl, rfl, ?_⟩, ⟨_, rfl, rfl, ?_⟩, trivial⟩
  · refine SP.callK see (caps := []) _ fn35 rfl rfl rfl rfl (fun w2 hP hs sub ap => capstanref03_Copy.ok m_0.Globals _ _ hc_t831 w2 hP sub (ap.get 0 rfl)) (fun vr => ?_)
    refine SP.ex (fun w2 h => St.open h) (fun v633 => ?_)
    refine SP.have (fun w2 h => (St.pand h).1.symm) (fun er => ?_)
    subst er
    refine SP.imp (fun w2 h => St.seps (St.pand h).2) ?_
    refine SP.nil ?_
    refine QE.atT (fun w2 hw => (St.selO [1, 2] rfl rfl hw)) ?_
    refine DT.list (l2 := #[true, true, true, true, true, false, true, true, false, false, false]) (by kernel_rfl) ?_
    exact DT.weak (by exact ⟨rfl, rfl, rfl, rfl, rfl, trivial⟩) (by exact fun w2 hw => hw) (J2607 v633)
  · refine SP.alloc (cs := [(.slice none 0 0), (.slice none 0 0), (.slice none 0 0), .int .i64 0]) inf25 rfl rfl (fun b2033 => ?_)
    refine SP.nil ?_
    refine QE.atT (fun w2 hw => (St.selO [1, 2] rfl rfl hw)) ?_
    refine DT.list (l2 := #[true, true, false, true, true, false, true, true, false, true, false]) (by kernel_rfl) ?_
    exact DT.weak (by exact ⟨rfl, rfl, rfl, rfl, rfl, rfl, trivial⟩) (by exact fun w2 hw => hw) (J2613 b2033)
/-! ### capstan/capstanref07.SameKinds: function 11 -/
inductive capstanref07_SameKinds.S where
  | start
  | l1 (x12 : Int)

def capstanref07_SameKinds.F (a_0 : (List Int)) (b_1 : (List Int)) : capstanref07_SameKinds.S → Option (capstanref07_SameKinds.S ⊕ Bool)
  | .start => if (a_0.length : Int) ≠ (b_1.length : Int) then (some (.inr false)) else (some (.inl (.l1 0)))
  | .l1 x12 => if x12 < (a_0.length : Int) then ((elt a_0 x12).bind fun x16 => (elt b_1 x12).bind fun x20 => if x16 ≠ x20 then (some (.inr false)) else (some (.inl (.l1 (IntKind.i64.wrap (x12 + 1)))))) else (some (.inr true))

def capstanref07_SameKinds.f (a_0 : (List Int)) (b_1 : (List Int)) : Option Bool := runF (capstanref07_SameKinds.F a_0 b_1) .start
theorem capstanref07_SameKinds.ok (a_0 : (List Int)) (b_1 : (List Int)) (v_a_0 : Value) (v_b_1 : Value) (r : Bool) (H : capstanref07_SameKinds.f a_0 b_1 = some r) (w : World) (hV : Hp) (sV : Sub hV (hp w)) (h0 : slR (kInt .u8) hV v_a_0 a_0) (h1 : slR (kInt .u8) hV v_b_1 b_1) :
    Trip Tryd.prog 11 [v_a_0, v_b_1].toArray em hV w (fun v => HO.pure (v = .bool r)) := by
  have see : Sees w em hV := ⟨sV, Dj.em_right _⟩
  refine Trip.of (P := Tryd.prog) (n := ⟨26, []⟩) Tryd.func11 rfl ⟨rfl, rfl⟩ rfl (St.begin (All.cons (x := slP (kInt .u8) v_a_0 a_0) h0 (All.cons (x := slP (kInt .u8) v_b_1 b_1) h1 (All.nil _)))) ?_
  obtain ⟨n0, hi⟩ := runF_iff.1 H
  obtain ⟨m0, o, hm0, ho, hr⟩ := iter_some hi
  clear hi
  refine CP.seq ?_
  refine CP.region ?_
  refine SP.val (Val.assign rfl) rfl rfl rfl ?_
  refine SP.nil ?_
  refine QE.then ?_
  refine CP.seq ?_
  refine CP.seq ?_
  refine CP.region ?_
  refine SP.val (Val.move rfl) rfl rfl rfl ?_
  refine SP.val (Val.lenP see 0 rfl Tryd.underlying33 rfl) rfl rfl rfl ?_
  refine SP.val (Val.move rfl) rfl rfl rfl ?_
  refine SP.val (Val.lenP see 1 rfl Tryd.underlying33 rfl) rfl rfl rfl ?_
  refine SP.val (Val.neq rfl rfl) rfl rfl rfl ?_
  refine SP.nil ?_
  refine QE.then ?_
  rcases if_some ho with ⟨hc, ho⟩ | ⟨hc, ho⟩
  · refine CP.condT rfl (decide_eq_true hc) ?_
    refine CP.seq ?_
    refine CP.region ?_
    refine SP.val (Val.assign rfl) rfl rfl rfl ?_
    refine SP.nil ?_
    refine QE.then ?_
    refine CP.ret ?_
    refine QE.thru (by intro e; cases e) ?_
    obtain rfl := Option.some.inj ho
    obtain rfl := Option.some.inj hr
    exact QE.rets (rs := [.tmp 4]) (vs := [.bool false]) Tryd.results11 rfl ⟨RVs.tmp rfl, trivial⟩ (fun w2 h => St.done (fun a b p s => rfl) h)
  · refine CP.condF rfl (decide_eq_false hc) ?_
    refine CP.skip ?_
    refine QE.then ?_
    refine CP.seq ?_
    refine CP.seq ?_
    refine CP.region ?_
    refine SP.val (Val.assign rfl) rfl rfl rfl ?_
    refine SP.nil ?_
    refine QE.then ?_
    refine CP.block ?_
    obtain rfl := Option.some.inj ho
    refine CP.loop (fun cl1 a w2 => ∃ x12 : Int, cl1 ≤ m0 ∧ iter (capstanref07_SameKinds.F a_0 b_1) cl1 (.l1 x12) = some r ∧ Env ⟨26, []⟩ [(0, v_a_0), (1, v_b_1), (5, .int .i64 x12)] a ∧ St w em hV [slP (kInt .u8) v_a_0 a_0, slP (kInt .u8) v_b_1 b_1] [] w2) m0 (fun a w2 ha hw => ⟨0, Nat.le_refl _, hr, ha.sub ⟨rfl, rfl, rfl, trivial⟩, hw⟩) ?_
    clear hr
    rintro cl1 a w2 ⟨x12, hc_l1, hi, ha, hw⟩
    obtain ⟨m13, o, hm_m13, ho, hr⟩ := iter_some hi
    refine CP.app ha hw ?_
    clear ha hw a w2 hi
    refine CP.seq ?_
    refine CP.seq ?_
    refine CP.region ?_
    refine SP.val (Val.move rfl) rfl rfl rfl ?_
    refine SP.val (Val.move rfl) rfl rfl rfl ?_
    refine SP.val (Val.lenP see 0 rfl Tryd.underlying33 rfl) rfl rfl rfl ?_
    refine SP.val (Val.lss rfl rfl) rfl rfl rfl ?_
    refine SP.nil ?_
    refine QE.then ?_
    rcases if_some ho with ⟨hc, ho⟩ | ⟨hc, ho⟩
    · refine CP.condT rfl (decide_eq_true hc) ?_
      refine CP.skip ?_
      refine QE.then ?_
      refine CP.seq ?_
      refine CP.block ?_
      refine CP.seq ?_
      refine CP.drawA (by kernel_rfl) (fun w2 k h => h.drawn k) ?_
      obtain ⟨x16, hx, ho⟩ := bind_some ho
      have hx := elt_some hx
      refine DA.ghost (fun w2 h => h.elem see 0 rfl hx.1 hx.2) (fun p14 h_p14 => ?_)
      clear hx
      refine DA.ghost (fun w2 h => h.openE see 0 rfl (fun _ : Unit => [.int .u8 x16]) (fun _ => []) (fun h cs e => ⟨(), e, All.nil _⟩)) (fun _ _ => ?_)
      obtain ⟨x20, hx, ho⟩ := bind_some ho
      have hx := elt_some hx
      refine DA.ghost (fun w2 h => h.elem see 3 rfl hx.1 hx.2) (fun p18 h_p18 => ?_)
      clear hx
      refine DA.ghost (fun w2 h => h.openE see 0 rfl (fun _ : Unit => [.int .u8 x20]) (fun _ => []) (fun h cs e => ⟨(), e, All.nil _⟩)) (fun _ _ => ?_)
      refine DA.phase (fun i => Nat.ble 0 i && Nat.blt i 8) (fun w2 => St w em hV [atP p18 [.int .u8 x20], elP (kInt .u8) p18 x20, atP p14 [.int .u8 x16], elP (kInt .u8) p14 x16, slP (kInt .u8) v_a_0 a_0, slP (kInt .u8) v_b_1 b_1] [] w2) ?_
      refine DT.take 0 rfl rfl rfl rfl (by kernel_rfl) (fun _ _ _ h => h) (Val.move rfl) (fun w2 hw => hw) ?_
      refine DT.take 1 rfl rfl rfl rfl (by kernel_rfl) (fun _ _ _ h => h) (Val.move rfl) (fun w2 hw => hw) ?_
      refine DT.take 2 rfl rfl rfl rfl (by kernel_rfl) (fun _ _ _ h => h) (Val.indexE h_p14 Tryd.underlying33 sz5 rfl rfl) (fun w2 hw => hw) ?_
      refine DT.take 3 rfl rfl rfl rfl (by kernel_rfl) (fun _ _ _ h => h) (Val.loadAt1 see 2 rfl Tryd.underlying5 rfl rfl) (fun w2 hw => hw) ?_
      refine DT.take 4 rfl rfl rfl rfl (by kernel_rfl) (fun _ _ _ h => h) (Val.move rfl) (fun w2 hw => hw) ?_
      refine DT.take 5 rfl rfl rfl rfl (by kernel_rfl) (fun _ _ _ h => h) (Val.move rfl) (fun w2 hw => hw) ?_
      refine DT.take 6 rfl rfl rfl rfl (by kernel_rfl) (fun _ _ _ h => h) (Val.indexE h_p18 Tryd.underlying33 sz5 rfl rfl) (fun w2 hw => hw) ?_
      refine DT.take 7 rfl rfl rfl rfl (by kernel_rfl) (fun _ _ _ h => h) (Val.loadAt1 see 0 rfl Tryd.underlying5 rfl rfl) (fun w2 hw => hw) ?_
      refine DT.next (by kernel_rfl) ?_
      refine DA.one 8 rfl (by kernel_rfl) ?_
      refine SP.val (Val.neq rfl rfl) rfl rfl rfl ?_
      refine SP.nil ?_
      refine QE.atA ?_
      refine DA.done (by kernel_rfl) ?_
      refine QE.then ?_
      rcases if_some ho with ⟨hc, ho⟩ | ⟨hc, ho⟩
      · refine CP.condT rfl (decide_eq_true hc) ?_
        refine CP.seq ?_
        refine CP.region ?_
        refine SP.val (Val.assign rfl) rfl rfl rfl ?_
        refine SP.nil ?_
        refine QE.then ?_
        refine CP.ret ?_
        refine QE.blockR ?_
        refine QE.thru (by intro e; cases e) ?_
        refine QE.thru (by intro e; cases e) ?_
        refine QE.blockR ?_
        refine QE.thru (by intro e; cases e) ?_
        obtain rfl := Option.some.inj ho
        obtain rfl := Option.some.inj hr
        exact QE.rets (rs := [.tmp 4]) (vs := [.bool false]) Tryd.results11 rfl ⟨RVs.tmp rfl, trivial⟩ (fun w2 h => St.done (fun a b p s => rfl) h)
      · refine CP.condF rfl (decide_eq_false hc) ?_
        refine CP.skip ?_
        refine QE.blockN ?_
        refine QE.then ?_
        refine CP.region ?_
        refine SP.val (Val.move rfl) rfl rfl rfl ?_
        refine SP.val (Val.add rfl rfl) rfl rfl rfl ?_
        refine SP.val (Val.assign rfl) rfl rfl rfl ?_
        refine SP.nil ?_
        obtain rfl := Option.some.inj ho
        exact QE.lower m13 (by omega) fun a w2 ha hw => ⟨(IntKind.i64.wrap (x12 + 1)), (by omega), hr, ha.sub ⟨rfl, rfl, rfl, trivial⟩, (St.selP [4, 5] rfl hw)⟩
    · refine CP.condF rfl (decide_eq_false hc) ?_
      refine CP.exit ?_
      refine QE.thru (by intro e; cases e) ?_
      refine QE.thru (by intro e; cases e) ?_
      refine QE.blockE ?_
      refine QE.then ?_
      refine CP.seq ?_
      refine CP.region ?_
      refine SP.val (Val.assign rfl) rfl rfl rfl ?_
      refine SP.nil ?_
      refine QE.then ?_
      refine CP.ret ?_
      obtain rfl := Option.some.inj ho
      obtain rfl := Option.some.inj hr
      exact QE.rets (rs := [.tmp 4]) (vs := [.bool true]) Tryd.results11 rfl ⟨RVs.tmp rfl, trivial⟩ (fun w2 h => St.done (fun a b p s => rfl) h)
/-! ### capstan/capstanlaw10.TypesUnseen: function 5 -/
inductive capstanlaw10_TypesUnseen.S where
  | start
  | l1 (t8 : (List types_Row) × Int) (t72 : (List types_Row) × Int) (x145 : Int)

def capstanlaw10_TypesUnseen.j1 (m_0 : api_Module) (k_1 : Int) (a2 : Int) (other_3 : Int) (t8 : (List types_Row) × Int) (t72 : (List types_Row) × Int) (x145 : Int) (b178 : Bool) : Option (capstanlaw10_TypesUnseen.S ⊕ Bool) :=
  if b178 = true then (some (.inr false)) else (some (.inl (.l1 t8 t72 (IntKind.i64.wrap (x145 + 1)))))

def capstanlaw10_TypesUnseen.F (m_0 : api_Module) (k_1 : Int) (a2 : Int) (other_3 : Int) : capstanlaw10_TypesUnseen.S → Option (capstanlaw10_TypesUnseen.S ⊕ Bool)
  | .start => (capstanlaw10_awake.f ).bind fun t6 => if (!t6) = true then (some (.inr false)) else ((capstanlaw08_Great.f m_0).bind fun t7 => if t7 = true then (some (.inr true)) else ((types_Rows.f m_0 k_1).bind fun t8 => (if (((((decide (t8.2 ≠ 0)) || (decide (k_1 < 0))) || (decide (k_1 ≥ (m_0.Methods.length : Int)))) || (decide (a2 < 0))) || (decide (a2 ≥ (IntKind.i64.wrap ((t8.1.length : Int) - 1))))) = true then (some true) else ((elt m_0.Methods k_1).bind fun x23 => some (decide (a2 ≥ (x23.Code.length : Int))))).bind fun t28 => (if t28 = true then (some true) else ((elt t8.1 a2).bind fun x32 => some x32.Reached)).bind fun t34 => if t34 = true then (some (.inr true)) else ((capstanref08_Copy.f m_0).bind fun t35 => (elt t35.Methods k_1).bind fun x45 => (elt x45.Code a2).bind fun x51 => (op_Leads.f x51.Op).bind fun t54 => if (t54 || (decide (x51.Op = 28))) = true then (some (.inr true)) else ((elt t35.Methods k_1).bind fun x60 => if (([0, 9, 31, 32, 6, 8] : List Int).length : Int) ≠ 0 then ((elt ([0, 9, 31, 32, 6, 8] : List Int) (Int.tmod (IntKind.i64.wrap other_3) (([0, 9, 31, 32, 6, 8] : List Int).length : Int))).bind fun x68 => (elt x60.Code a2).bind fun x71 => (types_Rows.f (⟨t35.Globals, t35.Pool, t35.Methods.set k_1.toNat (api_Method.set_Code x60 (x60.Code.set a2.toNat (⟨x68, 0, 0⟩ : api_Instr))), t35.Migrate⟩ : api_Module) k_1).bind fun t72 => if ((decide (t72.2 ≠ 0)) || (decide ((t8.1.length : Int) ≠ (t72.1.length : Int)))) = true then (some (.inr false)) else (some (.inl (.l1 t8 t72 0)))) else none))))
  | .l1 t8 t72 x145 => if x145 < (t8.1.length : Int) then ((elt t8.1 x145).bind fun x149 => (elt t72.1 x145).bind fun x155 => if (!(x149.Reached == x155.Reached)) = true then (capstanlaw10_TypesUnseen.j1 m_0 k_1 a2 other_3 t8 t72 x145 true) else ((elt t8.1 x145).bind fun x163 => (elt t72.1 x145).bind fun x171 => (capstanref07_SameKinds.f x163.Kinds x171.Kinds).bind fun t177 => capstanlaw10_TypesUnseen.j1 m_0 k_1 a2 other_3 t8 t72 x145 (!t177))) else (some (.inr true))

def capstanlaw10_TypesUnseen.f (m_0 : api_Module) (k_1 : Int) (a2 : Int) (other_3 : Int) : Option Bool := runF (capstanlaw10_TypesUnseen.F m_0 k_1 a2 other_3) .start
theorem capstanlaw10_TypesUnseen.ok (m_0 : api_Module) (k_1 : Int) (a2 : Int) (other_3 : Int) (v_m_0_Globals : Value) (v_m_0_Pool : Value) (v_m_0_Methods : Value)  (r : Bool) (H : capstanlaw10_TypesUnseen.f m_0 k_1 a2 other_3 = some r) (w : World) (hV : Hp) (sV : Sub hV (hp w)) (h0 : slR k_api_Value hV v_m_0_Globals m_0.Globals) (h1 : slR k_api_Value hV v_m_0_Pool m_0.Pool) (h2 : slR k_api_Method hV v_m_0_Methods m_0.Methods) (h3 : (arrP k_arr136 0 tab0).p hV) :
    Trip Tryd.prog 5 [.agg #[v_m_0_Globals, v_m_0_Pool, v_m_0_Methods, .int .i64 m_0.Migrate], .int .i64 k_1, .int .i64 a2, .int .u8 other_3].toArray em hV w (fun v => HO.pure (v = .bool r)) := by
  have see : Sees w em hV := ⟨sV, Dj.em_right _⟩
  refine Trip.of (P := Tryd.prog) (n := ⟨152, []⟩) Tryd.func5 rfl ⟨rfl, rfl⟩ rfl (St.begin (All.cons (x := slP k_api_Value v_m_0_Globals m_0.Globals) h0 (All.cons (x := slP k_api_Value v_m_0_Pool m_0.Pool) h1 (All.cons (x := slP k_api_Method v_m_0_Methods m_0.Methods) h2 (All.cons (x := arrP k_arr136 0 tab0) h3 (All.nil _)))))) ?_
  obtain ⟨n0, hi⟩ := runF_iff.1 H
  obtain ⟨m0, o, hm0, ho, hr⟩ := iter_some hi
  clear hi
  refine CP.seq ?_
  refine CP.region ?_
  refine SP.box (cs := [v_m_0_Globals, v_m_0_Pool, v_m_0_Methods, .int .i64 m_0.Migrate]) rfl rfl rfl rfl (fun b4 => ?_)
  refine SP.val (Val.assign rfl) rfl rfl rfl ?_
  refine SP.nil ?_
  refine QE.then ?_
  refine CP.seq ?_
  refine CP.seq ?_
  refine CP.region ?_
  obtain ⟨t6, hc, ho⟩ := bind_some (x := capstanlaw10_awake.f ) ho
  refine SP.callV see (caps := []) (.bool t6) fn7 rfl rfl rfl rfl (fun w2 hP hs sub ap => capstanlaw10_awake.ok   _ hc w2 hP sub (ap.get 3 rfl)) ?_
  clear hc
  refine SP.val (Val.notB rfl) rfl rfl rfl ?_
  refine SP.nil ?_
  refine QE.then ?_
  rcases if_some ho with ⟨hc, ho⟩ | ⟨hc, ho⟩
  · refine CP.condT rfl hc ?_
    refine CP.seq ?_
    refine CP.region ?_
    refine SP.val (Val.assign rfl) rfl rfl rfl ?_
    refine SP.nil ?_
    refine QE.then ?_
    refine CP.ret ?_
    refine QE.thru (by intro e; cases e) ?_
    obtain rfl := Option.some.inj ho
    obtain rfl := Option.some.inj hr
    exact QE.rets (rs := [.tmp 8]) (vs := [.bool false]) Tryd.results5 rfl ⟨RVs.tmp rfl, trivial⟩ (fun w2 h => St.done (fun a b p s => rfl) h)
  · refine CP.condF rfl (bf hc) ?_
    refine CP.skip ?_
    refine QE.then ?_
    refine CP.seq ?_
    refine CP.seq ?_
    refine CP.region ?_
    refine SP.val (Val.loadA 0 rfl Tryd.underlying25 rfl sz25 rfl rfl rfl) rfl rfl rfl ?_
    obtain ⟨t7, hc, ho⟩ := bind_some (x := capstanlaw08_Great.f m_0) ho
    refine SP.callV see (caps := []) (.bool t7) fn8 rfl rfl rfl rfl (fun w2 hP hs sub ap => capstanlaw08_Great.ok m_0 _ _ _ _ hc w2 hP sub (ap.get 0 rfl) (ap.get 1 rfl) (ap.get 2 rfl)) ?_
    clear hc
    refine SP.nil ?_
    refine QE.then ?_
    rcases if_some ho with ⟨hc, ho⟩ | ⟨hc, ho⟩
    · refine CP.condT rfl hc ?_
      refine CP.seq ?_
      refine CP.region ?_
      refine SP.val (Val.assign rfl) rfl rfl rfl ?_
      refine SP.nil ?_
      refine QE.then ?_
      refine CP.ret ?_
      refine QE.thru (by intro e; cases e) ?_
      obtain rfl := Option.some.inj ho
      obtain rfl := Option.some.inj hr
      exact QE.rets (rs := [.tmp 8]) (vs := [.bool true]) Tryd.results5 rfl ⟨RVs.tmp rfl, trivial⟩ (fun w2 h => St.done (fun a b p s => rfl) h)
    · refine CP.condF rfl (bf hc) ?_
      refine CP.skip ?_
      refine QE.then ?_
      refine CP.seq ?_
      refine CP.region ?_
      refine SP.val (Val.loadA 0 rfl Tryd.underlying25 rfl sz25 rfl rfl rfl) rfl rfl rfl ?_
      refine SP.val (Val.move rfl) rfl rfl rfl ?_
      obtain ⟨t8, hc, ho⟩ := bind_some (x := types_Rows.f m_0 k_1) ho
      refine SP.callK see (caps := []) _ fn9 rfl rfl rfl rfl (fun w2 hP hs sub ap => types_Rows.ok m_0 k_1 _ _ _ _ hc w2 hP sub (ap.get 0 rfl) (ap.get 1 rfl) (ap.get 2 rfl) (ap.get 3 rfl)) (fun vr => ?_)
      refine SP.ex (fun w2 h => St.open h) (fun v9 => ?_)
      refine SP.have (fun w2 h => (St.pand h).1.symm) (fun er => ?_)
      subst er
      refine SP.imp (fun w2 h => St.seps (St.pand h).2) ?_
      clear hc
      refine SP.val (Val.move rfl) rfl rfl rfl ?_
      refine SP.val (Val.extract rfl rfl) rfl rfl rfl ?_
      refine SP.val (Val.extract rfl rfl) rfl rfl rfl ?_
      refine SP.val (Val.assign rfl) rfl rfl rfl ?_
      refine SP.val (Val.assign rfl) rfl rfl rfl ?_
      refine SP.nil ?_
      refine QE.then ?_
      refine CP.seq ?_
      refine CP.seq ?_
      refine CP.region ?_
      refine SP.val (Val.move rfl) rfl rfl rfl ?_
      refine SP.val (Val.neq rfl rfl) rfl rfl rfl ?_
      refine SP.val (Val.move rfl) rfl rfl rfl ?_
      refine SP.join 3 (fun a w2 => Env ⟨152, []⟩ [(1, .int .i64 k_1), (2, .int .i64 a2), (3, .int .u8 other_3), (4, .pointer (some ⟨b4, 0, none⟩)), (9, v9), (32, .bool ((decide (t8.2 ≠ 0)) || (decide (k_1 < 0))))] a ∧ St w em hV [slP k_api_Value v_m_0_Globals m_0.Globals, slP k_api_Value v_m_0_Pool m_0.Pool, slP k_api_Method v_m_0_Methods m_0.Methods, arrP k_arr136 0 tab0] [slO k_types_Row 39 v9 t8.1, boxO b4 [v_m_0_Globals, v_m_0_Pool, v_m_0_Methods, .int .i64 m_0.Migrate] 25] w2) ?_ ?_
      · rintro a w2 ⟨ha, hw⟩
        refine SP.app ha hw ?_
        clear ha hw a w2
        refine SP.val (Val.move rfl) rfl rfl rfl ?_
        refine SP.join 6 (fun a w2 => Env ⟨152, []⟩ [(1, .int .i64 k_1), (2, .int .i64 a2), (3, .int .u8 other_3), (4, .pointer (some ⟨b4, 0, none⟩)), (9, v9), (39, .bool (((decide (t8.2 ≠ 0)) || (decide (k_1 < 0))) || (decide (k_1 ≥ (m_0.Methods.length : Int)))))] a ∧ St w em hV [slP k_api_Value v_m_0_Globals m_0.Globals, slP k_api_Value v_m_0_Pool m_0.Pool, slP k_api_Method v_m_0_Methods m_0.Methods, arrP k_arr136 0 tab0] [slO k_types_Row 39 v9 t8.1, boxO b4 [v_m_0_Globals, v_m_0_Pool, v_m_0_Methods, .int .i64 m_0.Migrate] 25] w2) ?_ ?_
        · rintro a w2 ⟨ha, hw⟩
          refine SP.app ha hw ?_
          clear ha hw a w2
          refine SP.val (Val.move rfl) rfl rfl rfl ?_
          refine SP.join 3 (fun a w2 => Env ⟨152, []⟩ [(1, .int .i64 k_1), (2, .int .i64 a2), (3, .int .u8 other_3), (4, .pointer (some ⟨b4, 0, none⟩)), (9, v9), (43, .bool ((((decide (t8.2 ≠ 0)) || (decide (k_1 < 0))) || (decide (k_1 ≥ (m_0.Methods.length : Int)))) || (decide (a2 < 0))))] a ∧ St w em hV [slP k_api_Value v_m_0_Globals m_0.Globals, slP k_api_Value v_m_0_Pool m_0.Pool, slP k_api_Method v_m_0_Methods m_0.Methods, arrP k_arr136 0 tab0] [slO k_types_Row 39 v9 t8.1, boxO b4 [v_m_0_Globals, v_m_0_Pool, v_m_0_Methods, .int .i64 m_0.Migrate] 25] w2) ?_ ?_
          · rintro a w2 ⟨ha, hw⟩
            refine SP.app ha hw ?_
            clear ha hw a w2
            refine SP.val (Val.move rfl) rfl rfl rfl ?_
            refine SP.join 6 (fun a w2 => Env ⟨152, []⟩ [(1, .int .i64 k_1), (2, .int .i64 a2), (3, .int .u8 other_3), (4, .pointer (some ⟨b4, 0, none⟩)), (9, v9), (50, .bool (((((decide (t8.2 ≠ 0)) || (decide (k_1 < 0))) || (decide (k_1 ≥ (m_0.Methods.length : Int)))) || (decide (a2 < 0))) || (decide (a2 ≥ (IntKind.i64.wrap ((t8.1.length : Int) - 1))))))] a ∧ St w em hV [slP k_api_Value v_m_0_Globals m_0.Globals, slP k_api_Value v_m_0_Pool m_0.Pool, slP k_api_Method v_m_0_Methods m_0.Methods, arrP k_arr136 0 tab0] [slO k_types_Row 39 v9 t8.1, boxO b4 [v_m_0_Globals, v_m_0_Pool, v_m_0_Methods, .int .i64 m_0.Migrate] 25] w2) ?_ ?_
            · rintro a w2 ⟨ha, hw⟩
              refine SP.app ha hw ?_
              clear ha hw a w2
              refine SP.val (Val.move rfl) rfl rfl rfl ?_
              obtain ⟨t28, hg_t28, ho⟩ := bind_some ho
              refine SP.join 10 (fun a w2 => Env ⟨152, []⟩ [(1, .int .i64 k_1), (2, .int .i64 a2), (3, .int .u8 other_3), (4, .pointer (some ⟨b4, 0, none⟩)), (9, v9), (61, .bool t28)] a ∧ St w em hV [slP k_api_Value v_m_0_Globals m_0.Globals, slP k_api_Value v_m_0_Pool m_0.Pool, slP k_api_Method v_m_0_Methods m_0.Methods, arrP k_arr136 0 tab0] [slO k_types_Row 39 v9 t8.1, boxO b4 [v_m_0_Globals, v_m_0_Pool, v_m_0_Methods, .int .i64 m_0.Migrate] 25] w2) ?_ ?_
              · rintro a w2 ⟨ha, hw⟩
                refine SP.app ha hw ?_
                clear ha hw a w2 hg_t28
                refine SP.val (Val.move rfl) rfl rfl rfl ?_
                obtain ⟨t34, hg_t34, ho⟩ := bind_some ho
                refine SP.join 6 (fun a w2 => Env ⟨152, []⟩ [(1, .int .i64 k_1), (2, .int .i64 a2), (3, .int .u8 other_3), (4, .pointer (some ⟨b4, 0, none⟩)), (9, v9), (68, .bool t34)] a ∧ St w em hV [slP k_api_Value v_m_0_Globals m_0.Globals, slP k_api_Value v_m_0_Pool m_0.Pool, slP k_api_Method v_m_0_Methods m_0.Methods, arrP k_arr136 0 tab0] [slO k_types_Row 39 v9 t8.1, boxO b4 [v_m_0_Globals, v_m_0_Pool, v_m_0_Methods, .int .i64 m_0.Migrate] 25] w2) ?_ ?_
                · rintro a w2 ⟨ha, hw⟩
                  refine SP.app ha hw ?_
                  clear ha hw a w2 hg_t34
                  refine SP.nil ?_
                  refine QE.then ?_
                  rcases if_some ho with ⟨hc, ho⟩ | ⟨hc, ho⟩
                  · refine CP.condT rfl hc ?_
                    refine CP.seq ?_
                    refine CP.region ?_
                    refine SP.val (Val.assign rfl) rfl rfl rfl ?_
                    refine SP.nil ?_
                    refine QE.then ?_
                    refine CP.ret ?_
                    refine QE.thru (by intro e; cases e) ?_
                    obtain rfl := Option.some.inj ho
                    obtain rfl := Option.some.inj hr
                    exact QE.rets (rs := [.tmp 8]) (vs := [.bool true]) Tryd.results5 rfl ⟨RVs.tmp rfl, trivial⟩ (fun w2 h => St.done (fun a b p s => rfl) h)
                  · refine CP.condF rfl (bf hc) ?_
                    refine CP.skip ?_
                    refine QE.then ?_
                    refine CP.seq ?_
                    refine CP.region ?_
                    refine SP.val (Val.loadA 1 rfl Tryd.underlying25 rfl sz25 rfl rfl rfl) rfl rfl rfl ?_
                    obtain ⟨t35, hc, ho⟩ := bind_some (x := capstanref08_Copy.f m_0) ho
                    refine SP.callK see (caps := []) _ fn15 rfl rfl rfl rfl (fun w2 hP hs sub ap => capstanref08_Copy.ok m_0 _ _ _ _ hc w2 hP sub (ap.get 0 rfl) (ap.get 1 rfl) (ap.get 2 rfl)) (fun vr => ?_)
                    refine SP.ex (fun w2 h => St.open h) (fun v36 => ?_)
                    refine SP.ex (fun w2 h => St.open h) (fun v37 => ?_)
                    refine SP.ex (fun w2 h => St.open h) (fun v38 => ?_)
                    refine SP.have (fun w2 h => (St.pand h).1.symm) (fun er => ?_)
                    subst er
                    refine SP.imp (fun w2 h => St.seps (St.pand h).2) ?_
                    clear hc
                    refine SP.alloc (cs := [(.slice none 0 0), (.slice none 0 0), (.slice none 0 0), .int .i64 0]) inf25 rfl rfl (fun b42 => ?_)
                    refine SP.have (fun w2 hw => slO.shape (St.own 1 rfl see.sub see.dj hw)) (fun hs_v36 => ?_)
                    refine SP.have (fun w2 hw => slO.shape (St.own 2 rfl see.sub see.dj hw)) (fun hs_v37 => ?_)
                    refine SP.have (fun w2 hw => slD.shape (St.own 3 rfl see.sub see.dj hw)) (fun hs_v38 => ?_)
                    refine SP.store (v := .agg #[v36, v37, v38, .int .i64 t35.Migrate]) (vs := [v36, v37, v38, .int .i64 t35.Migrate]) 0 (by rfl) sz25 (by rfl) (by rfl) (by rfl) (by rfl) (one_cons hs_v36 (one_cons hs_v37 (one_cons hs_v38 (one_cons rfl (rfl))))) (by rfl) ?_
                    refine SP.nil ?_
                    refine QE.then ?_
                    refine CP.seq ?_
                    refine CP.region ?_
                    refine SP.val (Val.fieldAddr Tryd.underlying25 rfl sz23 rfl) rfl rfl rfl ?_
                    refine SP.val (Val.load1 0 rfl Tryd.underlying23 rfl rfl rfl) rfl rfl rfl ?_
                    refine SP.val (Val.move rfl) rfl rfl rfl ?_
                    obtain ⟨x45, hx_x45, ho⟩ := bind_some ho
                    have hx_x45 := elt_some hx_x45
                    refine SP.indexW (fun w2 hw => slD.flat (St.own 3 rfl see.sub see.dj hw) (Sub.refl _) (Sub.refl _)) Tryd.underlying23 sz36 hx_x45.1 hx_x45.2 rfl rfl rfl rfl (fun p44 h_p44 => ?_)
                    refine SP.fieldO h_p44 Tryd.underlying36 rfl sz34 rfl rfl rfl (fun p46 h_p46 => ?_)
                    refine SP.imp (fun w2 hw => St.selO [3, 0, 1, 2, 4, 5] rfl rfl hw) ?_
                    refine SP.loadDS o_api_Method.leaf7 hx_x45.2 h_p46 Tryd.underlying34 rfl rfl rfl (fun v47 => ?_)
                    refine SP.val (Val.move rfl) rfl rfl rfl ?_
                    obtain ⟨x51, hx_x51, ho⟩ := bind_some ho
                    have hx_x51 := elt_some hx_x51
                    refine SP.indexW (fun w2 hw => slO.whole (St.own 0 rfl see.sub see.dj hw)) Tryd.underlying34 sz45 hx_x51.1 hx_x51.2 rfl rfl rfl rfl (fun p50 h_p50 => ?_)
                    refine SP.val (Val.loadOA see 0 rfl hx_x51.2 h_p50 (fun _ _ e => e) Tryd.underlying45 rfl sz45 rfl) rfl rfl rfl ?_
                    refine SP.alloc (cs := [.int .u8 0, .int .i64 0, .int .i64 0]) inf45 rfl rfl (fun b52 => ?_)
                    refine SP.store (v := .agg #[.int .u8 x51.Op, .int .i64 x51.A, .int .i64 x51.B]) (vs := [.int .u8 x51.Op, .int .i64 x51.A, .int .i64 x51.B]) 0 (by rfl) sz45 (by rfl) (by rfl) (by rfl) (by rfl) (by rfl) (by rfl) ?_
                    refine SP.nil ?_
                    refine QE.then ?_
                    refine CP.seq ?_
                    refine CP.seq ?_
                    refine CP.region ?_
                    refine SP.val (Val.fieldAddr Tryd.underlying45 rfl sz5 rfl) rfl rfl rfl ?_
                    refine SP.val (Val.load1 0 rfl Tryd.underlying5 rfl rfl rfl) rfl rfl rfl ?_
                    obtain ⟨t54, hc, ho⟩ := bind_some (x := op_Leads.f x51.Op) ho
                    refine SP.callV see (caps := []) (.bool t54) fn17 rfl rfl rfl rfl (fun w2 hP hs sub ap => op_Leads.ok x51.Op  _ hc w2 hP sub ) ?_
                    clear hc
                    refine SP.val (Val.move rfl) rfl rfl rfl ?_
                    refine SP.join 4 (fun a w2 => Env ⟨152, []⟩ [(1, .int .i64 k_1), (2, .int .i64 a2), (3, .int .u8 other_3), (9, v9), (11, .pointer (some ⟨b42, 0, none⟩)), (87, .bool (t54 || (decide (x51.Op = 28))))] a ∧ St w em hV [slP k_api_Value v_m_0_Globals m_0.Globals, slP k_api_Value v_m_0_Pool m_0.Pool, slP k_api_Method v_m_0_Methods m_0.Methods, arrP k_arr136 0 tab0] [boxO b52 [.int .u8 x51.Op, .int .i64 x51.A, .int .i64 x51.B] 45, slO k_api_Instr 45 v47 x45.Code, holeO o_api_Method 36 v38 t35.Methods (k_1).toNat x45 api_Method.set_Code k_api_Instr 45 v47, boxO b42 [v36, v37, v38, .int .i64 t35.Migrate] 25, slO k_api_Value 52 v36 t35.Globals, slO k_api_Value 52 v37 t35.Pool, slO k_types_Row 39 v9 t8.1, boxO b4 [v_m_0_Globals, v_m_0_Pool, v_m_0_Methods, .int .i64 m_0.Migrate] 25] w2) ?_ ?_
                    · rintro a w2 ⟨ha, hw⟩
                      refine SP.app ha hw ?_
                      clear ha hw a w2
                      refine SP.nil ?_
                      refine QE.then ?_
                      rcases if_some ho with ⟨hc, ho⟩ | ⟨hc, ho⟩
                      · refine CP.condT rfl hc ?_
                        refine CP.seq ?_
                        refine CP.region ?_
                        refine SP.val (Val.assign rfl) rfl rfl rfl ?_
                        refine SP.nil ?_
                        refine QE.then ?_
                        refine CP.ret ?_
                        refine QE.thru (by intro e; cases e) ?_
                        refine QE.imp (fun w2 hw => St.selO [1, 2, 0, 3, 4, 5, 6, 7] rfl rfl hw) ?_
                        refine QE.imp (fun w2 hw => St.unfocus0 hx_x45.2 rfl hw) ?_
                        obtain rfl := Option.some.inj ho
                        obtain rfl := Option.some.inj hr
                        exact QE.rets (rs := [.tmp 8]) (vs := [.bool true]) Tryd.results5 rfl ⟨RVs.tmp rfl, trivial⟩ (fun w2 h => St.done (fun a b p s => rfl) h)
                      · refine CP.condF rfl (bf hc) ?_
                        refine CP.skip ?_
                        refine QE.then ?_
                        refine CP.seq ?_
                        refine CP.region ?_
                        refine SP.lit (k := (kInt .u8)) (xs := ([0, 9, 31, 32, 6, 8] : List Int)) (vs := [.int .u8 0, .int .u8 9, .int .u8 31, .int .u8 32, .int .u8 6, .int .u8 8]) (cells := [.int .u8 0, .int .u8 9, .int .u8 31, .int .u8 32, .int .u8 6, .int .u8 8]) Tryd.underlying33 inf5 rfl rfl rfl rfl rfl rfl rfl rfl (fun _ ap => ⟨[.int .u8 0], _, rfl, rfl, ⟨[.int .u8 9], _, rfl, rfl, ⟨[.int .u8 31], _, rfl, rfl, ⟨[.int .u8 32], _, rfl, rfl, ⟨[.int .u8 6], _, rfl, rfl, ⟨[.int .u8 8], _, rfl, rfl, rfl⟩⟩⟩⟩⟩⟩) rfl rfl rfl (fun v57 => ?_)
                        refine SP.val (Val.assign rfl) rfl rfl rfl ?_
                        refine SP.nil ?_
                        refine QE.then ?_
                        refine CP.seq ?_
                        refine CP.freezeS see 0 rfl ?_
                        refine CP.drawA (by kernel_rfl) (fun w2 k h => h.drawn k) ?_
                        refine DA.imp (fun w2 hw => St.selO [1, 2, 0, 3, 4, 5, 6, 7] rfl rfl hw) ?_
                        refine DA.imp (fun w2 hw => St.unfocus0 hx_x45.2 rfl hw) ?_
                        obtain ⟨x60, hx_x60, ho⟩ := bind_some ho
                        have hx_x60 := elt_some hx_x60
                        refine DA.ghost (fun w2 hw => let ⟨z, hz⟩ := ixC ((fun w2 hw => slD.flat (St.own 0 rfl see.sub see.dj hw) (Sub.refl _) (Sub.refl _)) w2 hw) hx_x60.1 hx_x60.2; ⟨z, hz, hw⟩) (fun p59 i_p59 => ?_)
                        have h_p59 := i_p59.1
                        obtain ⟨p61, h_p61⟩ := PtC.more h_p59 7
                        refine DA.ghost (fun w2 hw => St.learnC (off := 7) (j := k_1) o_api_Method.leaf7 hx_x60.2 hw) (fun v62 _ => ?_)
                        obtain ⟨hz65, ho⟩ := must_some ho
                        obtain ⟨x68, hx, ho⟩ := bind_some ho
                        have hx := elt_some hx
                        refine DA.ghost (fun w2 h => h.elem see 0 rfl hx.1 hx.2) (fun p66 h_p66 => ?_)
                        clear hx
                        refine DA.ghost (fun w2 h => h.openE see 0 rfl (fun _ : Unit => [.int .u8 x68]) (fun _ => []) (fun h cs e => ⟨(), e, All.nil _⟩)) (fun _ _ => ?_)
                        refine DA.phase (fun i => Nat.ble 0 i && Nat.blt i 16) (fun w2 => St w em hV [atP p66 [.int .u8 x68], elP (kInt .u8) p66 x68, slP (kInt .u8) v57 ([0, 9, 31, 32, 6, 8] : List Int), slP k_api_Value v_m_0_Globals m_0.Globals, slP k_api_Value v_m_0_Pool m_0.Pool, slP k_api_Method v_m_0_Methods m_0.Methods, arrP k_arr136 0 tab0] [slDc o_api_Method 36 v38 t35.Methods (k_1 : Int) 7 v62, boxO b52 [.int .u8 x51.Op, .int .i64 x51.A, .int .i64 x51.B] 45, boxO b42 [v36, v37, v38, .int .i64 t35.Migrate] 25, slO k_api_Value 52 v36 t35.Globals, slO k_api_Value 52 v37 t35.Pool, slO k_types_Row 39 v9 t8.1, boxO b4 [v_m_0_Globals, v_m_0_Pool, v_m_0_Methods, .int .i64 m_0.Migrate] 25] w2) ?_
                        refine DT.take 0 rfl rfl rfl rfl (by kernel_rfl) (fun _ _ _ h => h) (Val.fieldAddr Tryd.underlying25 rfl sz23 rfl) (fun w2 hw => hw) ?_
                        refine DT.take 1 rfl rfl rfl rfl (by kernel_rfl) (fun _ _ _ h => h) (Val.load1 2 rfl Tryd.underlying23 rfl rfl rfl) (fun w2 hw => hw) ?_
                        refine DT.take 2 rfl rfl rfl rfl (by kernel_rfl) (fun _ _ _ h => h) (Val.move rfl) (fun w2 hw => hw) ?_
                        refine DT.take 3 rfl rfl rfl rfl (by kernel_rfl) (fun _ _ _ h => h) (Val.indexC' i_p59 Tryd.underlying23 sz36 rfl rfl) (fun w2 hw => hw) ?_
                        refine DT.take 4 rfl rfl rfl rfl (by kernel_rfl) (fun _ _ _ h => h) (Val.fieldC h_p59 h_p61 Tryd.underlying36 rfl rfl sz34 rfl) (fun w2 hw => hw) ?_
                        refine DT.take 5 rfl rfl rfl rfl (by kernel_rfl) (fun _ _ _ h => h) (Val.loadC see 0 rfl h_p61 Tryd.underlying34 rfl) (fun w2 hw => hw) ?_
                        refine DT.take 6 rfl rfl rfl rfl (by kernel_rfl) (fun _ _ _ h => h) (Val.move rfl) (fun w2 hw => hw) ?_
                        refine DT.take 7 rfl rfl rfl rfl (by kernel_rfl) (fun _ _ _ h => h) (Val.move rfl) (fun w2 hw => hw) ?_
                        refine DT.take 8 rfl rfl rfl rfl (by kernel_rfl) (fun _ _ _ h => h) (Val.move rfl) (fun w2 hw => hw) ?_
                        refine DT.take 9 rfl rfl rfl rfl (by kernel_rfl) (fun _ _ _ h => h) (Val.conv (by rw [Tryd.underlying5]; rfl) Tryd.underlying3 rfl) (fun w2 hw => hw) ?_
                        refine DT.take 10 rfl rfl rfl rfl (by kernel_rfl) (fun _ _ _ h => h) (Val.move rfl) (fun w2 hw => hw) ?_
                        refine DT.take 11 rfl rfl rfl rfl (by kernel_rfl) (fun _ _ _ h => h) (Val.lenP see 2 rfl Tryd.underlying33 rfl) (fun w2 hw => hw) ?_
                        refine DT.take 12 rfl rfl rfl rfl (by kernel_rfl) (fun _ _ _ h => h) (Val.rem rfl rfl hz65) (fun w2 hw => hw) ?_
                        refine DT.take 13 rfl rfl rfl rfl (by kernel_rfl) (fun _ _ _ h => h) (Val.indexE h_p66 Tryd.underlying33 sz5 rfl rfl) (fun w2 hw => hw) ?_
                        refine DT.take 14 rfl rfl rfl rfl (by kernel_rfl) (fun _ _ _ h => h) (Val.loadAt1 see 0 rfl Tryd.underlying5 rfl rfl) (fun w2 hw => hw) ?_
                        refine DT.take 15 rfl rfl rfl rfl (by kernel_rfl) (fun _ _ _ h => h) (Val.buildC (us := [(0, .int .u8 x68)]) (ucs := [(0, [.int .u8 x68])]) (cs := [.int .u8 x68, .int .i64 0, .int .i64 0]) bt45 rfl rfl ⟨rfl, rfl, trivial⟩ (by rfl)) (fun w2 hw => hw) ?_
                        refine DT.next (by kernel_rfl) ?_
                        refine DA.imp (fun w2 hw => St.focusC o_api_Method.leaf7 hx_x60.2 hw) ?_
                        refine DA.one 16 rfl (by kernel_rfl) ?_
                        obtain ⟨x71, hx_x71, ho⟩ := bind_some ho
                        have hx_x71 := elt_some hx_x71
                        refine SP.indexW (fun w2 hw => slO.whole (St.own 0 rfl see.sub see.dj hw)) Tryd.underlying34 sz45 hx_x71.1 hx_x71.2 rfl rfl rfl rfl (fun p70 h_p70 => ?_)
                        refine SP.nil ?_
                        refine QE.atA ?_
                        refine DA.one 17 rfl (by kernel_rfl) ?_
                        refine SP.storeO (z0 := (⟨x68, 0, 0⟩ : api_Instr)) (off := 0) (vs := [.int .u8 x68, .int .i64 0, .int .i64 0]) see 0 rfl hx_x71.2 h_p70 rfl rfl sz45 rfl (fun a cs _ e => by subst e; rfl) rfl rfl rfl ?_
                        refine SP.nil ?_
                        refine QE.atA ?_
                        refine DA.done (by kernel_rfl) ?_
                        refine QE.then ?_
                        refine CP.seq ?_
                        refine CP.region ?_
                        refine SP.val (Val.loadA 3 rfl Tryd.underlying25 rfl sz25 rfl rfl rfl) rfl rfl rfl ?_
                        refine SP.val (Val.move rfl) rfl rfl rfl ?_
                        refine SP.imp (fun w2 hw => St.unfocus hw) ?_
                        refine SP.freezeS see 3 rfl ?_
                        refine SP.freezeS see 3 rfl ?_
                        refine SP.freezeD see 0 rfl ?_
                        obtain ⟨t72, hc, ho⟩ := bind_some (x := types_Rows.f (⟨t35.Globals, t35.Pool, t35.Methods.set k_1.toNat (api_Method.set_Code x60 (x60.Code.set a2.toNat (⟨x68, 0, 0⟩ : api_Instr))), t35.Migrate⟩ : api_Module) k_1) ho
                        refine SP.callK see (caps := []) _ fn9 rfl rfl rfl rfl (fun w2 hP hs sub ap => types_Rows.ok (⟨t35.Globals, t35.Pool, t35.Methods.set k_1.toNat (api_Method.set_Code x60 (x60.Code.set a2.toNat (⟨x68, 0, 0⟩ : api_Instr))), t35.Migrate⟩ : api_Module) k_1 _ _ _ _ hc w2 hP sub (ap.get 2 rfl) (ap.get 1 rfl) (ap.get 0 rfl) (ap.get 9 rfl)) (fun vr => ?_)
                        refine SP.ex (fun w2 h => St.open h) (fun v73 => ?_)
                        refine SP.have (fun w2 h => (St.pand h).1.symm) (fun er => ?_)
                        subst er
                        refine SP.imp (fun w2 h => St.seps (St.pand h).2) ?_
                        clear hc
                        refine SP.val (Val.move rfl) rfl rfl rfl ?_
                        refine SP.val (Val.extract rfl rfl) rfl rfl rfl ?_
                        refine SP.val (Val.extract rfl rfl) rfl rfl rfl ?_
                        refine SP.val (Val.assign rfl) rfl rfl rfl ?_
                        refine SP.val (Val.assign rfl) rfl rfl rfl ?_
                        refine SP.nil ?_
                        refine QE.then ?_
                        refine CP.seq ?_
                        refine CP.seq ?_
                        refine CP.region ?_
                        refine SP.val (Val.move rfl) rfl rfl rfl ?_
                        refine SP.val (Val.neq rfl rfl) rfl rfl rfl ?_
                        refine SP.val (Val.move rfl) rfl rfl rfl ?_
                        refine SP.join 6 (fun a w2 => Env ⟨152, []⟩ [(9, v9), (14, v73), (120, .bool ((decide (t72.2 ≠ 0)) || (decide ((t8.1.length : Int) ≠ (t72.1.length : Int)))))] a ∧ St w em hV [slP k_api_Method v38 (t35.Methods.set k_1.toNat (api_Method.set_Code x60 (x60.Code.set a2.toNat (⟨x68, 0, 0⟩ : api_Instr)))), slP k_api_Value v37 t35.Pool, slP k_api_Value v36 t35.Globals, atP p66 [.int .u8 x68], elP (kInt .u8) p66 x68, slP (kInt .u8) v57 ([0, 9, 31, 32, 6, 8] : List Int), slP k_api_Value v_m_0_Globals m_0.Globals, slP k_api_Value v_m_0_Pool m_0.Pool, slP k_api_Method v_m_0_Methods m_0.Methods, arrP k_arr136 0 tab0] [slO k_types_Row 39 v73 t72.1, boxO b52 [.int .u8 x51.Op, .int .i64 x51.A, .int .i64 x51.B] 45, boxO b42 [v36, v37, v38, .int .i64 t35.Migrate] 25, slO k_types_Row 39 v9 t8.1, boxO b4 [v_m_0_Globals, v_m_0_Pool, v_m_0_Methods, .int .i64 m_0.Migrate] 25] w2) ?_ ?_
                        · rintro a w2 ⟨ha, hw⟩
                          refine SP.app ha hw ?_
                          clear ha hw a w2
                          refine SP.nil ?_
                          refine QE.then ?_
                          rcases if_some ho with ⟨hc, ho⟩ | ⟨hc, ho⟩
                          · refine CP.condT rfl hc ?_
                            refine CP.seq ?_
                            refine CP.region ?_
                            refine SP.val (Val.assign rfl) rfl rfl rfl ?_
                            refine SP.nil ?_
                            refine QE.then ?_
                            refine CP.ret ?_
                            refine QE.thru (by intro e; cases e) ?_
                            obtain rfl := Option.some.inj ho
                            obtain rfl := Option.some.inj hr
                            exact QE.rets (rs := [.tmp 8]) (vs := [.bool false]) Tryd.results5 rfl ⟨RVs.tmp rfl, trivial⟩ (fun w2 h => St.done (fun a b p s => rfl) h)
                          · refine CP.condF rfl (bf hc) ?_
                            refine CP.skip ?_
                            refine QE.then ?_
                            refine CP.seq ?_
                            refine CP.seq ?_
                            refine CP.region ?_
                            refine SP.val (Val.assign rfl) rfl rfl rfl ?_
                            refine SP.nil ?_
                            refine QE.then ?_
                            refine CP.block ?_
                            refine CP.freezeS see 0 rfl ?_
                            refine CP.freezeS see 2 rfl ?_
                            obtain rfl := Option.some.inj ho
                            refine CP.loop (fun cl1 a w2 => ∃ x145 : Int, cl1 ≤ m0 ∧ iter (capstanlaw10_TypesUnseen.F m_0 k_1 a2 other_3) cl1 (.l1 t8 t72 x145) = some r ∧ Env ⟨152, []⟩ [(9, v9), (14, v73), (16, .int .i64 x145)] a ∧ St w em hV [slP k_types_Row v9 t8.1, slP k_types_Row v73 t72.1, arrP k_arr136 0 tab0] [] w2) m0 (fun a w2 ha hw => ⟨0, Nat.le_refl _, hr, ha.sub ⟨rfl, rfl, rfl, trivial⟩, (St.selP [0, 1, 11] rfl (St.selO [] rfl rfl hw))⟩) ?_
                            clear hr
                            rintro cl1 a w2 ⟨x145, hc_l1, hi, ha, hw⟩
                            obtain ⟨m146, o, hm_m146, ho, hr⟩ := iter_some hi
                            refine CP.app ha hw ?_
                            clear ha hw a w2 hi
                            refine CP.seq ?_
                            refine CP.seq ?_
                            refine CP.region ?_
                            refine SP.val (Val.move rfl) rfl rfl rfl ?_
                            refine SP.val (Val.move rfl) rfl rfl rfl ?_
                            refine SP.val (Val.lenP see 0 rfl Tryd.underlying29 rfl) rfl rfl rfl ?_
                            refine SP.val (Val.lss rfl rfl) rfl rfl rfl ?_
                            refine SP.nil ?_
                            refine QE.then ?_
                            rcases if_some ho with ⟨hc, ho⟩ | ⟨hc, ho⟩
                            · refine CP.condT rfl (decide_eq_true hc) ?_
                              refine CP.skip ?_
                              refine QE.then ?_
                              refine CP.seq ?_
                              refine CP.block ?_
                              refine CP.join (fun a w2 => ∃ b178 : Bool, ∃ (m179 : Nat) (o : (capstanlaw10_TypesUnseen.S ⊕ Bool)), m179 ≤ m146 ∧ capstanlaw10_TypesUnseen.j1 m_0 k_1 a2 other_3 t8 t72 x145 b178 = some o ∧ next (capstanlaw10_TypesUnseen.F m_0 k_1 a2 other_3) m179 o = some r ∧ Env ⟨152, []⟩ [(9, v9), (14, v73), (16, .int .i64 x145), (151, .bool b178)] a ∧ St w em hV [slP k_types_Row v9 t8.1, slP k_types_Row v73 t72.1, arrP k_arr136 0 tab0] [] w2) ?_ ?_
                              · rintro a w2 ⟨b178, m179, o, hm_m179, ho, hr, ha, hw⟩
                                refine CP.app ha hw ?_
                                clear ha hw a w2
                                rcases if_some ho with ⟨hc, ho⟩ | ⟨hc, ho⟩
                                · refine CP.condT rfl hc ?_
                                  refine CP.seq ?_
                                  refine CP.region ?_
                                  refine SP.val (Val.assign rfl) rfl rfl rfl ?_
                                  refine SP.nil ?_
                                  refine QE.then ?_
                                  refine CP.ret ?_
                                  refine QE.blockR ?_
                                  refine QE.thru (by intro e; cases e) ?_
                                  refine QE.thru (by intro e; cases e) ?_
                                  refine QE.blockR ?_
                                  refine QE.thru (by intro e; cases e) ?_
                                  obtain rfl := Option.some.inj ho
                                  obtain rfl := Option.some.inj hr
                                  exact QE.rets (rs := [.tmp 8]) (vs := [.bool false]) Tryd.results5 rfl ⟨RVs.tmp rfl, trivial⟩ (fun w2 h => St.done (fun a b p s => rfl) h)
                                · refine CP.condF rfl (bf hc) ?_
                                  refine CP.skip ?_
                                  refine QE.blockN ?_
                                  refine QE.then ?_
                                  refine CP.region ?_
                                  refine SP.val (Val.move rfl) rfl rfl rfl ?_
                                  refine SP.val (Val.add rfl rfl) rfl rfl rfl ?_
                                  refine SP.val (Val.assign rfl) rfl rfl rfl ?_
                                  refine SP.nil ?_
                                  obtain rfl := Option.some.inj ho
                                  exact QE.lower m179 (by omega) fun a w2 ha hw => ⟨(IntKind.i64.wrap (x145 + 1)), (by omega), hr, ha.sub ⟨rfl, rfl, rfl, trivial⟩, hw⟩
                              · refine CP.drawA (by kernel_rfl) (fun w2 k h => h.drawn k) ?_
                                obtain ⟨x149, hx, ho⟩ := bind_some ho
                                have hx := elt_some hx
                                refine DA.ghost (fun w2 h => h.elem see 0 rfl hx.1 hx.2) (fun p147 h_p147 => ?_)
                                clear hx
                                refine DA.ghost (fun w2 h => h.fieldE see 0 rfl k_types_Row.part_Reached) (fun p150 h_p150 => ?_)
                                refine DA.ghost (fun w2 h => h.openE see 0 rfl (fun _ : Unit => [.bool x149.Reached]) (fun _ => []) (fun h cs e => ⟨(), e, All.nil _⟩)) (fun _ _ => ?_)
                                obtain ⟨x155, hx, ho⟩ := bind_some ho
                                have hx := elt_some hx
                                refine DA.ghost (fun w2 h => h.elem see 4 rfl hx.1 hx.2) (fun p153 h_p153 => ?_)
                                clear hx
                                refine DA.ghost (fun w2 h => h.fieldE see 0 rfl k_types_Row.part_Reached) (fun p156 h_p156 => ?_)
                                refine DA.ghost (fun w2 h => h.openE see 0 rfl (fun _ : Unit => [.bool x155.Reached]) (fun _ => []) (fun h cs e => ⟨(), e, All.nil _⟩)) (fun _ _ => ?_)
                                refine DA.phase (fun i => Nat.ble 0 i && Nat.blt i 10) (fun w2 => St w em hV [atP p156 [.bool x155.Reached], elP kBool p156 x155.Reached, elP k_types_Row p153 x155, atP p150 [.bool x149.Reached], elP kBool p150 x149.Reached, elP k_types_Row p147 x149, slP k_types_Row v9 t8.1, slP k_types_Row v73 t72.1, arrP k_arr136 0 tab0] [] w2) ?_
                                refine DT.take 0 rfl rfl rfl rfl (by kernel_rfl) (fun _ _ _ h => h) (Val.move rfl) (fun w2 hw => hw) ?_
                                refine DT.take 1 rfl rfl rfl rfl (by kernel_rfl) (fun _ _ _ h => h) (Val.move rfl) (fun w2 hw => hw) ?_
                                refine DT.take 2 rfl rfl rfl rfl (by kernel_rfl) (fun _ _ _ h => h) (Val.indexE h_p147 Tryd.underlying29 sz39 rfl rfl) (fun w2 hw => hw) ?_
                                refine DT.take 3 rfl rfl rfl rfl (by kernel_rfl) (fun _ _ _ h => h) (Val.fieldE h_p150 Tryd.underlying39 rfl rfl sz4 rfl) (fun w2 hw => hw) ?_
                                refine DT.take 4 rfl rfl rfl rfl (by kernel_rfl) (fun _ _ _ h => h) (Val.loadAt1 see 3 rfl Tryd.underlying4 rfl rfl) (fun w2 hw => hw) ?_
                                refine DT.take 5 rfl rfl rfl rfl (by kernel_rfl) (fun _ _ _ h => h) (Val.move rfl) (fun w2 hw => hw) ?_
                                refine DT.take 6 rfl rfl rfl rfl (by kernel_rfl) (fun _ _ _ h => h) (Val.move rfl) (fun w2 hw => hw) ?_
                                refine DT.take 7 rfl rfl rfl rfl (by kernel_rfl) (fun _ _ _ h => h) (Val.indexE h_p153 Tryd.underlying29 sz39 rfl rfl) (fun w2 hw => hw) ?_
                                refine DT.take 8 rfl rfl rfl rfl (by kernel_rfl) (fun _ _ _ h => h) (Val.fieldE h_p156 Tryd.underlying39 rfl rfl sz4 rfl) (fun w2 hw => hw) ?_
                                refine DT.take 9 rfl rfl rfl rfl (by kernel_rfl) (fun _ _ _ h => h) (Val.loadAt1 see 0 rfl Tryd.underlying4 rfl rfl) (fun w2 hw => hw) ?_
                                refine DT.next (by kernel_rfl) ?_
                                refine DA.one 10 rfl (by kernel_rfl) ?_
                                refine SP.val (Val.neqB Tryd.underlying4 rfl rfl) rfl rfl rfl ?_
                                refine SP.nil ?_
                                refine QE.atA ?_
                                refine DA.one 11 rfl (by kernel_rfl) ?_
                                refine SP.val (Val.move rfl) rfl rfl rfl ?_
                                refine SP.nil ?_
                                refine QE.atA ?_
                                rcases if_some ho with ⟨hc, ho⟩ | ⟨hc, ho⟩
                                · have hg159 := hc
                                  clear hc
                                  refine DA.phase (fun i => Nat.ble 12 i && Nat.blt i 22) (fun w2 => St w em hV [atP p156 [.bool x155.Reached], elP kBool p156 x155.Reached, elP k_types_Row p153 x155, atP p150 [.bool x149.Reached], elP kBool p150 x149.Reached, elP k_types_Row p147 x149, slP k_types_Row v9 t8.1, slP k_types_Row v73 t72.1, arrP k_arr136 0 tab0] [] w2) ?_
                                  refine DT.is (d := 138) (b := true) rfl hg159 ?_
                                  refine DT.not 12 rfl rfl rfl rfl (by kernel_rfl) (fun _ _ _ h => h) (fun w2 hw => hw) ?_
                                  refine DT.not 13 rfl rfl rfl rfl (by kernel_rfl) (fun _ _ _ h => h) (fun w2 hw => hw) ?_
                                  refine DT.not 14 rfl rfl rfl rfl (by kernel_rfl) (fun _ _ _ h => h) (fun w2 hw => hw) ?_
                                  refine DT.not 15 rfl rfl rfl rfl (by kernel_rfl) (fun _ _ _ h => h) (fun w2 hw => hw) ?_
                                  refine DT.not 16 rfl rfl rfl rfl (by kernel_rfl) (fun _ _ _ h => h) (fun w2 hw => hw) ?_
                                  refine DT.not 17 rfl rfl rfl rfl (by kernel_rfl) (fun _ _ _ h => h) (fun w2 hw => hw) ?_
                                  refine DT.not 18 rfl rfl rfl rfl (by kernel_rfl) (fun _ _ _ h => h) (fun w2 hw => hw) ?_
                                  refine DT.not 19 rfl rfl rfl rfl (by kernel_rfl) (fun _ _ _ h => h) (fun w2 hw => hw) ?_
                                  refine DT.not 20 rfl rfl rfl rfl (by kernel_rfl) (fun _ _ _ h => h) (fun w2 hw => hw) ?_
                                  refine DT.not 21 rfl rfl rfl rfl (by kernel_rfl) (fun _ _ _ h => h) (fun w2 hw => hw) ?_
                                  refine DT.next (by kernel_rfl) ?_
                                  refine DA.phase (fun i => Nat.ble 22 i && Nat.blt i 23) (fun w2 => St w em hV [atP p156 [.bool x155.Reached], elP kBool p156 x155.Reached, elP k_types_Row p153 x155, atP p150 [.bool x149.Reached], elP kBool p150 x149.Reached, elP k_types_Row p147 x149, slP k_types_Row v9 t8.1, slP k_types_Row v73 t72.1, arrP k_arr136 0 tab0] [] w2) ?_
                                  refine DT.not 22 rfl rfl rfl rfl (by kernel_rfl) (fun _ _ _ h => h) (fun w2 hw => hw) ?_
                                  refine DT.next (by kernel_rfl) ?_
                                  refine DA.phase (fun i => Nat.ble 23 i && Nat.blt i 24) (fun w2 => St w em hV [atP p156 [.bool x155.Reached], elP kBool p156 x155.Reached, elP k_types_Row p153 x155, atP p150 [.bool x149.Reached], elP kBool p150 x149.Reached, elP k_types_Row p147 x149, slP k_types_Row v9 t8.1, slP k_types_Row v73 t72.1, arrP k_arr136 0 tab0] [] w2) ?_
                                  refine DT.not 23 rfl rfl rfl rfl (by kernel_rfl) (fun _ _ _ h => h) (fun w2 hw => hw) ?_
                                  refine DT.next (by kernel_rfl) ?_
                                  refine DA.one 24 rfl (by kernel_rfl) ?_
                                  refine SP.val (Val.pickT rfl rfl) rfl rfl rfl ?_
                                  refine SP.nil ?_
                                  refine QE.atA ?_
                                  refine DA.done (by kernel_rfl) ?_
                                  exact QE.meet fun a w2 ha hw => ⟨true, m146, _, (by omega), ho, hr, ha.sub ⟨rfl, rfl, rfl, rfl, trivial⟩, (St.selP [6, 7, 8] rfl hw)⟩
                                · have hg160 := (bf hc)
                                  clear hc
                                  obtain ⟨x163, hx, ho⟩ := bind_some ho
                                  have hx := elt_some hx
                                  refine DA.ghost (fun w2 h => h.elem see 6 rfl hx.1 hx.2) (fun p161 h_p161 => ?_)
                                  clear hx
                                  refine DA.ghost (fun w2 h => h.fieldE see 0 rfl k_types_Row.part_Kinds) (fun p164 h_p164 => ?_)
                                  refine DA.ghost (fun w2 h => h.openE see 0 rfl (fun (v166 : Value) => [v166]) (fun (v166 : Value) => [slP (kInt .u8) v166 x163.Kinds]) (fun h cs ⟨v166, e, p0⟩ => ⟨v166, e, All.cons p0 (All.nil _)⟩)) (fun z_ _ => ?_)
                                  rename Value => v166
                                  obtain ⟨x171, hx, ho⟩ := bind_some ho
                                  have hx := elt_some hx
                                  refine DA.ghost (fun w2 h => h.elem see 11 rfl hx.1 hx.2) (fun p169 h_p169 => ?_)
                                  clear hx
                                  refine DA.ghost (fun w2 h => h.fieldE see 0 rfl k_types_Row.part_Kinds) (fun p172 h_p172 => ?_)
                                  refine DA.ghost (fun w2 h => h.openE see 0 rfl (fun (v174 : Value) => [v174]) (fun (v174 : Value) => [slP (kInt .u8) v174 x171.Kinds]) (fun h cs ⟨v174, e, p0⟩ => ⟨v174, e, All.cons p0 (All.nil _)⟩)) (fun z_ _ => ?_)
                                  rename Value => v174
                                  refine DA.phase (fun i => Nat.ble 12 i && Nat.blt i 22) (fun w2 => St w em hV [atP p172 [v174], slP (kInt .u8) v174 x171.Kinds, elP (kSl (kInt .u8)) p172 x171.Kinds, elP k_types_Row p169 x171, atP p164 [v166], slP (kInt .u8) v166 x163.Kinds, elP (kSl (kInt .u8)) p164 x163.Kinds, elP k_types_Row p161 x163, atP p156 [.bool x155.Reached], elP kBool p156 x155.Reached, elP k_types_Row p153 x155, atP p150 [.bool x149.Reached], elP kBool p150 x149.Reached, elP k_types_Row p147 x149, slP k_types_Row v9 t8.1, slP k_types_Row v73 t72.1, arrP k_arr136 0 tab0] [] w2) ?_
                                  refine DT.is (d := 138) (b := false) rfl hg160 ?_
                                  refine DT.take 12 rfl rfl rfl rfl (by kernel_rfl) (fun _ _ _ h => h) (Val.move rfl) (fun w2 hw => hw) ?_
                                  refine DT.take 13 rfl rfl rfl rfl (by kernel_rfl) (fun _ _ _ h => h) (Val.move rfl) (fun w2 hw => hw) ?_
                                  refine DT.take 14 rfl rfl rfl rfl (by kernel_rfl) (fun _ _ _ h => h) (Val.indexE h_p161 Tryd.underlying29 sz39 rfl rfl) (fun w2 hw => hw) ?_
                                  refine DT.take 15 rfl rfl rfl rfl (by kernel_rfl) (fun _ _ _ h => h) (Val.fieldE h_p164 Tryd.underlying39 rfl rfl sz33 rfl) (fun w2 hw => hw) ?_
                                  refine DT.take 16 rfl rfl rfl rfl (by kernel_rfl) (fun _ _ _ h => h) (Val.loadAt1 see 4 rfl Tryd.underlying33 rfl rfl) (fun w2 hw => hw) ?_
                                  refine DT.take 17 rfl rfl rfl rfl (by kernel_rfl) (fun _ _ _ h => h) (Val.move rfl) (fun w2 hw => hw) ?_
                                  refine DT.take 18 rfl rfl rfl rfl (by kernel_rfl) (fun _ _ _ h => h) (Val.move rfl) (fun w2 hw => hw) ?_
                                  refine DT.take 19 rfl rfl rfl rfl (by kernel_rfl) (fun _ _ _ h => h) (Val.indexE h_p169 Tryd.underlying29 sz39 rfl rfl) (fun w2 hw => hw) ?_
                                  refine DT.take 20 rfl rfl rfl rfl (by kernel_rfl) (fun _ _ _ h => h) (Val.fieldE h_p172 Tryd.underlying39 rfl rfl sz33 rfl) (fun w2 hw => hw) ?_
                                  refine DT.take 21 rfl rfl rfl rfl (by kernel_rfl) (fun _ _ _ h => h) (Val.loadAt1 see 0 rfl Tryd.underlying33 rfl rfl) (fun w2 hw => hw) ?_
                                  refine DT.next (by kernel_rfl) ?_
                                  refine DA.one 22 rfl (by kernel_rfl) ?_
                                  obtain ⟨t177, hc, ho⟩ := bind_some (x := capstanref07_SameKinds.f x163.Kinds x171.Kinds) ho
                                  refine SP.callV see (caps := []) (.bool t177) fn11 rfl rfl rfl rfl (fun w2 hP hs sub ap => capstanref07_SameKinds.ok x163.Kinds x171.Kinds _ _ _ hc w2 hP sub (ap.get 5 rfl) (ap.get 1 rfl)) ?_
                                  clear hc
                                  refine SP.nil ?_
                                  refine QE.atA ?_
                                  refine DA.one 23 rfl (by kernel_rfl) ?_
                                  refine SP.val (Val.notB rfl) rfl rfl rfl ?_
                                  refine SP.nil ?_
                                  refine QE.atA ?_
                                  refine DA.one 24 rfl (by kernel_rfl) ?_
                                  refine SP.val (Val.pickF rfl rfl) rfl rfl rfl ?_
                                  refine SP.nil ?_
                                  refine QE.atA ?_
                                  refine DA.done (by kernel_rfl) ?_
                                  exact QE.meet fun a w2 ha hw => ⟨(!t177), m146, _, (by omega), ho, hr, ha.sub ⟨rfl, rfl, rfl, rfl, trivial⟩, (St.selP [14, 15, 16] rfl hw)⟩
                            · refine CP.condF rfl (decide_eq_false hc) ?_
                              refine CP.exit ?_
                              refine QE.thru (by intro e; cases e) ?_
                              refine QE.thru (by intro e; cases e) ?_
                              refine QE.blockE ?_
                              refine QE.then ?_
                              refine CP.seq ?_
                              refine CP.region ?_
                              refine SP.val (Val.assign rfl) rfl rfl rfl ?_
                              refine SP.nil ?_
                              refine QE.then ?_
                              refine CP.ret ?_
                              obtain rfl := Option.some.inj ho
                              obtain rfl := Option.some.inj hr
                              exact QE.rets (rs := [.tmp 8]) (vs := [.bool true]) Tryd.results5 rfl ⟨RVs.tmp rfl, trivial⟩ (fun w2 h => St.done (fun a b p s => rfl) h)
                        · intro J
                          by_cases hc : t72.2 ≠ 0
                          · have hq76 := (decide_eq_true hc)
                            refine SP.isT (d := 114) rfl hq76 ?_
                            refine SP.not rfl rfl rfl ?_
                            refine SP.not rfl rfl rfl ?_
                            refine SP.not rfl rfl rfl ?_
                            refine SP.not rfl rfl rfl ?_
                            refine SP.not rfl rfl rfl ?_
                            refine SP.val (Val.pickT rfl rfl) rfl rfl rfl ?_
                            exact J fun a w2 ha hw => ⟨ha.sub ⟨rfl, rfl, congrArg (fun z => some (Value.bool z)) (or_t hq76), trivial⟩, hw⟩
                          · have hq76 := (decide_eq_false hc)
                            refine SP.isF (d := 114) rfl hq76 ?_
                            refine SP.val (Val.move rfl) rfl rfl rfl ?_
                            refine SP.val (Val.lenW (fun w2 hw => slO.whole (St.own 3 rfl see.sub see.dj hw)) Tryd.underlying29 rfl) rfl rfl rfl ?_
                            refine SP.val (Val.move rfl) rfl rfl rfl ?_
                            refine SP.val (Val.lenW (fun w2 hw => slO.whole (St.own 0 rfl see.sub see.dj hw)) Tryd.underlying29 rfl) rfl rfl rfl ?_
                            refine SP.val (Val.neq rfl rfl) rfl rfl rfl ?_
                            refine SP.val (Val.pickF rfl rfl) rfl rfl rfl ?_
                            exact J fun a w2 ha hw => ⟨ha.sub ⟨rfl, rfl, congrArg (fun z => some (Value.bool z)) (or_f hq76 rfl), trivial⟩, hw⟩
                    · intro J
                      by_cases hc : t54 = true
                      · have hq56 := hc
                        refine SP.isT (d := 83) rfl hq56 ?_
                        refine SP.not rfl rfl rfl ?_
                        refine SP.not rfl rfl rfl ?_
                        refine SP.not rfl rfl rfl ?_
                        refine SP.val (Val.pickT rfl rfl) rfl rfl rfl ?_
                        exact J fun a w2 ha hw => ⟨ha.sub ⟨rfl, rfl, rfl, rfl, rfl, congrArg (fun z => some (Value.bool z)) (or_t hq56), trivial⟩, hw⟩
                      · have hq56 := (bf hc)
                        refine SP.isF (d := 83) rfl hq56 ?_
                        refine SP.val (Val.fieldAddr Tryd.underlying45 rfl sz5 rfl) rfl rfl rfl ?_
                        refine SP.val (Val.load1 0 rfl Tryd.underlying5 rfl rfl rfl) rfl rfl rfl ?_
                        refine SP.val (Val.eql rfl rfl) rfl rfl rfl ?_
                        refine SP.val (Val.pickF rfl rfl) rfl rfl rfl ?_
                        exact J fun a w2 ha hw => ⟨ha.sub ⟨rfl, rfl, rfl, rfl, rfl, congrArg (fun z => some (Value.bool z)) (or_f hq56 rfl), trivial⟩, hw⟩
                · intro J
                  clear ho
                  have ho := hg_t34
                  clear hg_t34
                  rcases if_some ho with ⟨hc, ho⟩ | ⟨hc, ho⟩
                  · have hq30 := hc
                    refine SP.isT (d := 62) rfl hq30 ?_
                    refine SP.not rfl rfl rfl ?_
                    refine SP.not rfl rfl rfl ?_
                    refine SP.not rfl rfl rfl ?_
                    refine SP.not rfl rfl rfl ?_
                    refine SP.not rfl rfl rfl ?_
                    refine SP.val (Val.pickT rfl rfl) rfl rfl rfl ?_
                    obtain rfl := Option.some.inj ho
                    exact J fun a w2 ha hw => ⟨ha.sub ⟨rfl, rfl, rfl, rfl, rfl, rfl, trivial⟩, hw⟩
                  · have hq30 := (bf hc)
                    refine SP.isF (d := 62) rfl hq30 ?_
                    refine SP.val (Val.move rfl) rfl rfl rfl ?_
                    refine SP.val (Val.move rfl) rfl rfl rfl ?_
                    obtain ⟨x32, hx_x32, ho⟩ := bind_some ho
                    have hx_x32 := elt_some hx_x32
                    refine SP.indexW (fun w2 hw => slO.whole (St.own 0 rfl see.sub see.dj hw)) Tryd.underlying29 sz39 hx_x32.1 hx_x32.2 rfl rfl rfl rfl (fun p31 h_p31 => ?_)
                    refine SP.fieldO h_p31 Tryd.underlying39 rfl sz4 rfl rfl rfl (fun p33 h_p33 => ?_)
                    refine SP.val (Val.loadW1 (off := 0) (k := k_types_Row) (fun w2 hw => slO.whole (St.own 0 rfl see.sub see.dj hw)) hx_x32.2 h_p33 (fun _ _ ⟨_, e, _⟩ => by subst e; rfl) Tryd.underlying4 rfl rfl) rfl rfl rfl ?_
                    refine SP.val (Val.pickF rfl rfl) rfl rfl rfl ?_
                    obtain rfl := Option.some.inj ho
                    exact J fun a w2 ha hw => ⟨ha.sub ⟨rfl, rfl, rfl, rfl, rfl, rfl, trivial⟩, hw⟩
              · intro J
                clear ho
                have ho := hg_t28
                clear hg_t28
                rcases if_some ho with ⟨hc, ho⟩ | ⟨hc, ho⟩
                · have hq20 := hc
                  refine SP.isT (d := 51) rfl hq20 ?_
                  refine SP.not rfl rfl rfl ?_
                  refine SP.not rfl rfl rfl ?_
                  refine SP.not rfl rfl rfl ?_
                  refine SP.not rfl rfl rfl ?_
                  refine SP.not rfl rfl rfl ?_
                  refine SP.not rfl rfl rfl ?_
                  refine SP.not rfl rfl rfl ?_
                  refine SP.not rfl rfl rfl ?_
                  refine SP.not rfl rfl rfl ?_
                  refine SP.val (Val.pickT rfl rfl) rfl rfl rfl ?_
                  obtain rfl := Option.some.inj ho
                  exact J fun a w2 ha hw => ⟨ha.sub ⟨rfl, rfl, rfl, rfl, rfl, rfl, trivial⟩, hw⟩
                · have hq20 := (bf hc)
                  refine SP.isF (d := 51) rfl hq20 ?_
                  refine SP.val (Val.move rfl) rfl rfl rfl ?_
                  refine SP.val (Val.fieldAddr Tryd.underlying25 rfl sz23 rfl) rfl rfl rfl ?_
                  refine SP.val (Val.load1 1 rfl Tryd.underlying23 rfl rfl rfl) rfl rfl rfl ?_
                  refine SP.val (Val.move rfl) rfl rfl rfl ?_
                  obtain ⟨x23, hx, ho⟩ := bind_some ho
                  have hx := elt_some hx
                  refine SP.indexP see 2 rfl Tryd.underlying23 sz36 hx.1 hx.2 rfl rfl rfl rfl (fun p21 => ?_)
                  clear hx
                  refine SP.fieldP see 0 rfl Tryd.underlying36 rfl sz34 k_api_Method.part_Code rfl rfl rfl (fun p24 => ?_)
                  refine SP.loadPS see 0 rfl Tryd.underlying34 rfl rfl rfl (fun v26 => ?_)
                  refine SP.val (Val.lenP see 0 rfl Tryd.underlying34 rfl) rfl rfl rfl ?_
                  refine SP.val (Val.geq rfl rfl) rfl rfl rfl ?_
                  refine SP.val (Val.pickF rfl rfl) rfl rfl rfl ?_
                  obtain rfl := Option.some.inj ho
                  exact J fun a w2 ha hw => ⟨ha.sub ⟨rfl, rfl, rfl, rfl, rfl, rfl, trivial⟩, (St.selP [3, 4, 5, 6] rfl hw)⟩
            · intro J
              by_cases hc : ((((decide (t8.2 ≠ 0)) || (decide (k_1 < 0))) || (decide (k_1 ≥ (m_0.Methods.length : Int)))) || (decide (a2 < 0))) = true
              · have hq18 := hc
                refine SP.isT (d := 44) rfl hq18 ?_
                refine SP.not rfl rfl rfl ?_
                refine SP.not rfl rfl rfl ?_
                refine SP.not rfl rfl rfl ?_
                refine SP.not rfl rfl rfl ?_
                refine SP.not rfl rfl rfl ?_
                refine SP.val (Val.pickT rfl rfl) rfl rfl rfl ?_
                exact J fun a w2 ha hw => ⟨ha.sub ⟨rfl, rfl, rfl, rfl, rfl, congrArg (fun z => some (Value.bool z)) (or_t hq18), trivial⟩, hw⟩
              · have hq18 := (bf hc)
                refine SP.isF (d := 44) rfl hq18 ?_
                refine SP.val (Val.move rfl) rfl rfl rfl ?_
                refine SP.val (Val.move rfl) rfl rfl rfl ?_
                refine SP.val (Val.lenW (fun w2 hw => slO.whole (St.own 0 rfl see.sub see.dj hw)) Tryd.underlying29 rfl) rfl rfl rfl ?_
                refine SP.val (Val.sub rfl rfl) rfl rfl rfl ?_
                refine SP.val (Val.geq rfl rfl) rfl rfl rfl ?_
                refine SP.val (Val.pickF rfl rfl) rfl rfl rfl ?_
                exact J fun a w2 ha hw => ⟨ha.sub ⟨rfl, rfl, rfl, rfl, rfl, congrArg (fun z => some (Value.bool z)) (or_f hq18 rfl), trivial⟩, hw⟩
          · intro J
            by_cases hc : (((decide (t8.2 ≠ 0)) || (decide (k_1 < 0))) || (decide (k_1 ≥ (m_0.Methods.length : Int)))) = true
            · have hq16 := hc
              refine SP.isT (d := 40) rfl hq16 ?_
              refine SP.not rfl rfl rfl ?_
              refine SP.not rfl rfl rfl ?_
              refine SP.val (Val.pickT rfl rfl) rfl rfl rfl ?_
              exact J fun a w2 ha hw => ⟨ha.sub ⟨rfl, rfl, rfl, rfl, rfl, congrArg (fun z => some (Value.bool z)) (or_t hq16), trivial⟩, hw⟩
            · have hq16 := (bf hc)
              refine SP.isF (d := 40) rfl hq16 ?_
              refine SP.val (Val.move rfl) rfl rfl rfl ?_
              refine SP.val (Val.lss rfl rfl) rfl rfl rfl ?_
              refine SP.val (Val.pickF rfl rfl) rfl rfl rfl ?_
              exact J fun a w2 ha hw => ⟨ha.sub ⟨rfl, rfl, rfl, rfl, rfl, congrArg (fun z => some (Value.bool z)) (or_f hq16 rfl), trivial⟩, hw⟩
        · intro J
          by_cases hc : ((decide (t8.2 ≠ 0)) || (decide (k_1 < 0))) = true
          · have hq14 := hc
            refine SP.isT (d := 33) rfl hq14 ?_
            refine SP.not rfl rfl rfl ?_
            refine SP.not rfl rfl rfl ?_
            refine SP.not rfl rfl rfl ?_
            refine SP.not rfl rfl rfl ?_
            refine SP.not rfl rfl rfl ?_
            refine SP.val (Val.pickT rfl rfl) rfl rfl rfl ?_
            exact J fun a w2 ha hw => ⟨ha.sub ⟨rfl, rfl, rfl, rfl, rfl, congrArg (fun z => some (Value.bool z)) (or_t hq14), trivial⟩, hw⟩
          · have hq14 := (bf hc)
            refine SP.isF (d := 33) rfl hq14 ?_
            refine SP.val (Val.move rfl) rfl rfl rfl ?_
            refine SP.val (Val.fieldAddr Tryd.underlying25 rfl sz23 rfl) rfl rfl rfl ?_
            refine SP.val (Val.load1 1 rfl Tryd.underlying23 rfl rfl rfl) rfl rfl rfl ?_
            refine SP.val (Val.lenP see 2 rfl Tryd.underlying23 rfl) rfl rfl rfl ?_
            refine SP.val (Val.geq rfl rfl) rfl rfl rfl ?_
            refine SP.val (Val.pickF rfl rfl) rfl rfl rfl ?_
            exact J fun a w2 ha hw => ⟨ha.sub ⟨rfl, rfl, rfl, rfl, rfl, congrArg (fun z => some (Value.bool z)) (or_f hq14 rfl), trivial⟩, hw⟩
      · intro J
        by_cases hc : t8.2 ≠ 0
        · have hq12 := (decide_eq_true hc)
          refine SP.isT (d := 29) rfl hq12 ?_
          refine SP.not rfl rfl rfl ?_
          refine SP.not rfl rfl rfl ?_
          refine SP.val (Val.pickT rfl rfl) rfl rfl rfl ?_
          exact J fun a w2 ha hw => ⟨ha.sub ⟨rfl, rfl, rfl, rfl, rfl, congrArg (fun z => some (Value.bool z)) (or_t hq12), trivial⟩, hw⟩
        · have hq12 := (decide_eq_false hc)
          refine SP.isF (d := 29) rfl hq12 ?_
          refine SP.val (Val.move rfl) rfl rfl rfl ?_
          refine SP.val (Val.lss rfl rfl) rfl rfl rfl ?_
          refine SP.val (Val.pickF rfl rfl) rfl rfl rfl ?_
          exact J fun a w2 ha hw => ⟨ha.sub ⟨rfl, rfl, rfl, rfl, rfl, congrArg (fun z => some (Value.bool z)) (or_f hq12 rfl), trivial⟩, hw⟩
theorem cl5 : Tryd.prog.cellsOf 5 = 1 := by kernel_rfl
theorem cl2 : Tryd.prog.cellsOf 2 = 1 := by kernel_rfl
theorem cl52 : Tryd.prog.cellsOf 52 = 3 := by kernel_rfl
def wf_api_Value (x : api_Value) : Prop := (Lit.int .u8 x.Kind).wf = true ∧ (Lit.int .i64 x.A).wf = true ∧ (Lit.int .i64 x.B).wf = true
end Go.Proofs.YtpbmkaenleedoaaDoor
end
